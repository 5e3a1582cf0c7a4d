/- A part of the proof, under no conditions of its own: XA. -/
import Derived.Calls
import Derived.Tactics
import Derived.Orders
import Derived.Below
import Derived.Laws.AppendOwn
import Derived.Laws.AppendOwnNone
import Derived.RangeFuncBound
import Derived.RangeFuncNested
import Derived.OrdersIn
import Derived.TacticsIn
import Derived.Laws.BytesArg
import Derived.Laws.StructEq
import Derived.MapKept
namespace Go.Ab
open Go Go.RowKit

/-- The name of an object that may still be written. -/
structure Nm where
  g : Nat
  i : Nat
  j : Nat
  deriving DecidableEq

/-- The kinds of keys of maps: a plain one, or a struct of plain ones. -/
inductive KC where
  | str
  | num (k : IntKind)
  | boo
  deriving DecidableEq
inductive KS where
  | one (c : KC)
  | agg (cs : List KC)
  deriving DecidableEq
def KC.fits : KC → Value → Bool
  | .str, .string _ => true
  | .num k, .int k' _ => decide (k = k')
  | .boo, .bool _ => true
  | _, _ => false
def KC.fitsL : List KC → List Value → Bool
  | [], [] => true
  | c :: cs, v :: vs => c.fits v && KC.fitsL cs vs
  | _, _ => false
def KS.fits : KS → Value → Bool
  | .one c, v => c.fits v
  | .agg cs, .agg vs => KC.fitsL cs vs.toList
  | _, _ => false

/-- What a value denotes. 'sl': a slice whose cells are never written again ('x': its capacity is its length). 'own': a whole array of the call's own. -/
inductive D where
  | any
  | unk
  | val (v : Value)
  | agg (cs : List D)
  | tup (vs : List D)
  | sl (x : Bool) (rows : List D)
  | own (n : Nm) (len : Nat)
  | ptr (n : Nm) (off : Nat)
  | aptr (n : Nm) (k i j : Nat)
  | eptr (cs : List D)
  | mref (n : Nm)
  | yld (n : Nm)
  | fmap (ks : KS) (es : List (Value × D))
  | func (fn : Fn) (first captured : List D)
  | iface (t : TypeId) (v : D)
  deriving Inhabited

def D.cells : D → List D
  | .agg cs => cs
  | d => [d]

/-- One cell, and known. -/
def D.one : D → Bool
  | .any | .agg _ | .tup _ => false
  | .val v => v.oneCell'
  | _ => true

inductive Ob where
  | box (t : TypeId) (cs : List D)
  | arr (t : TypeId) (k : Nat) (rows : List D)
  | map (ks : KS) (es : List (Value × D))
  | loop (rc : Loop) (env : List (Nat × D))

abbrev Sto := List (Nm × Ob)

def get : Sto → Nm → Option Ob
  | [], _ => none
  | (m, o) :: r, n => if m = n then some o else get r n

structure Gh where
  F : Nat → Prop
  ρ : Nm → Option Value
  top : Nat
  base : Nat

def lk : List (Nat × D) → Nat → Option D
  | [], _ => none
  | (k, d) :: r, t => if k = t then some d else lk r t

inductive V (G : Gh) (w : World) : Value → D → Prop
  | any (v : Value) : V G w v .any
  | unk (b : Bool) : V G w (.bool b) .unk
  | val (v : Value) : V G w v (.val v)
  | agg {cs : Array Value} {ds : List D} : cs.size = ds.length → (∀ (i : Nat) c d, cs[i]? = some c → ds[i]? = some d → V G w c d) → V G w (.agg cs) (.agg ds)
  | tup {cs : Array Value} {ds : List D} : cs.size = ds.length → (∀ (i : Nat) c d, cs[i]? = some c → ds[i]? = some d → V G w c d) → V G w (.tuple cs) (.tup ds)
  | nilsl (x : Bool) : V G w (.slice none 0 0) (.sl x [])
  | esl (a : Addr) (x : Bool) : V G w (.slice (some a) 0 0) (.sl x [])
  | sl {b off n cap : Nat} {x : Bool} {rows : List D} {k : Nat} (X : Nat → Nat → Value) : n = rows.length → (x = true → cap = n) → n ≤ cap → G.F b →
      (∀ (i : Nat) r, rows[i]? = some r → r.cells.length = k) →
      (∀ (i : Nat) r (j : Nat) d, rows[i]? = some r → r.cells[j]? = some d → w.cell? ⟨b, off + (i * k + j), none⟩ = some (X i j)) →
      (∀ (i : Nat) r (j : Nat) d, rows[i]? = some r → r.cells[j]? = some d → V G w (X i j) d) → V G w (.slice (some ⟨b, off, none⟩) n cap) (.sl x rows)
  | own {n : Nm} {a : Option Addr} {len cap : Nat} : G.ρ n = some (.slice a len cap) → V G w (.slice a len cap) (.own n len)
  | ptr {n : Nm} {b off : Nat} : G.ρ n = some (.pointer (some ⟨b, 0, none⟩)) → V G w (.pointer (some ⟨b, off, none⟩)) (.ptr n off)
  | aptr {n : Nm} {b len cap k i j : Nat} : G.ρ n = some (.slice (some ⟨b, 0, none⟩) len cap) → V G w (.pointer (some ⟨b, i * k + j, none⟩)) (.aptr n k i j)
  | eptr {b off : Nat} {cs : List D} (X : Nat → Value) : G.F b → (∀ (j : Nat) d, cs[j]? = some d → w.cell? ⟨b, off + j, none⟩ = some (X j)) →
      (∀ (j : Nat) d, cs[j]? = some d → V G w (X j) d) → V G w (.pointer (some ⟨b, off, none⟩)) (.eptr cs)
  | mref {n : Nm} {r : Nat} : G.ρ n = some (.map (some r)) → V G w (.map (some r)) (.mref n)
  | yld {n : Nm} {l : Nat} : G.ρ n = some (.pointer (some ⟨l, 0, none⟩)) → V G w (.func (.yield l) #[] #[]) (.yld n)
  | fmap {r : Nat} {ks : KS} {es : List (Value × D)} (ms : Array MapEntry) (clock : Nat) : G.F r → w.heap[r]? = some (.map ms clock) → ms.size = es.length → (∀ (i : Nat) m, ms[i]? = some m → ks.fits m.key = true) →
      (∀ (i : Nat) m e, ms[i]? = some m → es[i]? = some e → m.key = e.1) → (∀ (i : Nat) m e, ms[i]? = some m → es[i]? = some e → V G w m.val e.2) → V G w (.map (some r)) (.fmap ks es)
  | func {fn : Fn} {first captured : Array Value} {fs cs : List D} : first.size = fs.length → captured.size = cs.length →
      (∀ (i : Nat) c d, first[i]? = some c → fs[i]? = some d → V G w c d) → (∀ (i : Nat) c d, captured[i]? = some c → cs[i]? = some d → V G w c d) → V G w (.func fn first captured) (.func fn fs cs)
  | iface {t : TypeId} {v : Value} {d : D} : V G w v d → V G w (.iface t v) (.iface t d)

theorem V.mono {G G' : Gh} {w w' : World} {v : Value} {d : D} (h : V G w v d) (hF : ∀ b, G.F b → G'.F b) (hw : ∀ b, G.F b → w'.heap[b]? = w.heap[b]?)
    (hρ : ∀ n v, G.ρ n = some v → G'.ρ n = some v) : V G' w' v d := by
  induction h with
  | any v => exact .any v
  | unk b => exact .unk b
  | val v => exact .val v
  | agg h1 _ ih => exact .agg h1 ih
  | tup h1 _ ih => exact .tup h1 ih
  | nilsl x => exact .nilsl x
  | esl a x => exact .esl a x
  | sl X h1 h2 h3 h4 h5 h6 _ ih =>
    exact .sl X h1 h2 h3 (hF _ h4) h5 (fun i r j d hi hj => (World.cell?_of_block (hw _ h4)).trans (h6 i r j d hi hj)) ih
  | own h1 => exact .own (hρ _ _ h1)
  | ptr h1 => exact .ptr (hρ _ _ h1)
  | aptr h1 => exact .aptr (hρ _ _ h1)
  | eptr X h1 h2 _ ih => exact .eptr X (hF _ h1) (fun j d hj => (World.cell?_of_block (hw _ h1)).trans (h2 j d hj)) ih
  | mref h1 => exact .mref (hρ _ _ h1)
  | yld h1 => exact .yld (hρ _ _ h1)
  | fmap ms clock h1 h2 h3 h4 h5 _ ih => exact .fmap ms clock (hF _ h1) ((hw _ h1).trans h2) h3 h4 h5 ih
  | func h1 h2 _ _ ih1 ih2 => exact .func h1 h2 ih1 ih2
  | iface _ ih => exact .iface ih

theorem V.one {G : Gh} {w : World} {v : Value} {d : D} (h : V G w v d) (h1 : d.one = true) : v.oneCell' = true := by
  cases h <;> simp_all [D.one, Value.oneCell']

theorem V.of_val {G : Gh} {w : World} {v u : Value} (h : V G w v (.val u)) : v = u := by cases h; rfl

/-- The block that a location lies in. -/
def blk : Value → Option Nat
  | .pointer (some a) => some a.block
  | .slice (some a) _ _ => some a.block
  | .map (some r) => some r
  | _ => none

abbrev Kp := Nm → Option Ob

def OV (w0 : World) (G : Gh) (w : World) (v : Value) : Ob → Prop
  | .box t cs => ∃ b c, v = .pointer (some ⟨b, 0, none⟩) ∧ w.heap[b]? = some (.cells c t (0, 0)) ∧ c.size = cs.length ∧ ∀ (i : Nat) x d, c[i]? = some x → cs[i]? = some d → V G w x d
  | .arr t k rows => ∃ xs, w.ownsRow w0.heap.size t k v rows.length xs ∧ ∀ (i : Nat) r, rows[i]? = some r → r.cells.length = k ∧ ∀ (j : Nat) d, r.cells[j]? = some d → ∃ x, xs[i * k + j]? = some x ∧ V G w x d
  | .map ks es => ∃ r ms clock, v = .map (some r) ∧ w.heap[r]? = some (.map ms clock) ∧ ms.size = es.length ∧ (∀ (i : Nat) m, ms[i]? = some m → ks.fits m.key = true) ∧
      (∀ (i : Nat) m e, ms[i]? = some m → es[i]? = some e → m.key = e.1) ∧ ∀ (i : Nat) m e, ms[i]? = some m → es[i]? = some e → V G w m.val e.2
  | .loop rc env => ∃ l, v = .pointer (some ⟨l, 0, none⟩) ∧ w.heap[l]? = some (.loop rc) ∧ ∀ t d, lk env t = some d → t < rc.tmps.size ∧ V G w (rc.tmps.getD t undef) d

structure WF (w0 : World) (G : Gh) (w : World) : Prop where
  below : Below w0.heap.size w0 w
  old : ∀ b, b < w0.heap.size → G.F b
  lt : ∀ b, G.F b → b < w.heap.size
  nm : ∀ n v, G.ρ n = some v → n.g < G.top ∧ ∀ b, blk v = some b → w0.heap.size ≤ b ∧ b < w.heap.size

structure Objs (w0 : World) (G : Gh) (w : World) (κ : Kp) : Prop where
  ob : ∀ n o, κ n = some o → ∃ v, G.ρ n = some v ∧ OV w0 G w v o ∧ ∀ b, blk v = some b → ¬ G.F b
  ne : ∀ n m o o' v v' b, κ n = some o → κ m = some o' → n ≠ m → G.ρ n = some v → G.ρ m = some v' → blk v = some b → blk v' ≠ some b

def Blk (G : Gh) (κ : Kp) (b : Nat) : Prop := ∃ n o v, κ n = some o ∧ G.ρ n = some v ∧ blk v = some b

/-- From one moment to a later one. 'R': the names that may be given meanwhile although they are old ones. -/
structure Step (R : Nm → Prop) (G : Gh) (w : World) (κ : Kp) (G' : Gh) (w' : World) (κ' : Kp) : Prop where
  size : w.heap.size ≤ w'.heap.size
  heap : ∀ b, b < w.heap.size → ¬ Blk G κ b → w'.heap[b]? = w.heap[b]?
  F : ∀ b, G.F b → G'.F b
  F' : ∀ b, G'.F b → G.F b ∨ w.heap.size ≤ b ∨ Blk G κ b
  ρ : ∀ n v, G.ρ n = some v → G'.ρ n = some v
  ρ' : ∀ n, n.g < G.top → G.ρ n = none → ¬ R n → G'.ρ n = none
  top : G.top ≤ G'.top
  blk' : ∀ b, Blk G' κ' b → w.heap.size ≤ b ∨ Blk G κ b
  dom : ∀ n, κ' n ≠ none → κ n ≠ none ∨ G.ρ n = none
  base : G'.base = G.base

theorem Step.refl (R : Nm → Prop) (G : Gh) (w : World) (κ : Kp) : Step R G w κ G w κ :=
  ⟨Nat.le_refl _, fun _ _ _ => rfl, fun _ h => h, fun _ h => .inl h, fun _ _ h => h, fun _ _ h _ => h, Nat.le_refl _, fun _ h => .inr h, fun _ h => .inl h, rfl⟩

theorem Step.trans {R : Nm → Prop} {G1 G2 G3 : Gh} {w1 w2 w3 : World} {κ1 κ2 κ3 : Kp} (h : Step R G1 w1 κ1 G2 w2 κ2) (k : Step R G2 w2 κ2 G3 w3 κ3) : Step R G1 w1 κ1 G3 w3 κ3 where
  size := Nat.le_trans h.size k.size
  heap b hb hn := (k.heap b (Nat.lt_of_lt_of_le hb h.size) fun hk => (h.blk' b hk).elim (fun x => absurd hb (by omega)) hn).trans (h.heap b hb hn)
  F b hb := k.F b (h.F b hb)
  F' b hb := by
    rcases k.F' b hb with h1 | h1 | h1
    · exact h.F' b h1
    · exact .inr (.inl (Nat.le_trans h.size h1))
    · exact .inr (h.blk' b h1)
  ρ n v hv := k.ρ n v (h.ρ n v hv)
  ρ' n h1 h2 h3 := k.ρ' n (Nat.lt_of_lt_of_le h1 h.top) (h.ρ' n h1 h2 h3) h3
  top := Nat.le_trans h.top k.top
  blk' b hb := by
    rcases k.blk' b hb with h1 | h1
    · exact .inl (Nat.le_trans h.size h1)
    · exact h.blk' b h1
  dom n hn := by
    rcases k.dom n hn with h1 | h1
    · exact h.dom n h1
    · refine .inr ?_
      cases hr : G1.ρ n with
      | none => rfl
      | some v => rw [h.ρ n v hr] at h1; cases h1
  base := k.base.trans h.base

theorem Step.weaken {R R' : Nm → Prop} {G G' : Gh} {w w' : World} {κ κ' : Kp} (h : Step R G w κ G' w' κ') (hR : ∀ n, n.g < G.top → R n → R' n) : Step R' G w κ G' w' κ' :=
  { h with ρ' := fun n h1 h2 h3 => h.ρ' n h1 h2 fun h4 => h3 (hR n h1 h4) }

theorem Step.keeps {R : Nm → Prop} {w0 : World} {G G' : Gh} {w w' : World} {κ κ' : Kp} (h : Step R G w κ G' w' κ') (hw : WF w0 G w) (ho : Objs w0 G w κ) (b : Nat) (hb : G.F b) : w'.heap[b]? = w.heap[b]? :=
  h.heap b (hw.lt b hb) fun ⟨n, o, v, h1, h2, h3⟩ => by
    obtain ⟨v', hv', _, hF⟩ := ho.ob n o h1
    rw [h2] at hv'; cases hv'
    exact hF b h3 hb

theorem V.step {R : Nm → Prop} {w0 : World} {G G' : Gh} {w w' : World} {κ κ' : Kp} {v : Value} {d : D} (h : V G w v d) (hs : Step R G w κ G' w' κ') (hw : WF w0 G w) (ho : Objs w0 G w κ) : V G' w' v d :=
  h.mono hs.F (hs.keeps hw ho) hs.ρ

theorem OV.mono {w0 : World} {G G' : Gh} {w w' : World} {v : Value} {o : Ob} (h : OV w0 G w v o) (hV : ∀ x d, V G w x d → V G' w' x d) (hb : ∀ b, blk v = some b → w'.heap[b]? = w.heap[b]?) : OV w0 G' w' v o := by
  cases o with
  | box t cs =>
    obtain ⟨b, c, rfl, h1, h2, h3⟩ := h
    exact ⟨b, c, rfl, (hb b rfl).trans h1, h2, fun i x d hx hd => hV _ _ (h3 i x d hx hd)⟩
  | arr t k rows =>
    obtain ⟨xs, h1, h2⟩ := h
    refine ⟨xs, ⟨h1.1, ?_⟩, fun i r hr => ⟨(h2 i r hr).1, fun j d hd => let ⟨x, hx, hv⟩ := (h2 i r hr).2 j d hd; ⟨x, hx, hV _ _ hv⟩⟩⟩
    rcases h1.2 with h | ⟨g, cap, cur, rfl, hg, hh, r⟩
    · exact .inl h
    · exact .inr ⟨g, cap, cur, rfl, hg, (hb g rfl).trans hh, r⟩
  | map ks es =>
    obtain ⟨r, ms, clock, rfl, h1, h2, h3, h4, h5⟩ := h
    exact ⟨r, ms, clock, rfl, (hb r rfl).trans h1, h2, h3, h4, fun i m e hm he => hV _ _ (h5 i m e hm he)⟩
  | loop rc env =>
    obtain ⟨l, rfl, h1, h2⟩ := h
    exact ⟨l, rfl, (hb l rfl).trans h1, fun t d ht => ⟨(h2 t d ht).1, hV _ _ (h2 t d ht).2⟩⟩

theorem OV.lt {w0 : World} {G : Gh} {w : World} {v : Value} {o : Ob} (h : OV w0 G w v o) : ∀ b, blk v = some b → b < w.heap.size := by
  intro b hb
  cases o with
  | box t cs =>
    obtain ⟨b', c, rfl, h1, _⟩ := h
    simp [blk] at hb; subst hb
    exact (Array.getElem?_eq_some_iff.1 h1).1
  | arr t k rows =>
    obtain ⟨xs, h1, _⟩ := h
    refine (h1.lt b ?_).2
    rcases h1.2 with ⟨rfl, _⟩ | ⟨g, cap, cur, rfl, _⟩
    · simp [blk] at hb
    · simpa [blk, Value.ownBlock] using hb
  | map ks es =>
    obtain ⟨r, ms, clock, rfl, h1, _⟩ := h
    simp [blk] at hb; subst hb
    exact (Array.getElem?_eq_some_iff.1 h1).1
  | loop rc env =>
    obtain ⟨l, rfl, h1, _⟩ := h
    simp [blk] at hb; subst hb
    exact (Array.getElem?_eq_some_iff.1 h1).1

/-- The marks of the ranges over functions that the activation has run. -/
def Marks (G : Gh) (w : World) (ds : List Deferred) : Prop :=
  G.base ≤ w.heap.size ∧ ∃ Ds : List Nat, ds = Ds.map (fun b => { target := .collected b, args := #[] }) ∧ Ds.Nodup ∧ ∀ b ∈ Ds, G.F b ∧ G.base ≤ b ∧ w.heap[b]? = some (.deferred (some []))
theorem Marks.nil {G : Gh} {w : World} (hb : G.base ≤ w.heap.size) : Marks G w [] := ⟨hb, [], rfl, List.nodup_nil, fun b h => by cases h⟩
theorem Marks.mono {G G' : Gh} {w w' : World} {ds : List Deferred} (h : Marks G w ds) (hsz : w.heap.size ≤ w'.heap.size) (hF : ∀ b, G.F b → G'.F b) (hb : G'.base = G.base) (hw : ∀ b, G.F b → w'.heap[b]? = w.heap[b]?) : Marks G' w' ds :=
  let ⟨h0, Ds, h1, h2, h3⟩ := h
  ⟨by rw [hb]; exact Nat.le_trans h0 hsz, Ds, h1, h2, fun b hm => let ⟨k1, k2, k3⟩ := h3 b hm; ⟨hF b k1, hb ▸ k2, (hw b k1).trans k3⟩⟩
theorem Marks.step {R : Nm → Prop} {w0 : World} {G G' : Gh} {w w' : World} {κ κ' : Kp} {ds : List Deferred} (h : Marks G w ds) (hs : Step R G w κ G' w' κ') (hw : WF w0 G w) (ho : Objs w0 G w κ) : Marks G' w' ds :=
  h.mono hs.size hs.F hs.base (hs.keeps hw ho)

theorem Objs.sub {w0 : World} {G : Gh} {w : World} {κ κ' : Kp} (h : Objs w0 G w κ) (hs : ∀ n o, κ' n = some o → κ n = some o) : Objs w0 G w κ' :=
  ⟨fun n o hn => h.ob n o (hs n o hn), fun n m o o' v v' b h1 h2 => h.ne n m o o' v v' b (hs _ _ h1) (hs _ _ h2)⟩

/-- Two stores side by side: the first one's objects win. -/
def Kp.or (κ τ : Kp) : Kp := fun n => (κ n).or (τ n)

/-- A step on a part of the objects is one on all: the others stay. -/
theorem frame {w0 : World} {R : Nm → Prop} {G G' : Gh} {w w' : World} {κs κs' κ τ : Kp} (hw : WF w0 G w) (hall : Objs w0 G w κ)
    (hsub : ∀ n o, κs n = some o → κ n = some o) (hτ : ∀ n o, τ n = some o → κ n = some o ∧ κs n = none) 
    (hs : Step R G w κs G' w' κs') (ho : Objs w0 G' w' κs') : Objs w0 G' w' (Kp.or κs' τ) ∧ Step R G w κ G' w' (Kp.or κs' τ) := by
  have hos : Objs w0 G w κs := hall.sub hsub
  have hblk : ∀ b, Blk G κs b → Blk G κ b := fun b ⟨n, o, v, h1, h2, h3⟩ => ⟨n, o, v, hsub n o h1, h2, h3⟩
  -- a block of τ is no block of κs, and stays
  have key : ∀ n o v b, τ n = some o → G.ρ n = some v → blk v = some b → ¬ Blk G κs b := by
    intro n o v b hn hv hb ⟨m, o', v', h1, h2, h3⟩
    obtain ⟨hk, hno⟩ := hτ n o hn
    have hne : m ≠ n := fun e => by subst e; rw [h1] at hno; cases hno
    exact hall.ne m n o' o v' v b (hsub m o' h1) hk hne h2 hv h3 hb
  have keep : ∀ n o, τ n = some o → ∃ v, G.ρ n = some v ∧ G'.ρ n = some v ∧ OV w0 G' w' v o ∧ (∀ b, blk v = some b → b < w.heap.size ∧ ¬ G'.F b ∧ ¬ Blk G κs b) := by
    intro n o hn
    obtain ⟨hk, hno⟩ := hτ n o hn
    obtain ⟨v, hv, hov, hF⟩ := hall.ob n o hk
    have hb : ∀ b, blk v = some b → b < w.heap.size ∧ ¬ G'.F b ∧ ¬ Blk G κs b := fun b hb => by
      have hn' := key n o v b hn hv hb
      have hlt := hov.lt b hb
      refine ⟨hlt, fun h => ?_, hn'⟩
      rcases hs.F' b h with h1 | h1 | h1
      · exact hF b hb h1
      · omega
      · exact hn' h1
    exact ⟨v, hv, hs.ρ n v hv, hov.mono (fun x d hx => hx.step hs hw hos) fun b hb' => hs.heap b (hb b hb').1 (hb b hb').2.2, hb⟩
  have side : ∀ n o v b, κs' n = some o → G'.ρ n = some v → blk v = some b → w.heap.size ≤ b ∨ Blk G κs b := fun n o v b h1 h2 h3 => hs.blk' b ⟨n, o, v, h1, h2, h3⟩
  have split : ∀ n o, Kp.or κs' τ n = some o → κs' n = some o ∨ τ n = some o := by
    intro n o h
    unfold Kp.or at h
    cases hk : κs' n with
    | none => rw [hk] at h; exact .inr (by simpa using h)
    | some x => rw [hk] at h; exact .inl (by simpa using h)
  refine ⟨⟨fun n o hn => ?_, fun n m o o' v v' b h1 h2 hne h3 h4 h5 h6 => ?_⟩, ?_⟩
  · rcases split n o hn with h | h
    · exact ho.ob n o h
    · obtain ⟨v, _, hv', hov, hb⟩ := keep n o h
      exact ⟨v, hv', hov, fun b hb' => (hb b hb').2.1⟩
  · rcases split n o h1 with k1 | k1 <;> rcases split m o' h2 with k2 | k2
    · exact ho.ne n m o o' v v' b k1 k2 hne h3 h4 h5 h6
    · obtain ⟨u, hu, hu', _, hb⟩ := keep m o' k2
      rw [hu'] at h4; cases h4
      have := hb b h6
      rcases side n o v b k1 h3 h5 with h | h
      · omega
      · exact this.2.2 h
    · obtain ⟨u, hu, hu', _, hb⟩ := keep n o k1
      rw [hu'] at h3; cases h3
      have := hb b h5
      rcases side m o' v' b k2 h4 h6 with h | h
      · omega
      · exact this.2.2 h
    · obtain ⟨u, hu, hu', _, _⟩ := keep n o k1
      obtain ⟨u2, hu2, hu2', _, _⟩ := keep m o' k2
      rw [hu'] at h3; cases h3
      rw [hu2'] at h4; cases h4
      exact hall.ne n m o o' v v' b (hτ n o k1).1 (hτ m o' k2).1 hne hu hu2 h5 h6
  · refine ⟨hs.size, fun b hb hn => hs.heap b hb fun h => hn (hblk b h), hs.F, fun b hb => ?_, hs.ρ, hs.ρ', hs.top, fun b ⟨n, o, v, h1, h2, h3⟩ => ?_, fun n hn => ?_, hs.base⟩
    · rcases hs.F' b hb with h | h | h
      · exact .inl h
      · exact .inr (.inl h)
      · exact .inr (.inr (hblk b h))
    · rcases split n o h1 with k | k
      · rcases side n o v b k h2 h3 with h | h
        · exact .inl h
        · exact .inr (hblk b h)
      · obtain ⟨u, hu, hu', _, _⟩ := keep n o k
        rw [hu'] at h2; cases h2
        exact .inr ⟨n, o, _, (hτ n o k).1, hu, h3⟩
    · cases hk : κs' n with
      | none =>
        have : τ n ≠ none := fun h => hn (by unfold Kp.or; rw [hk, h]; rfl)
        cases ht : τ n with
        | none => exact absurd ht this
        | some o => exact .inl (by rw [(hτ n o ht).1]; simp)
      | some o =>
        rcases hs.dom n (by rw [hk]; simp) with h | h
        · cases hx : κs n with
          | none => exact absurd hx h
          | some y => exact .inl (by rw [hsub n y hx]; simp)
        · exact .inr h

end Go.Ab

namespace Go.Ab
open Go Go.RowKit

theorem heap_alloc_n (w : World) (o : Obj) : (w.alloc o).heap[w.heap.size]? = some o := World.alloc_heap_new w o
theorem heap_alloc_o (w : World) (o : Obj) (b : Nat) (h : b < w.heap.size) : (w.alloc o).heap[b]? = w.heap[b]? := Below.heap_alloc w o b h

def Fr (r : Option Nat) : Fence := { Fence.wide with round := r }
theorem fr_none : Fr none = Fence.wide := rfl
theorem fr_fn (r : Option Nat) (f : FuncId) : (Fr r).fn f := trivial
theorem fr_room (r : Option Nat) (n : Nat) : (Fr r).room n := fun _ h => by simp [Fr, Fence.wide] at h
theorem fr_depth (r : Option Nat) (n : Nat) : (Fr r).depth.isSome = true → 1 ≤ n := fun h => by simp [Fr, Fence.wide] at h

def plainOp (o : Oper) : Bool := match o.op with
  | .defer _ => false
  | _ => true

theorem plainOp_spec {o : Oper} (h : plainOp o = true) : ∀ c, o.op ≠ .defer c := fun c e => by simp [plainOp, e] at h

section
variable {P : Program} {r : Option Nat} {n : Nat}

theorem callsIn_fr {f : FuncId} {args : Array Value} {w : World} {R : Ending → World → Prop} : CallsIn (Fr r) n P f args w R ↔ Calls P f args w R := callsIn_wide (n := n)

theorem rowsIn_fr {row : String} {args : Array Value} {w : World} {R : Value → World → Prop} (h : Rows P row args w R) : RowsIn (Fr r) n P row args w R :=
  fun c cs _ => let ⟨v, w', h1, h2⟩ := h c cs; ⟨v, w', h1, stepsIn_wide.2 h2⟩

theorem op_in {o : Oper} {a : Act} {w : World} {K : Act → World → Prop} {Q : Exit → Act → World → Prop} (hp : plainOp o = true) (h : o.wp P a w K Q) : o.wpIn (Fr r) n P a w K Q := by
  refine ⟨fun f _ => fr_fn r f, ?_⟩
  rw [Oper.semAt_eq _ _ _ (plainOp_spec hp)]
  unfold Oper.wp at h
  generalize (execOp a.eval o).run P w = x at h
  cases x with
  | ok x w' =>
    cases x with
    | value v => exact h
    | skip => exact h
    | defer d => exact h
    | enter f args => exact ⟨fr_depth r n, callsIn_fr.2 h⟩
    | row row args => exact ⟨fr_depth r n, rowsIn_fr h⟩
    | _ => exact h.elim
  | halt x w' =>
    cases x with
    | panic v => exact h
    | _ => exact h.elim

theorem plain_of {o : Oper} {ρ : Operand → Value} {w w' : World} {x : Next} (h : (execOp ρ o).run P w = .ok x w') (hx : ∀ d, x ≠ .defer d) : plainOp o = true := by
  unfold plainOp
  split
  · rename_i c hc
    exfalso
    simp only [execOp, hc, Sem.run_bind] at h
    generalize (resolve ρ c o.type).run P w = y at h
    cases y with
    | ok d w2 =>
      simp only [Result.andThen_ok, Sem.run_pure, Result.ok.injEq] at h
      exact hx d h.1.symm
    | halt _ _ => simp [Result.andThen] at h
  · rfl

variable {o : Oper} {a : Act} {w w' : World} {K : Act → World → Prop} {Q : Exit → Act → World → Prop}
theorem op_val {v : Value} (h : (execOp a.eval o).run P w = .ok (.value v) w') (hK : K (a.put o.dst v) w') : ∀ r, o.wpIn (Fr r) n P a w K Q :=
  fun _ => op_in (plain_of h (fun _ e => by cases e)) (by unfold Oper.wp; rw [h]; exact hK)
theorem op_skip (h : (execOp a.eval o).run P w = .ok .skip w') (hK : K (a.put o.dst undef) w') : ∀ r, o.wpIn (Fr r) n P a w K Q :=
  fun _ => op_in (plain_of h (fun _ e => by cases e)) (by unfold Oper.wp; rw [h]; exact hK)
theorem op_enter {f : FuncId} {args : Array Value} (h : (execOp a.eval o).run P w = .ok (.enter f args) w') (hK : Calls P f args w' fun
      | .returned v, w'' => K (a.put o.dst v) w''
      | .panicked chain, w'' => Q (.panic chain) a w''
      | .outgrown, _ => LetsOut Q) : ∀ r, o.wpIn (Fr r) n P a w K Q :=
  fun _ => op_in (plain_of h (fun _ e => by cases e)) (by unfold Oper.wp; rw [h]; exact hK)

theorem wpIn_any_n {c : Code} {m : Nat} {Q : Exit → Act → World → Prop} {a : Act} {w : World} (h : c.wpIn (Fr r) n P Q a w) : c.wpIn (Fr r) m P Q a w :=
  fun b k cs hro hb _ => h b k cs hro hb (fr_room r _)
end
end Go.Ab

namespace Go.Ab
open Go Go.RowKit

structure Ctx where
  P : Program
  A : World → Prop
  glob : Nat → D
  hglob : ∀ w0, A w0 → ∀ G w, WF w0 G w → ∀ g, V G w (.pointer (some ⟨g, 0, none⟩)) (glob g)
  mixed : P.follows .mixedOrders = true
  rd : Bool := false

/-- The same, where the code may stand in a round of a range over a function. -/
def Ctx.rnd (E : Ctx) : Ctx := { E with rd := true }
def Rd (E : Ctx) (r : Option Nat) : Prop := E.rd = false → r = none

structure St where
  env : List (Nat × D)
  σ : Sto


def ofV : Value → D
  | .agg cs => .agg (cs.toList.map .val)
  | v => .val v

def ev (E : Ctx) (env : List (Nat × D)) : Operand → D
  | .tmp t => (lk env t).getD .any
  | .const v => ofV v
  | .global g => E.glob g
  | .func f => .func (.func f) [] []

theorem V.ofV (G : Gh) (w : World) (v : Value) : V G w v (ofV v) := by
  cases v with
  | agg cs =>
    refine .agg (by simp) fun i c d hc hd => ?_
    simp only [List.getElem?_map, Array.getElem?_toList, hc, Option.map_some, Option.some.injEq] at hd
    subst hd
    exact .val c
  | _ => exact .val _

structure Rel (w0 : World) (G : Gh) (w : World) (a : Act) (st : St) : Prop where
  wf : WF w0 G w
  env : ∀ t d, lk st.env t = some d → t < a.tmps.size ∧ V G w (a.tmps.getD t undef) d
  objs : Objs w0 G w (get st.σ)
  defers : Marks G w a.defers

theorem Rel.ev {E : Ctx} {w0 : World} (hA : E.A w0) {G : Gh} {w : World} {a : Act} {st : St} (h : Rel w0 G w a st) (x : Operand) : V G w (a.eval x) (ev E st.env x) := by
  cases x with
  | tmp t =>
    simp only [Act.eval, Ab.ev]
    cases hl : lk st.env t with
    | none => exact .any _
    | some d => exact (h.env t d hl).2
  | const v => exact V.ofV G w v
  | global g => exact E.hglob w0 hA G w h.wf g
  | func f => exact .func rfl rfl (by simp) (by simp)

/-- What a piece of code leaves, in the terms of the model. -/
def post (w0 : World) (N : Nat) (R : Nm → Prop) (G : Gh) (w : World) (σ : Sto) (Q : Exit → St → Prop) : Exit → Act → World → Prop :=
  fun e a' w' => ∃ G' st', a'.tmps.size = N ∧ Rel w0 G' w' a' st' ∧ Step R G w (get σ) G' w' (get st'.σ) ∧ Q e st'

def no : Nm → Prop := fun _ => False

def AWp (E : Ctx) (N : Nat) (c : Code) (Q : Exit → St → Prop) (st : St) : Prop :=
  ∀ w0, E.A w0 → ∀ G w a, a.tmps.size = N → Rel w0 G w a st → ∀ r, Rd E r → c.wpIn (Fr r) 0 E.P (post w0 N no G w st.σ Q) a w

def thenQ (K : St → Prop) (Q : Exit → St → Prop) : Exit → St → Prop
  | .normal, st => K st
  | e, st => Q e st

def blockQ (id : Nat) (Q : Exit → St → Prop) : Exit → St → Prop
  | .exit id', st => if id' = id then Q .normal st else Q (.exit id') st
  | e, st => Q e st

section
variable {E : Ctx} {N : Nat} {Q : Exit → St → Prop} {st : St}

theorem AWp.mono {c : Code} {Q' : Exit → St → Prop} (h : AWp E N c Q st) (hq : ∀ e s, Q e s → Q' e s) : AWp E N c Q' st :=
  fun w0 hA G w a hN hr r hd => wpIn_mono (h w0 hA G w a hN hr r hd) fun _ _ _ ⟨G', st', h1, h2, h3, h4⟩ => ⟨G', st', h1, h2, h3, hq _ _ h4⟩

theorem awp_skip (h : Q .normal st) : AWp E N .skip Q st :=
  fun _ _ G _ _ hN hr _ _ => wpIn_skip ⟨G, st, hN, hr, .refl _ _ _ _, h⟩

theorem awp_ret (h : Q .ret st) : AWp E N .ret Q st :=
  fun _ _ G _ _ hN hr _ _ => wpIn_ret ⟨G, st, hN, hr, .refl _ _ _ _, h⟩

theorem awp_exit {id : Nat} (h : Q (.exit id) st) : AWp E N (.exit id) Q st :=
  fun _ _ G _ _ hN hr _ _ => wpIn_exit ⟨G, st, hN, hr, .refl _ _ _ _, h⟩

theorem awp_seq {x y : Code} (h : AWp E N x (thenQ (AWp E N y Q) Q) st) : AWp E N (.seq x y) Q st := by
  intro w0 hA G w a hN hr r hd
  refine wpIn_seq (wpIn_mono (h w0 hA G w a hN hr r hd) ?_)
  rintro e a' w' ⟨G', st', h1, h2, h3, h4⟩
  cases e with
  | normal =>
    exact wpIn_mono (h4 w0 hA G' w' a' h1 h2 r hd) fun _ _ _ ⟨G2, s2, k1, k2, k3, k4⟩ => ⟨G2, s2, k1, k2, h3.trans k3, k4⟩
  | _ => exact ⟨G', st', h1, h2, h3, h4⟩

/-- What follows stays behind a name. -/
theorem awp_seq_k {x y : Code} (h : ∀ K : St → Prop, (∀ s, AWp E N y Q s → K s) → AWp E N x (thenQ K Q) st) : AWp E N (.seq x y) Q st :=
  awp_seq (h _ fun _ h => h)

theorem awp_cond {c : Operand} {x y : Code} {b : Bool} (hc : ev E st.env c = .val (.bool b)) (h : AWp E N (if b then x else y) Q st) : AWp E N (.cond c x y) Q st := by
  intro w0 hA G w a hN hr r hd
  have hv := hr.ev hA c
  rw [hc] at hv
  exact wpIn_cond (V.of_val hv) (h w0 hA G w a hN hr r hd)

theorem awp_unk {c : Operand} {x y : Code} (hc : ev E st.env c = .unk) (h1 : AWp E N x Q st) (h2 : AWp E N y Q st) : AWp E N (.cond c x y) Q st := by
  intro w0 hA G w a hN hr r hd
  have hv := hr.ev hA c
  rw [hc] at hv
  generalize hu : a.eval c = u at hv
  cases hv with
  | unk b =>
    refine wpIn_cond hu ?_
    cases b with
    | true => exact h1 w0 hA G w a hN hr r hd
    | false => exact h2 w0 hA G w a hN hr r hd

theorem awp_block {id : Nat} {c : Code} (h : AWp E N c (blockQ id Q) st) : AWp E N (.block id c) Q st := by
  intro w0 hA G w a hN hr r hd
  refine wpIn_block (wpIn_mono (h w0 hA G w a hN hr r hd) ?_)
  rintro e a' w' ⟨G', st', h1, h2, h3, h4⟩
  cases e with
  | exit id' =>
    simp only [blockQ] at h4
    simp only [Exit.inBlock]
    split
    · rename_i he; rw [if_pos he] at h4; exact ⟨G', st', h1, h2, h3, h4⟩
    · rename_i he; rw [if_neg he] at h4; exact ⟨G', st', h1, h2, h3, h4⟩
  | _ => exact ⟨G', st', h1, h2, h3, h4⟩

/-- A loop: 'I n st': what holds at a round's head, with at most n rounds to come. -/
theorem awp_loop {c : Code} (I : Nat → St → Prop) (n : Nat) (h0 : I n st) (round : ∀ n s, I n s → AWp E N c (thenQ (fun s' => ∃ m, m < n ∧ I m s') Q) s) : AWp E N (.loop c) Q st := by
  intro w0 hA G w a hN hr rd hrd b k cs hro hb hroom
  have key : ∀ n G1 w1 a1 s1, I n s1 → a1.tmps.size = N → Rel w0 G1 w1 a1 s1 → Step no G w (get st.σ) G1 w1 (get s1.σ) →
      ∃ e a' w', post w0 N no G w st.σ Q e a' w' ∧ ArrivesIn (Machine.fenced E.P (Fr rd)) E.P (lone (b.atR a1 (.code c :: .inLoop c :: k)) cs w1) b k cs e a' w' := by
    intro n
    induction n using Nat.strongRecOn with
    | _ n ih =>
      intro G1 w1 a1 s1 hI hN1 hr1 hs1
      obtain ⟨e, a2, w2, ⟨G2, s2, hN2, hr2, hs2, hq⟩, harr⟩ := round n s1 hI w0 hA G1 w1 a1 hN1 hr1 rd hrd b (.inLoop c :: k) cs hro hb hroom
      cases e with
      | normal =>
        obtain ⟨m, hm, hI2⟩ := hq
        obtain ⟨e3, a3, w3, hq3, harr3⟩ := ih m hm G2 w2 a2 s2 hI2 hN2 hr2 (hs1.trans hs2)
        exact ⟨e3, a3, w3, hq3, .of_steps (StepsIn.trans harr (.one (fenced_calm hb hroom rfl) stepR_inLoop)) harr3⟩
      | exit id => exact ⟨_, a2, w2, ⟨G2, s2, hN2, hr2, hs1.trans hs2, hq⟩, .pass (x := .inLoop c) rfl (fun _ _ => .inl (by simp)) harr⟩
      | goto l => exact ⟨_, a2, w2, ⟨G2, s2, hN2, hr2, hs1.trans hs2, hq⟩, .pass (x := .inLoop c) rfl (fun _ _ => .inl (by simp)) harr⟩
      | ret => exact ⟨_, a2, w2, ⟨G2, s2, hN2, hr2, hs1.trans hs2, hq⟩, .pass (x := .inLoop c) rfl (fun _ _ => .inl (by simp)) harr⟩
      | panic ch => exact ⟨_, a2, w2, ⟨G2, s2, hN2, hr2, hs1.trans hs2, hq⟩, .pass (x := .inLoop c) rfl (fun _ _ => .inl (by simp)) harr⟩
      | outgrown => exact ⟨_, a2, w2, ⟨G2, s2, hN2, hr2, hs1.trans hs2, hq⟩, .pass (x := .inLoop c) rfl (fun _ _ => .inl (by simp)) harr⟩
  obtain ⟨e, a', w', hq, harr⟩ := key n G w a st h0 hN hr (.refl _ _ _ _)
  exact ⟨e, a', w', hq, .of_steps (.one (fenced_calm hb hroom rfl) stepR_loop) harr⟩

/-- Another view of the same moment. -/
def Sees (E : Ctx) (st : St) (K : St → Prop) : Prop :=
  ∀ w0, E.A w0 → ∀ G w a, Rel w0 G w a st → ∃ G' st', Rel w0 G' w a st' ∧ Step no G w (get st.σ) G' w (get st'.σ) ∧ K st'

theorem Sees.awp {c : Code} (h : Sees E st (AWp E N c Q)) : AWp E N c Q st := by
  intro w0 hA G w a hN hr r hd
  obtain ⟨G', st', h1, h2, h3⟩ := h w0 hA G w a hr
  exact wpIn_mono (h3 w0 hA G' w a hN h1 r hd) fun _ _ _ ⟨G2, s2, k1, k2, k3, k4⟩ => ⟨G2, s2, k1, k2, h2.trans k3, k4⟩

/-- At an end, too, the state may be seen otherwise. -/
theorem AWp.after {c : Code} {Q' : Exit → St → Prop} (h : AWp E N c Q st) (hq : ∀ e s, Q e s → Sees E s (Q' e)) : AWp E N c Q' st := by
  intro w0 hA G w a hN hr r hd
  refine wpIn_mono (h w0 hA G w a hN hr r hd) fun e a' w' ⟨G', st', h1, h2, h3, h4⟩ => ?_
  obtain ⟨G2, s2, k1, k2, k3⟩ := hq e st' h4 w0 hA G' w' a' h2
  exact ⟨G2, s2, h1, k1, h3.trans k2, k3⟩

theorem Sees.of {K : St → Prop} (h : K st) : Sees E st K := fun _ _ G _ _ hr => ⟨G, st, hr, .refl _ _ _ _, h⟩

theorem Sees.mono {K K' : St → Prop} (h : Sees E st K) (hk : ∀ s, K s → K' s) : Sees E st K' :=
  fun w0 hA G w a hr => let ⟨G', s', h1, h2, h3⟩ := h w0 hA G w a hr; ⟨G', s', h1, h2, hk _ h3⟩

theorem Sees.trans {K K' : St → Prop} (h : Sees E st K) (hk : ∀ s, K s → Sees E s K') : Sees E st K' := fun w0 hA G w a hr =>
  let ⟨G1, s1, h1, h2, h3⟩ := h w0 hA G w a hr
  let ⟨G2, s2, k1, k2, k3⟩ := hk s1 h3 w0 hA G1 w a h1
  ⟨G2, s2, k1, h2.trans k2, k3⟩

/-- A part of what is known. -/
def Le (st' st : St) : Prop := (∀ p ∈ st'.env, lk st.env p.1 = some p.2) ∧ (∀ p ∈ st'.σ, get st.σ p.1 = some p.2)

theorem mem_of_lk {l : List (Nat × D)} {t : Nat} {d : D} (h : lk l t = some d) : (t, d) ∈ l := by
  induction l with
  | nil => simp [lk] at h
  | cons p r ih =>
    obtain ⟨k, x⟩ := p
    simp only [lk] at h
    split at h
    · rename_i hk; subst hk; cases h; exact List.mem_cons_self
    · exact List.mem_cons_of_mem _ (ih h)

theorem mem_of_get {l : Sto} {n : Nm} {o : Ob} (h : get l n = some o) : (n, o) ∈ l := by
  induction l with
  | nil => simp [get] at h
  | cons p r ih =>
    obtain ⟨k, x⟩ := p
    simp only [get] at h
    split at h
    · rename_i hk; subst hk; cases h; exact List.mem_cons_self
    · exact List.mem_cons_of_mem _ (ih h)

theorem Step.drop {R : Nm → Prop} {G : Gh} {w : World} {κ κ' : Kp} (hs : ∀ n o, κ' n = some o → κ n = some o) : Step R G w κ G w κ' :=
  { Step.refl R G w κ with
    blk' := fun b ⟨n, o, v, h1, h2, h3⟩ => .inr ⟨n, o, v, hs n o h1, h2, h3⟩
    dom := fun n hn => by
      cases hk : κ' n with
      | none => exact absurd hk hn
      | some o => exact .inl (by rw [hs n o hk]; simp) }

theorem Sees.keep {K : St → Prop} {st' : St} (h : Le st' st) (hk : K st') : Sees E st K := by
  intro w0 _ G w a hr
  have hs : ∀ n o, get st'.σ n = some o → get st.σ n = some o := fun n o hn => h.2 (n, o) (mem_of_get hn)
  exact ⟨G, st', ⟨hr.wf, fun t d ht => hr.env t d (h.1 (t, d) (mem_of_lk ht)), hr.objs.sub hs, hr.defers⟩, .drop hs, hk⟩

end
end Go.Ab

namespace Go.Ab
open Go Go.RowKit

def szOf (P : Program) (t : TypeId) : Option Nat := (P.info? t).map (·.size)
def descAgg : TypeDesc → Bool
  | .struct _ | .array _ _ => true
  | _ => false
def aggOf (P : Program) (t : TypeId) : Option Bool := (P.underlying t).map descAgg
def zeroOf (P : Program) (t : TypeId) : Option Value := (P.info? t).bind (·.zero)
/-- Offset and type of a field. -/
def fldOf (P : Program) (t : TypeId) (i : Nat) : Option (Nat × TypeId) :=
  match P.underlying t with
  | some (.struct fs) => (fs[i]?).map fun f => (f.offset, f.type)
  | _ => none
def elemS (P : Program) (t : TypeId) : Option TypeId :=
  match P.underlying t with
  | some (.slice e) => some e
  | _ => none
def elemA (P : Program) (t : TypeId) : Option (Nat × TypeId) :=
  match P.underlying t with
  | some (.array n e) => some (n, e)
  | _ => none
def isStr (P : Program) (t : TypeId) : Bool := match P.underlying t with | some .string => true | _ => false
def isIfc (P : Program) (t : TypeId) : Bool := match P.underlying t with | some (.interface _) => true | none => true | _ => false
def intOfT (P : Program) (t : TypeId) : Option IntKind := match P.underlying t with | some (.int k) => some k | _ => none
def ptrArr (P : Program) (t : TypeId) : Option Nat :=
  match P.underlying t with
  | some (.pointer a) => match P.underlying a with | some (.array n _) => some n | _ => none
  | _ => none

/-- A value of type t out of the cells from here on. -/
def cut (P : Program) (t : TypeId) (cs : List D) : Option D :=
  match aggOf P t with
  | some true => match szOf P t with
    | some k => if k ≤ cs.length then some (.agg (cs.take k)) else none
    | none => none
  | some false => cs.head?
  | none => none

def loadD (P : Program) (κ : Kp) (t : TypeId) : D → Option D
  | .ptr n off => match κ n with
    | some (.box _ cs) => cut P t (cs.drop off)
    | _ => none
  | .aptr n k i j => match κ n with
    | some (.arr _ k' rows) => if k' = k then (rows[i]?).bind fun r => cut P t (r.cells.drop j) else none
    | _ => none
  | .eptr cs => cut P t cs
  | _ => none

def nilD : D → Option D
  | .ptr n o => some (.ptr n o)
  | .aptr n k i j => some (.aptr n k i j)
  | .eptr cs => some (.eptr cs)
  | .func (.func f) a b => some (.func (.func f) a b)
  | _ => none

def intD (op : BinOp) (k : IntKind) (a b : Int) : Option Value :=
  match op with
  | .add => some (.int k (k.wrap (a + b)))
  | .sub => some (.int k (k.wrap (a - b)))
  | .mul => some (.int k (k.wrap (a * b)))
  | .quo => if b = 0 then none else some (.int k (k.wrap (a.tdiv b)))
  | .rem => if b = 0 then none else some (.int k (a.tmod b))
  | .eql => some (.bool (decide (a = b)))
  | .neq => some (.bool (!decide (a = b)))
  | .lss => some (.bool (decide (a < b)))
  | .leq => some (.bool (decide (a ≤ b)))
  | .gtr => some (.bool (decide (b < a)))
  | .geq => some (.bool (decide (b ≤ a)))
  | _ => none

def strD (op : BinOp) (a b : ByteArray) : Option Value :=
  match op with
  | .add => if a.size + b.size ≤ 9223372036854775807 then some (.string (a ++ b)) else none
  | .eql => some (.bool (decide (a = b)))
  | .neq => some (.bool (!decide (a = b)))
  | .lss => some (.bool (Op.bytesLess a.toList b.toList))
  | .gtr => some (.bool (!(Op.bytesLess a.toList b.toList || decide (a = b))))
  | .geq => some (.bool (!(Op.bytesLess a.toList b.toList)))
  | _ => none

def isBoolT (P : Program) (t : TypeId) : Bool := match P.underlying t with | some .bool => true | _ => false
def isPtrT (P : Program) (t : TypeId) : Bool := match P.underlying t with | some (.pointer _) => true | _ => false
def eqR (op : BinOp) (b : Bool) : Option Value :=
  match op with
  | .eql => some (.bool b)
  | .neq => some (.bool (!b))
  | _ => none

def boolD (P : Program) (t : TypeId) (op : BinOp) (a b : Bool) : Option Value := if isBoolT P t then eqR op (decide (a = b)) else none
def ptrD (P : Program) (t : TypeId) (op : BinOp) (a b : Option Addr) : Option Value :=
  match b with
  | none => if isPtrT P t then eqR op a.isNone else none
  | _ => none

def binD (P : Program) (t : TypeId) (op : BinOp) : D → D → Option D
  | .val (.int k a), .val (.int k' b) => if k = k' then (intD op k a b).map .val else none
  | .val (.string a), .val (.string b) => (strD op a b).map .val
  | .val (.bool a), .val (.bool b) => (boolD P t op a b).map .val
  | .val (.pointer a), .val (.pointer b) => (ptrD P t op a b).map .val
  | .sl _ rows, .val (.slice none 0 0) => match elemS P t, eqR op false with
    | some _, some r => match rows with
      | [] => some .unk
      | _ :: _ => some (.val r)
    | _, _ => none
  | .val (.slice none _ _), .val (.slice none 0 0) => match elemS P t with
    | some _ => (eqR op true).map .val
    | none => none
  | .ptr _ _, .val (.pointer none) => if isPtrT P t then (eqR op false).map .val else none
  | .eptr _, .val (.pointer none) => if isPtrT P t then (eqR op false).map .val else none
  | .aptr _ _ _ _, .val (.pointer none) => if isPtrT P t then (eqR op false).map .val else none
  | _, _ => none

def unD (op : UnOp) : D → Option D
  | .unk => match op with
    | .not => some .unk
    | _ => none
  | .val (.bool b) => match op with
    | .not => some (.val (.bool (!b)))
    | _ => none
  | .val (.int k n) => match op with
    | .neg => some (.val (.int k (k.wrap (0 - n))))
    | _ => none
  | _ => none

def isBytesT (P : Program) (t : TypeId) : Bool := match P.underlying t with
  | some (.slice e) => match P.underlying e with | some (.int .u8) => true | _ => false
  | _ => false
def numsOf : List D → Option (List Int)
  | [] => some []
  | .val (.int .u8 n) :: r => (numsOf r).map (n :: ·)
  | _ => none

def hasT (P : Program) (t : TypeId) : Bool := (P.underlying t).isSome

def convD (P : Program) (s d : TypeId) : D → Option D
  | .sl _ rows => if isBytesT P s = true ∧ isStr P d = true then (numsOf rows).map fun ns => .val (.string (strOfNums ns)) else none
  | .val (.int _ n) => match hasT P s, intOfT P d with
    | true, some k => some (.val (.int k (k.wrap n)))
    | _, _ => none
  | .val (.string b) => match hasT P s, isStr P d with
    | true, true => some (.val (.string b))
    | _, _ => none
  | _ => none

def fieldAddrD (P : Program) (t : TypeId) (x : D) (f : Nat) : Option D :=
  match fldOf P t f with
  | some (o, ft) => match szOf P ft with
    | some (_ + 1) => match x with
      | .ptr n off => some (.ptr n (off + o))
      | .aptr n k i j => some (.aptr n k i (j + o))
      | .eptr cs => some (.eptr (cs.drop o))
      | _ => none
    | _ => none
  | none => none

def fieldD (P : Program) (t : TypeId) (x : D) (f : Nat) : Option D :=
  match fldOf P t f with
  | some (o, ft) => match x with
    | .agg cs => cut P ft (cs.drop o)
    | _ => none
  | none => none

def at? (rows : List D) (i : Int) : Option D := if 0 ≤ i then rows[i.toNat]? else none

def indexAddrD (P : Program) (κ : Kp) (t : TypeId) (x i : D) : Option D :=
  match i with
  | .val (.int _ n) =>
    match elemS P t with
    | some e => match x with
      | .sl _ rows => (at? rows n).bind fun r => if szOf P e = some r.cells.length then some (.eptr r.cells) else none
      | .own nm _ => match κ nm with
        | some (.arr _ k rows) => if szOf P e = some k ∧ 0 ≤ n ∧ n < rows.length then some (.aptr nm k n.toNat 0) else none
        | _ => none
      | _ => none
    | none => match elemA P t with
      | some (m, e) => match szOf P e with
        | some k => if 0 ≤ n ∧ n < m then
            match x with
            | .ptr nm off => some (.ptr nm (off + n.toNat * k))
            | .eptr cs => some (.eptr (cs.drop (n.toNat * k)))
            | _ => none
          else none
        | none => none
      | none => none
  | _ => none

def indexD (P : Program) (t : TypeId) (x i : D) : Option D :=
  match i with
  | .val (.int _ n) => match x with
    | .val (.string s) => if isStr P t = true ∧ 0 ≤ n then (s[n.toNat]?).map fun b => .val (.int .u8 b.toNat) else none
    | _ => none
  | _ => none

def lenD (P : Program) (t : TypeId) (x : D) : Option D :=
  match x with
  | .val (.string s) => if isStr P t then some (.val (.int .i64 s.size)) else none
  | .sl _ rows => if (elemS P t).isSome then some (.val (.int .i64 rows.length)) else none
  | .own _ n => if (elemS P t).isSome then some (.val (.int .i64 n)) else none
  | .val (.slice _ n _) => if (elemS P t).isSome then some (.val (.int .i64 n)) else none
  | _ => none

/-- The cells with a part laid over them. -/
def over (cs : List D) (o : Nat) (new : List D) : List D := cs.take o ++ new ++ cs.drop (o + new.length)

def fillD (place : Nat → Option (Nat × Nat)) : List D → List (Nat × D) → Option (List D)
  | cs, [] => some cs
  | cs, (i, d) :: r => match place i with
    | none => none
    | some (o, k) => if d.cells.length = k ∧ o + k ≤ cs.length ∧ d.cells.all D.one = true then fillD place (over cs o d.cells) r else none

/-- Offset and size of each field. -/
def placesOf (P : Program) (t : TypeId) : Option (List (Nat × Nat)) :=
  match P.underlying t with
  | some (.struct fields) => fields.toList.mapM fun f => (P.info? f.type).map fun i => (f.offset, i.size)
  | _ => none

def buildD (P : Program) (t : TypeId) (ps : List (Nat × D)) : Option D :=
  match zeroOf P t, placesOf P t with
  | some z, some pl => (fillD (fun i => pl[i]?) (z.cells.toList.map .val) ps).map .agg
  | _, _ => none

/-! Maps -/
def KC.of (P : Program) (t : TypeId) : Option KC := match P.underlying t with
  | some .string => some .str
  | some (.int k) => some (.num k)
  | some .bool => some .boo
  | _ => none
def KC.ofL (P : Program) : List Field → Nat → Option (List KC)
  | [], _ => some []
  | f :: fs, i => if f.name ≠ "_" ∧ f.offset = i then match KC.of P f.type, KC.ofL P fs (i + 1) with
      | some c, some cs => some (c :: cs)
      | _, _ => none
    else none
def KS.of (P : Program) (t : TypeId) : Option KS := match P.underlying t with
  | some (.struct fs) => if P.stoodInHeld t then none else (KC.ofL P fs.toList 0).map .agg
  | _ => (KC.of P t).map .one
def mapT (P : Program) (t : TypeId) : Option (TypeId × TypeId) := match P.underlying t with
  | some (.map k e) => some (k, e)
  | _ => none
def valsD : List D → Option (List Value)
  | [] => some []
  | .val v :: r => (valsD r).map (v :: ·)
  | _ => none
def keyD : D → Option Value
  | .val v => some v
  | .agg ds => (valsD ds).map fun vs => .agg vs.toArray
  | _ => none
open Classical in
noncomputable def mget : List (Value × D) → Value → Option D
  | [], _ => none
  | (k', d) :: r, k => if k' = k then some d else mget r k
open Classical in
noncomputable def mput : List (Value × D) → Value → D → List (Value × D)
  | [], k, d => [(k, d)]
  | (k', d') :: r, k, d => if k' = k then (k', d) :: r else (k', d') :: mput r k d
def mapOf (κ : Kp) : D → Option (KS × List (Value × D))
  | .mref n => match κ n with
    | some (.map ks es) => some (ks, es)
    | _ => none
  | .fmap ks es => some (ks, es)
  | _ => none
def okD (ok : Bool) (d : D) (b : Bool) : D := if ok then .tup [d, .val (.bool b)] else d
noncomputable def lookD (P : Program) (et : TypeId) (ok : Bool) : Option D → Option D
  | some d => some (okD ok d true)
  | none => (zeroOf P et).map fun z => okD ok (ofV z) false
noncomputable def lookupD (P : Program) (κ : Kp) (t : TypeId) (x key : D) (ok : Bool) : Option D :=
  match mapT P t with
  | some (kt, et) => match KS.of P kt, keyD key with
    | some ks, some k => if ks.fits k = true then (match mapOf κ x with
        | some (ks', es) => if ks' = ks then lookD P et ok (mget es k) else none
        | none => match x with
          | .val (.map none) => lookD P et ok none
          | _ => none) else none
    | _, _ => none
  | none => none
def capD (P : Program) (t : TypeId) : D → Option D
  | .val (.slice _ _ c) => if (elemS P t).isSome then some (.val (.int .i64 c)) else none
  | _ => none
/-- The greater one, or the smaller one, of two integers. -/
def mmD (mx : Bool) : D → D → Option D
  | .val (.int k a), .val (.int k' b) => if k = k' then some (.val (.int k (if mx = true then (if b > a then b else a) else (if b < a then b else a)))) else none
  | _, _ => none

def lenM (P : Program) (κ : Kp) (t : TypeId) (x : D) : Option D :=
  match mapOf κ x with
  | some (_, es) => if (mapT P t).isSome then some (.val (.int .i64 es.length)) else none
  | none => lenD P t x

def subD (P : Program) (t : TypeId) : D → D → D → Option D
  | .val (.string s), .val (.int _ l), .val (.int _ h) => if isStr P t = true ∧ 0 ≤ l ∧ l ≤ h ∧ h ≤ s.size then some (.val (.string (s.extract l.toNat h.toNat))) else none
  | _, _, _ => none
def isNilK : Operand → Bool
  | .const .nilIface => true
  | _ => false
def nilIfcD (P : Program) (t : TypeId) (op : BinOp) : D → Option D
  | .iface _ _ => if isIfc P t = true ∧ hasT P t = true then (eqR op false).map .val else none
  | .val .nilIface => if isIfc P t = true ∧ hasT P t = true then (eqR op true).map .val else none
  | _ => none

noncomputable def dopR (P : Program) (o : Oper) (e : Operand → D) (κ : Kp) : Option D :=
  match o.op with
  | .move x => some (e x)
  | .assign x => some (e x)
  | .pick c a b => match e c with
    | .val (.bool true) => some (e a)
    | .val (.bool false) => some (e b)
    | _ => none
  | .load t x => loadD P κ t (e x)
  | .nilCheck x => nilD (e x)
  | .binOp op t x y _ => match isNilK y, e y with
    | true, .val .nilIface => nilIfcD P t op (e x)
    | _, _ => binD P t op (e x) (e y)
  | .unOp op _ x => unD op (e x)
  | .convert s d x => convD P s d (e x)
  | .makeInterface t x => if isIfc P t then none else some (.iface t (e x))
  | .makeFunc fn a c => some (.func fn (a.toList.map e) (c.toList.map e))
  | .fieldAddr t x f => fieldAddrD P t (e x) f
  | .field t x f => fieldD P t (e x) f
  | .indexAddr t x i => indexAddrD P κ t (e x) (e i)
  | .index t x i => indexD P t (e x) (e i)
  | .extract t i => match e t with
    | .tup vs => vs[i]?
    | _ => none
  | .lookup t x k ok => lookupD P κ t (e x) (e k) ok
  | .build t ps => buildD P t (ps.toList.map fun p => (p.1, e p.2))
  | .slice t x (some l) (some h) none => subD P t (e x) (e l) (e h)
  | .call c => match c.callee, c.args.toList, c.argTypes.toList with
    | .builtin .len, [x], [t] => lenM P κ t (e x)
    | .builtin .cap, [x], [t] => capD P t (e x)
    | .builtin .max, [x, y], [_, _] => mmD true (e x) (e y)
    | .builtin .min, [x, y], [_, _] => mmD false (e x) (e y)
    | _, _, _ => none
  | _ => none

def Yields (E : Ctx) (o : Oper) (e : Operand → D) (κ : Kp) (v : D) : Prop :=
  ∀ w0, E.A w0 → ∀ G w (ρ : Operand → Value), WF w0 G w → (∀ x ∈ o.op.operands, V G w (ρ x) (e x)) → Objs w0 G w κ →
    ∃ x, (execOp ρ o).run E.P w = .ok (.value x) w ∧ V G w x v

end Go.Ab

namespace Go.Ab
open Go Go.RowKit

section
variable {P : Program} {G : Gh} {w : World}

theorem run_isAgg {t : TypeId} {b : Bool} (h : aggOf P t = some b) : (isAgg t).run P w = .ok b w := by
  unfold aggOf at h
  cases hu : P.underlying t with
  | none => rw [hu] at h; cases h
  | some d =>
    rw [hu] at h
    simp only [Option.map_some, Option.some.injEq] at h
    subst h
    cases d <;> simp [isAgg, run_underlying hu, descAgg]

theorem run_sizeOf {t : TypeId} {k : Nat} (h : szOf P t = some k) : (sizeOf t).run P w = .ok k w := by
  unfold szOf at h
  cases hi : P.info? t with
  | none => rw [hi] at h; cases h
  | some i =>
    rw [hi] at h
    simp only [Option.map_some, Option.some.injEq] at h
    subst h
    simp [sizeOf, typeInfo, hi]

theorem run_zeroValue {t : TypeId} {z : Value} (h : zeroOf P t = some z) : (zeroValue t).run P w = .ok z w := by
  unfold zeroOf at h
  cases hi : P.info? t with
  | none => rw [hi] at h; cases h
  | some i =>
    rw [hi] at h
    simp only [Option.bind_some] at h
    simp [zeroValue, typeInfo, hi, h]

theorem cut_run {b off : Nat} {cs : List D} {X : Nat → Value} (hc : ∀ (j : Nat) d, cs[j]? = some d → w.cell? ⟨b, off + j, none⟩ = some (X j))
    (hV : ∀ (j : Nat) d, cs[j]? = some d → V G w (X j) d) {t : TypeId} {v : D} (h : cut P t cs = some v) :
    ∃ x, (loadVar t ⟨b, off, none⟩).run P w = .ok x w ∧ V G w x v := by
  unfold cut at h
  split at h
  · rename_i ha
    split at h
    · rename_i k hk
      split at h
      · rename_i hle
        cases h
        have hl := run_loadCells (P := P) w ⟨b, off, none⟩ k X (fun j hj => by
          rw [Addr.add_lit]
          exact hc j _ (List.getElem?_eq_getElem (by omega)))
        refine ⟨.agg ((List.range k).map X).toArray, ?_, .agg (by simp; omega) fun i c d hc' hd => ?_⟩
        · simp [loadVar, run_isAgg ha, run_sizeOf hk, hl]
        · simp only [List.getElem?_toArray, List.getElem?_map] at hc'
          rw [List.getElem?_take] at hd
          split at hd
          · rename_i hik
            rw [List.getElem?_range hik] at hc'
            simp only [Option.map_some, Option.some.injEq] at hc'
            subst hc'
            exact hV i d hd
          · cases hd
      · cases h
    · cases h
  · rename_i ha
    cases cs with
    | nil => simp at h
    | cons d r =>
      simp only [List.head?_cons, Option.some.injEq] at h
      subst h
      have h0 := hc 0 d rfl
      simp only [Nat.add_zero] at h0
      exact ⟨X 0, by simp [loadVar, run_isAgg ha, h0], hV 0 d rfl⟩
  · cases h

/-- Out of an object, from a cell on. -/
theorem box_cells {w0 : World} {κ : Kp} (ho : Objs w0 G w κ) {n : Nm} {t : TypeId} {cs : List D} (h : κ n = some (.box t cs)) {b off : Nat} (hv : V G w (.pointer (some ⟨b, off, none⟩)) (.ptr n off)) :
    ∃ X : Nat → Value, (∀ (j : Nat) d, (cs.drop off)[j]? = some d → w.cell? ⟨b, off + j, none⟩ = some (X j)) ∧ (∀ (j : Nat) d, (cs.drop off)[j]? = some d → V G w (X j) d) := by
  obtain ⟨v, hρ, ⟨b', c, rfl, hh, hsz, hcs⟩, _⟩ := ho.ob n _ h
  cases hv with
  | ptr hρ' =>
    rw [hρ] at hρ'
    cases hρ'
    refine ⟨fun j => c.getD (off + j) undef, fun j d hd => ?_, fun j d hd => ?_⟩
    · rw [List.getElem?_drop] at hd
      have hlt : off + j < c.size := by
        have := (List.getElem?_eq_some_iff.1 hd).1
        omega
      rw [cell_of_row w b (off + j) c t (0, 0) hh]
      simp [hlt]
    · rw [List.getElem?_drop] at hd
      have hlt : off + j < c.size := by
        have := (List.getElem?_eq_some_iff.1 hd).1
        omega
      have := hcs (off + j) c[off + j] d (by simp [hlt]) hd
      simpa [hlt] using this

theorem arr_shape {w0 : World} {κ : Kp} (ho : Objs w0 G w κ) {n : Nm} {t : TypeId} {k : Nat} {rows : List D} (h : κ n = some (.arr t k rows)) :
    ∃ v xs, G.ρ n = some v ∧ w.ownsRow w0.heap.size t k v rows.length xs ∧ ∀ (i : Nat) r, rows[i]? = some r → r.cells.length = k ∧ ∀ (j : Nat) d, r.cells[j]? = some d → ∃ x, xs[i * k + j]? = some x ∧ V G w x d := by
  obtain ⟨v, hρ, ⟨xs, h1, h2⟩, _⟩ := ho.ob n _ h
  exact ⟨v, xs, hρ, h1, h2⟩

theorem arr_cells {w0 : World} {κ : Kp} (ho : Objs w0 G w κ) {n : Nm} {t : TypeId} {k i j : Nat} {rows : List D} {r : D} (h : κ n = some (.arr t k rows)) (hr : rows[i]? = some r) {b off : Nat}
    (hv : V G w (.pointer (some ⟨b, off, none⟩)) (.aptr n k i j)) :
    off = i * k + j ∧ ∃ X : Nat → Value, (∀ (l : Nat) d, (r.cells.drop j)[l]? = some d → w.cell? ⟨b, off + l, none⟩ = some (X l)) ∧ (∀ (l : Nat) d, (r.cells.drop j)[l]? = some d → V G w (X l) d) := by
  obtain ⟨v, xs, hρ, hown, hx⟩ := arr_shape ho h
  cases hv with
  | aptr hρ' =>
    rw [hρ] at hρ'
    cases hρ'
    refine ⟨rfl, fun l => xs.getD (i * k + (j + l)) undef, fun l d hd => ?_, fun l d hd => ?_⟩
    · rw [List.getElem?_drop] at hd
      obtain ⟨x, hx1, _⟩ := (hx i r hr).2 (j + l) d hd
      have := hown.cells (g := b) rfl (i * k + (j + l)) x hx1
      rw [Addr.add_lit, Nat.zero_add] at this
      rw [Nat.add_assoc, this]
      simp [hx1]
    · rw [List.getElem?_drop] at hd
      obtain ⟨x, hx1, hx2⟩ := (hx i r hr).2 (j + l) d hd
      simpa [hx1] using hx2

theorem load_run {w0 : World} {κ : Kp} (ho : Objs w0 G w κ) {t : TypeId} {x : Value} {d v : D} (hx : V G w x d) (h : loadD P κ t d = some v) : ∃ y, (Instr.loadAt t x).run P w = .ok y w ∧ V G w y v := by
  cases hx with
  | ptr hρ =>
    rename_i n b off
    simp only [loadD] at h
    split at h
    · rename_i cs hk
      obtain ⟨X, h1, h2⟩ := box_cells ho hk (V.ptr (off := off) hρ)
      obtain ⟨y, hy, hv⟩ := cut_run h1 h2 h
      exact ⟨y, by simp [Instr.loadAt, Instr.sureAddr, hy], hv⟩
    · cases h
  | aptr hρ =>
    rename_i n b len cap k i j
    simp only [loadD] at h
    split at h
    · rename_i t' k' rows hk
      split at h
      · rename_i hkk
        subst hkk
        cases hr : rows[i]? with
        | none => rw [hr] at h; cases h
        | some r =>
          rw [hr] at h
          obtain ⟨_, X, h1, h2⟩ := arr_cells ho hk hr (V.aptr (i := i) (j := j) hρ)
          obtain ⟨y, hy, hv⟩ := cut_run h1 h2 h
          exact ⟨y, by simp [Instr.loadAt, Instr.sureAddr, hy], hv⟩
      · cases h
    · cases h
  | eptr X h0 h1 h2 =>
    obtain ⟨y, hy, hv⟩ := cut_run h1 h2 h
    exact ⟨y, by simp [Instr.loadAt, Instr.sureAddr, hy], hv⟩
  | _ => simp [loadD] at h

theorem fld_spec {t : TypeId} {f o : Nat} {ft : TypeId} (h : fldOf P t f = some (o, ft)) : ∃ fs fd, P.underlying t = some (.struct fs) ∧ fs[f]? = some fd ∧ fd.offset = o ∧ fd.type = ft := by
  unfold fldOf at h
  split at h
  · rename_i fs hu
    cases hf : fs[f]? with
    | none => rw [hf] at h; cases h
    | some fd =>
      rw [hf] at h
      simp only [Option.map_some, Option.some.injEq, Prod.mk.injEq] at h
      exact ⟨fs, fd, hu, hf, h.1, h.2⟩
  · cases h

theorem fieldAddr_run {t : TypeId} {f : Nat} {x : Value} {d v : D} (hx : V G w x d) (h : fieldAddrD P t d f = some v) : ∃ y, (Instr.fieldAt t x f).run P w = .ok y w ∧ V G w y v := by
  unfold fieldAddrD at h
  split at h
  · rename_i o ft hf
    split at h
    · rename_i k hk
      obtain ⟨fs, fd, hu, hfs, rfl, rfl⟩ := fld_spec hf
      have run : ∀ (b off : Nat), (Instr.fieldAt t (.pointer (some ⟨b, off, none⟩)) f).run P w = .ok (.pointer (some ⟨b, off + fd.offset, none⟩)) w := fun b off => by
        simp [Instr.fieldAt, run_underlying hu, hfs, Instr.sureAddr, fieldPlace, run_sizeOf hk, Addr.add_lit]
      cases hx with
      | ptr hρ => cases h; exact ⟨_, run _ _, .ptr hρ⟩
      | aptr hρ =>
        cases h
        refine ⟨_, run _ _, ?_⟩
        rw [Nat.add_assoc]
        exact .aptr hρ
      | eptr X h0 h1 h2 =>
        cases h
        refine ⟨_, run _ _, .eptr (fun j => X (fd.offset + j)) h0 (fun j d hd => ?_) (fun j d hd => ?_)⟩
        · rw [List.getElem?_drop] at hd
          rw [Nat.add_assoc]
          exact h1 _ d hd
        · rw [List.getElem?_drop] at hd
          exact h2 _ d hd
      | _ => cases h
    · cases h
  · cases h

theorem part_run {cs : Array Value} {ds : List D} (hs : cs.size = ds.length) (hV : ∀ (i : Nat) c d, cs[i]? = some c → ds[i]? = some d → V G w c d) {o : Nat} {t : TypeId} {v : D} (h : cut P t (ds.drop o) = some v) :
    ∃ y, (part t cs o).run P w = .ok y w ∧ V G w y v := by
  unfold cut at h
  split at h
  · rename_i ha
    split at h
    · rename_i k hk
      split at h
      · rename_i hle
        cases h
        simp only [List.length_drop] at hle
        refine ⟨.agg (cs.extract o (o + k)), by simp [part, run_isAgg ha, run_sizeOf hk], .agg (by simp; omega) fun i c d hc hd => ?_⟩
        rw [List.getElem?_take] at hd
        split at hd
        · rw [List.getElem?_drop] at hd
          rw [Array.getElem?_extract] at hc
          split at hc
          · exact hV _ _ _ hc hd
          · cases hc
        · cases hd
      · cases h
    · cases h
  · rename_i ha
    rw [List.head?_drop] at h
    have hlt : o < cs.size := by
      have := (List.getElem?_eq_some_iff.1 h).1
      omega
    refine ⟨cs[o], by simp [part, run_isAgg ha, hlt], hV o _ _ (by simp [hlt]) h⟩
  · cases h

theorem field_run {t : TypeId} {f : Nat} {x : Value} {d v : D} (hx : V G w x d) (h : fieldD P t d f = some v) : ∃ y, (Instr.field t x f).run P w = .ok y w ∧ V G w y v := by
  unfold fieldD at h
  split at h
  · rename_i o ft hf
    obtain ⟨fs, fd, hu, hfs, rfl, rfl⟩ := fld_spec hf
    cases hx with
    | agg hs hV =>
      obtain ⟨y, hy, hv⟩ := part_run (P := P) hs hV h
      exact ⟨y, by simp [Instr.field, run_underlying hu, hfs, asAgg, hy], hv⟩
    | _ => cases h
  · cases h

theorem elemS_spec {t e : TypeId} (h : elemS P t = some e) : P.underlying t = some (.slice e) := by
  unfold elemS at h
  split at h
  · rename_i hu; cases h; exact hu
  · cases h

theorem elemA_spec {t e : TypeId} {n : Nat} (h : elemA P t = some (n, e)) : P.underlying t = some (.array n e) := by
  unfold elemA at h
  split at h
  · rename_i hu; cases h; exact hu
  · cases h

theorem indexAddr_run {w0 : World} {κ : Kp} (ho : Objs w0 G w κ) {t : TypeId} {x y : Value} {d i v : D} (hx : V G w x d) (hy : V G w y i) (h : indexAddrD P κ t d i = some v) :
    ∃ z, (Instr.indexAt t x y).run P w = .ok z w ∧ V G w z v := by
  unfold indexAddrD at h
  split at h
  · rename_i k n
    have := V.of_val hy
    subst this
    split at h
    · rename_i e he
      have hu := elemS_spec he
      split at h
      · rename_i xf rows
        cases hr : at? rows n with
        | none => rw [hr] at h; cases h
        | some r =>
          rw [hr] at h
          simp only [Option.bind_some] at h
          split at h
          · rename_i hsz
            cases h
            unfold at? at hr
            split at hr
            · rename_i h0
              have hlt := (List.getElem?_eq_some_iff.1 hr).1
              cases hx with
              | nilsl => simp at hr
              | esl => simp at hr
              | sl X hn h2 h3 hF hk hc hV =>
                rename_i b off m cap k'
                have hkk := hk _ _ hr
                rw [hkk] at hsz
                refine ⟨.pointer (some ⟨b, off + n.toNat * k', none⟩), ?_, .eptr (X n.toNat) hF (fun j d hd => ?_) (fun j d hd => hV _ _ _ _ hr hd)⟩
                · have : 0 ≤ n ∧ n < m := by omega
                  simp [Instr.indexAt, asIntOf, run_underlying hu, run_sizeOf hsz, this, Addr.add_lit]
                · rw [Nat.add_assoc]; exact hc _ _ _ _ hr hd
            · cases hr
          · cases h
      · rename_i nm len
        split at h
        · rename_i t' k' rows hκ
          split at h
          · rename_i hc
            cases h
            obtain ⟨hsz, h0, hlt⟩ := hc
            obtain ⟨u, xs, hρ, hown, _⟩ := arr_shape ho hκ
            cases hx with
            | own hρ' =>
              rw [hρ'] at hρ
              cases hρ
              rcases hown.2 with ⟨hnil, hz⟩ | ⟨g, cap, cur, hv, _⟩
              · omega
              · cases hv
                refine ⟨.pointer (some ⟨g, n.toNat * k' + 0, none⟩), ?_, .aptr hρ'⟩
                simp [Instr.indexAt, asIntOf, run_underlying hu, run_sizeOf hsz, h0, hlt, Addr.add_lit]
          · cases h
        · cases h
      · cases h
    · rename_i he
      split at h
      · rename_i m e hA
        have hu := elemA_spec hA
        split at h
        · rename_i k' hsz
          split at h
          · rename_i hc
            have run : ∀ (b off : Nat), (Instr.indexAt t (.pointer (some ⟨b, off, none⟩)) (.int k n)).run P w = .ok (.pointer (some ⟨b, off + n.toNat * k', none⟩)) w := fun b off => by
              simp [Instr.indexAt, Instr.sureAddr, asIntOf, run_underlying hu, run_sizeOf hsz, hc, Addr.add_lit]
            cases hx with
            | ptr hρ => cases h; exact ⟨_, run _ _, .ptr hρ⟩
            | eptr X h0 h1 h2 =>
              cases h
              refine ⟨_, run _ _, .eptr (fun j => X (n.toNat * k' + j)) h0 (fun j d hd => ?_) (fun j d hd => ?_)⟩
              · rw [List.getElem?_drop] at hd
                rw [Nat.add_assoc]
                exact h1 _ d hd
              · rw [List.getElem?_drop] at hd
                exact h2 _ d hd
            | _ => cases h
          · cases h
        · cases h
      · cases h
  · cases h

theorem isStr_spec {t : TypeId} (h : isStr P t = true) : P.underlying t = some .string := by
  unfold isStr at h
  split at h
  · assumption
  · cases h

theorem index_run {t : TypeId} {x y : Value} {d i v : D} (hx : V G w x d) (hy : V G w y i) (h : indexD P t d i = some v) : ∃ z, (Instr.index t x y).run P w = .ok z w ∧ V G w z v := by
  unfold indexD at h
  split at h
  · rename_i k n
    have := V.of_val hy
    subst this
    split at h
    · rename_i s
      have := V.of_val hx
      subst this
      split at h
      · rename_i hc
        have hu := isStr_spec hc.1
        cases hs : s[n.toNat]? with
        | none => rw [hs] at h; cases h
        | some b =>
          rw [hs] at h
          cases h
          exact ⟨_, by simp [Instr.index, asIntOf, run_underlying hu, hc.2, hs], .val _⟩
      · cases h
    · cases h
  · cases h

theorem len_run {t ty : TypeId} {x : Value} {d v : D} (hx : V G w x d) (h : lenD P t d = some v) : ∃ z, (Builtin.len_ #[t] ty #[x]).run P w = .ok z w ∧ V G w z v := by
  unfold lenD at h
  split at h
  · rename_i s
    have := V.of_val hx
    subst this
    split at h
    · rename_i hs
      cases h
      exact ⟨_, by simp [Builtin.len_, run_underlying (isStr_spec hs)]; rfl, .val _⟩
    · cases h
  · split at h
    · rename_i hs
      obtain ⟨e, he⟩ := Option.isSome_iff_exists.1 hs
      cases h
      cases hx with
      | nilsl => exact ⟨_, by simp [Builtin.len_, run_underlying (elemS_spec he)]; rfl, .val _⟩
      | esl => exact ⟨_, by simp [Builtin.len_, run_underlying (elemS_spec he)]; rfl, .val _⟩
      | sl X hn => subst hn; exact ⟨_, by simp [Builtin.len_, run_underlying (elemS_spec he)]; rfl, .val _⟩
    · cases h
  · split at h
    · rename_i hs
      obtain ⟨e, he⟩ := Option.isSome_iff_exists.1 hs
      cases h
      cases hx with
      | own => exact ⟨_, by simp [Builtin.len_, run_underlying (elemS_spec he)]; rfl, .val _⟩
    · cases h
  · split at h
    · rename_i hs
      obtain ⟨e, he⟩ := Option.isSome_iff_exists.1 hs
      cases h
      have := V.of_val hx
      subst this
      exact ⟨_, by simp [Builtin.len_, run_underlying (elemS_spec he)]; rfl, .val _⟩
    · cases h
  · cases h

end
end Go.Ab

namespace Go.Ab
open Go Go.RowKit

section
variable {P : Program} {w : World}

theorem mapT_spec {t kt et : TypeId} (h : mapT P t = some (kt, et)) : P.underlying t = some (.map kt et) := by
  unfold mapT at h
  split at h
  · rename_i k e hu; cases h; exact hu
  · cases h

def KC.desc : KC → TypeDesc
  | .str => .string
  | .num k => .int k
  | .boo => .bool
theorem beq_bytes (a b : ByteArray) : (a == b) = true ↔ a = b := by
  rw [beq_toListBytes, ByteArray.toList_eq, ByteArray.toList_eq]
  obtain ⟨⟨x⟩⟩ := a
  obtain ⟨⟨y⟩⟩ := b
  simp
theorem KC.of_spec {t : TypeId} {c : KC} (h : KC.of P t = some c) : P.underlying t = some c.desc := by
  unfold KC.of at h
  split at h <;> cases h <;> assumption

theorem KC.fits_cases {c : KC} {v : Value} (h : c.fits v = true) : (c = .str ∧ ∃ s, v = .string s) ∨ (∃ k n, c = .num k ∧ v = .int k n) ∨ (c = .boo ∧ ∃ b, v = .bool b) := by
  cases c <;> cases v <;> simp [KC.fits] at h
  · exact .inl ⟨rfl, _, rfl⟩
  · subst h; exact .inr (.inl ⟨_, _, rfl, rfl⟩)
  · exact .inr (.inr ⟨rfl, _, rfl⟩)

open Classical in
theorem KC.eq_run {t : TypeId} {c : KC} (hc : KC.of P t = some c) (d : Nat) {a b : Value} (ha : c.fits a = true) (hb : c.fits b = true) : (Op.equalIn (d + 1) t a b).run P w = .ok (decide (a = b)) w := by
  have hu := KC.of_spec hc
  rcases KC.fits_cases ha with ⟨rfl, s, rfl⟩ | ⟨k, n, rfl, rfl⟩ | ⟨rfl, x, rfl⟩ <;> rcases KC.fits_cases hb with ⟨h, s', rfl⟩ | ⟨k', n', h, rfl⟩ | ⟨h, x', rfl⟩ <;> cases h
  · simp [Op.equalIn, run_underlying hu, KC.desc]
    rw [Bool.eq_iff_iff]; simp [beq_bytes]
  · simp [Op.equalIn, run_underlying hu, KC.desc]
    rw [Bool.eq_iff_iff]; simp
  · simp [Op.equalIn, run_underlying hu, KC.desc]
    rw [Bool.eq_iff_iff]; simp

theorem KC.agg_not {t : TypeId} {c : KC} (hc : KC.of P t = some c) : aggOf P t = some false := by
  have hu := KC.of_spec hc
  unfold aggOf
  rw [hu]
  cases c <;> rfl

theorem run_partC {t : TypeId} {c : KC} (hc : KC.of P t = some c) {xs : Array Value} {off : Nat} {v : Value} (hx : xs[off]? = some v) : (part t xs off).run P w = .ok v w := by
  simp [part, run_isAgg (KC.agg_not hc), hx]

theorem ofL_name {f : Field} {fs : List Field} {i : Nat} {l : List KC} (h : KC.ofL P (f :: fs) i = some l) : f.name ≠ "_" ∧ f.offset = i ∧ ∃ c cs, KC.of P f.type = some c ∧ KC.ofL P fs (i + 1) = some cs ∧ l = c :: cs := by
  simp only [KC.ofL] at h
  split at h
  · rename_i hc
    split at h
    · rename_i c cs h1 h2
      cases h
      exact ⟨hc.1, hc.2, c, cs, h1, h2, rfl⟩
    · cases h
  · cases h

theorem fitsL_drop {xs : List Value} {i : Nat} {c : KC} {cs : List KC} (h : KC.fitsL (c :: cs) (xs.drop i) = true) : ∃ v, xs[i]? = some v ∧ c.fits v = true ∧ KC.fitsL cs (xs.drop (i + 1)) = true ∧ xs.drop i = v :: xs.drop (i + 1) := by
  cases hd : xs.drop i with
  | nil => rw [hd] at h; simp [KC.fitsL] at h
  | cons v r =>
    rw [hd] at h
    simp only [KC.fitsL, Bool.and_eq_true] at h
    have h0 : xs[i]? = some v := by
      have := congrArg (·[0]?) hd
      simpa using this
    have hr : xs.drop (i + 1) = r := by
      have := congrArg List.tail hd
      simpa using this
    exact ⟨v, h0, h.1, by rw [hr]; exact h.2, by rw [hr]⟩

open Classical in
theorem eqFields_run (d : Nat) {xs ys : Array Value} : ∀ (fs : List Field) (i : Nat) (cs : List KC), KC.ofL P fs i = some cs → KC.fitsL cs (xs.toList.drop i) = true → KC.fitsL cs (ys.toList.drop i) = true →
    (Op.eqFields (d + 1) xs ys fs).run P w = .ok (decide (xs.toList.drop i = ys.toList.drop i)) w
  | [], i, cs, h, hx, hy => by
    simp only [KC.ofL, Option.some.injEq] at h
    subst h
    have : ∀ l : List Value, KC.fitsL [] l = true → l = [] := fun l h => by cases l with | nil => rfl | cons _ _ => simp [KC.fitsL] at h
    rw [this _ hx, this _ hy]
    simp [Op.eqFields]
  | f :: fs, i, cs, h, hx, hy => by
    obtain ⟨hn, ho, c, cs', h1, h2, rfl⟩ := ofL_name h
    obtain ⟨v, hv, fv, hx', ex⟩ := fitsL_drop hx
    obtain ⟨u, hu, fu, hy', ey⟩ := fitsL_drop hy
    have pv := run_partC (w := w) h1 (xs := xs) (off := f.offset) (v := v) (by rw [ho]; simpa using hv)
    have pu := run_partC (w := w) h1 (xs := ys) (off := f.offset) (v := u) (by rw [ho]; simpa using hu)
    have ih := eqFields_run d fs (i + 1) cs' h2 hx' hy'
    simp only [Op.eqFields, hn, ne_eq, not_false_eq_true, if_true, Sem.run_bind, pv, pu, Result.andThen_ok, KC.eq_run h1 d fv fu]
    by_cases he : v = u
    · simp only [he, decide_true, Bool.not_true, Bool.false_eq_true, if_false, ih]
      rw [ex, ey, he]
      simp
    · simp only [he, decide_false, Bool.not_false, if_true, Sem.run_pure]
      rw [ex, ey]
      simp [he]

theorem fieldsOf_eq {t : TypeId} {fs : Array Field} (h : P.underlying t = some (.struct fs)) : P.fieldsOf t = fs := by
  unfold Program.fieldsOf; rw [h]

open Classical in
theorem KS.eq_run {t : TypeId} {ks : KS} (hk : KS.of P t = some ks) {a b : Value} (ha : ks.fits a = true) (hb : ks.fits b = true) : (Op.equal t a b).run P w = .ok (decide (a = b)) w := by
  unfold KS.of at hk
  split at hk
  · rename_i fs hu
    split at hk
    · cases hk
    · rename_i hst
      obtain ⟨cs, hcs, rfl⟩ := Option.map_eq_some_iff.1 hk
      cases a with
      | agg xs =>
        cases b with
        | agg ys =>
          have := run_equalIn_struct (P := P) w 9999 t xs ys (by rw [fieldsOf_eq hu]; exact hu) (by simpa using hst)
          have h2 := eqFields_run (P := P) (w := w) 9998 (xs := xs) (ys := ys) fs.toList 0 cs hcs (by simpa [KS.fits] using ha) (by simpa [KS.fits] using hb)
          rw [fieldsOf_eq hu] at this
          unfold Op.equal Op.maxDepth
          rw [this, h2]
          congr 1
          rw [Bool.eq_iff_iff]
          simp
        | _ => simp [KS.fits] at hb
      | _ => simp [KS.fits] at ha
  · obtain ⟨c, hc, rfl⟩ := Option.map_eq_some_iff.1 hk
    exact KC.eq_run hc 9999 ha hb

open Classical in
noncomputable def firstAt (k : Value) : List MapEntry → Nat → Option (Nat × Value)
  | [], _ => none
  | e :: es, i => if k = e.key then some (i, e.val) else firstAt k es (i + 1)

theorem findAsking_run {t : TypeId} {ks : KS} (hk : KS.of P t = some ks) {k : Value} (ha : ks.fits k = true) : ∀ (es : List MapEntry) (i : Nat), (∀ e ∈ es, ks.fits e.key = true) → (Instr.findAsking t k es i).run P w = .ok (firstAt k es i) w
  | [], i, _ => by simp [Instr.findAsking, firstAt]
  | e :: es, i, h => by
    simp only [Instr.findAsking, Sem.run_bind, KS.eq_run hk ha (h e List.mem_cons_self), Result.andThen_ok, firstAt]
    by_cases he : k = e.key
    · simp [he]
    · simp only [he, decide_false, Bool.false_eq_true, if_false]
      exact findAsking_run hk ha es (i + 1) fun x hx => h x (List.mem_cons_of_mem _ hx)

theorem sameNow_one {c : KC} {t : TypeId} (hc : KC.of P t = some c) {u : TypeDesc} (hu : P.underlying t = some u) {a b : Value} (ha : c.fits a = true) (hb : c.fits b = true) : ∃ r, Instr.sameNow u a b = some r ∧ (r = true ↔ a = b) := by
  have := KC.of_spec hc
  rw [hu] at this
  cases this
  rcases KC.fits_cases ha with ⟨rfl, s, rfl⟩ | ⟨k, n, rfl, rfl⟩ | ⟨rfl, x, rfl⟩ <;> rcases KC.fits_cases hb with ⟨h, s', rfl⟩ | ⟨k', n', h, rfl⟩ | ⟨h, x', rfl⟩ <;> cases h
  · exact ⟨s == s', rfl, by simp [beq_bytes]⟩
  · exact ⟨n == n', by simp [Instr.sameNow, KC.desc], by simp⟩
  · exact ⟨x == x', rfl, by simp⟩

theorem findNow_one {c : KC} {t : TypeId} (hc : KC.of P t = some c) {u : TypeDesc} (hu : P.underlying t = some u) {k : Value} (ha : c.fits k = true) : ∀ (es : List MapEntry) (i : Nat), (∀ e ∈ es, c.fits e.key = true) → Instr.findNow u k es i = some (firstAt k es i)
  | [], i, _ => rfl
  | e :: es, i, h => by
    obtain ⟨r, h1, h2⟩ := sameNow_one hc hu ha (h e List.mem_cons_self)
    simp only [Instr.findNow, h1, firstAt]
    cases r with
    | true => rw [if_pos (h2.1 rfl)]
    | false => rw [if_neg fun e => by simpa using h2.2 e]; exact findNow_one hc hu ha es (i + 1) fun x hx => h x (List.mem_cons_of_mem _ hx)

theorem findKey_run {t : TypeId} {ks : KS} (hk : KS.of P t = some ks) {k : Value} (ha : ks.fits k = true) (es : List MapEntry) (h : ∀ e ∈ es, ks.fits e.key = true) : (Instr.findKey t k es).run P w = .ok (firstAt k es 0) w := by
  have hask := findAsking_run (w := w) hk ha es 0 h
  obtain ⟨u, hu⟩ : ∃ u, P.underlying t = some u := by
    cases hu : P.underlying t with
    | none => simp [KS.of, KC.of, hu] at hk
    | some u => exact ⟨u, rfl⟩
  simp only [Instr.findKey, Sem.run_bind, run_underlying hu, Result.andThen_ok]
  cases hn : Instr.findNow u k es 0 with
  | none => exact hask
  | some r =>
    simp only [Sem.run_pure]
    congr 1
    unfold KS.of at hk
    split at hk
    · rename_i fs hus
      rw [hus] at hu
      cases hu
      cases es with
      | nil => simpa [Instr.findNow, firstAt] using hn.symm
      | cons e es => simp [Instr.findNow, Instr.sameNow] at hn
    · obtain ⟨c, hc, rfl⟩ := Option.map_eq_some_iff.1 hk
      have := findNow_one hc hu (k := k) ha es 0 h
      rw [hn] at this
      exact Option.some.inj this

theorem checkKey_one {t : TypeId} {c : KC} (hc : KC.of P t = some c) (em : Bool) (d : Nat) (v : Value) : (Instr.checkKey em (d + 1) t v).run P w = .ok () w := by
  have hu := KC.of_spec hc
  simp only [Instr.checkKey, Sem.run_bind, run_underlying hu, Result.andThen_ok]
  cases c <;> rfl

theorem checkFields_run {em : Bool} {d : Nat} {xs : Array Value} : ∀ (fs : List Field) (i : Nat) (cs : List KC), KC.ofL P fs i = some cs → KC.fitsL cs (xs.toList.drop i) = true →
    (forIn fs PUnit.unit (fun f _ => do
      if f.name ≠ "_" then
        Instr.checkKey em (d + 1) f.type (← part f.type xs f.offset)
        pure (ForInStep.yield PUnit.unit)
      else pure (ForInStep.yield PUnit.unit)) : Sem PUnit).run P w = .ok PUnit.unit w
  | [], _, _, _, _ => rfl
  | f :: fs, i, cs, h, hx => by
    obtain ⟨hn, ho, c, cs', h1, h2, rfl⟩ := ofL_name h
    obtain ⟨v, hv, fv, hx', ex⟩ := fitsL_drop hx
    have pv := run_partC (w := w) h1 (xs := xs) (off := f.offset) (v := v) (by rw [ho]; simpa using hv)
    simp only [List.forIn_cons, hn, ne_eq, not_false_eq_true, if_true, Sem.run_bind, pv, Result.andThen_ok, checkKey_one h1, Sem.run_pure]
    exact checkFields_run fs (i + 1) cs' h2 hx'

theorem checkKey_any {t : TypeId} {ks : KS} (hk : KS.of P t = some ks) {k : Value} (ha : ks.fits k = true) (em : Bool) (d : Nat) : (Instr.checkKey em (d + 2) t k).run P w = .ok () w := by
  unfold KS.of at hk
  split at hk
  · rename_i fs hu
    split at hk
    · cases hk
    · obtain ⟨cs, hcs, rfl⟩ := Option.map_eq_some_iff.1 hk
      cases k with
      | agg xs =>
        have hx : KC.fitsL cs (xs.toList.drop 0) = true := by simpa [KS.fits] using ha
        have := checkFields_run (P := P) (w := w) (em := em) (d := d) fs.toList 0 cs hcs hx
        rw [Instr.checkKey]
        simp only [Sem.run_bind, run_underlying hu, Result.andThen_ok]
        rw [← Array.forIn_toList]
        simp only [ne_eq, ite_not, bind_pure_comp] at this ⊢
        simp at this ⊢
        rw [this]
        rfl
      | _ => simp [KS.fits] at ha
  · obtain ⟨c, hc, rfl⟩ := Option.map_eq_some_iff.1 hk
    exact checkKey_one hc em (d + 1) k
theorem checkKey_run {t : TypeId} {ks : KS} (hk : KS.of P t = some ks) {k : Value} (ha : ks.fits k = true) (em : Bool) : (Instr.checkKey em 10000 t k).run P w = .ok () w := checkKey_any hk ha em 9998

end
end Go.Ab

namespace Go.Ab
open Go Go.RowKit
section
variable {P : Program} {G : Gh} {w : World}

theorem valsD_spec : ∀ {ds : List D} {vs : List Value}, valsD ds = some vs → ds = vs.map .val
  | [], vs, h => by simp only [valsD, Option.some.injEq] at h; subst h; rfl
  | d :: r, vs, h => by
    cases d with
    | val v =>
      simp only [valsD, Option.map_eq_some_iff] at h
      obtain ⟨l, hl, rfl⟩ := h
      rw [valsD_spec hl]; rfl
    | _ => cases h

theorem keyD_spec {y k : Value} {i : D} (hy : V G w y i) (h : keyD i = some k) : y = k := by
  cases i with
  | val v => cases h; exact V.of_val hy
  | agg ds =>
    simp only [keyD, Option.map_eq_some_iff] at h
    obtain ⟨vs, hvs, rfl⟩ := h
    have := valsD_spec hvs
    subst this
    cases hy with
    | agg hsz hV =>
      congr 1
      apply Array.ext
      · simpa using hsz
      · intro i h1 h2
        have := V.of_val (hV i _ (.val vs[i]) (Array.getElem?_eq_getElem h1) (by simp at h2; simp [h2]))
        simpa using this
  | _ => cases h

open Classical in
theorem first_some {k : Value} : ∀ {l : List MapEntry} {j p : Nat} {v : Value}, firstAt k l j = some (p, v) → ∃ i m, p = j + i ∧ l[i]? = some m ∧ m.val = v ∧ m.key = k ∧ ∀ i' m', i' < i → l[i']? = some m' → m'.key ≠ k
  | [], _, _, _, h => by simp [firstAt] at h
  | e :: es, j, p, v, h => by
    simp only [firstAt] at h
    split at h
    · rename_i he
      cases h
      exact ⟨0, e, rfl, rfl, rfl, he.symm, fun i' _ hi => absurd hi (Nat.not_lt_zero _)⟩
    · rename_i he
      obtain ⟨i, m, h1, h2, h3, h4, h5⟩ := first_some h
      refine ⟨i + 1, m, by omega, by simpa using h2, h3, h4, fun i' m' hi hm => ?_⟩
      cases i' with
      | zero => simp only [List.getElem?_cons_zero, Option.some.injEq] at hm; subst hm; exact fun e => he e.symm
      | succ i' => exact h5 i' m' (by omega) (by simpa using hm)

open Classical in
theorem first_none {k : Value} : ∀ {l : List MapEntry} {j : Nat}, firstAt k l j = none → ∀ m ∈ l, m.key ≠ k
  | [], _, _, m, hm => by cases hm
  | e :: es, j, h, m, hm => by
    simp only [firstAt] at h
    split at h
    · cases h
    · rename_i he
      rcases List.mem_cons.1 hm with rfl | hm
      · exact fun e => he e.symm
      · exact first_none h m hm

open Classical in
theorem mget_at {k : Value} {d : D} : ∀ {es : List (Value × D)} {i : Nat}, es[i]? = some (k, d) → (∀ i' e, i' < i → es[i']? = some e → e.1 ≠ k) → mget es k = some d
  | [], i, h, _ => by simp at h
  | (k', d') :: r, i, h, hn => by
    simp only [mget]
    cases i with
    | zero => cases h; rw [if_pos rfl]
    | succ i =>
      rw [if_neg (hn 0 _ (Nat.succ_pos _) rfl)]
      exact mget_at (by simpa using h) fun i' e hi he => hn (i' + 1) e (by omega) (by simpa using he)
open Classical in
theorem mget_none {k : Value} : ∀ {es : List (Value × D)}, (∀ e ∈ es, e.1 ≠ k) → mget es k = none
  | [], _ => rfl
  | (k', d') :: r, hn => by
    simp only [mget]
    rw [if_neg (hn (k', d') List.mem_cons_self)]
    exact mget_none fun e he => hn e (List.mem_cons_of_mem _ he)
open Classical in
theorem mput_at {k : Value} {d d' : D} : ∀ {es : List (Value × D)} {i : Nat}, es[i]? = some (k, d') → (∀ i' e, i' < i → es[i']? = some e → e.1 ≠ k) → mput es k d = es.set i (k, d)
  | [], i, h, _ => by simp at h
  | (k', d0) :: r, i, h, hn => by
    simp only [mput]
    cases i with
    | zero => cases h; rw [if_pos rfl]; rfl
    | succ i =>
      rw [if_neg (hn 0 _ (Nat.succ_pos _) rfl)]
      rw [mput_at (d' := d') (by simpa using h) fun i' e hi he => hn (i' + 1) e (by omega) (by simpa using he)]
      rfl
open Classical in
theorem mput_new {k : Value} {d : D} : ∀ {es : List (Value × D)}, (∀ e ∈ es, e.1 ≠ k) → mput es k d = es ++ [(k, d)]
  | [], _ => rfl
  | (k', d') :: r, hn => by
    simp only [mput]
    rw [if_neg (hn (k', d') List.mem_cons_self), mput_new fun e he => hn e (List.mem_cons_of_mem _ he)]
    rfl

/-- The entries of a map block, and what they denote. -/
def MV (G : Gh) (w : World) (ks : KS) (ms : Array MapEntry) (es : List (Value × D)) : Prop :=
  ms.size = es.length ∧ (∀ (i : Nat) m, ms[i]? = some m → ks.fits m.key = true) ∧ (∀ (i : Nat) m e, ms[i]? = some m → es[i]? = some e → m.key = e.1) ∧ ∀ (i : Nat) m e, ms[i]? = some m → es[i]? = some e → V G w m.val e.2

theorem MV.fits {ks : KS} {ms : Array MapEntry} {es : List (Value × D)} (h : MV G w ks ms es) : ∀ e ∈ ms.toList, ks.fits e.key = true := fun e he => by
  obtain ⟨i, hi, rfl⟩ := List.mem_iff_getElem.1 he
  exact h.2.1 i _ (by simp at hi; simp [hi])

theorem MV.key {ks : KS} {ms : Array MapEntry} {es : List (Value × D)} (h : MV G w ks ms es) {i : Nat} {m : MapEntry} (hm : ms.toList[i]? = some m) : ∃ e, es[i]? = some e ∧ m.key = e.1 ∧ V G w m.val e.2 := by
  have hm' : ms[i]? = some m := by simpa using hm
  have hi : i < es.length := by rw [← h.1]; exact (Array.getElem?_eq_some_iff.1 hm').1
  exact ⟨es[i], List.getElem?_eq_getElem hi, h.2.2.1 i m _ hm' (List.getElem?_eq_getElem hi), h.2.2.2 i m _ hm' (List.getElem?_eq_getElem hi)⟩
theorem MV.ent {ks : KS} {ms : Array MapEntry} {es : List (Value × D)} (h : MV G w ks ms es) {i : Nat} {e : Value × D} (he : es[i]? = some e) : ∃ m, ms.toList[i]? = some m ∧ m.key = e.1 ∧ V G w m.val e.2 := by
  have hi : i < ms.size := by rw [h.1]; exact (List.getElem?_eq_some_iff.1 he).1
  exact ⟨ms[i], by simp [hi], h.2.2.1 i _ e (by simp [hi]) he, h.2.2.2 i _ e (by simp [hi]) he⟩

theorem MV.find {ks : KS} {ms : Array MapEntry} {es : List (Value × D)} (h : MV G w ks ms es) (k : Value) :
    (firstAt k ms.toList 0 = none ∧ mget es k = none ∧ ∀ e ∈ es, e.1 ≠ k) ∨ ∃ i m d, firstAt k ms.toList 0 = some (i, m.val) ∧ ms[i]? = some m ∧ m.key = k ∧ es[i]? = some (k, d) ∧ mget es k = some d ∧ V G w m.val d ∧ ∀ i' e, i' < i → es[i']? = some e → e.1 ≠ k := by
  cases hf : firstAt k ms.toList 0 with
  | none =>
    have hn : ∀ e ∈ es, e.1 ≠ k := fun e he => by
      obtain ⟨i, hi, rfl⟩ := List.mem_iff_getElem.1 he
      obtain ⟨m, hm, hk, _⟩ := h.ent (List.getElem?_eq_getElem hi)
      rw [← hk]
      exact first_none hf m (List.mem_of_getElem? hm)
    exact .inl ⟨rfl, mget_none hn, hn⟩
  | some p =>
    obtain ⟨p, v⟩ := p
    obtain ⟨i, m, h1, h2, rfl, h4, h5⟩ := first_some hf
    obtain rfl : p = i := by omega
    obtain ⟨⟨k', d⟩, he, hk, hV⟩ := h.key h2
    simp only at hk hV
    obtain rfl : k' = k := hk.symm.trans h4
    have hlt : ∀ i' e, i' < p → es[i']? = some e → e.1 ≠ k' := fun i' e hi he' => by
      obtain ⟨m', hm', hk', _⟩ := h.ent he'
      rw [← hk']
      exact h5 i' m' hi hm'
    exact .inr ⟨p, m, d, rfl, by simpa using h2, h4, he, mget_at he hlt, hV, hlt⟩

theorem lookD_run {t kt et : TypeId} {ks : KS} {ms : Array MapEntry} {clock r : Nat} {es : List (Value × D)} {k : Value} {ok : Bool} {v : D} (ht : P.underlying t = some (.map kt et)) (hks : KS.of P kt = some ks) (hk : ks.fits k = true)
    (hh : w.heap[r]? = some (.map ms clock)) (hm : MV G w ks ms es) (h : lookD P et ok (mget es k) = some v) : ∃ z, (Instr.lookup t (.map (some r)) k ok).run P w = .ok z w ∧ V G w z v := by
  have hc := checkKey_run (P := P) (w := w) hks hk ms.isEmpty
  have hf := findKey_run (P := P) (w := w) hks hk ms.toList hm.fits
  have pair : ∀ (x : Value) (d : D) (b : Bool), V G w x d → V G w (if ok then .tuple #[x, .bool b] else x) (okD ok d b) := fun x d b hV => by
    unfold okD
    cases ok with
    | false => exact hV
    | true =>
      refine .tup rfl fun i c d' hc hd => ?_
      match i, hc, hd with
      | 0, hc, hd => cases hc; cases hd; exact hV
      | 1, hc, hd => cases hc; cases hd; exact .val _
      | i + 2, hc, hd => simp at hd
  rcases hm.find k with ⟨h1, h2, _⟩ | ⟨i, m, d, h1, h2, h3, h4, h5, h6, _⟩
  · rw [h2] at h
    obtain ⟨z, hz, rfl⟩ := Option.map_eq_some_iff.1 h
    refine ⟨_, ?_, pair z (ofV z) false (V.ofV G w z)⟩
    simp only [Instr.lookup, Sem.run_bind, run_underlying ht, Result.andThen_ok, MapKept.run_getObj_map hh, Sem.run_pure, hc, hf, h1, run_zeroValue hz]
  · rw [h5] at h
    cases h
    refine ⟨_, ?_, pair m.val d true h6⟩
    simp only [Instr.lookup, Sem.run_bind, run_underlying ht, Result.andThen_ok, MapKept.run_getObj_map hh, Sem.run_pure, hc, hf, h1]

theorem lookup_run {w0 : World} {κ : Kp} (ho : Objs w0 G w κ) {t : TypeId} {x y : Value} {d i v : D} {ok : Bool} (hx : V G w x d) (hy : V G w y i) (h : lookupD P κ t d i ok = some v) : ∃ z, (Instr.lookup t x y ok).run P w = .ok z w ∧ V G w z v := by
  unfold lookupD at h
  split at h
  · rename_i kt et hmt
    have ht := mapT_spec hmt
    split at h
    · rename_i ks k hks hkd
      obtain rfl := keyD_spec hy hkd
      split at h
      · rename_i hfit
        split at h
        · rename_i ks' es hmo
          split at h
          · rename_i hke
            subst hke
            unfold mapOf at hmo
            split at hmo
            · rename_i n
              split at hmo
              · rename_i ks2 es2 hκ
                cases hmo
                obtain ⟨u, hρ, ⟨r, ms, clock, rfl, hh, hmv⟩, _⟩ := ho.ob n _ hκ
                cases hx with
                | mref hρ' =>
                  rw [hρ] at hρ'
                  cases hρ'
                  exact lookD_run ht hks hfit hh hmv h
              · cases hmo
            · cases hmo
              cases hx with
              | fmap ms clock hF hh h1 h2 h3 h4 => exact lookD_run ht hks hfit hh ⟨h1, h2, h3, h4⟩ h
            · cases hmo
          · cases h
        · split at h
          · have := V.of_val hx
            subst this
            obtain ⟨z, hz, rfl⟩ := Option.map_eq_some_iff.1 h
            have hc := checkKey_run (P := P) (w := w) hks hfit true
            have hf := findKey_run (P := P) (w := w) hks hfit [] (by simp)
            refine ⟨if ok then .tuple #[z, .bool false] else z, ?_, ?_⟩
            · simp only [Instr.lookup, Sem.run_bind, run_underlying ht, Result.andThen_ok, Sem.run_pure, Array.isEmpty_empty, hc, hf, firstAt, run_zeroValue hz]
            · unfold okD
              cases ok with
              | false => exact V.ofV G w z
              | true =>
                refine .tup rfl fun i c d' hc hd => ?_
                match i, hc, hd with
                | 0, hc, hd => cases hc; cases hd; exact V.ofV G w z
                | 1, hc, hd => cases hc; cases hd; exact .val _
                | i + 2, hc, hd => simp at hd
          · cases h
      · cases h
    · cases h
  · cases h

theorem lenM_run {w0 : World} {κ : Kp} (ho : Objs w0 G w κ) {t ty : TypeId} {x : Value} {d v : D} (hx : V G w x d) (h : lenM P κ t d = some v) : ∃ z, (Builtin.len_ #[t] ty #[x]).run P w = .ok z w ∧ V G w z v := by
  unfold lenM at h
  split at h
  · rename_i ks es hmo
    split at h
    · rename_i hmt
      obtain ⟨⟨kt, et⟩, hmt⟩ := Option.isSome_iff_exists.1 hmt
      have ht := mapT_spec hmt
      cases h
      have fin : ∀ r (ms : Array MapEntry) clock, w.heap[r]? = some (.map ms clock) → ms.size = es.length → ∃ z, (Builtin.len_ #[t] ty #[.map (some r)]).run P w = .ok z w ∧ V G w z (.val (.int .i64 es.length)) := fun r ms clock hh hs => by
        refine ⟨.int .i64 es.length, ?_, .val _⟩
        rw [← hs]
        simp [Builtin.len_, run_underlying ht, MapKept.run_getObj_map hh]
        rfl
      unfold mapOf at hmo
      split at hmo
      · rename_i n
        split at hmo
        · rename_i ks2 es2 hκ
          cases hmo
          obtain ⟨u, hρ, ⟨r, ms, clock, rfl, hh, hmv⟩, _⟩ := ho.ob n _ hκ
          cases hx with
          | mref hρ' =>
            rw [hρ] at hρ'
            cases hρ'
            exact fin r ms clock hh hmv.1
        · cases hmo
      · cases hmo
        cases hx with
        | fmap ms clock hF hh h1 h2 h3 h4 => exact fin _ ms clock hh h1
      · cases hmo
    · cases h
  · exact len_run hx h

end
end Go.Ab
