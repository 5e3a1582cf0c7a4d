/- A part of the proof, under no conditions of its own: ZAA. -/
import Derived.Calls
import Derived.Tactics
import Derived.Laws.AppendOwn
import Derived.Below
import Derived.Orders
import Derived.Laws.AppendOwnNone
import Derived.RangeFuncBound
import Derived.RangeFuncNested
import Derived.OrdersIn
import Derived.TacticsIn
import Derived.Laws.BytesArg
namespace Go.Ab
open Go Go.RowKit

theorem viewStore_drawn {p : Program} {w w' : World} {at_ k : Addr} {u : TypeId} {v : Value} {b : Bool} {l : List Addr} (h : w.viewStore p at_ u k v b = .ok (w', l)) : w'.drawn = w.drawn := by
  unfold World.viewStore at h
  simp only [bind, Except.bind, pure, Except.pure] at h
  repeat' (split at h)
  all_goals first | (cases h; done) | (cases h; rfl)

theorem ask_drawn {α : Type} : ∀ (a : Ask α) (w : World), w.drawn ≤ (w.ask a).2.drawn
  | .done a, w => Nat.le_refl _
  | .ask what range k, w => by
    simp only [World.ask]
    split
    · exact ask_drawn (k 0) w
    · exact Nat.le_trans (Nat.le_succ _) (ask_drawn (k _) { w with drawn := w.drawn + 1 })

theorem sys_drawn (w : World) (c : Sys) : w.drawn ≤ (w.sys c).2.drawn := by
  have h := ask_drawn (Kernel.perform c w.os) w
  unfold World.sys
  generalize w.ask (Kernel.perform c w.os) = r at h
  split
  · exact Nat.le_refl _
  · exact h

theorem run_drawn {α : Type} {P : Program} : ∀ (m : Sem α) (w w' : World) (v : α), m.run P w = .ok v w' → w.drawn ≤ w'.drawn
  | .pure a, w, w', v, h => by
    simp only [Sem.run] at h
    cases h
    exact Nat.le_refl _
  | .load m a k, w, w', v, h => by
    simp only [Sem.run] at h
    split at h
    · exact run_drawn _ _ _ _ h
    · split at h
      · exact run_drawn _ _ _ _ h
      · cases h
  | .store m a (.agg x) k, w, w', v, h => by simp [Sem.run] at h
  | .store m a (.tuple x) k, w, w', v, h => by simp [Sem.run] at h
  | .store m a x k, w, w', v, h => by
    by_cases hx : (∃ y, x = .agg y) ∨ ∃ y, x = .tuple y
    · rcases hx with ⟨y, rfl⟩ | ⟨y, rfl⟩ <;> simp [Sem.run] at h
    · have e : (Sem.store m a x k).run P w = (match w.cell? a with
        | some _ => if w.frozen? a then .halt (.unsupported (.unsafePointer "a write to bytes that a string shares")) w else k.run P (w.setCell a x)
        | none => match w.farStore P a x (m == .atomic) with
          | .ok (w, _) => k.run P w
          | .error h => .halt h w) := by
        cases x <;> first | rfl | (exfalso; exact hx (.inl ⟨_, rfl⟩)) | (exfalso; exact hx (.inr ⟨_, rfl⟩))
      rw [e] at h
      split at h
      · split at h
        · cases h
        · exact run_drawn k (w.setCell a x) w' v h
      · split at h
        · rename_i w2 l hf
          have : w2.drawn = w.drawn := by
            unfold World.farStore at hf
            split at hf
            · split at hf
              · rename_i r hr
                cases hf
                exact viewStore_drawn hr
              · cases hf
            · cases hf
          rw [← this]
          exact run_drawn k w2 w' v h
        · cases h
  | .new o k, w, w', v, h => by
    simp only [Sem.run] at h
    exact run_drawn (k w.heap.size) { w with heap := w.heap.push o } w' v h
  | .shape r k, w, w', v, h => by
    simp only [Sem.run] at h
    exact run_drawn _ _ _ _ h
  | .freeze a n k, w, w', v, h => by
    simp only [Sem.run] at h
    have e : (w.freeze a n).drawn = w.drawn := by unfold World.freeze; split <;> rfl
    rw [← e]
    exact run_drawn _ _ _ _ h
  | .frozen a k, w, w', v, h => by
    simp only [Sem.run] at h
    exact run_drawn _ _ _ _ h
  | .getObj r k, w, w', v, h => by
    simp only [Sem.run] at h
    split at h
    · cases h
    · exact run_drawn _ _ _ _ h
    · cases h
  | .setObj r o k, w, w', v, h => by
    simp only [Sem.run] at h
    split at h
    · cases h
    · exact run_drawn k { w with heap := w.heap.setIfInBounds r o } w' v h
    · cases h
  | .choose q k, w, w', v, h => by
    simp only [Sem.run] at h
    split at h
    · exact run_drawn _ _ _ _ h
    · exact Nat.le_trans (Nat.le_succ _) (run_drawn (k _) { w with drawn := w.drawn + 1 } w' v h)
  | .sys c k, w, w', v, h => by
    simp only [Sem.run] at h
    exact Nat.le_trans (sys_drawn w c) (run_drawn _ _ _ _ h)
  | .program k, w, w', v, h => by
    simp only [Sem.run] at h
    exact run_drawn _ _ _ _ h
  | .mark _ k, w, w', v, h => by
    simp only [Sem.run] at h
    exact run_drawn _ _ _ _ h
  | .halt h0, w, w', v, h => by
    simp only [Sem.run] at h
    cases h

/-- Only what lies above a line has turned, and no draw has been taken back. -/
structure Bel (B : Nat) (w w' : World) : Prop extends Below B w w' where
  drawn : w.drawn ≤ w'.drawn
theorem Bel.refl (B : Nat) (w : World) : Bel B w w := ⟨Below.refl B w, Nat.le_refl _⟩
theorem Bel.draw {B : Nat} {a w : World} (h : Bel B a w) : Bel B a w.drew := ⟨h.toBelow.drew, Nat.le_succ_of_le h.drawn⟩
theorem Bel.more {B : Nat} {a w : World} (h : Bel B a w) (hB : B ≤ w.heap.size) (o : Obj) : Bel B a (w.alloc o) := ⟨h.toBelow.alloc hB o, h.drawn⟩
/-- Grown, and no draw taken back. -/
structure Gr (w w' : World) (row : Option Nat) : Prop extends World.grownBy w w' row where
  drawn : w.drawn ≤ w'.drawn

theorem Gr.of {w w' : World} {row : Option Nat} (h : w.grownBy w' row) (hd : w.drawn ≤ w'.drawn := by first | exact Nat.le_refl _ | exact Nat.le_succ _) : Gr w w' row := ⟨h, hd⟩
theorem gr_alloc (w : World) (o : Obj) : Gr w (w.alloc o) none := ⟨World.grownBy_alloc w o none, Nat.le_refl _⟩
end Go.Ab

namespace Go.Ab
open Go Go.RowKit

/-- The name of an object that may still be written. -/
structure Nm where
  g : Nat
  i : Nat
  j : Nat
  deriving DecidableEq

/-- The kinds of keys of maps: a plain one, or a struct of plain ones. -/
inductive KC where
  | str
  | num (k : IntKind)
  | boo
  deriving DecidableEq
inductive KS where
  | one (c : KC)
  | agg (cs : List KC)
  deriving DecidableEq
def KC.fits : KC → Value → Bool
  | .str, .string _ => true
  | .num k, .int k' _ => decide (k = k')
  | .boo, .bool _ => true
  | _, _ => false
def KC.fitsL : List KC → List Value → Bool
  | [], [] => true
  | c :: cs, v :: vs => c.fits v && KC.fitsL cs vs
  | _, _ => false
def KS.fits : KS → Value → Bool
  | .one c, v => c.fits v
  | .agg cs, .agg vs => KC.fitsL cs vs.toList
  | _, _ => false

/-- What a value denotes. 'sl': a slice whose cells are never written again ('x': its capacity is its length). 'own': a whole array of the call's own. -/
inductive D where
  | any
  | unk
  | val (v : Value)
  | agg (cs : List D)
  | tup (vs : List D)
  | sl (x : Bool) (rows : List D)
  | own (n : Nm) (len : Nat)
  | osl (n : Nm) (k off len : Nat)
  | ptr (n : Nm) (off : Nat)
  | aptr (n : Nm) (k i j : Nat)
  | eptr (cs : List D)
  | mref (n : Nm)
  | yld (n : Nm)
  | fmap (ks : KS) (es : List (Value × D))
  | fms (ms : Array MapEntry) (clock : Nat)
  | func (fn : Fn) (first captured : List D)
  | iface (t : TypeId) (v : D)
  deriving Inhabited

def D.cells : D → List D
  | .agg cs => cs
  | d => [d]

/-- One cell, and known. -/
def D.one : D → Bool
  | .any | .agg _ | .tup _ => false
  | .val v => v.oneCell'
  | _ => true

inductive Ob where
  | box (t : TypeId) (cs : List D)
  | arr (t : TypeId) (k : Nat) (rows : List D)
  | map (ks : KS) (es : List (Value × D))
  | iter (ks : KS) (es : List (Value × D)) (pre : List Nat)
  | loop (rc : Loop) (env : List (Nat × D))

abbrev Sto := List (Nm × Ob)

def get : Sto → Nm → Option Ob
  | [], _ => none
  | (m, o) :: r, n => if m = n then some o else get r n

structure Gh where
  F : Nat → Prop
  ρ : Nm → Option Value
  top : Nat
  base : Nat

def lk : List (Nat × D) → Nat → Option D
  | [], _ => none
  | (k, d) :: r, t => if k = t then some d else lk r t

/-- The stamps of a map's entries: no two alike, all below the clock. -/
def Born (ms : Array MapEntry) (clock : Nat) : Prop := (ms.toList.map (·.born)).Nodup ∧ ∀ m ∈ ms.toList, m.born < clock

inductive V (G : Gh) (w : World) : Value → D → Prop
  | any (v : Value) : V G w v .any
  | unk (b : Bool) : V G w (.bool b) .unk
  | val (v : Value) : V G w v (.val v)
  | agg {cs : Array Value} {ds : List D} : cs.size = ds.length → (∀ (i : Nat) c d, cs[i]? = some c → ds[i]? = some d → V G w c d) → V G w (.agg cs) (.agg ds)
  | tup {cs : Array Value} {ds : List D} : cs.size = ds.length → (∀ (i : Nat) c d, cs[i]? = some c → ds[i]? = some d → V G w c d) → V G w (.tuple cs) (.tup ds)
  | nilsl (x : Bool) : V G w (.slice none 0 0) (.sl x [])
  | esl (a : Addr) (x : Bool) : V G w (.slice (some a) 0 0) (.sl x [])
  | sl {b off n cap : Nat} {x : Bool} {rows : List D} {k : Nat} (X : Nat → Nat → Value) : n = rows.length → (x = true → cap = n) → n ≤ cap → G.F b →
      (∀ (i : Nat) r, rows[i]? = some r → r.cells.length = k) →
      (∀ (i : Nat) r (j : Nat) d, rows[i]? = some r → r.cells[j]? = some d → w.cell? ⟨b, off + (i * k + j), none⟩ = some (X i j)) →
      (∀ (i : Nat) r (j : Nat) d, rows[i]? = some r → r.cells[j]? = some d → V G w (X i j) d) → V G w (.slice (some ⟨b, off, none⟩) n cap) (.sl x rows)
  | own {n : Nm} {a : Option Addr} {len cap : Nat} : G.ρ n = some (.slice a len cap) → V G w (.slice a len cap) (.own n len)
  | osl {n : Nm} {b k off len cap L C : Nat} {a : Addr} : G.ρ n = some (.slice (some ⟨b, 0, none⟩) L C) → off + cap = C → len ≤ cap → (0 < cap → a = ⟨b, off * k, none⟩) → V G w (.slice (some a) len cap) (.osl n k off len)
  | ptr {n : Nm} {b off : Nat} : G.ρ n = some (.pointer (some ⟨b, 0, none⟩)) → V G w (.pointer (some ⟨b, off, none⟩)) (.ptr n off)
  | aptr {n : Nm} {b len cap k i j : Nat} : G.ρ n = some (.slice (some ⟨b, 0, none⟩) len cap) → V G w (.pointer (some ⟨b, i * k + j, none⟩)) (.aptr n k i j)
  | eptr {b off : Nat} {cs : List D} (X : Nat → Value) : G.F b → (∀ (j : Nat) d, cs[j]? = some d → w.cell? ⟨b, off + j, none⟩ = some (X j)) →
      (∀ (j : Nat) d, cs[j]? = some d → V G w (X j) d) → V G w (.pointer (some ⟨b, off, none⟩)) (.eptr cs)
  | mref {n : Nm} {r : Nat} : G.ρ n = some (.map (some r)) → V G w (.map (some r)) (.mref n)
  | yld {n : Nm} {l : Nat} : G.ρ n = some (.pointer (some ⟨l, 0, none⟩)) → V G w (.func (.yield l) #[] #[]) (.yld n)
  | fmap {r : Nat} {ks : KS} {es : List (Value × D)} (ms : Array MapEntry) (clock : Nat) : G.F r → w.heap[r]? = some (.map ms clock) → Born ms clock → ms.size = es.length → (∀ (i : Nat) m, ms[i]? = some m → ks.fits m.key = true) →
      (∀ (i : Nat) m e, ms[i]? = some m → es[i]? = some e → m.key = e.1) → (∀ (i : Nat) m e, ms[i]? = some m → es[i]? = some e → V G w m.val e.2) → V G w (.map (some r)) (.fmap ks es)
  | fms {r : Nat} {ms : Array MapEntry} {clock : Nat} : G.F r → w.heap[r]? = some (.map ms clock) → V G w (.map (some r)) (.fms ms clock)
  | func {fn : Fn} {first captured : Array Value} {fs cs : List D} : first.size = fs.length → captured.size = cs.length →
      (∀ (i : Nat) c d, first[i]? = some c → fs[i]? = some d → V G w c d) → (∀ (i : Nat) c d, captured[i]? = some c → cs[i]? = some d → V G w c d) → V G w (.func fn first captured) (.func fn fs cs)
  | iface {t : TypeId} {v : Value} {d : D} : V G w v d → V G w (.iface t v) (.iface t d)

theorem V.mono {G G' : Gh} {w w' : World} {v : Value} {d : D} (h : V G w v d) (hF : ∀ b, G.F b → G'.F b) (hw : ∀ b, G.F b → w'.heap[b]? = w.heap[b]?)
    (hρ : ∀ n v, G.ρ n = some v → G'.ρ n = some v) : V G' w' v d := by
  induction h with
  | any v => exact .any v
  | unk b => exact .unk b
  | val v => exact .val v
  | agg h1 _ ih => exact .agg h1 ih
  | tup h1 _ ih => exact .tup h1 ih
  | nilsl x => exact .nilsl x
  | esl a x => exact .esl a x
  | sl X h1 h2 h3 h4 h5 h6 _ ih =>
    exact .sl X h1 h2 h3 (hF _ h4) h5 (fun i r j d hi hj => (World.cell?_of_block (hw _ h4)).trans (h6 i r j d hi hj)) ih
  | own h1 => exact .own (hρ _ _ h1)
  | osl h1 h2 h3 h4 => exact .osl (hρ _ _ h1) h2 h3 h4
  | ptr h1 => exact .ptr (hρ _ _ h1)
  | aptr h1 => exact .aptr (hρ _ _ h1)
  | eptr X h1 h2 _ ih => exact .eptr X (hF _ h1) (fun j d hj => (World.cell?_of_block (hw _ h1)).trans (h2 j d hj)) ih
  | mref h1 => exact .mref (hρ _ _ h1)
  | yld h1 => exact .yld (hρ _ _ h1)
  | fmap ms clock h1 h2 hb h3 h4 h5 _ ih => exact .fmap ms clock (hF _ h1) ((hw _ h1).trans h2) hb h3 h4 h5 ih
  | fms h1 h2 => exact .fms (hF _ h1) ((hw _ h1).trans h2)
  | func h1 h2 _ _ ih1 ih2 => exact .func h1 h2 ih1 ih2
  | iface _ ih => exact .iface ih

theorem V.one {G : Gh} {w : World} {v : Value} {d : D} (h : V G w v d) (h1 : d.one = true) : v.oneCell' = true := by
  cases h <;> simp_all [D.one, Value.oneCell']

theorem V.of_val {G : Gh} {w : World} {v u : Value} (h : V G w v (.val u)) : v = u := by cases h; rfl

/-- The block that a location lies in. -/
def blk : Value → Option Nat
  | .pointer (some a) => some a.block
  | .slice (some a) _ _ => some a.block
  | .map (some r) => some r
  | _ => none

abbrev Kp := Nm → Option Ob

def OV (w0 : World) (G : Gh) (w : World) (v : Value) : Ob → Prop
  | .box t cs => ∃ b c, v = .pointer (some ⟨b, 0, none⟩) ∧ w.heap[b]? = some (.cells c t (0, 0)) ∧ c.size = cs.length ∧ ∀ (i : Nat) x d, c[i]? = some x → cs[i]? = some d → V G w x d
  | .arr t k rows => ∃ xs, w.ownsRow w0.heap.size t k v rows.length xs ∧ ∀ (i : Nat) r, rows[i]? = some r → r.cells.length = k ∧ ∀ (j : Nat) d, r.cells[j]? = some d → ∃ x, xs[i * k + j]? = some x ∧ V G w x d
  | .map ks es => ∃ r ms clock, v = .map (some r) ∧ w.heap[r]? = some (.map ms clock) ∧ Born ms clock ∧ ms.size = es.length ∧ (∀ (i : Nat) m, ms[i]? = some m → ks.fits m.key = true) ∧
      (∀ (i : Nat) m e, ms[i]? = some m → es[i]? = some e → m.key = e.1) ∧ ∀ (i : Nat) m e, ms[i]? = some m → es[i]? = some e → V G w m.val e.2
  | .iter ks es pre => ∃ r m ms clock seen, v = .pointer (some ⟨r, 0, none⟩) ∧ w.heap[r]? = some (.mapIter (some m) clock seen clock) ∧ V G w (.map (some m)) (.fms ms clock) ∧ Born ms clock ∧ ms.size = es.length ∧ (∀ (i : Nat) m, ms[i]? = some m → ks.fits m.key = true) ∧
      (∀ (i : Nat) m e, ms[i]? = some m → es[i]? = some e → m.key = e.1) ∧ (∀ (i : Nat) m e, ms[i]? = some m → es[i]? = some e → V G w m.val e.2) ∧ (∀ (i : Nat) m, ms[i]? = some m → (seen.contains m.born = true ↔ i ∈ pre)) ∧ ∀ (i : Nat) m, pre.getLast? = some i → ms[i]? = some m → seen.back? = some m.born
  | .loop rc env => ∃ l, v = .pointer (some ⟨l, 0, none⟩) ∧ w.heap[l]? = some (.loop rc) ∧ ∀ t d, lk env t = some d → t < rc.tmps.size ∧ V G w (rc.tmps.getD t undef) d

structure WF (w0 : World) (G : Gh) (w : World) : Prop where
  below : Bel w0.heap.size w0 w
  old : ∀ b, b < w0.heap.size → G.F b
  lt : ∀ b, G.F b → b < w.heap.size
  nm : ∀ n v, G.ρ n = some v → n.g < G.top ∧ ∀ b, blk v = some b → w0.heap.size ≤ b ∧ b < w.heap.size

structure Objs (w0 : World) (G : Gh) (w : World) (κ : Kp) : Prop where
  ob : ∀ n o, κ n = some o → ∃ v, G.ρ n = some v ∧ OV w0 G w v o ∧ ∀ b, blk v = some b → ¬ G.F b
  ne : ∀ n m o o' v v' b, κ n = some o → κ m = some o' → n ≠ m → G.ρ n = some v → G.ρ m = some v' → blk v = some b → blk v' ≠ some b

def Blk (G : Gh) (κ : Kp) (b : Nat) : Prop := ∃ n o v, κ n = some o ∧ G.ρ n = some v ∧ blk v = some b

/-- From one moment to a later one. 'R': the names that may be given meanwhile although they are old ones. -/
structure Step (R : Nm → Prop) (G : Gh) (w : World) (κ : Kp) (G' : Gh) (w' : World) (κ' : Kp) : Prop where
  size : w.heap.size ≤ w'.heap.size
  heap : ∀ b, b < w.heap.size → ¬ Blk G κ b → w'.heap[b]? = w.heap[b]?
  F : ∀ b, G.F b → G'.F b
  F' : ∀ b, G'.F b → G.F b ∨ w.heap.size ≤ b ∨ Blk G κ b
  ρ : ∀ n v, G.ρ n = some v → G'.ρ n = some v
  ρ' : ∀ n, n.g < G.top → G.ρ n = none → ¬ R n → G'.ρ n = none
  top : G.top ≤ G'.top
  blk' : ∀ b, Blk G' κ' b → w.heap.size ≤ b ∨ Blk G κ b
  dom : ∀ n, κ' n ≠ none → κ n ≠ none ∨ G.ρ n = none
  base : G'.base = G.base

theorem Step.refl (R : Nm → Prop) (G : Gh) (w : World) (κ : Kp) : Step R G w κ G w κ :=
  ⟨Nat.le_refl _, fun _ _ _ => rfl, fun _ h => h, fun _ h => .inl h, fun _ _ h => h, fun _ _ h _ => h, Nat.le_refl _, fun _ h => .inr h, fun _ h => .inl h, rfl⟩

theorem Step.trans {R : Nm → Prop} {G1 G2 G3 : Gh} {w1 w2 w3 : World} {κ1 κ2 κ3 : Kp} (h : Step R G1 w1 κ1 G2 w2 κ2) (k : Step R G2 w2 κ2 G3 w3 κ3) : Step R G1 w1 κ1 G3 w3 κ3 where
  size := Nat.le_trans h.size k.size
  heap b hb hn := (k.heap b (Nat.lt_of_lt_of_le hb h.size) fun hk => (h.blk' b hk).elim (fun x => absurd hb (by omega)) hn).trans (h.heap b hb hn)
  F b hb := k.F b (h.F b hb)
  F' b hb := by
    rcases k.F' b hb with h1 | h1 | h1
    · exact h.F' b h1
    · exact .inr (.inl (Nat.le_trans h.size h1))
    · exact .inr (h.blk' b h1)
  ρ n v hv := k.ρ n v (h.ρ n v hv)
  ρ' n h1 h2 h3 := k.ρ' n (Nat.lt_of_lt_of_le h1 h.top) (h.ρ' n h1 h2 h3) h3
  top := Nat.le_trans h.top k.top
  blk' b hb := by
    rcases k.blk' b hb with h1 | h1
    · exact .inl (Nat.le_trans h.size h1)
    · exact h.blk' b h1
  dom n hn := by
    rcases k.dom n hn with h1 | h1
    · exact h.dom n h1
    · refine .inr ?_
      cases hr : G1.ρ n with
      | none => rfl
      | some v => rw [h.ρ n v hr] at h1; cases h1
  base := k.base.trans h.base

theorem Step.weaken {R R' : Nm → Prop} {G G' : Gh} {w w' : World} {κ κ' : Kp} (h : Step R G w κ G' w' κ') (hR : ∀ n, n.g < G.top → R n → R' n) : Step R' G w κ G' w' κ' :=
  { h with ρ' := fun n h1 h2 h3 => h.ρ' n h1 h2 fun h4 => h3 (hR n h1 h4) }

theorem Step.keeps {R : Nm → Prop} {w0 : World} {G G' : Gh} {w w' : World} {κ κ' : Kp} (h : Step R G w κ G' w' κ') (hw : WF w0 G w) (ho : Objs w0 G w κ) (b : Nat) (hb : G.F b) : w'.heap[b]? = w.heap[b]? :=
  h.heap b (hw.lt b hb) fun ⟨n, o, v, h1, h2, h3⟩ => by
    obtain ⟨v', hv', _, hF⟩ := ho.ob n o h1
    rw [h2] at hv'; cases hv'
    exact hF b h3 hb

theorem V.step {R : Nm → Prop} {w0 : World} {G G' : Gh} {w w' : World} {κ κ' : Kp} {v : Value} {d : D} (h : V G w v d) (hs : Step R G w κ G' w' κ') (hw : WF w0 G w) (ho : Objs w0 G w κ) : V G' w' v d :=
  h.mono hs.F (hs.keeps hw ho) hs.ρ

theorem OV.mono {w0 : World} {G G' : Gh} {w w' : World} {v : Value} {o : Ob} (h : OV w0 G w v o) (hV : ∀ x d, V G w x d → V G' w' x d) (hb : ∀ b, blk v = some b → w'.heap[b]? = w.heap[b]?) : OV w0 G' w' v o := by
  cases o with
  | box t cs =>
    obtain ⟨b, c, rfl, h1, h2, h3⟩ := h
    exact ⟨b, c, rfl, (hb b rfl).trans h1, h2, fun i x d hx hd => hV _ _ (h3 i x d hx hd)⟩
  | arr t k rows =>
    obtain ⟨xs, h1, h2⟩ := h
    refine ⟨xs, ⟨h1.1, ?_⟩, fun i r hr => ⟨(h2 i r hr).1, fun j d hd => let ⟨x, hx, hv⟩ := (h2 i r hr).2 j d hd; ⟨x, hx, hV _ _ hv⟩⟩⟩
    rcases h1.2 with h | ⟨g, cap, cur, rfl, hg, hh, r⟩
    · exact .inl h
    · exact .inr ⟨g, cap, cur, rfl, hg, (hb g rfl).trans hh, r⟩
  | map ks es =>
    obtain ⟨r, ms, clock, rfl, h1, h0, h2, h3, h4, h5⟩ := h
    exact ⟨r, ms, clock, rfl, (hb r rfl).trans h1, h0, h2, h3, h4, fun i m e hm he => hV _ _ (h5 i m e hm he)⟩
  | iter ks es pre =>
    obtain ⟨r, m, ms, clock, seen, rfl, h1, h2, h0, h3, h4, h5, h6, h7⟩ := h
    exact ⟨r, m, ms, clock, seen, rfl, (hb r rfl).trans h1, hV _ _ h2, h0, h3, h4, h5, fun i m e hm he => hV _ _ (h6 i m e hm he), h7⟩
  | loop rc env =>
    obtain ⟨l, rfl, h1, h2⟩ := h
    exact ⟨l, rfl, (hb l rfl).trans h1, fun t d ht => ⟨(h2 t d ht).1, hV _ _ (h2 t d ht).2⟩⟩

theorem OV.lt {w0 : World} {G : Gh} {w : World} {v : Value} {o : Ob} (h : OV w0 G w v o) : ∀ b, blk v = some b → b < w.heap.size := by
  intro b hb
  cases o with
  | box t cs =>
    obtain ⟨b', c, rfl, h1, _⟩ := h
    simp [blk] at hb; subst hb
    exact (Array.getElem?_eq_some_iff.1 h1).1
  | arr t k rows =>
    obtain ⟨xs, h1, _⟩ := h
    refine (h1.lt b ?_).2
    rcases h1.2 with ⟨rfl, _⟩ | ⟨g, cap, cur, rfl, _⟩
    · simp [blk] at hb
    · simpa [blk, Value.ownBlock] using hb
  | map ks es =>
    obtain ⟨r, ms, clock, rfl, h1, _⟩ := h
    simp [blk] at hb; subst hb
    exact (Array.getElem?_eq_some_iff.1 h1).1
  | iter ks es pre =>
    obtain ⟨r, m, ms, clock, seen, rfl, h1, _⟩ := h
    simp [blk] at hb; subst hb
    exact (Array.getElem?_eq_some_iff.1 h1).1
  | loop rc env =>
    obtain ⟨l, rfl, h1, _⟩ := h
    simp [blk] at hb; subst hb
    exact (Array.getElem?_eq_some_iff.1 h1).1

/-- The marks of the ranges over functions that the activation has run. -/
def Marks (G : Gh) (w : World) (ds : List Deferred) : Prop :=
  G.base ≤ w.heap.size ∧ ∃ Ds : List Nat, ds = Ds.map (fun b => { target := .collected b, args := #[] }) ∧ Ds.Nodup ∧ ∀ b ∈ Ds, G.F b ∧ G.base ≤ b ∧ w.heap[b]? = some (.deferred (some []))
theorem Marks.nil {G : Gh} {w : World} (hb : G.base ≤ w.heap.size) : Marks G w [] := ⟨hb, [], rfl, List.nodup_nil, fun b h => by cases h⟩
theorem Marks.mono {G G' : Gh} {w w' : World} {ds : List Deferred} (h : Marks G w ds) (hsz : w.heap.size ≤ w'.heap.size) (hF : ∀ b, G.F b → G'.F b) (hb : G'.base = G.base) (hw : ∀ b, G.F b → w'.heap[b]? = w.heap[b]?) : Marks G' w' ds :=
  let ⟨h0, Ds, h1, h2, h3⟩ := h
  ⟨by rw [hb]; exact Nat.le_trans h0 hsz, Ds, h1, h2, fun b hm => let ⟨k1, k2, k3⟩ := h3 b hm; ⟨hF b k1, hb ▸ k2, (hw b k1).trans k3⟩⟩
theorem Marks.step {R : Nm → Prop} {w0 : World} {G G' : Gh} {w w' : World} {κ κ' : Kp} {ds : List Deferred} (h : Marks G w ds) (hs : Step R G w κ G' w' κ') (hw : WF w0 G w) (ho : Objs w0 G w κ) : Marks G' w' ds :=
  h.mono hs.size hs.F hs.base (hs.keeps hw ho)

theorem Objs.sub {w0 : World} {G : Gh} {w : World} {κ κ' : Kp} (h : Objs w0 G w κ) (hs : ∀ n o, κ' n = some o → κ n = some o) : Objs w0 G w κ' :=
  ⟨fun n o hn => h.ob n o (hs n o hn), fun n m o o' v v' b h1 h2 => h.ne n m o o' v v' b (hs _ _ h1) (hs _ _ h2)⟩

/-- Two stores side by side: the first one's objects win. -/
def Kp.or (κ τ : Kp) : Kp := fun n => (κ n).or (τ n)

/-- A step on a part of the objects is one on all: the others stay. -/
theorem frame {w0 : World} {R : Nm → Prop} {G G' : Gh} {w w' : World} {κs κs' κ τ : Kp} (hw : WF w0 G w) (hall : Objs w0 G w κ)
    (hsub : ∀ n o, κs n = some o → κ n = some o) (hτ : ∀ n o, τ n = some o → κ n = some o ∧ κs n = none) 
    (hs : Step R G w κs G' w' κs') (ho : Objs w0 G' w' κs') : Objs w0 G' w' (Kp.or κs' τ) ∧ Step R G w κ G' w' (Kp.or κs' τ) := by
  have hos : Objs w0 G w κs := hall.sub hsub
  have hblk : ∀ b, Blk G κs b → Blk G κ b := fun b ⟨n, o, v, h1, h2, h3⟩ => ⟨n, o, v, hsub n o h1, h2, h3⟩
  -- a block of τ is no block of κs, and stays
  have key : ∀ n o v b, τ n = some o → G.ρ n = some v → blk v = some b → ¬ Blk G κs b := by
    intro n o v b hn hv hb ⟨m, o', v', h1, h2, h3⟩
    obtain ⟨hk, hno⟩ := hτ n o hn
    have hne : m ≠ n := fun e => by subst e; rw [h1] at hno; cases hno
    exact hall.ne m n o' o v' v b (hsub m o' h1) hk hne h2 hv h3 hb
  have keep : ∀ n o, τ n = some o → ∃ v, G.ρ n = some v ∧ G'.ρ n = some v ∧ OV w0 G' w' v o ∧ (∀ b, blk v = some b → b < w.heap.size ∧ ¬ G'.F b ∧ ¬ Blk G κs b) := by
    intro n o hn
    obtain ⟨hk, hno⟩ := hτ n o hn
    obtain ⟨v, hv, hov, hF⟩ := hall.ob n o hk
    have hb : ∀ b, blk v = some b → b < w.heap.size ∧ ¬ G'.F b ∧ ¬ Blk G κs b := fun b hb => by
      have hn' := key n o v b hn hv hb
      have hlt := hov.lt b hb
      refine ⟨hlt, fun h => ?_, hn'⟩
      rcases hs.F' b h with h1 | h1 | h1
      · exact hF b hb h1
      · omega
      · exact hn' h1
    exact ⟨v, hv, hs.ρ n v hv, hov.mono (fun x d hx => hx.step hs hw hos) fun b hb' => hs.heap b (hb b hb').1 (hb b hb').2.2, hb⟩
  have side : ∀ n o v b, κs' n = some o → G'.ρ n = some v → blk v = some b → w.heap.size ≤ b ∨ Blk G κs b := fun n o v b h1 h2 h3 => hs.blk' b ⟨n, o, v, h1, h2, h3⟩
  have split : ∀ n o, Kp.or κs' τ n = some o → κs' n = some o ∨ τ n = some o := by
    intro n o h
    unfold Kp.or at h
    cases hk : κs' n with
    | none => rw [hk] at h; exact .inr (by simpa using h)
    | some x => rw [hk] at h; exact .inl (by simpa using h)
  refine ⟨⟨fun n o hn => ?_, fun n m o o' v v' b h1 h2 hne h3 h4 h5 h6 => ?_⟩, ?_⟩
  · rcases split n o hn with h | h
    · exact ho.ob n o h
    · obtain ⟨v, _, hv', hov, hb⟩ := keep n o h
      exact ⟨v, hv', hov, fun b hb' => (hb b hb').2.1⟩
  · rcases split n o h1 with k1 | k1 <;> rcases split m o' h2 with k2 | k2
    · exact ho.ne n m o o' v v' b k1 k2 hne h3 h4 h5 h6
    · obtain ⟨u, hu, hu', _, hb⟩ := keep m o' k2
      rw [hu'] at h4; cases h4
      have := hb b h6
      rcases side n o v b k1 h3 h5 with h | h
      · omega
      · exact this.2.2 h
    · obtain ⟨u, hu, hu', _, hb⟩ := keep n o k1
      rw [hu'] at h3; cases h3
      have := hb b h5
      rcases side m o' v' b k2 h4 h6 with h | h
      · omega
      · exact this.2.2 h
    · obtain ⟨u, hu, hu', _, _⟩ := keep n o k1
      obtain ⟨u2, hu2, hu2', _, _⟩ := keep m o' k2
      rw [hu'] at h3; cases h3
      rw [hu2'] at h4; cases h4
      exact hall.ne n m o o' v v' b (hτ n o k1).1 (hτ m o' k2).1 hne hu hu2 h5 h6
  · refine ⟨hs.size, fun b hb hn => hs.heap b hb fun h => hn (hblk b h), hs.F, fun b hb => ?_, hs.ρ, hs.ρ', hs.top, fun b ⟨n, o, v, h1, h2, h3⟩ => ?_, fun n hn => ?_, hs.base⟩
    · rcases hs.F' b hb with h | h | h
      · exact .inl h
      · exact .inr (.inl h)
      · exact .inr (.inr (hblk b h))
    · rcases split n o h1 with k | k
      · rcases side n o v b k h2 h3 with h | h
        · exact .inl h
        · exact .inr (hblk b h)
      · obtain ⟨u, hu, hu', _, _⟩ := keep n o k
        rw [hu'] at h2; cases h2
        exact .inr ⟨n, o, _, (hτ n o k).1, hu, h3⟩
    · cases hk : κs' n with
      | none =>
        have : τ n ≠ none := fun h => hn (by unfold Kp.or; rw [hk, h]; rfl)
        cases ht : τ n with
        | none => exact absurd ht this
        | some o => exact .inl (by rw [(hτ n o ht).1]; simp)
      | some o =>
        rcases hs.dom n (by rw [hk]; simp) with h | h
        · cases hx : κs n with
          | none => exact absurd hx h
          | some y => exact .inl (by rw [hsub n y hx]; simp)
        · exact .inr h

end Go.Ab

namespace Go.Ab
open Go Go.RowKit

theorem heap_alloc_n (w : World) (o : Obj) : (w.alloc o).heap[w.heap.size]? = some o := World.alloc_heap_new w o
theorem heap_alloc_o (w : World) (o : Obj) (b : Nat) (h : b < w.heap.size) : (w.alloc o).heap[b]? = w.heap[b]? := Below.heap_alloc w o b h

def Fr (r : Option Nat) : Fence := { Fence.wide with round := r }
theorem fr_fn (r : Option Nat) (f : FuncId) : (Fr r).fn f := trivial
theorem fr_depth (r : Option Nat) (n : Nat) : (Fr r).depth.isSome = true → 1 ≤ n := fun h => by simp [Fr, Fence.wide] at h

def plainOp (o : Oper) : Bool := match o.op with
  | .defer _ => false
  | _ => true

theorem plainOp_spec {o : Oper} (h : plainOp o = true) : ∀ c, o.op ≠ .defer c := fun c e => by simp [plainOp, e] at h

section
variable {P : Program} {r : Option Nat} {n : Nat}

theorem callsIn_fr {f : FuncId} {args : Array Value} {w : World} {R : Ending → World → Prop} : CallsIn (Fr r) n P f args w R ↔ Calls P f args w R := callsIn_wide (n := n)

theorem rowsIn_fr {row : String} {args : Array Value} {w : World} {R : Value → World → Prop} (h : Rows P row args w R) : RowsIn (Fr r) n P row args w R :=
  fun c cs _ => let ⟨v, w', h1, h2⟩ := h c cs; ⟨v, w', h1, stepsIn_wide.2 h2⟩

theorem op_in {o : Oper} {a : Act} {w : World} {K : Act → World → Prop} {Q : Exit → Act → World → Prop} (hp : plainOp o = true) (h : o.wp P a w K Q) : o.wpIn (Fr r) n P a w K Q := by
  refine ⟨fun f _ => fr_fn r f, ?_⟩
  rw [Oper.semAt_eq _ _ _ (plainOp_spec hp)]
  unfold Oper.wp at h
  generalize (execOp a.eval o).run P w = x at h
  cases x with
  | ok x w' =>
    cases x with
    | value v => exact h
    | skip => exact h
    | defer d => exact h
    | enter f args => exact ⟨fr_depth r n, callsIn_fr.2 h⟩
    | row row args => exact ⟨fr_depth r n, rowsIn_fr h⟩
    | _ => exact h.elim
  | halt x w' =>
    cases x with
    | panic v => exact h
    | _ => exact h.elim

theorem plain_of {o : Oper} {ρ : Operand → Value} {w w' : World} {x : Next} (h : (execOp ρ o).run P w = .ok x w') (hx : ∀ d, x ≠ .defer d) : plainOp o = true := by
  unfold plainOp
  split
  · rename_i c hc
    exfalso
    simp only [execOp, hc, Sem.run_bind] at h
    generalize (resolve ρ c o.type).run P w = y at h
    cases y with
    | ok d w2 =>
      simp only [Result.andThen_ok, Sem.run_pure, Result.ok.injEq] at h
      exact hx d h.1.symm
    | halt _ _ => simp [Result.andThen] at h
  · rfl

variable {o : Oper} {a : Act} {w w' : World} {K : Act → World → Prop} {Q : Exit → Act → World → Prop}
theorem op_val {v : Value} (h : (execOp a.eval o).run P w = .ok (.value v) w') (hK : K (a.put o.dst v) w') : ∀ r, o.wpIn (Fr r) n P a w K Q :=
  fun _ => op_in (plain_of h (fun _ e => by cases e)) (by unfold Oper.wp; rw [h]; exact hK)
theorem op_skip (h : (execOp a.eval o).run P w = .ok .skip w') (hK : K (a.put o.dst undef) w') : ∀ r, o.wpIn (Fr r) n P a w K Q :=
  fun _ => op_in (plain_of h (fun _ e => by cases e)) (by unfold Oper.wp; rw [h]; exact hK)
theorem op_enter {f : FuncId} {args : Array Value} (h : (execOp a.eval o).run P w = .ok (.enter f args) w') (hK : Calls P f args w' fun
      | .returned v, w'' => K (a.put o.dst v) w''
      | .panicked chain, w'' => Q (.panic chain) a w''
      | .outgrown, _ => LetsOut Q) : ∀ r, o.wpIn (Fr r) n P a w K Q :=
  fun _ => op_in (plain_of h (fun _ e => by cases e)) (by unfold Oper.wp; rw [h]; exact hK)

end
end Go.Ab

namespace Go.Ab
open Go Go.RowKit

structure Ctx where
  P : Program
  A : World → Prop
  glob : Nat → D
  hglob : ∀ w0, A w0 → ∀ G w, WF w0 G w → ∀ g, V G w (.pointer (some ⟨g, 0, none⟩)) (glob g)
  mixed : P.follows .mixedOrders = true
  rd : Bool := false

/-- The same, where the code may stand in a round of a range over a function. -/
def Ctx.rnd (E : Ctx) : Ctx := { E with rd := true }
def Rd (E : Ctx) (r : Option Nat) : Prop := E.rd = false → r = none

structure St where
  env : List (Nat × D)
  σ : Sto


def ofV : Value → D
  | .agg cs => .agg (cs.toList.map .val)
  | v => .val v

def ev (E : Ctx) (env : List (Nat × D)) : Operand → D
  | .tmp t => (lk env t).getD .any
  | .const v => ofV v
  | .global g => E.glob g
  | .func f => .func (.func f) [] []

theorem V.ofV (G : Gh) (w : World) (v : Value) : V G w v (ofV v) := by
  cases v with
  | agg cs =>
    refine .agg (by simp) fun i c d hc hd => ?_
    simp only [List.getElem?_map, Array.getElem?_toList, hc, Option.map_some, Option.some.injEq] at hd
    subst hd
    exact .val c
  | _ => exact .val _

structure Rel (w0 : World) (G : Gh) (w : World) (a : Act) (st : St) : Prop where
  wf : WF w0 G w
  env : ∀ t d, lk st.env t = some d → t < a.tmps.size ∧ V G w (a.tmps.getD t undef) d
  objs : Objs w0 G w (get st.σ)
  defers : Marks G w a.defers

theorem Rel.ev {E : Ctx} {w0 : World} (hA : E.A w0) {G : Gh} {w : World} {a : Act} {st : St} (h : Rel w0 G w a st) (x : Operand) : V G w (a.eval x) (ev E st.env x) := by
  cases x with
  | tmp t =>
    simp only [Act.eval, Ab.ev]
    cases hl : lk st.env t with
    | none => exact .any _
    | some d => exact (h.env t d hl).2
  | const v => exact V.ofV G w v
  | global g => exact E.hglob w0 hA G w h.wf g
  | func f => exact .func rfl rfl (by simp) (by simp)

/-- What a piece of code leaves, in the terms of the model. -/
def post (w0 : World) (N : Nat) (R : Nm → Prop) (G : Gh) (w : World) (σ : Sto) (Q : Exit → St → Prop) : Exit → Act → World → Prop :=
  fun e a' w' => ∃ G' st', a'.tmps.size = N ∧ Rel w0 G' w' a' st' ∧ Step R G w (get σ) G' w' (get st'.σ) ∧ Q e st'

def no : Nm → Prop := fun _ => False

def AWp (E : Ctx) (N : Nat) (c : Code) (Q : Exit → St → Prop) (st : St) : Prop :=
  ∀ w0, E.A w0 → ∀ G w a, a.tmps.size = N → Rel w0 G w a st → ∀ r, Rd E r → c.wpIn (Fr r) 0 E.P (post w0 N no G w st.σ Q) a w

def thenQ (K : St → Prop) (Q : Exit → St → Prop) : Exit → St → Prop
  | .normal, st => K st
  | e, st => Q e st

def blockQ (id : Nat) (Q : Exit → St → Prop) : Exit → St → Prop
  | .exit id', st => if id' = id then Q .normal st else Q (.exit id') st
  | e, st => Q e st

section
variable {E : Ctx} {N : Nat} {Q : Exit → St → Prop} {st : St}

theorem AWp.mono {c : Code} {Q' : Exit → St → Prop} (h : AWp E N c Q st) (hq : ∀ e s, Q e s → Q' e s) : AWp E N c Q' st :=
  fun w0 hA G w a hN hr r hd => wpIn_mono (h w0 hA G w a hN hr r hd) fun _ _ _ ⟨G', st', h1, h2, h3, h4⟩ => ⟨G', st', h1, h2, h3, hq _ _ h4⟩

theorem awp_skip (h : Q .normal st) : AWp E N .skip Q st :=
  fun _ _ G _ _ hN hr _ _ => wpIn_skip ⟨G, st, hN, hr, .refl _ _ _ _, h⟩

theorem awp_ret (h : Q .ret st) : AWp E N .ret Q st :=
  fun _ _ G _ _ hN hr _ _ => wpIn_ret ⟨G, st, hN, hr, .refl _ _ _ _, h⟩

theorem awp_exit {id : Nat} (h : Q (.exit id) st) : AWp E N (.exit id) Q st :=
  fun _ _ G _ _ hN hr _ _ => wpIn_exit ⟨G, st, hN, hr, .refl _ _ _ _, h⟩

theorem awp_seq {x y : Code} (h : AWp E N x (thenQ (AWp E N y Q) Q) st) : AWp E N (.seq x y) Q st := by
  intro w0 hA G w a hN hr r hd
  refine wpIn_seq (wpIn_mono (h w0 hA G w a hN hr r hd) ?_)
  rintro e a' w' ⟨G', st', h1, h2, h3, h4⟩
  cases e with
  | normal =>
    exact wpIn_mono (h4 w0 hA G' w' a' h1 h2 r hd) fun _ _ _ ⟨G2, s2, k1, k2, k3, k4⟩ => ⟨G2, s2, k1, k2, h3.trans k3, k4⟩
  | _ => exact ⟨G', st', h1, h2, h3, h4⟩

/-- What follows stays behind a name. -/
theorem awp_seq_k {x y : Code} (h : ∀ K : St → Prop, (∀ s, AWp E N y Q s → K s) → AWp E N x (thenQ K Q) st) : AWp E N (.seq x y) Q st :=
  awp_seq (h _ fun _ h => h)

theorem awp_cond {c : Operand} {x y : Code} {b : Bool} (hc : ev E st.env c = .val (.bool b)) (h : AWp E N (if b then x else y) Q st) : AWp E N (.cond c x y) Q st := by
  intro w0 hA G w a hN hr r hd
  have hv := hr.ev hA c
  rw [hc] at hv
  exact wpIn_cond (V.of_val hv) (h w0 hA G w a hN hr r hd)

theorem awp_unk {c : Operand} {x y : Code} (hc : ev E st.env c = .unk) (h1 : AWp E N x Q st) (h2 : AWp E N y Q st) : AWp E N (.cond c x y) Q st := by
  intro w0 hA G w a hN hr r hd
  have hv := hr.ev hA c
  rw [hc] at hv
  generalize hu : a.eval c = u at hv
  cases hv with
  | unk b =>
    refine wpIn_cond hu ?_
    cases b with
    | true => exact h1 w0 hA G w a hN hr r hd
    | false => exact h2 w0 hA G w a hN hr r hd

theorem awp_block {id : Nat} {c : Code} (h : AWp E N c (blockQ id Q) st) : AWp E N (.block id c) Q st := by
  intro w0 hA G w a hN hr r hd
  refine wpIn_block (wpIn_mono (h w0 hA G w a hN hr r hd) ?_)
  rintro e a' w' ⟨G', st', h1, h2, h3, h4⟩
  cases e with
  | exit id' =>
    simp only [blockQ] at h4
    simp only [Exit.inBlock]
    split
    · rename_i he; rw [if_pos he] at h4; exact ⟨G', st', h1, h2, h3, h4⟩
    · rename_i he; rw [if_neg he] at h4; exact ⟨G', st', h1, h2, h3, h4⟩
  | _ => exact ⟨G', st', h1, h2, h3, h4⟩

/-- A loop: 'I n st': what holds at a round's head, with at most n rounds to come. -/
theorem awp_loop {c : Code} (I : Nat → St → Prop) (n : Nat) (h0 : I n st) (round : ∀ n s, I n s → AWp E N c (thenQ (fun s' => ∃ m, m < n ∧ I m s') Q) s) : AWp E N (.loop c) Q st := by
  intro w0 hA G w a hN hr rd hrd b k cs hro hb hroom
  have key : ∀ n G1 w1 a1 s1, I n s1 → a1.tmps.size = N → Rel w0 G1 w1 a1 s1 → Step no G w (get st.σ) G1 w1 (get s1.σ) →
      ∃ e a' w', post w0 N no G w st.σ Q e a' w' ∧ ArrivesIn (Machine.fenced E.P (Fr rd)) E.P (lone (b.atR a1 (.code c :: .inLoop c :: k)) cs w1) b k cs e a' w' := by
    intro n
    induction n using Nat.strongRecOn with
    | _ n ih =>
      intro G1 w1 a1 s1 hI hN1 hr1 hs1
      obtain ⟨e, a2, w2, ⟨G2, s2, hN2, hr2, hs2, hq⟩, harr⟩ := round n s1 hI w0 hA G1 w1 a1 hN1 hr1 rd hrd b (.inLoop c :: k) cs hro hb hroom
      cases e with
      | normal =>
        obtain ⟨m, hm, hI2⟩ := hq
        obtain ⟨e3, a3, w3, hq3, harr3⟩ := ih m hm G2 w2 a2 s2 hI2 hN2 hr2 (hs1.trans hs2)
        exact ⟨e3, a3, w3, hq3, .of_steps (StepsIn.trans harr (.one (fenced_calm hb hroom rfl) stepR_inLoop)) harr3⟩
      | exit id => exact ⟨_, a2, w2, ⟨G2, s2, hN2, hr2, hs1.trans hs2, hq⟩, .pass (x := .inLoop c) rfl (fun _ _ => .inl (by simp)) harr⟩
      | goto l => exact ⟨_, a2, w2, ⟨G2, s2, hN2, hr2, hs1.trans hs2, hq⟩, .pass (x := .inLoop c) rfl (fun _ _ => .inl (by simp)) harr⟩
      | ret => exact ⟨_, a2, w2, ⟨G2, s2, hN2, hr2, hs1.trans hs2, hq⟩, .pass (x := .inLoop c) rfl (fun _ _ => .inl (by simp)) harr⟩
      | panic ch => exact ⟨_, a2, w2, ⟨G2, s2, hN2, hr2, hs1.trans hs2, hq⟩, .pass (x := .inLoop c) rfl (fun _ _ => .inl (by simp)) harr⟩
      | outgrown => exact ⟨_, a2, w2, ⟨G2, s2, hN2, hr2, hs1.trans hs2, hq⟩, .pass (x := .inLoop c) rfl (fun _ _ => .inl (by simp)) harr⟩
  obtain ⟨e, a', w', hq, harr⟩ := key n G w a st h0 hN hr (.refl _ _ _ _)
  exact ⟨e, a', w', hq, .of_steps (.one (fenced_calm hb hroom rfl) stepR_loop) harr⟩

/-- Another view of the same moment. -/
def Sees (E : Ctx) (st : St) (K : St → Prop) : Prop :=
  ∀ w0, E.A w0 → ∀ G w a, Rel w0 G w a st → ∃ G' st', Rel w0 G' w a st' ∧ Step no G w (get st.σ) G' w (get st'.σ) ∧ K st'

theorem Sees.awp {c : Code} (h : Sees E st (AWp E N c Q)) : AWp E N c Q st := by
  intro w0 hA G w a hN hr r hd
  obtain ⟨G', st', h1, h2, h3⟩ := h w0 hA G w a hr
  exact wpIn_mono (h3 w0 hA G' w a hN h1 r hd) fun _ _ _ ⟨G2, s2, k1, k2, k3, k4⟩ => ⟨G2, s2, k1, k2, h2.trans k3, k4⟩

/-- At an end, too, the state may be seen otherwise. -/
theorem AWp.after {c : Code} {Q' : Exit → St → Prop} (h : AWp E N c Q st) (hq : ∀ e s, Q e s → Sees E s (Q' e)) : AWp E N c Q' st := by
  intro w0 hA G w a hN hr r hd
  refine wpIn_mono (h w0 hA G w a hN hr r hd) fun e a' w' ⟨G', st', h1, h2, h3, h4⟩ => ?_
  obtain ⟨G2, s2, k1, k2, k3⟩ := hq e st' h4 w0 hA G' w' a' h2
  exact ⟨G2, s2, h1, k1, h3.trans k2, k3⟩

theorem Sees.of {K : St → Prop} (h : K st) : Sees E st K := fun _ _ G _ _ hr => ⟨G, st, hr, .refl _ _ _ _, h⟩

theorem Sees.mono {K K' : St → Prop} (h : Sees E st K) (hk : ∀ s, K s → K' s) : Sees E st K' :=
  fun w0 hA G w a hr => let ⟨G', s', h1, h2, h3⟩ := h w0 hA G w a hr; ⟨G', s', h1, h2, hk _ h3⟩

theorem Sees.trans {K K' : St → Prop} (h : Sees E st K) (hk : ∀ s, K s → Sees E s K') : Sees E st K' := fun w0 hA G w a hr =>
  let ⟨G1, s1, h1, h2, h3⟩ := h w0 hA G w a hr
  let ⟨G2, s2, k1, k2, k3⟩ := hk s1 h3 w0 hA G1 w a h1
  ⟨G2, s2, k1, h2.trans k2, k3⟩

/-- A part of what is known. -/
def Le (st' st : St) : Prop := (∀ p ∈ st'.env, lk st.env p.1 = some p.2) ∧ (∀ p ∈ st'.σ, get st.σ p.1 = some p.2)

theorem mem_of_lk {l : List (Nat × D)} {t : Nat} {d : D} (h : lk l t = some d) : (t, d) ∈ l := by
  induction l with
  | nil => simp [lk] at h
  | cons p r ih =>
    obtain ⟨k, x⟩ := p
    simp only [lk] at h
    split at h
    · rename_i hk; subst hk; cases h; exact List.mem_cons_self
    · exact List.mem_cons_of_mem _ (ih h)

theorem mem_of_get {l : Sto} {n : Nm} {o : Ob} (h : get l n = some o) : (n, o) ∈ l := by
  induction l with
  | nil => simp [get] at h
  | cons p r ih =>
    obtain ⟨k, x⟩ := p
    simp only [get] at h
    split at h
    · rename_i hk; subst hk; cases h; exact List.mem_cons_self
    · exact List.mem_cons_of_mem _ (ih h)

theorem Step.drop {R : Nm → Prop} {G : Gh} {w : World} {κ κ' : Kp} (hs : ∀ n o, κ' n = some o → κ n = some o) : Step R G w κ G w κ' :=
  { Step.refl R G w κ with
    blk' := fun b ⟨n, o, v, h1, h2, h3⟩ => .inr ⟨n, o, v, hs n o h1, h2, h3⟩
    dom := fun n hn => by
      cases hk : κ' n with
      | none => exact absurd hk hn
      | some o => exact .inl (by rw [hs n o hk]; simp) }

theorem Sees.keep {K : St → Prop} {st' : St} (h : Le st' st) (hk : K st') : Sees E st K := by
  intro w0 _ G w a hr
  have hs : ∀ n o, get st'.σ n = some o → get st.σ n = some o := fun n o hn => h.2 (n, o) (mem_of_get hn)
  exact ⟨G, st', ⟨hr.wf, fun t d ht => hr.env t d (h.1 (t, d) (mem_of_lk ht)), hr.objs.sub hs, hr.defers⟩, .drop hs, hk⟩

end
end Go.Ab

namespace Go.Ab
open Go Go.RowKit

def szOf (P : Program) (t : TypeId) : Option Nat := (P.info? t).map (·.size)
def descAgg : TypeDesc → Bool
  | .struct _ | .array _ _ => true
  | _ => false
def aggOf (P : Program) (t : TypeId) : Option Bool := (P.underlying t).map descAgg
def zeroOf (P : Program) (t : TypeId) : Option Value := (P.info? t).bind (·.zero)
/-- Offset and type of a field. -/
def fldOf (P : Program) (t : TypeId) (i : Nat) : Option (Nat × TypeId) :=
  match P.underlying t with
  | some (.struct fs) => (fs[i]?).map fun f => (f.offset, f.type)
  | _ => none
def elemS (P : Program) (t : TypeId) : Option TypeId :=
  match P.underlying t with
  | some (.slice e) => some e
  | _ => none
def elemA (P : Program) (t : TypeId) : Option (Nat × TypeId) :=
  match P.underlying t with
  | some (.array n e) => some (n, e)
  | _ => none
def isStr (P : Program) (t : TypeId) : Bool := match P.underlying t with | some .string => true | _ => false
def isIfc (P : Program) (t : TypeId) : Bool := match P.underlying t with | some (.interface _) => true | none => true | _ => false
def intOfT (P : Program) (t : TypeId) : Option IntKind := match P.underlying t with | some (.int k) => some k | _ => none
def ptrArr (P : Program) (t : TypeId) : Option Nat :=
  match P.underlying t with
  | some (.pointer a) => match P.underlying a with | some (.array n _) => some n | _ => none
  | _ => none

/-- A value of type t out of the cells from here on. -/
def cut (P : Program) (t : TypeId) (cs : List D) : Option D :=
  match aggOf P t with
  | some true => match szOf P t with
    | some k => if k ≤ cs.length then some (.agg (cs.take k)) else none
    | none => none
  | some false => cs.head?
  | none => none

def loadD (P : Program) (κ : Kp) (t : TypeId) : D → Option D
  | .ptr n off => match κ n with
    | some (.box _ cs) => cut P t (cs.drop off)
    | _ => none
  | .aptr n k i j => match κ n with
    | some (.arr _ k' rows) => if k' = k then (rows[i]?).bind fun r => cut P t (r.cells.drop j) else none
    | _ => none
  | .eptr cs => cut P t cs
  | _ => none

def nilD : D → Option D
  | .ptr n o => some (.ptr n o)
  | .aptr n k i j => some (.aptr n k i j)
  | .eptr cs => some (.eptr cs)
  | .func (.func f) a b => some (.func (.func f) a b)
  | _ => none

def intD (op : BinOp) (k : IntKind) (a b : Int) : Option Value :=
  match op with
  | .add => some (.int k (k.wrap (a + b)))
  | .sub => some (.int k (k.wrap (a - b)))
  | .mul => some (.int k (k.wrap (a * b)))
  | .quo => if b = 0 then none else some (.int k (k.wrap (a.tdiv b)))
  | .rem => if b = 0 then none else some (.int k (a.tmod b))
  | .eql => some (.bool (decide (a = b)))
  | .neq => some (.bool (!decide (a = b)))
  | .lss => some (.bool (decide (a < b)))
  | .leq => some (.bool (decide (a ≤ b)))
  | .gtr => some (.bool (decide (b < a)))
  | .geq => some (.bool (decide (b ≤ a)))
  | _ => none

def strD (op : BinOp) (a b : ByteArray) : Option Value :=
  match op with
  | .add => if a.size + b.size ≤ 9223372036854775807 then some (.string (a ++ b)) else none
  | .eql => some (.bool (decide (a = b)))
  | .neq => some (.bool (!decide (a = b)))
  | .lss => some (.bool (Op.bytesLess a.toList b.toList))
  | .gtr => some (.bool (!(Op.bytesLess a.toList b.toList || decide (a = b))))
  | .geq => some (.bool (!(Op.bytesLess a.toList b.toList)))
  | _ => none

def isBoolT (P : Program) (t : TypeId) : Bool := match P.underlying t with | some .bool => true | _ => false
def isPtrT (P : Program) (t : TypeId) : Bool := match P.underlying t with | some (.pointer _) => true | _ => false
def isMapT (P : Program) (t : TypeId) : Bool := match P.underlying t with | some (.map _ _) => true | _ => false
def eqR (op : BinOp) (b : Bool) : Option Value :=
  match op with
  | .eql => some (.bool b)
  | .neq => some (.bool (!b))
  | _ => none

def boolD (P : Program) (t : TypeId) (op : BinOp) (a b : Bool) : Option Value := if isBoolT P t then eqR op (decide (a = b)) else none
def ptrD (P : Program) (t : TypeId) (op : BinOp) (a b : Option Addr) : Option Value :=
  match b with
  | none => if isPtrT P t then eqR op a.isNone else none
  | _ => none

def binD (P : Program) (t : TypeId) (op : BinOp) : D → D → Option D
  | .val (.int k a), .val (.int k' b) => if k = k' then (intD op k a b).map .val else none
  | .val (.string a), .val (.string b) => (strD op a b).map .val
  | .val (.bool a), .val (.bool b) => (boolD P t op a b).map .val
  | .val (.pointer a), .val (.pointer b) => (ptrD P t op a b).map .val
  | .sl _ rows, .val (.slice none 0 0) => match elemS P t, eqR op false with
    | some _, some r => match rows with
      | [] => some .unk
      | _ :: _ => some (.val r)
    | _, _ => none
  | .val (.slice none _ _), .val (.slice none 0 0) => match elemS P t with
    | some _ => (eqR op true).map .val
    | none => none
  | .ptr _ _, .val (.pointer none) => if isPtrT P t then (eqR op false).map .val else none
  | .eptr _, .val (.pointer none) => if isPtrT P t then (eqR op false).map .val else none
  | .aptr _ _ _ _, .val (.pointer none) => if isPtrT P t then (eqR op false).map .val else none
  | .mref _, .val (.map none) => if isMapT P t then (eqR op false).map .val else none
  | .fmap _ _, .val (.map none) => if isMapT P t then (eqR op false).map .val else none
  | .val (.map none), .val (.map none) => if isMapT P t then (eqR op true).map .val else none
  | _, _ => none

def unD (op : UnOp) : D → Option D
  | .unk => match op with
    | .not => some .unk
    | _ => none
  | .val (.bool b) => match op with
    | .not => some (.val (.bool (!b)))
    | _ => none
  | .val (.int k n) => match op with
    | .neg => some (.val (.int k (k.wrap (0 - n))))
    | _ => none
  | _ => none

def isBytesT (P : Program) (t : TypeId) : Bool := match P.underlying t with
  | some (.slice e) => match P.underlying e with | some (.int .u8) => true | _ => false
  | _ => false
def numsOf : List D → Option (List Int)
  | [] => some []
  | .val (.int .u8 n) :: r => (numsOf r).map (n :: ·)
  | _ => none

def hasT (P : Program) (t : TypeId) : Bool := (P.underlying t).isSome

def convD (P : Program) (s d : TypeId) : D → Option D
  | .sl _ rows => if isBytesT P s = true ∧ isStr P d = true then (numsOf rows).map fun ns => .val (.string (strOfNums ns)) else none
  | .val (.int _ n) => match hasT P s, intOfT P d with
    | true, some k => some (.val (.int k (k.wrap n)))
    | _, _ => none
  | .val (.string b) => match hasT P s, isStr P d with
    | true, true => some (.val (.string b))
    | _, _ => none
  | _ => none

def fieldAddrD (P : Program) (t : TypeId) (x : D) (f : Nat) : Option D :=
  match fldOf P t f with
  | some (o, ft) => match szOf P ft with
    | some (_ + 1) => match x with
      | .ptr n off => some (.ptr n (off + o))
      | .aptr n k i j => some (.aptr n k i (j + o))
      | .eptr cs => some (.eptr (cs.drop o))
      | _ => none
    | _ => none
  | none => none

def fieldD (P : Program) (t : TypeId) (x : D) (f : Nat) : Option D :=
  match fldOf P t f with
  | some (o, ft) => match x with
    | .agg cs => cut P ft (cs.drop o)
    | _ => none
  | none => none

def at? (rows : List D) (i : Int) : Option D := if 0 ≤ i then rows[i.toNat]? else none

def indexAddrD (P : Program) (κ : Kp) (t : TypeId) (x i : D) : Option D :=
  match i with
  | .val (.int _ n) =>
    match elemS P t with
    | some e => match x with
      | .sl _ rows => (at? rows n).bind fun r => if szOf P e = some r.cells.length then some (.eptr r.cells) else none
      | .own nm _ => match κ nm with
        | some (.arr _ k rows) => if szOf P e = some k ∧ 0 ≤ n ∧ n < rows.length then some (.aptr nm k n.toNat 0) else none
        | _ => none
      | .osl nm k off len => match κ nm with
        | some (.arr _ k' rows) => if szOf P e = some k ∧ k' = k ∧ 0 ≤ n ∧ n < len ∧ off + len ≤ rows.length then some (.aptr nm k (off + n.toNat) 0) else none
        | _ => none
      | _ => none
    | none => match elemA P t with
      | some (m, e) => match szOf P e with
        | some k => if 0 ≤ n ∧ n < m then
            match x with
            | .ptr nm off => some (.ptr nm (off + n.toNat * k))
            | .eptr cs => some (.eptr (cs.drop (n.toNat * k)))
            | _ => none
          else none
        | none => none
      | none => none
  | _ => none

def indexD (P : Program) (t : TypeId) (x i : D) : Option D :=
  match i with
  | .val (.int _ n) => match x with
    | .val (.string s) => if isStr P t = true ∧ 0 ≤ n then (s[n.toNat]?).map fun b => .val (.int .u8 b.toNat) else none
    | _ => none
  | _ => none

def lenD (P : Program) (t : TypeId) (x : D) : Option D :=
  match x with
  | .val (.string s) => if isStr P t then some (.val (.int .i64 s.size)) else none
  | .sl _ rows => if (elemS P t).isSome then some (.val (.int .i64 rows.length)) else none
  | .own _ n => if (elemS P t).isSome then some (.val (.int .i64 n)) else none
  | .osl _ _ _ n => if (elemS P t).isSome then some (.val (.int .i64 n)) else none
  | .val (.slice _ n _) => if (elemS P t).isSome then some (.val (.int .i64 n)) else none
  | _ => none

/-- The cells with a part laid over them. -/
def over (cs : List D) (o : Nat) (new : List D) : List D := cs.take o ++ new ++ cs.drop (o + new.length)

def fillD (place : Nat → Option (Nat × Nat)) : List D → List (Nat × D) → Option (List D)
  | cs, [] => some cs
  | cs, (i, d) :: r => match place i with
    | none => none
    | some (o, k) => if d.cells.length = k ∧ o + k ≤ cs.length ∧ d.cells.all D.one = true then fillD place (over cs o d.cells) r else none

/-- Offset and size of each field. -/
def placesOf (P : Program) (t : TypeId) : Option (List (Nat × Nat)) :=
  match P.underlying t with
  | some (.struct fields) => fields.toList.mapM fun f => (P.info? f.type).map fun i => (f.offset, i.size)
  | _ => none

def buildD (P : Program) (t : TypeId) (ps : List (Nat × D)) : Option D :=
  match zeroOf P t, placesOf P t with
  | some z, some pl => (fillD (fun i => pl[i]?) (z.cells.toList.map .val) ps).map .agg
  | _, _ => none

/-! Maps -/
def KC.of (P : Program) (t : TypeId) : Option KC := match P.underlying t with
  | some .string => some .str
  | some (.int k) => some (.num k)
  | some .bool => some .boo
  | _ => none
/-- The plain ones of a struct's fields, one after another. -/
def KC.ofFs (P : Program) (sub : TypeId → Option (List KC)) : List Field → Nat → Option (List KC)
  | [], _ => some []
  | f :: fs, i => if f.name ≠ "_" ∧ f.offset = i then match sub f.type with
      | some cs => if szOf P f.type = some cs.length then (KC.ofFs P sub fs (i + cs.length)).map (cs ++ ·) else none
      | none => none
    else none
/-- The plain ones of a type: itself, or those of its fields. -/
def KC.ofT (P : Program) : Nat → TypeId → Option (List KC)
  | 0, t => (KC.of P t).map fun c => [c]
  | n + 1, t => match P.underlying t with
    | some (.struct fs) => if P.stoodInHeld t then none else KC.ofFs P (KC.ofT P n) fs.toList 0
    | _ => (KC.of P t).map fun c => [c]
def KS.of (P : Program) (t : TypeId) : Option KS := match P.underlying t with
  | some (.struct fs) => if P.stoodInHeld t then none else (KC.ofFs P (KC.ofT P 1) fs.toList 0).map .agg
  | _ => (KC.of P t).map .one
def mapT (P : Program) (t : TypeId) : Option (TypeId × TypeId) := match P.underlying t with
  | some (.map k e) => some (k, e)
  | _ => none
def valsD : List D → Option (List Value)
  | [] => some []
  | .val v :: r => (valsD r).map (v :: ·)
  | _ => none
def keyD : D → Option Value
  | .val v => some v
  | .agg ds => (valsD ds).map fun vs => .agg vs.toArray
  | _ => none
open Classical in
noncomputable def mget : List (Value × D) → Value → Option D
  | [], _ => none
  | (k', d) :: r, k => if k' = k then some d else mget r k
open Classical in
noncomputable def mput : List (Value × D) → Value → D → List (Value × D)
  | [], k, d => [(k, d)]
  | (k', d') :: r, k, d => if k' = k then (k', d) :: r else (k', d') :: mput r k d
def mapOf (κ : Kp) : D → Option (KS × List (Value × D))
  | .mref n => match κ n with
    | some (.map ks es) => some (ks, es)
    | _ => none
  | .fmap ks es => some (ks, es)
  | _ => none
def okD (ok : Bool) (d : D) (b : Bool) : D := if ok then .tup [d, .val (.bool b)] else d
noncomputable def lookD (P : Program) (et : TypeId) (ok : Bool) : Option D → Option D
  | some d => some (okD ok d true)
  | none => (zeroOf P et).map fun z => okD ok (ofV z) false
noncomputable def lookupD (P : Program) (κ : Kp) (t : TypeId) (x key : D) (ok : Bool) : Option D :=
  match mapT P t with
  | some (kt, et) => match KS.of P kt, keyD key with
    | some ks, some k => if ks.fits k = true then (match mapOf κ x with
        | some (ks', es) => if ks' = ks then lookD P et ok (mget es k) else none
        | none => match x with
          | .val (.map none) => lookD P et ok none
          | _ => none) else none
    | _, _ => none
  | none => none
def capD (P : Program) (t : TypeId) : D → Option D
  | .val (.slice _ _ c) => if (elemS P t).isSome then some (.val (.int .i64 c)) else none
  | _ => none
/-- The greater one, or the smaller one, of two integers. -/
def mmD (mx : Bool) : D → D → Option D
  | .val (.int k a), .val (.int k' b) => if k = k' then some (.val (.int k (if mx = true then (if b > a then b else a) else (if b < a then b else a)))) else none
  | _, _ => none

def lenM (P : Program) (κ : Kp) (t : TypeId) (x : D) : Option D :=
  match mapOf κ x with
  | some (_, es) => if (mapT P t).isSome then some (.val (.int .i64 es.length)) else none
  | none => lenD P t x

def subD (P : Program) (t : TypeId) : D → D → D → Option D
  | .val (.string s), .val (.int _ l), .val (.int _ h) => if isStr P t = true ∧ 0 ≤ l ∧ l ≤ h ∧ h ≤ s.size then some (.val (.string (s.extract l.toNat h.toNat))) else none
  | _, _, _ => none
/-- Might two nil values of an interface be compared at this type? -/
def egOf (P : Program) (t : TypeId) : Bool := P.eqGuardType P.depth t
open Classical in
/-- Two structs of plain ones, compared. -/
noncomputable def aggEqD (P : Program) (t : TypeId) (op : BinOp) : D → D → Option D
  | .agg xs, .agg ys => match KS.of P t, valsD xs, valsD ys with
    | some (.agg cs), some vs, some us => if egOf P t = false ∧ KC.fitsL cs vs = true ∧ KC.fitsL cs us = true then (eqR op (decide (vs = us))).map .val else none
    | _, _, _ => none
  | _, _ => none
/-- All rows have k cells. -/
def lenRows (k : Nat) (rows : List D) : Prop := ∀ r ∈ rows, r.cells.length = k
open Classical in
/-- A slice of a slice. -/
noncomputable def sliD (P : Program) (κ : Kp) (t : TypeId) (x : D) (l : Int) (h : Option Int) : Option D :=
  match elemS P t with
  | some e => match szOf P e with
    | some k => match x with
      | .sl _ rows => if 0 ≤ l ∧ l ≤ h.getD rows.length ∧ h.getD rows.length ≤ rows.length ∧ lenRows k rows then some (.sl false ((rows.take (h.getD rows.length).toNat).drop l.toNat)) else none
      | .own n _ => match κ n with
        | some (.arr _ k' rows) => if k' = k ∧ 0 < rows.length ∧ 0 ≤ l ∧ l ≤ h.getD rows.length ∧ h.getD rows.length ≤ rows.length then some (.osl n k l.toNat (h.getD rows.length - l).toNat) else none
        | _ => none
      | .osl n k' off len => if k' = k ∧ 0 ≤ l ∧ l ≤ h.getD len ∧ h.getD len ≤ len then some (.osl n k (off + l.toNat) (h.getD len - l).toNat) else none
      | _ => none
    | none => none
  | none => none
def intOfD : D → Option Int
  | .val (.int _ n) => some n
  | _ => none
noncomputable def sliceD (P : Program) (κ : Kp) (t : TypeId) (x : D) : Option D → Option D → Option D
  | none, none => sliD P κ t x 0 none
  | some l, none => (intOfD l).bind fun l => sliD P κ t x l none
  | none, some h => (intOfD h).bind fun h => sliD P κ t x 0 (some h)
  | some l, some h => match subD P t x l h with
    | some v => some v
    | none => (intOfD l).bind fun l => (intOfD h).bind fun h => sliD P κ t x l (some h)
def isNilK : Operand → Bool
  | .const .nilIface => true
  | _ => false
def nilIfcD (P : Program) (t : TypeId) (op : BinOp) : D → Option D
  | .iface _ _ => if isIfc P t = true ∧ hasT P t = true then (eqR op false).map .val else none
  | .val .nilIface => if isIfc P t = true ∧ hasT P t = true then (eqR op true).map .val else none
  | _ => none

noncomputable def dopR (P : Program) (o : Oper) (e : Operand → D) (κ : Kp) : Option D :=
  match o.op with
  | .move x => some (e x)
  | .assign x => some (e x)
  | .pick c a b => match e c with
    | .val (.bool true) => some (e a)
    | .val (.bool false) => some (e b)
    | _ => none
  | .load t x => loadD P κ t (e x)
  | .nilCheck x => nilD (e x)
  | .binOp op t x y _ => match isNilK y, e y with
    | true, .val .nilIface => nilIfcD P t op (e x)
    | _, _ => match binD P t op (e x) (e y) with
      | some v => some v
      | none => aggEqD P t op (e x) (e y)
  | .unOp op _ x => unD op (e x)
  | .convert s d x => convD P s d (e x)
  | .makeInterface t x => if isIfc P t then none else some (.iface t (e x))
  | .makeFunc fn a c => some (.func fn (a.toList.map e) (c.toList.map e))
  | .fieldAddr t x f => fieldAddrD P t (e x) f
  | .field t x f => fieldD P t (e x) f
  | .indexAddr t x i => indexAddrD P κ t (e x) (e i)
  | .index t x i => indexD P t (e x) (e i)
  | .extract t i => match e t with
    | .tup vs => vs[i]?
    | _ => none
  | .lookup t x k ok => lookupD P κ t (e x) (e k) ok
  | .build t ps => buildD P t (ps.toList.map fun p => (p.1, e p.2))
  | .slice t x l h none => sliceD P κ t (e x) (l.map e) (h.map e)
  | .call c => match c.callee, c.args.toList, c.argTypes.toList with
    | .builtin .len, [x], [t] => lenM P κ t (e x)
    | .builtin .cap, [x], [t] => capD P t (e x)
    | .builtin .max, [x, y], [_, _] => mmD true (e x) (e y)
    | .builtin .min, [x, y], [_, _] => mmD false (e x) (e y)
    | _, _, _ => none
  | _ => none

def Yields (E : Ctx) (o : Oper) (e : Operand → D) (κ : Kp) (v : D) : Prop :=
  ∀ w0, E.A w0 → ∀ G w (ρ : Operand → Value), WF w0 G w → (∀ x ∈ o.op.operands, V G w (ρ x) (e x)) → Objs w0 G w κ →
    ∃ x, (execOp ρ o).run E.P w = .ok (.value x) w ∧ V G w x v

end Go.Ab
