/- A part of the proof, under no conditions of its own: Ab6. -/
import Derived.Test.YtomkekilpdkjgaaDoorAb5b
/-
  Operations within a region, one after another.
-/
namespace Go.Ab
open Go Go.RowKit

section
variable {w0 : World} {G : Gh} {w : World} {κ : Kp}

def Gh.upd (G : Gh) (n : Nm) (v : Value) : Gh := { G with ρ := fun m => if m = n then some v else G.ρ m }
def Gh.add (G : Gh) (b : Nat) : Gh := { G with F := fun x => G.F x ∨ x = b }
def single (n : Nm) (o : Ob) : Kp := fun m => if n = m then some o else none

theorem get_single (n : Nm) (o : Ob) : get [(n, o)] = single n o := by
  funext m
  simp [get, single]

theorem get_append (a b : Sto) : get (a ++ b) = Kp.or (get a) (get b) := by
  funext n
  induction a with
  | nil => simp [get, Kp.or]
  | cons p r ih =>
    obtain ⟨m, o⟩ := p
    simp only [List.cons_append, get, Kp.or] at *
    split
    · simp
    · exact ih

theorem or_nil (κ : Kp) : Kp.or (get []) κ = κ := by
  funext n
  simp [Kp.or, get]

theorem Below.of_grown (hb : Below w0.heap.size w0 w) {w' : World} {row : Option Nat} (hg : w.grownBy w' row) (hr : ∀ b, row = some b → w0.heap.size ≤ b) : Below w0.heap.size w0 w' :=
  hb.grown hg hb.size hr

theorem V.upd {n : Nm} {u : Value} (hn : G.ρ n = none) {w' : World} (hh : ∀ b, G.F b → w'.heap[b]? = w.heap[b]?) {v : Value} {d : D} (h : V G w v d) : V (G.upd n u) w' v d :=
  h.mono (fun _ h => h) hh fun m v hm => by
    unfold Gh.upd
    simp only
    split
    · rename_i he; subst he; rw [hn] at hm; cases hm
    · exact hm

/-- A new object, in blocks of its own. -/
theorem new_obj (hw : WF w0 G w) (ho : Objs w0 G w κ) {n : Nm} (hn : G.ρ n = none) (hg : n.g < G.top) {w' : World} (hgr : w.grownBy w' none) {v : Value} {ob : Ob}
    (hb : ∀ b, blk v = some b → w.heap.size ≤ b ∧ b < w'.heap.size) (hov : OV w0 (G.upd n v) w' v ob) :
    WF w0 (G.upd n v) w' ∧ Objs w0 (G.upd n v) w' (Kp.or (single n ob) κ) ∧ Step (fun m => m = n) G w κ (G.upd n v) w' (Kp.or (single n ob) κ) := by
  have hρn : (G.upd n v).ρ n = some v := by simp [Gh.upd]
  have hρo : ∀ m, m ≠ n → (G.upd n v).ρ m = G.ρ m := fun m hm => by simp [Gh.upd, hm]
  have hκn : κ n = none := by
    cases hk : κ n with
    | none => rfl
    | some o =>
      obtain ⟨u, hu, _⟩ := ho.ob n o hk
      rw [hn] at hu; cases hu
  have hold : ∀ b, b < w.heap.size → w'.heap[b]? = w.heap[b]? := fun b hb => hgr.block b hb (by simp)
  have split : ∀ m o, Kp.or (single n ob) κ m = some o → (m = n ∧ o = ob) ∨ (m ≠ n ∧ κ m = some o) := by
    intro m o h
    unfold Kp.or single at h
    by_cases hm : n = m
    · rw [if_pos hm] at h; exact .inl ⟨hm.symm, by simpa using h.symm⟩
    · rw [if_neg hm] at h; exact .inr ⟨fun e => hm e.symm, by simpa using h⟩
  refine ⟨⟨Below.of_grown hw.below hgr (fun b h => by cases h), hw.old, fun b hF => Nat.lt_of_lt_of_le (hw.lt b hF) hgr.size, fun m u hm => ?_⟩, ⟨fun m o hm => ?_, fun m m' o o' u u' b h1 h2 hne h3 h4 h5 h6 => ?_⟩, ?_⟩
  · by_cases he : m = n
    · subst he
      rw [hρn] at hm; cases hm
      exact ⟨hg, fun b hb' => ⟨Nat.le_trans hw.below.size (hb b hb').1, (hb b hb').2⟩⟩
    · rw [hρo m he] at hm
      obtain ⟨h1, h2⟩ := hw.nm m u hm
      exact ⟨h1, fun b hb' => ⟨(h2 b hb').1, Nat.lt_of_lt_of_le (h2 b hb').2 hgr.size⟩⟩
  · rcases split m o hm with ⟨rfl, rfl⟩ | ⟨hne, hk⟩
    · exact ⟨v, hρn, hov, fun b hb' hF => by have := hw.lt b hF; have := (hb b hb').1; omega⟩
    · obtain ⟨u, hu, hov', hF⟩ := ho.ob m o hk
      refine ⟨u, by rw [hρo m hne]; exact hu, hov'.mono (fun x d hx => hx.upd hn fun b hF => hold b (hw.lt b hF)) (fun b hb' => hold b (hov'.lt b hb')), hF⟩
  · rcases split m o h1 with ⟨rfl, rfl⟩ | ⟨hm, k1⟩ <;> rcases split m' o' h2 with ⟨rfl, rfl⟩ | ⟨hm', k2⟩
    · exact hne rfl
    · rw [hρn] at h3; cases h3
      rw [hρo m' hm'] at h4
      obtain ⟨u2, hu2, hov2, _⟩ := ho.ob m' o' k2
      rw [h4] at hu2; cases hu2
      have := hov2.lt b h6
      have := (hb b h5).1
      omega
    · rw [hρn] at h4; cases h4
      rw [hρo m hm] at h3
      obtain ⟨u2, hu2, hov2, _⟩ := ho.ob m o k1
      rw [h3] at hu2; cases hu2
      have := hov2.lt b h5
      have := (hb b h6).1
      omega
    · rw [hρo m hm] at h3
      rw [hρo m' hm'] at h4
      exact ho.ne m m' o o' u u' b k1 k2 hne h3 h4 h5 h6
  · refine ⟨hgr.size, fun b hb' _ => hold b hb', fun _ h => h, fun b h => .inl h, fun m u hm => ?_, fun m h1 h2 h3 => ?_, Nat.le_refl _, fun b ⟨m, o, u, h1, h2, h3⟩ => ?_, fun m hm => ?_⟩
    · rw [hρo m (fun e => by subst e; rw [hn] at hm; cases hm)]; exact hm
    · rw [hρo m h3]; exact h2
    · rcases split m o h1 with ⟨rfl, rfl⟩ | ⟨hne, hk⟩
      · rw [hρn] at h2; cases h2; exact .inl (hb b h3).1
      · rw [hρo m hne] at h2; exact .inr ⟨m, o, u, hk, h2, h3⟩
    · by_cases he : m = n
      · subst he; exact .inr hn
      · refine .inl ?_
        unfold Kp.or single at hm
        rw [if_neg (fun e => he e.symm)] at hm
        simpa using hm

/-- A new block that is never written again. -/
theorem new_still (hw : WF w0 G w) (ho : Objs w0 G w κ) (o : Obj) :
    WF w0 (G.add w.heap.size) (w.alloc o) ∧ Objs w0 (G.add w.heap.size) (w.alloc o) κ ∧ Step (fun _ => False) G w κ (G.add w.heap.size) (w.alloc o) κ := by
  have hold : ∀ b, b < w.heap.size → (w.alloc o).heap[b]? = w.heap[b]? := fun b hb => heap_alloc_old w o b hb
  have hsz : (w.alloc o).heap.size = w.heap.size + 1 := World.size_alloc _ _
  have hV : ∀ v d, V G w v d → V (G.add w.heap.size) (w.alloc o) v d := fun v d h => h.mono (fun b h => .inl h) (fun b hF => hold b (hw.lt b hF)) (fun _ _ h => h)
  have hlt : ∀ n o v b, κ n = some o → G.ρ n = some v → blk v = some b → b < w.heap.size := fun n o v b h1 h2 h3 => ((hw.nm n v h2).2 b h3).2
  refine ⟨⟨hw.below.alloc hw.below.size o, fun b hb => .inl (hw.old b hb), fun b hF => ?_, fun n v hn => ⟨(hw.nm n v hn).1, fun b hb => ⟨((hw.nm n v hn).2 b hb).1, by have := ((hw.nm n v hn).2 b hb).2; omega⟩⟩⟩,
    ⟨fun n ob hn => ?_, ho.ne⟩, ⟨by omega, fun b hb _ => hold b hb, fun b h => .inl h, fun b h => ?_, fun _ _ h => h, fun _ _ h _ => h, Nat.le_refl _, fun b h => .inr h, fun _ h => .inl h⟩⟩
  · rcases hF with h | h
    · have := hw.lt b h; omega
    · omega
  · obtain ⟨v, hv, hov, hF⟩ := ho.ob n ob hn
    refine ⟨v, hv, hov.mono hV (fun b hb => hold b (hov.lt b hb)), fun b hb h => ?_⟩
    rcases h with h | h
    · exact hF b hb h
    · have := hov.lt b hb; omega
  · rcases h with h | h
    · exact .inl h
    · exact .inr (.inl (by omega))

end

def rsv (g : Nat) (dst : Option Tmp) : Nm → Prop := fun n => n.g = g ∧ dst = some n.i

/-- An operation that leaves all that may be written as it was, but for new objects. -/
def QOp (E : Ctx) (g : Nat) (o : Oper) (e : Operand → D) (κ : Kp) (v : D) (nw : Sto) : Prop :=
  ∀ w0, E.A w0 → ∀ G w (a : Act), WF w0 G w → (∀ x ∈ o.op.operands, V G w (a.eval x) (e x)) → Objs w0 G w κ → (∀ d, o.dst = some d → g < G.top ∧ ∀ j, G.ρ ⟨g, d, j⟩ = none) →
    ∀ (K : Act → World → Prop) (Q' : Exit → Act → World → Prop),
      (∀ G' w' x, WF w0 G' w' → V G' w' x v → Objs w0 G' w' (Kp.or (get nw) κ) → Step (rsv g o.dst) G w κ G' w' (Kp.or (get nw) κ) → K (a.put o.dst x) w') → o.wp E.P a w K Q'

theorem QOp.of_yields {E : Ctx} {g : Nat} {o : Oper} {e : Operand → D} {κ : Kp} {v : D} (h : Yields E o e κ v) : QOp E g o e κ v [] := by
  intro w0 hA G w a hw hV ho _ K Q' hK
  obtain ⟨x, hx, hv⟩ := h w0 hA G w a.eval hw hV ho
  unfold Oper.wp
  rw [hx]
  exact hK G w x hw hv (by rw [or_nil]; exact ho) (by rw [or_nil]; exact .refl _ _ _ _)

/-! ### alloc, box, buildSlice -/

theorem box_new {E : Ctx} {g d : Nat} {o : Oper} {e : Operand → D} {κ : Kp} {t : TypeId} {cs : List D} (hd : o.dst = some d)
    (hrun : ∀ w0, E.A w0 → ∀ G w (ρ : Operand → Value), WF w0 G w → (∀ x ∈ o.op.operands, V G w (ρ x) (e x)) → ∃ c, (execOp ρ o).run E.P w = .ok (.value (.pointer (some ⟨w.heap.size, 0, none⟩))) (w.alloc (.cells c t)) ∧ Vs G w c cs) :
    QOp E g o e κ (.ptr ⟨g, d, 0⟩ 0) [(⟨g, d, 0⟩, .box t cs)] := by
  intro w0 hA G w a hw hV ho hf K Q' hK
  obtain ⟨c, hc, hs⟩ := hrun w0 hA G w a.eval hw hV
  obtain ⟨hg, hfresh⟩ := hf d hd
  unfold Oper.wp
  rw [hc]
  have hgr : w.grownBy (w.alloc (.cells c t)) none := World.grownBy_alloc w _ none
  have hnew : (w.alloc (.cells c t)).heap[w.heap.size]? = some (.cells c t (0, 0)) := heap_alloc_new w _
  have hsz : (w.alloc (.cells c t)).heap.size = w.heap.size + 1 := World.size_alloc _ _
  obtain ⟨h1, h2, h3⟩ := new_obj hw ho (hfresh 0) hg (v := .pointer (some ⟨w.heap.size, 0, none⟩)) (ob := .box t cs) hgr (fun b hb => by simp [blk] at hb; omega)
    ⟨w.heap.size, c, rfl, hnew, hs.1, fun i x d hx hd' => (hs.2 i x d hx hd').upd (hfresh 0) (fun b hF => heap_alloc_old w _ b (hw.lt b hF))⟩
  refine hK _ _ _ h1 (.ptr (by simp [Gh.upd])) (by rw [get_single]; exact h2) ?_
  rw [get_single]
  exact h3.weaken fun n _ hn => by subst hn; exact ⟨rfl, hd⟩

def Flat (G : Gh) (w : World) (k : Nat) (rows : List D) (xs : Nat → Option Value) : Prop :=
  ∀ (i : Nat) r, rows[i]? = some r → r.cells.length = k ∧ ∀ (j : Nat) d, r.cells[j]? = some d → ∃ x, xs (i * k + j) = some x ∧ V G w x d

/-- The rows with some replaced. -/
def setRows (k : Nat) : List D → List (Nat × D) → Option (List D)
  | rows, [] => some rows
  | rows, (i, d) :: r => if i < rows.length ∧ d.cells.length = k ∧ d.cells.all D.one = true then setRows k (rows.set i d) r else none

def buildSliceD (P : Program) (t : TypeId) (n : Nat) (ps : List (Nat × D)) : Option D :=
  match elemS P t with
  | some e => match szOf P e, zeroOf P e with
    | some k, some z => if z.cells.size = k ∧ n * k ≤ 16777216 ∧ 0 < k ∧ 0 < n then (setRows k (List.replicate n (ofV z)) ps).map (.sl true) else none
    | _, _ => none
  | none => none

theorem ofV_cells (z : Value) : (ofV z).cells = z.cells.toList.map .val := by
  cases z <;> simp [ofV, D.cells, Value.cells]

theorem row_idx {k i j i' j' : Nat} (hj : j < k) (hj' : j' < k) (h : i * k + j = i' * k + j') : i = i' ∧ j = j' := by
  have h1 : (i * k + j) / k = i := by rw [Nat.mul_comm, Nat.mul_add_div (by omega), Nat.div_eq_of_lt hj]; rfl
  have h2 : (i' * k + j') / k = i' := by rw [Nat.mul_comm, Nat.mul_add_div (by omega), Nat.div_eq_of_lt hj']; rfl
  have : i = i' := by rw [← h1, ← h2, h]
  subst this
  exact ⟨rfl, by omega⟩

theorem row_le {k i n : Nat} (h : i < n) : i * k + k ≤ n * k := by
  rw [← Nat.succ_mul]
  exact Nat.mul_le_mul_right k h

theorem fillRows_run {G : Gh} {w : World} {k : Nat} : ∀ (ps : List (Nat × Value)) (qs : List (Nat × D)) (cs : Array Value) (rows rows' : List D),
    ps.length = qs.length → (∀ (j : Nat) p q, ps[j]? = some p → qs[j]? = some q → p.1 = q.1 ∧ V G w p.2 q.2) → cs.size = rows.length * k → Flat G w k rows (cs[·]?) → setRows k rows qs = some rows' →
    ∃ cs' : Array Value, Instr.fill (fun i => some (i * k, k)) cs ps = some cs' ∧ cs'.size = rows'.length * k ∧ rows'.length = rows.length ∧ Flat G w k rows' (cs'[·]?)
  | [], [], cs, rows, rows', _, _, hs, hv, h => by
    simp only [setRows, Option.some.injEq] at h
    subst h
    exact ⟨cs, rfl, hs, rfl, hv⟩
  | (i, v) :: ps, (i', d) :: qs, cs, rows, rows', hl, hp, hsz, hv, h => by
    obtain ⟨rfl, hvd⟩ : i = i' ∧ V G w v d := hp 0 _ _ rfl rfl
    simp only [setRows] at h
    split at h
    · rename_i hc
      obtain ⟨hi, rfl, h1⟩ := hc
      obtain ⟨⟨hs, hV⟩, _⟩ := hvd.cells h1
      have hrow := row_le (k := d.cells.length) hi
      have hfold : v.cells.zipIdx.foldl (fun cs (x : Value × Nat) => match x with | (c, j) => cs.setIfInBounds (i * d.cells.length + j) c) cs = (v.cells.toList.zipIdx 0).foldl (fun (cs : Array Value) (p : Value × Nat) => cs.setIfInBounds (i * d.cells.length + p.2) p.1) cs := by
        rw [← Array.foldl_toList, Array.toList_zipIdx]
      obtain ⟨f1, f2⟩ := foldl_set (i * d.cells.length) v.cells.toList 0 cs
      have hv' : Flat G w d.cells.length (rows.set i d) ((v.cells.zipIdx.foldl (fun cs (x : Value × Nat) => match x with | (c, j) => cs.setIfInBounds (i * d.cells.length + j) c) cs)[·]?) := by
        intro i2 r hr
        rw [List.getElem?_set] at hr
        split at hr
        · rename_i he
          subst he
          cases hr
          refine ⟨rfl, fun j d' hd => ?_⟩
          have hj := (List.getElem?_eq_some_iff.1 hd).1
          refine ⟨v.cells[j]'(by omega), ?_, hV j _ _ (by simp [show j < v.cells.size by omega]) hd⟩
          simp only
          rw [hfold, f2, if_pos ⟨by omega, by simp; omega, by omega⟩]
          simp [show i * d.cells.length + j - i * d.cells.length = j by omega, show j < v.cells.size by omega]
        · rename_i he
          obtain ⟨g1, g2⟩ := hv i2 r hr
          refine ⟨g1, fun j d' hd => ?_⟩
          obtain ⟨x, hx, hxv⟩ := g2 j d' hd
          refine ⟨x, ?_, hxv⟩
          have hj := (List.getElem?_eq_some_iff.1 hd).1
          simp only at hx ⊢
          rw [hfold, f2, if_neg ?_]
          · exact hx
          · rintro ⟨k1, k2, k3⟩
            simp only [Array.length_toList] at k2
            have : i2 = i := (row_idx (k := d.cells.length) (i := i2) (j := j) (i' := i) (j' := i2 * d.cells.length + j - i * d.cells.length) (by omega) (by omega) (by omega)).1
            exact he this.symm
      obtain ⟨cs', hf, h2, h3, h4⟩ := fillRows_run ps qs _ _ rows' (by simpa using hl) (fun j p q hpj hqj => hp (j + 1) p q hpj hqj) (by rw [hfold, f1, List.length_set]; exact hsz) hv' h
      refine ⟨cs', ?_, h2, by rw [h3, List.length_set], h4⟩
      simp only [Instr.fill]
      rw [if_neg (by simp; omega)]
      exact hf
    · cases h
  | [], _ :: _, _, _, _, hl, _, _, _, _ => by simp at hl
  | _ :: _, [], _, _, _, hl, _, _, _, _ => by simp at hl

theorem zeros_flat {G : Gh} {w : World} {n k : Nat} {z : Value} (hz : z.cells.size = k) :
    ((Array.range (n * k)).map (z.cells[· % z.cells.size]!)).size = (List.replicate n (ofV z)).length * k ∧ Flat G w k (List.replicate n (ofV z)) (((Array.range (n * k)).map (z.cells[· % z.cells.size]!))[·]?) := by
  refine ⟨by simp, fun i r hr => ?_⟩
  have hi : i < n := by
    have := (List.getElem?_eq_some_iff.1 hr).1
    simpa using this
  rw [List.getElem?_replicate, if_pos hi] at hr
  cases hr
  rw [ofV_cells]
  refine ⟨by simp [hz], fun j d hd => ?_⟩
  have hj : j < k := by
    have := (List.getElem?_eq_some_iff.1 hd).1
    simpa [hz] using this
  have hlt : i * k + j < n * k := by have := row_le (k := k) hi; omega
  have hmod : (i * k + j) % k = j := by rw [Nat.mul_comm, Nat.mul_add_mod]; exact Nat.mod_eq_of_lt hj
  refine ⟨z.cells[j]'(by omega), ?_, ?_⟩
  · simp only [Array.getElem?_map, Array.getElem?_range, hlt, ↓reduceIte, Option.map_some, hz, hmod]
    simp [show j < z.cells.size by omega]
  · simp only [List.getElem?_map, Array.getElem?_toList, show j < z.cells.size by omega, Array.getElem?_eq_getElem, Option.map_some, Option.some.injEq] at hd
    subst hd
    exact .val _

theorem qop_buildSlice {E : Ctx} {g : Nat} {o : Oper} {e : Operand → D} {κ : Kp} {t : TypeId} {n : Nat} {ps : Array (Nat × Operand)} (hop : o.op = .buildSlice t n ps) {v : D} (h : buildSliceD E.P t n (ps.toList.map fun p => (p.1, e p.2)) = some v) :
    QOp E g o e κ v [] := by
  unfold buildSliceD at h
  split at h
  · rename_i el he
    split at h
    · rename_i k z hk hz
      split at h
      · rename_i hc
        obtain ⟨hzc, hle, hk0, hn0⟩ := hc
        cases hr : setRows k (List.replicate n (ofV z)) (ps.toList.map fun p => (p.1, e p.2)) with
        | none => rw [hr] at h; cases h
        | some rows' =>
          rw [hr] at h
          cases h
          intro w0 hA G w a hw hV ho _ K Q' hK
          obtain ⟨z1, z2⟩ := zeros_flat (G := G) (w := w) (n := n) hzc
          obtain ⟨cs', hf, hs', hl', hfl⟩ := fillRows_run (G := G) (w := w) (k := k) (ps.toList.map fun p => (p.1, a.eval p.2)) (ps.toList.map fun p => (p.1, e p.2)) _ _ rows' (by simp) (fun j p q hp hq => by
            simp only [List.getElem?_map, Option.map_eq_some_iff] at hp hq
            obtain ⟨y, hy, rfl⟩ := hp
            obtain ⟨y', hy', rfl⟩ := hq
            rw [hy] at hy'
            cases hy'
            refine ⟨rfl, hV y.2 ?_⟩
            simp only [hop, Op.operands, List.mem_toArray, List.mem_map]
            exact ⟨y, List.mem_of_getElem? hy, rfl⟩) z1 z2 hr
          have hrun : (execOp a.eval o).run E.P w = .ok (.value (.slice (some ⟨w.heap.size, 0, none⟩) n n)) (w.alloc (.cells cs' el)) := by
            have h24 : ¬ (n * k > 2 ^ 24) := by omega
            have h0 : ¬ (n * k = 0) := by
              have := Nat.mul_pos hn0 hk0
              omega
            have hf' : Instr.fill (fun i => some (i * k, k)) (Array.map (fun x => z.cells[x % z.cells.size]!) (Array.range (n * k))) (List.map (fun p => (p.1, a.eval p.2)) ps.toList) = some cs' := hf
            simp only [execOp, hop, Sem.run_bind, Instr.buildSlice, run_underlying (elemS_spec he), Result.andThen_ok, run_sizeOf hk, h24, h0, ↓reduceIte, run_zeroValue hz, Sem.run_pure, Array.toList_map, hf', newRow, run_newObj]
            rfl
          obtain ⟨g1, g2, g3⟩ := new_still hw ho (.cells cs' el)
          unfold Oper.wp
          rw [hrun]
          have hnew : (w.alloc (.cells cs' el)).heap[w.heap.size]? = some (.cells cs' el (0, 0)) := heap_alloc_new w _
          have hln : rows'.length = n := by simpa using hl'
          refine hK _ _ _ g1 (.sl (k := k) (fun i j => (cs'[i * k + j]?).getD undef) hln.symm (fun _ => rfl) (Nat.le_refl _) (.inr rfl) (fun i r hi => (hfl i r hi).1) (fun i r j d hi hd => ?_) (fun i r j d hi hd => ?_)) (by rw [or_nil]; exact g2) (by rw [or_nil]; exact g3.weaken fun _ _ h => h.elim)
          · obtain ⟨x, hx, _⟩ := (hfl i r hi).2 j d hd
            simp only at hx
            rw [Nat.zero_add, cell_of_row _ _ _ _ _ _ hnew, hx]
            rfl
          · obtain ⟨x, hx, hxv⟩ := (hfl i r hi).2 j d hd
            simp only at hx
            rw [hx]
            exact hxv.mono g3.F (fun b hF => heap_alloc_old w _ b (hw.lt b hF)) g3.ρ
      · cases h
    · cases h
  · cases h

def dop (P : Program) (g : Nat) (o : Oper) (e : Operand → D) (κ : Kp) : Option (D × Sto) :=
  match o.op with
  | .alloc t => match o.dst, zeroOf P t with
    | some d, some z => some (.ptr ⟨g, d, 0⟩ 0, [(⟨g, d, 0⟩, .box t (z.cells.toList.map .val))])
    | _, _ => none
  | .box t x => match o.dst with
    | some d => if (e x).cells.all D.one = true then some (.ptr ⟨g, d, 0⟩ 0, [(⟨g, d, 0⟩, .box t (e x).cells)]) else none
    | none => none
  | .buildSlice t n ps => (buildSliceD P t n (ps.toList.map fun p => (p.1, e p.2))).map fun v => (v, [])
  | _ => (dopR P o e κ).map fun v => (v, [])

theorem dop_sound {E : Ctx} {g : Nat} {o : Oper} {e : Operand → D} {κ : Kp} {v : D} {nw : Sto} (h : dop E.P g o e κ = some (v, nw)) : QOp E g o e κ v nw := by
  unfold dop at h
  split at h
  · rename_i t hop
    split at h
    · rename_i d z hd hz
      cases h
      refine box_new hd fun w0 hA G w ρ hw hV => ⟨z.cells, ?_, Vs.vals _⟩
      simp only [execOp, hop, Sem.run_bind, Instr.alloc, run_zeroValue hz, Result.andThen_ok, newVar, newRow, run_newObj, Sem.run_pure]
      rfl
    · cases h
  · rename_i t x hop
    split at h
    · rename_i d hd
      split at h
      · rename_i h1
        cases h
        refine box_new hd fun w0 hA G w ρ hw hV => ⟨(ρ x).cells, ?_, ((hV x (by simp [hop, Op.operands])).cells h1).1⟩
        simp only [execOp, hop, Sem.run_bind, Instr.box, Result.andThen_ok, newVar, newRow, run_newObj, Sem.run_pure]
        rfl
      · cases h
    · cases h
  · rename_i t n ps hop
    simp only [Option.map_eq_some_iff] at h
    obtain ⟨v', hv, he⟩ := h
    cases he
    exact qop_buildSlice hop hv
  · simp only [Option.map_eq_some_iff] at h
    obtain ⟨v', hv, he⟩ := h
    cases he
    exact .of_yields (dopR_sound hv)

end Go.Ab
