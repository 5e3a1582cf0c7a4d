/- A part of the proof, under no conditions of its own: Ab8. -/
import Derived.Test.YtomkekilpdkjgaaDoorAb7
/-
  Stores, appends, calls.
-/
namespace Go.Ab
open Go Go.RowKit

section
variable {w0 : World} {G : Gh} {w : World} {κ : Kp}

def Kp.put (κ : Kp) (n : Nm) (o : Ob) : Kp := fun m => if n = m then some o else κ m
def Kp.del (κ : Kp) (n : Nm) : Kp := fun m => if n = m then none else κ m

theorem get_set' (σ : Sto) (n : Nm) (o : Ob) (h : get σ n ≠ none) : get (set σ n o) = Kp.put (get σ) n o := funext (get_set σ n o h)
theorem get_del' (σ : Sto) (n : Nm) : get (del σ n) = Kp.del (get σ) n := funext (get_del σ n)

/-- An object has turned in place. -/
theorem change_obj (hw : WF w0 G w) (ho : Objs w0 G w κ) {n : Nm} {ob ob' : Ob} {v : Value} (hn : κ n = some ob) (hv : G.ρ n = some v) {w' : World} (hgr : w.grownBy w' (blk v)) (hov : OV w0 G w' v ob') :
    WF w0 G w' ∧ Objs w0 G w' (κ.put n ob') ∧ Step (fun _ => False) G w κ G w' (κ.put n ob') := by
  obtain ⟨h1, h2⟩ := hw.nm n v hv
  have hnF : ∀ b, blk v = some b → ¬ G.F b := by
    obtain ⟨u, hu, _, hF⟩ := ho.ob n ob hn
    rw [hv] at hu; cases hu
    exact hF
  have hwf : WF w0 G w' := ⟨Below.of_grown hw.below hgr fun b hb => (h2 b hb).1, hw.old, fun b hF => Nat.lt_of_lt_of_le (hw.lt b hF) hgr.size, fun m u hm => ⟨(hw.nm m u hm).1, fun b hb => ⟨((hw.nm m u hm).2 b hb).1, Nat.lt_of_lt_of_le ((hw.nm m u hm).2 b hb).2 hgr.size⟩⟩⟩
  have hblk : ∀ b o, Blk G (single n o) b ↔ blk v = some b := fun b o => by
    constructor
    · rintro ⟨m, o', u, k1, k2, k3⟩
      unfold single at k1
      split at k1
      · rename_i he; subst he; rw [hv] at k2; cases k2; exact k3
      · cases k1
    · exact fun h => ⟨n, o, v, by simp [single], hv, h⟩
  have hs : Step (fun _ => False) G w (single n ob) G w' (single n ob') :=
    ⟨hgr.size, fun b hb hnb => hgr.block b hb fun e => hnb ((hblk b ob).2 e.symm), fun _ h => h, fun _ h => .inl h, fun _ _ h => h, fun _ _ h _ => h, Nat.le_refl _, fun b h => .inr ((hblk b ob).2 ((hblk b ob').1 h)), fun m hm => .inl (by unfold single at *; split at hm <;> simp_all)⟩
  have hos : Objs w0 G w' (single n ob') := by
    refine ⟨fun m o hm => ?_, fun m m' o o' u u' b k1 k2 hne => ?_⟩
    · unfold single at hm
      split at hm
      · rename_i he; subst he; cases hm; exact ⟨v, hv, hov, hnF⟩
      · cases hm
    · unfold single at k1 k2
      split at k1
      · split at k2
        · rename_i e1 e2; exact absurd (e1.symm.trans e2) hne
        · cases k2
      · cases k1
  obtain ⟨f1, f2⟩ := frame (κs := single n ob) (τ := κ.del n) hw ho (fun m o hm => by
      unfold single at hm
      split at hm
      · rename_i he; subst he; cases hm; exact hn
      · cases hm) (fun m o hm => by
      unfold Kp.del at hm
      split at hm
      · cases hm
      · rename_i he; exact ⟨hm, by simp [single, he]⟩) hs hos
  have he : Kp.or (single n ob') (κ.del n) = κ.put n ob' := by
    funext m
    unfold Kp.or single Kp.del Kp.put
    split <;> simp
  rw [he] at f1 f2
  exact ⟨hwf, f1, f2⟩

/-- An object has gone over into a new one. -/
theorem turn_obj (hw : WF w0 G w) (ho : Objs w0 G w κ) {n n2 : Nm} {ob ob' : Ob} {v v' : Value} (hn : κ n = some ob) (hv : G.ρ n = some v) (hn2 : G.ρ n2 = none) (hg2 : n2.g < G.top) {w' : World} (hgr : w.grownBy w' (blk v))
    (hb : ∀ b, blk v' = some b → blk v = some b ∨ (w.heap.size ≤ b ∧ b < w'.heap.size)) (hov : OV w0 (G.upd n2 v') w' v' ob') :
    WF w0 (G.upd n2 v') w' ∧ Objs w0 (G.upd n2 v') w' ((κ.del n).put n2 ob') ∧ Step (fun m => m = n2) G w κ (G.upd n2 v') w' ((κ.del n).put n2 ob') := by
  obtain ⟨h1, h2⟩ := hw.nm n v hv
  have hne : n ≠ n2 := fun e => by subst e; rw [hv] at hn2; cases hn2
  have hρn : (G.upd n2 v').ρ n2 = some v' := by simp [Gh.upd]
  have hρo : ∀ m, m ≠ n2 → (G.upd n2 v').ρ m = G.ρ m := fun m hm => by simp [Gh.upd, hm]
  have hnF : ∀ b, blk v = some b → ¬ G.F b := by
    obtain ⟨u, hu, _, hF⟩ := ho.ob n ob hn
    rw [hv] at hu; cases hu
    exact hF
  have hwf : WF w0 (G.upd n2 v') w' := ⟨Below.of_grown hw.below hgr fun b hb => (h2 b hb).1, hw.old, fun b hF => Nat.lt_of_lt_of_le (hw.lt b hF) hgr.size, fun m u hm => by
    by_cases he : m = n2
    · subst he
      rw [hρn] at hm; cases hm
      refine ⟨hg2, fun b hb' => ?_⟩
      rcases hb b hb' with h | h
      · exact ⟨(h2 b h).1, Nat.lt_of_lt_of_le (h2 b h).2 hgr.size⟩
      · exact ⟨Nat.le_trans hw.below.size h.1, h.2⟩
    · rw [hρo m he] at hm
      exact ⟨(hw.nm m u hm).1, fun b hb => ⟨((hw.nm m u hm).2 b hb).1, Nat.lt_of_lt_of_le ((hw.nm m u hm).2 b hb).2 hgr.size⟩⟩⟩
  have hblk : ∀ b, Blk G (single n ob) b ↔ blk v = some b := fun b => by
    constructor
    · rintro ⟨m, o', u, k1, k2, k3⟩
      unfold single at k1
      split at k1
      · rename_i he; subst he; rw [hv] at k2; cases k2; exact k3
      · cases k1
    · exact fun h => ⟨n, ob, v, by simp [single], hv, h⟩
  have hs : Step (fun m => m = n2) G w (single n ob) (G.upd n2 v') w' (single n2 ob') := by
    refine ⟨hgr.size, fun b hb hnb => hgr.block b hb fun e => hnb ((hblk b).2 e.symm), fun _ h => h, fun _ h => .inl h, fun m u hm => ?_, fun m _ h2 h3 => ?_, Nat.le_refl _, fun b ⟨m, o, u, k1, k2, k3⟩ => ?_, fun m hm => ?_⟩
    · rw [hρo m (fun e => by subst e; rw [hn2] at hm; cases hm)]; exact hm
    · rw [hρo m h3]; exact h2
    · unfold single at k1
      split at k1
      · rename_i he; subst he; rw [hρn] at k2; cases k2
        rcases hb b k3 with h | h
        · exact .inr ((hblk b).2 h)
        · exact .inl h.1
      · cases k1
    · unfold single at hm
      split at hm
      · rename_i he; subst he; exact .inr hn2
      · exact absurd rfl hm
  have hos : Objs w0 (G.upd n2 v') w' (single n2 ob') := by
    refine ⟨fun m o hm => ?_, fun m m' o o' u u' b k1 k2 hne => ?_⟩
    · unfold single at hm
      split at hm
      · rename_i he; subst he; cases hm
        refine ⟨v', hρn, hov, fun b hb' hF => ?_⟩
        rcases hb b hb' with h | h
        · exact hnF b h hF
        · have := hw.lt b hF; omega
      · cases hm
    · unfold single at k1 k2
      split at k1
      · split at k2
        · rename_i e1 e2; exact absurd (e1.symm.trans e2) hne
        · cases k2
      · cases k1
  obtain ⟨f1, f2⟩ := frame (κs := single n ob) (τ := κ.del n) hw ho (fun m o hm => by
      unfold single at hm
      split at hm
      · rename_i he; subst he; cases hm; exact hn
      · cases hm) (fun m o hm => by
      unfold Kp.del at hm
      split at hm
      · cases hm
      · rename_i he; exact ⟨hm, by simp [single, he]⟩) hs hos
  have he : Kp.or (single n2 ob') (κ.del n) = (κ.del n).put n2 ob' := by
    funext m
    unfold Kp.or single Kp.del Kp.put
    split <;> simp
  rw [he] at f1 f2
  exact ⟨hwf, f1, f2⟩

theorem Vs.over {cs : Array Value} {ds : List D} {new : Array Value} {nd : List D} {o : Nat} (h : Vs G w cs ds) (hn : Vs G w new nd) (ho : o + nd.length ≤ ds.length) :
    Vs G w (cs.toList.take o ++ new.toList ++ cs.toList.drop (o + new.size)).toArray (over ds o nd) := by
  have hs := h.1
  have hns := hn.1
  refine ⟨?_, fun i c d hc hd => ?_⟩
  · rw [over_length ds o nd ho]
    simp
    omega
  · rw [over_get ds o nd ho] at hd
    simp only [List.getElem?_toArray] at hc
    have hl1 : (cs.toList.take o).length = o := by simp; omega
    split at hd
    · rename_i hi
      rw [List.append_assoc, List.getElem?_append_right (by omega), List.getElem?_append_left (by simp; omega), hl1] at hc
      exact hn.2 _ _ _ (by simpa using hc) hd
    · rename_i hi
      by_cases h1 : i < o
      · rw [List.append_assoc, List.getElem?_append_left (by omega), List.getElem?_take, if_pos h1] at hc
        exact h.2 _ _ _ (by simpa using hc) hd
      · have hl2 : (cs.toList.take o ++ new.toList).length = o + new.size := by simp; omega
        rw [List.getElem?_append_right (by omega), hl2, List.getElem?_drop] at hc
        rw [show o + new.size + (i - (o + new.size)) = i by omega] at hc
        exact h.2 _ _ _ (by simpa using hc) hd

end

section
variable {E : Ctx} {g : Nat} {o : Oper} {e : Operand → D} {κ : Kp}

theorem run_storeVar {P : Program} {w : World} {t u : TypeId} {b off : Nat} {v : Value} {c : Array Value} (hh : w.heap[b]? = some (.cells c u (0, 0))) (hs : szOf P t = some v.cells.size) (hle : off + v.cells.size ≤ c.size) (h1 : ∀ x ∈ v.cells.toList, x.oneCell' = true) :
    (Instr.storeAt t (.pointer (some ⟨b, off, none⟩)) v).run P w = .ok () (w.setRow b (c.toList.take off ++ v.cells.toList ++ c.toList.drop (off + v.cells.size)).toArray) := by
  have := run_storeCells_at P b off u v.cells.toList 0 c w hh (by simpa using hle) h1
  simp only [Nat.add_zero, Array.length_toList] at this
  simp [Instr.storeAt, Instr.sureAddr, storeVar, run_sizeOf hs, this]

theorem top_store {t : TypeId} {ao x : Operand} (hop : o.op = .store t ao x) {n : Nm} {off : Nat} (ha : e ao = .ptr n off) {u : TypeId} {cs : List D} (hk : κ n = some (.box u cs)) {d : D} (hx : e x = d) (hs : szOf E.P t = some d.cells.length)
    (hle : off + d.cells.length ≤ cs.length) (h1 : d.cells.all D.one = true) : TOp E g o e κ (.val undef) (κ.put n (.box u (over cs off d.cells))) := by
  intro w0 hA G w a hw hV ho _ K Q' hK
  have hva := hV ao (by simp [hop, Op.operands])
  have hvx := hV x (by simp [hop, Op.operands])
  rw [ha] at hva
  rw [hx] at hvx
  obtain ⟨v, hρ, ⟨b, c, rfl, hh, hsz, hcs⟩, _⟩ := ho.ob n _ hk
  generalize hva' : a.eval ao = va at hva
  cases hva with
  | ptr hρ' =>
    rw [hρ] at hρ'
    cases hρ'
    obtain ⟨hvs, hone⟩ := hvx.cells h1
    have hl := hvs.1
    have hrun := run_storeVar (P := E.P) (t := t) (v := a.eval x) (off := off) hh (by rw [hs, hl]) (by omega) hone
    unfold Oper.wp
    have hex : (execOp a.eval o).run E.P w = .ok .skip (w.setRow b (c.toList.take off ++ (a.eval x).cells.toList ++ c.toList.drop (off + (a.eval x).cells.size)).toArray) := by
      simp only [execOp, hop, Sem.run_bind, hva', hrun, Result.andThen_ok, Sem.run_pure]
    rw [hex]
    have hover := Vs.over (G := G) (w := w) (cs := c) (ds := cs) (o := off) ⟨hsz, hcs⟩ hvs hle
    have hgr : w.grownBy (w.setRow b (c.toList.take off ++ (a.eval x).cells.toList ++ c.toList.drop (off + (a.eval x).cells.size)).toArray) (blk (.pointer (some ⟨b, 0, none⟩))) :=
      ⟨rfl, rfl, rfl, by simp, fun k _ hk => setRow_other w b k _ fun he => hk (by simp [blk, he])⟩
    have hnF : ¬ G.F b := by
      obtain ⟨u', hu', _, hF⟩ := ho.ob n _ hk
      rw [hρ] at hu'; cases hu'
      exact hF b rfl
    obtain ⟨g1, g2, g3⟩ := change_obj (ob' := .box u (over cs off d.cells)) hw ho hk hρ hgr ⟨b, _, rfl, setRow_heap w b c _ u (0, 0) hh, hover.1, fun i y d' hy hd => (hover.2 i y d' hy hd).mono (fun _ h => h) (fun b' hF => setRow_other w b b' _ fun he => hnF (he ▸ hF)) (fun _ _ h => h)⟩
    exact hK G _ _ g1 (.val _) g2 (g3.weaken fun _ _ h => h.elim)

/-- A row's cells with a part laid over them. -/
def withCells (r : D) (cs : List D) : D :=
  match r with
  | .agg _ => .agg cs
  | d => cs.headD d

def okRow (r : D) : Bool := match r with | .agg _ => true | d => d.one

theorem withCells_cells {r : D} {cs : List D} (hr : okRow r = true) (hl : cs.length = r.cells.length) (h1 : cs.all D.one = true ∨ ∃ x, r = .agg x) : (withCells r cs).cells = cs := by
  cases r with
  | agg x => rfl
  | any => simp [okRow, D.one] at hr
  | tup => simp [okRow, D.one] at hr
  | _ =>
    simp only [D.cells, List.length_singleton] at hl
    match cs, hl with
    | [c], _ =>
      rcases h1 with h1 | ⟨x, h⟩
      · simp only [List.all_cons, List.all_nil, Bool.and_true] at h1
        simp only [withCells, List.headD_cons]
        cases c <;> simp [D.one] at h1 <;> rfl
      · cases h

theorem top_store_arr {t : TypeId} {ao x : Operand} (hop : o.op = .store t ao x) {n : Nm} {k i j : Nat} (ha : e ao = .aptr n k i j) {u : TypeId} {rows : List D} (hk : κ n = some (.arr u k rows)) {r : D} (hr : rows[i]? = some r) {d : D} (hx : e x = d)
    (hs : szOf E.P t = some d.cells.length) (hle : j + d.cells.length ≤ r.cells.length) (h1 : d.cells.all D.one = true) (hrow : okRow r = true) (hone : (over r.cells j d.cells).all D.one = true ∨ ∃ y, r = .agg y) :
    TOp E g o e κ (.val undef) (κ.put n (.arr u k (rows.set i (withCells r (over r.cells j d.cells))))) := by
  intro w0 hA G w a hw hV ho _ K Q' hK
  have hva := hV ao (by simp [hop, Op.operands])
  have hvx := hV x (by simp [hop, Op.operands])
  rw [ha] at hva
  rw [hx] at hvx
  obtain ⟨v, hρ, ⟨xs, hown, hfl⟩, hnF⟩ := ho.ob n _ hk
  generalize hva' : a.eval ao = va at hva
  cases hva with
  | aptr hρ' =>
    rename_i b len cap
    rw [hρ] at hρ'
    cases hρ'
    obtain ⟨hvs, hone'⟩ := hvx.cells h1
    have hl := hvs.1
    have hi := (List.getElem?_eq_some_iff.1 hr).1
    have hrl := (hfl i r hr).1
    have hrl' := row_le (k := k) hi
    rcases hown.2 with ⟨hc, _⟩ | ⟨b', cap', cur, hc, hb0, hh, hnc, hcm, hcs, htake⟩
    · cases hc
    · cases hc
      have hncap : rows.length * k ≤ cap * k := Nat.mul_le_mul_right k hnc
      have hrun := run_storeVar (P := E.P) (t := t) (v := a.eval x) (off := i * k + j) hh (by rw [hs, hl]) (by omega) hone'
      have hwc := withCells_cells (r := r) (cs := over r.cells j d.cells) hrow (over_length _ _ _ hle) hone
      generalize hnew : (cur.toList.take (i * k + j) ++ (a.eval x).cells.toList ++ cur.toList.drop (i * k + j + (a.eval x).cells.size)) = nw at hrun
      have hnl : nw.length = cur.size := by rw [← hnew]; simp; omega
      have hget : ∀ m : Nat, nw[m]? = if i * k + j ≤ m ∧ m < i * k + j + (a.eval x).cells.size then (a.eval x).cells[m - (i * k + j)]? else cur[m]? := by
        intro m
        rw [← hnew]
        have hl1 : (cur.toList.take (i * k + j)).length = i * k + j := by simp; omega
        by_cases h1 : m < i * k + j
        · rw [List.append_assoc, List.getElem?_append_left (by omega), List.getElem?_take, if_pos h1, if_neg (by omega)]
          simp
        · by_cases h2 : m < i * k + j + (a.eval x).cells.size
          · rw [List.append_assoc, List.getElem?_append_right (by omega), List.getElem?_append_left (by simp; omega), hl1, if_pos ⟨by omega, h2⟩]
            simp
          · have hl2 : (cur.toList.take (i * k + j) ++ (a.eval x).cells.toList).length = i * k + j + (a.eval x).cells.size := by simp; omega
            rw [List.getElem?_append_right (by omega), hl2, List.getElem?_drop, if_neg (by omega)]
            rw [show i * k + j + (a.eval x).cells.size + (m - (i * k + j + (a.eval x).cells.size)) = m by omega]
            simp
      unfold Oper.wp
      have hex : (execOp a.eval o).run E.P w = .ok .skip (w.setRow b nw.toArray) := by
        simp only [execOp, hop, Sem.run_bind, hva', hrun, Result.andThen_ok, Sem.run_pure]
      rw [hex]
      have hgr : w.grownBy (w.setRow b nw.toArray) (blk (.slice (some ⟨b, 0, none⟩) rows.length cap)) :=
        ⟨rfl, rfl, rfl, by simp, fun k _ hk => setRow_other w b k _ fun he => hk (by simp [blk, he])⟩
      have hVm : ∀ y d', V G w y d' → V G (w.setRow b nw.toArray) y d' := fun y d' h => h.mono (fun _ h => h) (fun b' hF => setRow_other w b b' _ fun he => hnF b rfl (he ▸ hF)) (fun _ _ h => h)
      have hxs : ∀ (m : Nat) y, xs[m]? = some y → cur[m]? = some y := by
        intro m y hy
        rw [← htake, List.getElem?_take] at hy
        split at hy
        · simpa using hy
        · cases hy
      obtain ⟨g1, g2, g3⟩ := change_obj (ob' := .arr u k (rows.set i (withCells r (over r.cells j d.cells)))) hw ho hk hρ hgr ⟨nw.take (rows.length * k), ⟨by rw [List.length_set, List.length_take]; omega, .inr ⟨b, cap, nw.toArray, by rw [List.length_set], hb0, setRow_heap w b cur _ u (0, 0) hh, by rw [List.length_set]; exact hnc, hcm, by simpa [hnl] using hcs, by rw [List.length_set]⟩⟩, fun i2 r2 hr2 => by
        rw [List.getElem?_set] at hr2
        split at hr2
        · rename_i hi2
          subst hi2
          cases hr2
          rw [hwc]
          refine ⟨by rw [over_length _ _ _ hle]; exact hrl, fun j2 d2 hd2 => ?_⟩
          have hj2 : j2 < k := by
            have := (List.getElem?_eq_some_iff.1 hd2).1
            rw [over_length _ _ _ hle] at this
            omega
          rw [over_get _ _ _ hle] at hd2
          rw [List.getElem?_take, if_pos (by omega), hget]
          split at hd2
          · rename_i hc
            rw [if_pos (by omega)]
            have hlt : j2 - j < (a.eval x).cells.size := by omega
            refine ⟨(a.eval x).cells[j2 - j], ?_, hVm _ _ (hvs.2 (j2 - j) _ _ (by simp [hlt]) hd2)⟩
            rw [show i * k + j2 - (i * k + j) = j2 - j by omega]
            simp [hlt]
          · rename_i hc
            rw [if_neg (by omega)]
            obtain ⟨y, hy, hyv⟩ := (hfl i r hr).2 j2 d2 hd2
            exact ⟨y, hxs _ _ hy, hVm _ _ hyv⟩
        · rename_i hi2
          obtain ⟨q1, q2⟩ := hfl i2 r2 hr2
          refine ⟨q1, fun j2 d2 hd2 => ?_⟩
          obtain ⟨y, hy, hyv⟩ := q2 j2 d2 hd2
          have hj2 : j2 < k := by
            have := (List.getElem?_eq_some_iff.1 hd2).1
            omega
          have hi2' := (List.getElem?_eq_some_iff.1 hr2).1
          have := row_le (k := k) hi2'
          refine ⟨y, ?_, hVm _ _ hyv⟩
          rw [List.getElem?_take, if_pos (by omega), hget, if_neg ?_]
          · exact hxs _ _ hy
          · rintro ⟨k1, k2⟩
            exact hi2 (row_idx (k := k) (i := i) (j := i2 * k + j2 - i * k) (i' := i2) (j' := j2) (by omega) hj2 (by omega)).1⟩
      exact hK G _ _ g1 (.val _) g2 (g3.weaken fun _ _ h => h.elim)

end
end Go.Ab
