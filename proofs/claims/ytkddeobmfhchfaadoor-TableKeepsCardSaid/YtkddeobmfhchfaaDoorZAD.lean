/- A part of the proof, under no conditions of its own: ZAD. -/
import Derived.Test.YtkddeobmfhchfaaDoorZAC
namespace Go.Ab
open Go Go.RowKit

section
variable {w0 : World} {G : Gh} {w : World} {κ : Kp}

def Kp.put (κ : Kp) (n : Nm) (o : Ob) : Kp := fun m => if n = m then some o else κ m
def Kp.del (κ : Kp) (n : Nm) : Kp := fun m => if n = m then none else κ m

theorem get_set' (σ : Sto) (n : Nm) (o : Ob) (h : get σ n ≠ none) : get (set σ n o) = Kp.put (get σ) n o := funext (get_set σ n o h)
/-- An object has turned in place. -/
theorem change_obj (hw : WF w0 G w) (ho : Objs w0 G w κ) {n : Nm} {ob ob' : Ob} {v : Value} (hn : κ n = some ob) (hv : G.ρ n = some v) {w' : World} (hgr : Gr w w' (blk v)) (hov : OV w0 G w' v ob') :
    WF w0 G w' ∧ Objs w0 G w' (κ.put n ob') ∧ Step (fun _ => False) G w κ G w' (κ.put n ob') := by
  obtain ⟨h1, h2⟩ := hw.nm n v hv
  have hnF : ∀ b, blk v = some b → ¬ G.F b := by
    obtain ⟨u, hu, _, hF⟩ := ho.ob n ob hn
    rw [hv] at hu; cases hu
    exact hF
  have hwf : WF w0 G w' := ⟨Bel.of_grown hw.below hgr fun b hb => (h2 b hb).1, hw.old, fun b hF => Nat.lt_of_lt_of_le (hw.lt b hF) hgr.size, fun m u hm => ⟨(hw.nm m u hm).1, fun b hb => ⟨((hw.nm m u hm).2 b hb).1, Nat.lt_of_lt_of_le ((hw.nm m u hm).2 b hb).2 hgr.size⟩⟩⟩
  have hblk : ∀ b o, Blk G (single n o) b ↔ blk v = some b := fun b o => by
    constructor
    · rintro ⟨m, o', u, k1, k2, k3⟩
      unfold single at k1
      split at k1
      · rename_i he; subst he; rw [hv] at k2; cases k2; exact k3
      · cases k1
    · exact fun h => ⟨n, o, v, by simp [single], hv, h⟩
  have hs : Step (fun _ => False) G w (single n ob) G w' (single n ob') :=
    ⟨hgr.size, fun b hb hnb => hgr.block b hb fun e => hnb ((hblk b ob).2 e.symm), fun _ h => h, fun _ h => .inl h, fun _ _ h => h, fun _ _ h _ => h, Nat.le_refl _, fun b h => .inr ((hblk b ob).2 ((hblk b ob').1 h)), fun m hm => .inl (by unfold single at *; split at hm <;> simp_all), rfl⟩
  have hos : Objs w0 G w' (single n ob') := by
    refine ⟨fun m o hm => ?_, fun m m' o o' u u' b k1 k2 hne => ?_⟩
    · unfold single at hm
      split at hm
      · rename_i he; subst he; cases hm; exact ⟨v, hv, hov, hnF⟩
      · cases hm
    · unfold single at k1 k2
      split at k1
      · split at k2
        · rename_i e1 e2; exact absurd (e1.symm.trans e2) hne
        · cases k2
      · cases k1
  obtain ⟨f1, f2⟩ := frame (κs := single n ob) (τ := κ.del n) hw ho (fun m o hm => by
      unfold single at hm
      split at hm
      · rename_i he; subst he; cases hm; exact hn
      · cases hm) (fun m o hm => by
      unfold Kp.del at hm
      split at hm
      · cases hm
      · rename_i he; exact ⟨hm, by simp [single, he]⟩) hs hos
  have he : Kp.or (single n ob') (κ.del n) = κ.put n ob' := by
    funext m
    unfold Kp.or single Kp.del Kp.put
    split <;> simp
  rw [he] at f1 f2
  exact ⟨hwf, f1, f2⟩

/-- An object has gone over into a new one. -/
theorem turn_obj (hw : WF w0 G w) (ho : Objs w0 G w κ) {n n2 : Nm} {ob ob' : Ob} {v v' : Value} (hn : κ n = some ob) (hv : G.ρ n = some v) (hn2 : G.ρ n2 = none) (hg2 : n2.g < G.top) {w' : World} (hgr : Gr w w' (blk v))
    (hb : ∀ b, blk v' = some b → blk v = some b ∨ (w.heap.size ≤ b ∧ b < w'.heap.size)) (hov : OV w0 (G.upd n2 v') w' v' ob') :
    WF w0 (G.upd n2 v') w' ∧ Objs w0 (G.upd n2 v') w' ((κ.del n).put n2 ob') ∧ Step (fun m => m = n2) G w κ (G.upd n2 v') w' ((κ.del n).put n2 ob') := by
  obtain ⟨h1, h2⟩ := hw.nm n v hv
  have hne : n ≠ n2 := fun e => by subst e; rw [hv] at hn2; cases hn2
  have hρn : (G.upd n2 v').ρ n2 = some v' := by simp [Gh.upd]
  have hρo : ∀ m, m ≠ n2 → (G.upd n2 v').ρ m = G.ρ m := fun m hm => by simp [Gh.upd, hm]
  have hnF : ∀ b, blk v = some b → ¬ G.F b := by
    obtain ⟨u, hu, _, hF⟩ := ho.ob n ob hn
    rw [hv] at hu; cases hu
    exact hF
  have hwf : WF w0 (G.upd n2 v') w' := ⟨Bel.of_grown hw.below hgr fun b hb => (h2 b hb).1, hw.old, fun b hF => Nat.lt_of_lt_of_le (hw.lt b hF) hgr.size, fun m u hm => by
    by_cases he : m = n2
    · subst he
      rw [hρn] at hm; cases hm
      refine ⟨hg2, fun b hb' => ?_⟩
      rcases hb b hb' with h | h
      · exact ⟨(h2 b h).1, Nat.lt_of_lt_of_le (h2 b h).2 hgr.size⟩
      · exact ⟨Nat.le_trans hw.below.size h.1, h.2⟩
    · rw [hρo m he] at hm
      exact ⟨(hw.nm m u hm).1, fun b hb => ⟨((hw.nm m u hm).2 b hb).1, Nat.lt_of_lt_of_le ((hw.nm m u hm).2 b hb).2 hgr.size⟩⟩⟩
  have hblk : ∀ b, Blk G (single n ob) b ↔ blk v = some b := fun b => by
    constructor
    · rintro ⟨m, o', u, k1, k2, k3⟩
      unfold single at k1
      split at k1
      · rename_i he; subst he; rw [hv] at k2; cases k2; exact k3
      · cases k1
    · exact fun h => ⟨n, ob, v, by simp [single], hv, h⟩
  have hs : Step (fun m => m = n2) G w (single n ob) (G.upd n2 v') w' (single n2 ob') := by
    refine ⟨hgr.size, fun b hb hnb => hgr.block b hb fun e => hnb ((hblk b).2 e.symm), fun _ h => h, fun _ h => .inl h, fun m u hm => ?_, fun m _ h2 h3 => ?_, Nat.le_refl _, fun b ⟨m, o, u, k1, k2, k3⟩ => ?_, fun m hm => ?_, rfl⟩
    · rw [hρo m (fun e => by subst e; rw [hn2] at hm; cases hm)]; exact hm
    · rw [hρo m h3]; exact h2
    · unfold single at k1
      split at k1
      · rename_i he; subst he; rw [hρn] at k2; cases k2
        rcases hb b k3 with h | h
        · exact .inr ((hblk b).2 h)
        · exact .inl h.1
      · cases k1
    · unfold single at hm
      split at hm
      · rename_i he; subst he; exact .inr hn2
      · exact absurd rfl hm
  have hos : Objs w0 (G.upd n2 v') w' (single n2 ob') := by
    refine ⟨fun m o hm => ?_, fun m m' o o' u u' b k1 k2 hne => ?_⟩
    · unfold single at hm
      split at hm
      · rename_i he; subst he; cases hm
        refine ⟨v', hρn, hov, fun b hb' hF => ?_⟩
        rcases hb b hb' with h | h
        · exact hnF b h hF
        · have := hw.lt b hF; omega
      · cases hm
    · unfold single at k1 k2
      split at k1
      · split at k2
        · rename_i e1 e2; exact absurd (e1.symm.trans e2) hne
        · cases k2
      · cases k1
  obtain ⟨f1, f2⟩ := frame (κs := single n ob) (τ := κ.del n) hw ho (fun m o hm => by
      unfold single at hm
      split at hm
      · rename_i he; subst he; cases hm; exact hn
      · cases hm) (fun m o hm => by
      unfold Kp.del at hm
      split at hm
      · cases hm
      · rename_i he; exact ⟨hm, by simp [single, he]⟩) hs hos
  have he : Kp.or (single n2 ob') (κ.del n) = (κ.del n).put n2 ob' := by
    funext m
    unfold Kp.or single Kp.del Kp.put
    split <;> simp
  rw [he] at f1 f2
  exact ⟨hwf, f1, f2⟩

theorem Vs.over {cs : Array Value} {ds : List D} {new : Array Value} {nd : List D} {o : Nat} (h : Vs G w cs ds) (hn : Vs G w new nd) (ho : o + nd.length ≤ ds.length) :
    Vs G w (cs.toList.take o ++ new.toList ++ cs.toList.drop (o + new.size)).toArray (over ds o nd) := by
  have hs := h.1
  have hns := hn.1
  refine ⟨?_, fun i c d hc hd => ?_⟩
  · rw [over_length ds o nd ho]
    simp
    omega
  · rw [over_get ds o nd ho] at hd
    simp only [List.getElem?_toArray] at hc
    have hl1 : (cs.toList.take o).length = o := by simp; omega
    split at hd
    · rename_i hi
      rw [List.append_assoc, List.getElem?_append_right (by omega), List.getElem?_append_left (by simp; omega), hl1] at hc
      exact hn.2 _ _ _ (by simpa using hc) hd
    · rename_i hi
      by_cases h1 : i < o
      · rw [List.append_assoc, List.getElem?_append_left (by omega), List.getElem?_take, if_pos h1] at hc
        exact h.2 _ _ _ (by simpa using hc) hd
      · have hl2 : (cs.toList.take o ++ new.toList).length = o + new.size := by simp; omega
        rw [List.getElem?_append_right (by omega), hl2, List.getElem?_drop] at hc
        rw [show o + new.size + (i - (o + new.size)) = i by omega] at hc
        exact h.2 _ _ _ (by simpa using hc) hd

end

section
variable {E : Ctx} {g : Nat} {o : Oper} {e : Operand → D} {κ : Kp}

theorem run_storeVar {P : Program} {w : World} {t u : TypeId} {b off : Nat} {v : Value} {c : Array Value} (hh : w.heap[b]? = some (.cells c u (0, 0))) (hs : szOf P t = some v.cells.size) (hle : off + v.cells.size ≤ c.size) (h1 : ∀ x ∈ v.cells.toList, x.oneCell' = true) :
    (Instr.storeAt t (.pointer (some ⟨b, off, none⟩)) v).run P w = .ok () (w.setRow b (c.toList.take off ++ v.cells.toList ++ c.toList.drop (off + v.cells.size)).toArray) := by
  have := run_storeCells_at P b off u v.cells.toList 0 c w hh (by simpa using hle) h1
  simp only [Nat.add_zero, Array.length_toList] at this
  simp [Instr.storeAt, Instr.sureAddr, storeVar, run_sizeOf hs, this]

theorem top_store {t : TypeId} {ao x : Operand} (hop : o.op = .store t ao x) {n : Nm} {off : Nat} (ha : e ao = .ptr n off) {u : TypeId} {cs : List D} (hk : κ n = some (.box u cs)) {d : D} (hx : e x = d) (hs : szOf E.P t = some d.cells.length)
    (hle : off + d.cells.length ≤ cs.length) (h1 : d.cells.all D.one = true) : TOp E g o e κ (.val undef) (κ.put n (.box u (over cs off d.cells))) := by
  intro w0 hA G w a hw hV ho _ K Q' hK
  have hva := hV ao (by simp [hop, Op.operands])
  have hvx := hV x (by simp [hop, Op.operands])
  rw [ha] at hva
  rw [hx] at hvx
  obtain ⟨v, hρ, ⟨b, c, rfl, hh, hsz, hcs⟩, _⟩ := ho.ob n _ hk
  generalize hva' : a.eval ao = va at hva
  cases hva with
  | ptr hρ' =>
    rw [hρ] at hρ'
    cases hρ'
    obtain ⟨hvs, hone⟩ := hvx.cells h1
    have hl := hvs.1
    have hrun := run_storeVar (P := E.P) (t := t) (v := a.eval x) (off := off) hh (by rw [hs, hl]) (by omega) hone
    have hex : (execOp a.eval o).run E.P w = .ok .skip (w.setRow b (c.toList.take off ++ (a.eval x).cells.toList ++ c.toList.drop (off + (a.eval x).cells.size)).toArray) := by
      simp only [execOp, hop, Sem.run_bind, hva', hrun, Result.andThen_ok, Sem.run_pure]
    refine op_skip hex ?_
    have hover := Vs.over (G := G) (w := w) (cs := c) (ds := cs) (o := off) ⟨hsz, hcs⟩ hvs hle
    have hgr : Gr w (w.setRow b (c.toList.take off ++ (a.eval x).cells.toList ++ c.toList.drop (off + (a.eval x).cells.size)).toArray) (blk (.pointer (some ⟨b, 0, none⟩))) :=
      Gr.of ⟨rfl, rfl, rfl, by simp, fun k _ hk => setRow_other w b k _ fun he => hk (by simp [blk, he])⟩
    have hnF : ¬ G.F b := by
      obtain ⟨u', hu', _, hF⟩ := ho.ob n _ hk
      rw [hρ] at hu'; cases hu'
      exact hF b rfl
    obtain ⟨g1, g2, g3⟩ := change_obj (ob' := .box u (over cs off d.cells)) hw ho hk hρ hgr ⟨b, _, rfl, setRow_heap w b c _ u (0, 0) hh, hover.1, fun i y d' hy hd => (hover.2 i y d' hy hd).mono (fun _ h => h) (fun b' hF => setRow_other w b b' _ fun he => hnF (he ▸ hF)) (fun _ _ h => h)⟩
    exact hK G _ _ g1 (.val _) g2 (g3.weaken fun _ _ h => h.elim)

/-- A row's cells with a part laid over them. -/
def withCells (r : D) (cs : List D) : D :=
  match r with
  | .agg _ => .agg cs
  | d => cs.headD d

def okRow (r : D) : Bool := match r with | .agg _ => true | d => d.one

theorem withCells_cells {r : D} {cs : List D} (hr : okRow r = true) (hl : cs.length = r.cells.length) (h1 : cs.all D.one = true ∨ ∃ x, r = .agg x) : (withCells r cs).cells = cs := by
  cases r with
  | agg x => rfl
  | any => simp [okRow, D.one] at hr
  | tup => simp [okRow, D.one] at hr
  | _ =>
    simp only [D.cells, List.length_singleton] at hl
    match cs, hl with
    | [c], _ =>
      rcases h1 with h1 | ⟨x, h⟩
      · simp only [List.all_cons, List.all_nil, Bool.and_true] at h1
        simp only [withCells, List.headD_cons]
        cases c <;> simp [D.one] at h1 <;> rfl
      · cases h

theorem top_store_arr {t : TypeId} {ao x : Operand} (hop : o.op = .store t ao x) {n : Nm} {k i j : Nat} (ha : e ao = .aptr n k i j) {u : TypeId} {rows : List D} (hk : κ n = some (.arr u k rows)) {r : D} (hr : rows[i]? = some r) {d : D} (hx : e x = d)
    (hs : szOf E.P t = some d.cells.length) (hle : j + d.cells.length ≤ r.cells.length) (h1 : d.cells.all D.one = true) (hrow : okRow r = true) (hone : (over r.cells j d.cells).all D.one = true ∨ ∃ y, r = .agg y) :
    TOp E g o e κ (.val undef) (κ.put n (.arr u k (rows.set i (withCells r (over r.cells j d.cells))))) := by
  intro w0 hA G w a hw hV ho _ K Q' hK
  have hva := hV ao (by simp [hop, Op.operands])
  have hvx := hV x (by simp [hop, Op.operands])
  rw [ha] at hva
  rw [hx] at hvx
  obtain ⟨v, hρ, ⟨xs, hown, hfl⟩, hnF⟩ := ho.ob n _ hk
  generalize hva' : a.eval ao = va at hva
  cases hva with
  | aptr hρ' =>
    rename_i b len cap
    rw [hρ] at hρ'
    cases hρ'
    obtain ⟨hvs, hone'⟩ := hvx.cells h1
    have hl := hvs.1
    have hi := (List.getElem?_eq_some_iff.1 hr).1
    have hrl := (hfl i r hr).1
    have hrl' := row_le (k := k) hi
    rcases hown.2 with ⟨hc, _⟩ | ⟨b', cap', cur, hc, hb0, hh, hnc, hcm, hcs, htake⟩
    · cases hc
    · cases hc
      have hncap : rows.length * k ≤ cap * k := Nat.mul_le_mul_right k hnc
      have hrun := run_storeVar (P := E.P) (t := t) (v := a.eval x) (off := i * k + j) hh (by rw [hs, hl]) (by omega) hone'
      have hwc := withCells_cells (r := r) (cs := over r.cells j d.cells) hrow (over_length _ _ _ hle) hone
      generalize hnew : (cur.toList.take (i * k + j) ++ (a.eval x).cells.toList ++ cur.toList.drop (i * k + j + (a.eval x).cells.size)) = nw at hrun
      have hnl : nw.length = cur.size := by rw [← hnew]; simp; omega
      have hget : ∀ m : Nat, nw[m]? = if i * k + j ≤ m ∧ m < i * k + j + (a.eval x).cells.size then (a.eval x).cells[m - (i * k + j)]? else cur[m]? := by
        intro m
        rw [← hnew]
        have hl1 : (cur.toList.take (i * k + j)).length = i * k + j := by simp; omega
        by_cases h1 : m < i * k + j
        · rw [List.append_assoc, List.getElem?_append_left (by omega), List.getElem?_take, if_pos h1, if_neg (by omega)]
          simp
        · by_cases h2 : m < i * k + j + (a.eval x).cells.size
          · rw [List.append_assoc, List.getElem?_append_right (by omega), List.getElem?_append_left (by simp; omega), hl1, if_pos ⟨by omega, h2⟩]
            simp
          · have hl2 : (cur.toList.take (i * k + j) ++ (a.eval x).cells.toList).length = i * k + j + (a.eval x).cells.size := by simp; omega
            rw [List.getElem?_append_right (by omega), hl2, List.getElem?_drop, if_neg (by omega)]
            rw [show i * k + j + (a.eval x).cells.size + (m - (i * k + j + (a.eval x).cells.size)) = m by omega]
            simp
      have hex : (execOp a.eval o).run E.P w = .ok .skip (w.setRow b nw.toArray) := by
        simp only [execOp, hop, Sem.run_bind, hva', hrun, Result.andThen_ok, Sem.run_pure]
      refine op_skip hex ?_
      have hgr : Gr w (w.setRow b nw.toArray) (blk (.slice (some ⟨b, 0, none⟩) rows.length cap)) :=
        Gr.of ⟨rfl, rfl, rfl, by simp, fun k _ hk => setRow_other w b k _ fun he => hk (by simp [blk, he])⟩
      have hVm : ∀ y d', V G w y d' → V G (w.setRow b nw.toArray) y d' := fun y d' h => h.mono (fun _ h => h) (fun b' hF => setRow_other w b b' _ fun he => hnF b rfl (he ▸ hF)) (fun _ _ h => h)
      have hxs : ∀ (m : Nat) y, xs[m]? = some y → cur[m]? = some y := by
        intro m y hy
        rw [← htake, List.getElem?_take] at hy
        split at hy
        · simpa using hy
        · cases hy
      obtain ⟨g1, g2, g3⟩ := change_obj (ob' := .arr u k (rows.set i (withCells r (over r.cells j d.cells)))) hw ho hk hρ hgr ⟨nw.take (rows.length * k), ⟨by rw [List.length_set, List.length_take]; omega, .inr ⟨b, cap, nw.toArray, by rw [List.length_set], hb0, setRow_heap w b cur _ u (0, 0) hh, by rw [List.length_set]; exact hnc, hcm, by simpa [hnl] using hcs, by rw [List.length_set]⟩⟩, fun i2 r2 hr2 => by
        rw [List.getElem?_set] at hr2
        split at hr2
        · rename_i hi2
          subst hi2
          cases hr2
          rw [hwc]
          refine ⟨by rw [over_length _ _ _ hle]; exact hrl, fun j2 d2 hd2 => ?_⟩
          have hj2 : j2 < k := by
            have := (List.getElem?_eq_some_iff.1 hd2).1
            rw [over_length _ _ _ hle] at this
            omega
          rw [over_get _ _ _ hle] at hd2
          rw [List.getElem?_take, if_pos (by omega), hget]
          split at hd2
          · rename_i hc
            rw [if_pos (by omega)]
            have hlt : j2 - j < (a.eval x).cells.size := by omega
            refine ⟨(a.eval x).cells[j2 - j], ?_, hVm _ _ (hvs.2 (j2 - j) _ _ (by simp [hlt]) hd2)⟩
            rw [show i * k + j2 - (i * k + j) = j2 - j by omega]
            simp [hlt]
          · rename_i hc
            rw [if_neg (by omega)]
            obtain ⟨y, hy, hyv⟩ := (hfl i r hr).2 j2 d2 hd2
            exact ⟨y, hxs _ _ hy, hVm _ _ hyv⟩
        · rename_i hi2
          obtain ⟨q1, q2⟩ := hfl i2 r2 hr2
          refine ⟨q1, fun j2 d2 hd2 => ?_⟩
          obtain ⟨y, hy, hyv⟩ := q2 j2 d2 hd2
          have hj2 : j2 < k := by
            have := (List.getElem?_eq_some_iff.1 hd2).1
            omega
          have hi2' := (List.getElem?_eq_some_iff.1 hr2).1
          have := row_le (k := k) hi2'
          refine ⟨y, ?_, hVm _ _ hyv⟩
          rw [List.getElem?_take, if_pos (by omega), hget, if_neg ?_]
          · exact hxs _ _ hy
          · rintro ⟨k1, k2⟩
            exact hi2 (row_idx (k := k) (i := i) (j := i2 * k + j2 - i * k) (i' := i2) (j' := j2) (by omega) hj2 (by omega)).1⟩
      exact hK G _ _ g1 (.val _) g2 (g3.weaken fun _ _ h => h.elim)

end
end Go.Ab

namespace Go.Ab
open Go Go.RowKit

def bytesOf (P : Program) (t : TypeId) : Option Nat := (P.info? t).map (·.bytes)

/-- Rows of k known cells each. -/
def okRows (k : Nat) (rows : List D) : Prop := ∀ r ∈ rows, r.cells.length = k ∧ r.cells.all D.one = true

theorem okRows_nil (k : Nat) : okRows k [] := fun r h => by cases h
theorem okRows_cons {k : Nat} {r : D} {rows : List D} (h1 : r.cells.length = k ∧ r.cells.all D.one = true) (h2 : okRows k rows) : okRows k (r :: rows) := fun x hx => by
  rcases List.mem_cons.1 hx with h | h
  · subst h; exact h1
  · exact h2 x h

section
variable {w0 : World} {G : Gh} {w : World} {κ : Kp} {P : Program}

/-- What an appended slice holds, cell by cell. -/
theorem sl_cells {v : Value} {x : Bool} {rows : List D} {k : Nat} (h : V G w v (.sl x rows)) (hk : okRows k rows) (hk0 : 0 < k) :
    (v = .slice none 0 0 ∧ rows = []) ∨ ∃ (ad : Addr) (c : Nat) (news : List Value), v = .slice (some ad) rows.length c ∧ news.length = rows.length * k ∧ (∀ (j : Nat) u, news[j]? = some u → w.cell? (ad.add j) = some u) ∧ (∀ u ∈ news, u.oneCell' = true) ∧ Flat G w k rows (news[·]?) := by
  cases h with
  | nilsl => exact .inl ⟨rfl, rfl⟩
  | esl a => exact .inr ⟨a, 0, [], rfl, by simp, fun j u h => by simp at h, fun u h => by simp at h, fun i r h => by simp at h⟩
  | sl X hn h2 h3 hF hl hc hV =>
    rename_i b off n cap k'
    subst hn
    refine .inr ⟨_, _, (List.range (rows.length * k)).map fun q => X (q / k) (q % k), rfl, by simp, ?_, ?_, ?_⟩
    all_goals
      have hkk : ∀ (i : Nat) r, rows[i]? = some r → k' = k := fun i r hr => by
        rw [← hl i r hr]
        exact (hk r (List.mem_of_getElem? hr)).1
      have cellAt : ∀ q, q < rows.length * k → ∃ r d, rows[q / k]? = some r ∧ r.cells[q % k]? = some d ∧ k' = k := fun q hq => by
        have hi : q / k < rows.length := Nat.div_lt_of_lt_mul (by rw [Nat.mul_comm]; exact hq)
        have hr : rows[q / k]? = some rows[q / k] := List.getElem?_eq_getElem hi
        have hlen := (hk _ (List.getElem_mem hi)).1
        exact ⟨_, _, hr, List.getElem?_eq_getElem (by rw [hlen]; exact Nat.mod_lt _ hk0), hkk _ _ hr⟩
    · intro j u hu
      by_cases hj : j < rows.length * k
      · rw [List.getElem?_map, List.getElem?_range hj] at hu
        simp only [Option.map_some, Option.some.injEq] at hu
        subst hu
        obtain ⟨r, d, hr, hd, rfl⟩ := cellAt j hj
        rw [Addr.add_lit, ← hc _ _ _ _ hr hd, Nat.mul_comm, Nat.div_add_mod]
      · rw [List.getElem?_eq_none (by simpa using hj)] at hu
        cases hu
    · intro u hu
      simp only [List.mem_map, List.mem_range] at hu
      obtain ⟨q, hq, rfl⟩ := hu
      obtain ⟨r, d, hr, hd, _⟩ := cellAt q hq
      refine (hV _ _ _ _ hr hd).one ?_
      have := (hk r (List.mem_of_getElem? hr)).2
      rw [List.all_eq_true] at this
      exact this d (List.mem_of_getElem? hd)
    · intro i r hr
      have hi := (List.getElem?_eq_some_iff.1 hr).1
      refine ⟨(hk r (List.mem_of_getElem? hr)).1, fun j d hd => ?_⟩
      have hj : j < k := by
        have := (List.getElem?_eq_some_iff.1 hd).1
        rw [(hk r (List.mem_of_getElem? hr)).1] at this
        exact this
      have hrow := row_le (k := k) hi
      refine ⟨X i j, ?_, hV _ _ _ _ hr hd⟩
      have e1 : (i * k + j) / k = i := by rw [Nat.mul_comm, Nat.mul_add_div hk0, Nat.div_eq_of_lt hj]; rfl
      have e2 : (i * k + j) % k = j := by rw [Nat.mul_comm, Nat.mul_add_mod]; exact Nat.mod_eq_of_lt hj
      simp only [List.getElem?_map, List.getElem?_range (show i * k + j < rows.length * k by omega), Option.map_some, e1, e2]

theorem append_blk {base : Nat} {t ty el : TypeId} {i : TypeInfo} {z : Value} (ht : P.underlying t = some (.slice el)) (hi : P.info? el = some i) (hz : i.zero = some z)
    {v : Value} {n : Nat} {xs : List Value} (hown : w.ownsRow base el i.size v n xs) {ad : Addr} {m c : Nat} {news : List Value} (hl : news.length = m * i.size) (hnews : ∀ (j : Nat) u, news[j]? = some u → w.cell? (ad.add j) = some u) (h1 : ∀ u ∈ news, u.oneCell' = true)
    (h63 : n + m ≤ maxLen) (hbytes : (n + m) * i.bytes ≤ 140737488355328) {v' : Value} {w' : World}
    (hr : (Builtin.append_ #[t, t] ty #[v, .slice (some ad) m c]).run P w = .ok v' w') (hv' : v'.ownBlock ≠ none) : blk v' = blk v ∨ blk v' = some w.heap.size := by
  have hsmall : n + m ≤ 9223372036854775807 := by simp only [maxLen] at h63; omega
  rcases hown.2 with ⟨rfl, rfl⟩ | ⟨g, cap, cur, rfl, hbg, hg, hnc, hcm, hcs, htake⟩
  · by_cases hm : m = 0
    · subst hm
      have : (Builtin.append_ #[t, t] ty #[.slice none 0 0, .slice (some ad) 0 c]).run P w = .ok (.slice none 0 0) w := by
        simp [Builtin.append_, run_underlying ht, sizeOf, typeInfo, hi, Builtin.lenOf, Builtin.firstCells, loadCells, loadCellsFrom]
      rw [this] at hr
      cases hr
      exact absurd rfl hv'
    · have := run_append_nil (P := P) w t ty el i z ht hi hz ad m c news hl hnews (by omega) (by omega) (by have hb := hbytes; simp only [Nat.zero_add] at hb; omega)
      rw [this] at hr
      cases hr
      exact .inr rfl
  · by_cases hroom : n + m ≤ cap
    · have hfit : n * i.size + news.length ≤ cur.size := by rw [hl, hcs, ← Nat.add_mul]; exact Nat.mul_le_mul_right _ hroom
      have := run_append_room (P := P) w t ty el i ht hi g n cap cur hg ad m c news hl hnews h1 hroom hfit
      rw [this] at hr
      cases hr
      exact .inl rfl
    · have := run_append_grow (P := P) w t ty el i z ht hi hz ⟨g, 0, none⟩ n cap xs hown.1 (hown.cells (g := g) rfl) ad m c news hl hnews (by omega) (by omega) (growslice_fits (by omega) hbytes)
      rw [this] at hr
      cases hr
      exact .inr rfl

theorem Flat.append {k : Nat} {rows rows2 : List D} {xs news : List Value} (h : Flat G w k rows (xs[·]?)) (hx : xs.length = rows.length * k) (h2 : Flat G w k rows2 (news[·]?)) : Flat G w k (rows ++ rows2) ((xs ++ news)[·]?) := by
  intro i r hr
  by_cases hi : i < rows.length
  · rw [List.getElem?_append_left hi] at hr
    obtain ⟨g1, g2⟩ := h i r hr
    refine ⟨g1, fun j d hd => ?_⟩
    obtain ⟨x, hx', hv⟩ := g2 j d hd
    refine ⟨x, ?_, hv⟩
    simp only at hx' ⊢
    rw [List.getElem?_append_left ((List.getElem?_eq_some_iff.1 hx').1)]
    exact hx'
  · rw [List.getElem?_append_right (by omega)] at hr
    obtain ⟨g1, g2⟩ := h2 _ r hr
    refine ⟨g1, fun j d hd => ?_⟩
    obtain ⟨x, hx', hv⟩ := g2 j d hd
    refine ⟨x, ?_, hv⟩
    simp only at hx' ⊢
    have : i * k = rows.length * k + (i - rows.length) * k := by rw [← Nat.add_mul]; congr 1; omega
    rw [List.getElem?_append_right (by omega), show i * k + j - xs.length = (i - rows.length) * k + j by omega]
    exact hx'

theorem Flat.mono {k : Nat} {rows : List D} {xs : Nat → Option Value} {G' : Gh} {w' : World} (h : Flat G w k rows xs) (hV : ∀ x d, V G w x d → V G' w' x d) : Flat G' w' k rows xs :=
  fun i r hr => ⟨(h i r hr).1, fun j d hd => let ⟨x, hx, hv⟩ := (h i r hr).2 j d hd; ⟨x, hx, hV _ _ hv⟩⟩

/-- append onto an array of the call's own (or onto nil). -/
theorem top_append {E : Ctx} {g : Nat} {o : Oper} {e : Operand → D} {t el : TypeId} {so x : Operand} (hop : o.op = .call { callee := .builtin .append, args := #[so, x], argTypes := #[t, t] }) {d : Nat} (hd : o.dst = some d)
    {n : Nm} {len : Nat} (hs : e so = .own n len) {k : Nat} {rows rows2 : List D} (hκ : κ n = some (.arr el k rows)) {xf : Bool} (hx : e x = .sl xf rows2)
    (he : elemS E.P t = some el) (hk : szOf E.P el = some k) {bs : Nat} (hbs : bytesOf E.P el = some bs) {z : Value} (hz : zeroOf E.P el = some z) (hzs : z.cells.size = k) (hk0 : 0 < k) (hok : okRows k rows2)
    (h63 : rows.length + rows2.length ≤ 9223372036854775807) (hb : (rows.length + rows2.length) * bs ≤ 140737488355328) :
    TOp E g o e κ (.own ⟨g, d, 0⟩ (rows.length + rows2.length)) ((κ.del n).put ⟨g, d, 0⟩ (.arr el k (rows ++ rows2))) := by
  intro w0 hA G w a hw hV ho hf K Q' hK
  obtain ⟨hg, hfresh⟩ := hf d hd
  have hn2 := hfresh 0
  have hvs := hV so (by simp [hop, Op.operands, Call.operands])
  have hvx := hV x (by simp [hop, Op.operands, Call.operands])
  rw [hs] at hvs
  rw [hx] at hvx
  obtain ⟨v, hρ, ⟨xs, hown, hfl⟩, hnF⟩ := ho.ob n _ hκ
  have hvv : a.eval so = v ∧ ∃ ad c, v = .slice ad len c := by
    generalize a.eval so = u at hvs
    cases hvs with
    | own hρ' => rw [hρ] at hρ'; cases hρ'; exact ⟨rfl, _, _, rfl⟩
  obtain ⟨i, hi⟩ : ∃ i, E.P.info? el = some i := by
    unfold szOf at hk
    cases hi : E.P.info? el with
    | none => rw [hi] at hk; cases hk
    | some i => exact ⟨i, rfl⟩
  have hik : i.size = k := by simpa [szOf, hi] using hk
  have hib : i.bytes = bs := by simpa [bytesOf, hi] using hbs
  have hiz : i.zero = some z := by simpa [zeroOf, hi] using hz
  have ht := elemS_spec he
  have hbw : w0.heap.size ≤ w.heap.size := hw.below.size
  have hkeepV : ∀ w', w.grownBy w' (blk v) → ∀ y d', V G w y d' → V (G.upd ⟨g, d, 0⟩ y) w' y d' → True := fun _ _ _ _ _ _ => trivial
  clear hkeepV
  have fin : ∀ v' w' news, (Builtin.append_ #[t, t] o.type #[v, a.eval x]).run E.P w = .ok v' w' → w'.ownsRow w0.heap.size el k v' (rows.length + rows2.length) (xs ++ news) → Gr w w' (blk v) → (∃ ad c, v' = .slice ad (rows.length + rows2.length) c) →
      Flat G w k rows2 (news[·]?) → (∀ b, blk v' = some b → blk v = some b ∨ (w.heap.size ≤ b ∧ b < w'.heap.size)) → ∀ r, o.wpIn (Fr r) 0 E.P a w K Q' := by
    intro v' w' news hrun hown' hgr hform hfl2 hb'
    have hVm : ∀ y d', V G w y d' → V (G.upd ⟨g, d, 0⟩ v') w' y d' := fun y d' h => h.upd hn2 fun b hF => hgr.block b (hw.lt b hF) fun e => hnF b e.symm hF
    obtain ⟨g1, g2, g3⟩ := turn_obj (ob' := .arr el k (rows ++ rows2)) hw ho hκ hρ hn2 hg hgr hb' ⟨xs ++ news, by rw [List.length_append]; exact hown', (Flat.append (G := G) (w := w) hfl hown.1 hfl2).mono hVm⟩
    have hex : (execOp a.eval o).run E.P w = .ok (.value v') w' := by
      simp [execOp, hop, resolve, invoke, builtin, hvv.1, hrun]
    refine op_val hex ?_
    obtain ⟨ad, c, rfl⟩ := hform
    exact hK _ _ _ g1 (.own (by simp [Gh.upd])) g2 (g3.weaken fun m _ hm => by subst hm; exact ⟨rfl, hd⟩)
  rcases sl_cells hvx hok hk0 with ⟨hnil, rfl⟩ | ⟨ad, c, news, hsrc, hl, hcell, hone, hfl2⟩
  · have hrun := run_append_owned_none (P := E.P) (w := w) w0.heap.size t o.type el i k ht hi v rows.length xs hown
    refine fin v w [] (by rw [hnil]; exact hrun) (by simpa using hown) (Gr.of ⟨rfl, rfl, rfl, Nat.le_refl _, fun _ _ _ => rfl⟩) ?_ (fun j r hr => by simp at hr) (fun b h => .inl h)
    rcases hown.2 with ⟨rfl, h0⟩ | ⟨g', cap, cur, rfl, _⟩
    · exact ⟨none, 0, by rw [h0]; rfl⟩
    · exact ⟨_, _, rfl⟩
  · obtain ⟨v', w', hrun, hown', hgr, _⟩ := run_append_own (P := E.P) w w0.heap.size t o.type el i z k bs ht hi hiz hik hib hzs hk0 v rows.length xs hown ad rows2.length c news hl hcell hone (by simp only [maxLen]; omega) hb hbw
    have hgr' : Gr w w' (blk v) := by
      refine ⟨?_, run_drawn _ _ _ _ hrun⟩
      have : blk v = v.ownBlock := by
        rcases hown.2 with ⟨rfl, _⟩ | ⟨g', cap, cur, rfl, _⟩ <;> rfl
      rw [this]; exact hgr
    refine fin v' w' news (by rw [hsrc]; exact hrun) hown' hgr' ?_ hfl2 (fun b hb2 => ?_)
    · rcases hown'.2 with ⟨rfl, h0⟩ | ⟨g', cap, cur, rfl, _⟩
      · exact ⟨none, 0, by rw [h0]⟩
      · exact ⟨_, _, rfl⟩
    · have hlt : b < w'.heap.size := (hown'.lt b (by
        rcases hown'.2 with ⟨rfl, h0⟩ | ⟨g', cap, cur, rfl, _⟩
        · cases hb2
        · exact hb2)).2
      subst hik
      rcases append_blk (P := E.P) ht hi hiz hown hl hcell hone (by simp only [maxLen]; omega) (by rw [hib]; exact hb) hrun (by
        rcases hown'.2 with ⟨rfl, h0⟩ | ⟨g', cap, cur, rfl, _⟩
        · cases hb2
        · simp [Value.ownBlock]) with h | h
      · exact .inl (h ▸ hb2)
      · rw [h] at hb2
        cases hb2
        exact .inr ⟨Nat.le_refl _, hlt⟩

end
end Go.Ab

namespace Go.Ab
open Go Go.RowKit

structure ACalls (E : Ctx) (f : FuncId) (args : List D) (σ : Sto) (g d : Nat) (r : D) (σ' : Sto) : Prop where
  call : ∀ as w, (callFunc f as).run E.P w = .ok (.enter f as) w
  run : ∀ w0, E.A w0 → ∀ G w (vs : Array Value), WF w0 G w → Vs G w vs args → Objs w0 G w (get σ) → (g < G.top ∧ ∀ j, G.ρ ⟨g, d, j⟩ = none) →
    Calls E.P f vs w fun e w' => ∃ v G', e = .returned v ∧ WF w0 G' w' ∧ V G' w' v r ∧ Objs w0 G' w' (get σ') ∧ Step (rsv g (some d)) G w (get σ) G' w' (get σ')

/-- Whatever the one denotes, the other denotes too. -/
def Co (d d' : D) : Prop := ∀ G w v, V G w v d → V G w v d'

theorem Co.refl (d : D) : Co d d := fun _ _ _ h => h
theorem Co.nil (x : Bool) : Co (.val (.slice none 0 0)) (.sl x []) := fun _ _ _ h => by rw [V.of_val h]; exact .nilsl x
theorem Co.any (d : D) : Co d .any := fun _ _ v _ => .any v
inductive CoL : List D → List D → Prop
  | nil : CoL [] []
  | cons {d d' : D} {l l' : List D} : Co d d' → CoL l l' → CoL (d :: l) (d' :: l')

theorem CoL.refl : ∀ l, CoL l l
  | [] => .nil
  | d :: l => .cons (.refl d) (CoL.refl l)

theorem CoL.spec {l l' : List D} (h : CoL l l') : l.length = l'.length ∧ ∀ (i : Nat) d', l'[i]? = some d' → ∃ d, l[i]? = some d ∧ Co d d' := by
  induction h with
  | nil => exact ⟨rfl, fun i d' h => by simp at h⟩
  | cons h _ ih =>
    rename_i d d' l l' _
    refine ⟨by simp [ih.1], fun i d'' hd => ?_⟩
    cases i with
    | zero => simp at hd; subst hd; exact ⟨d, rfl, h⟩
    | succ i => exact ih.2 i d'' (by simpa using hd)

theorem Co.agg {cs cs' : List D} (h : CoL cs cs') : Co (.agg cs) (.agg cs') := fun G w v hv => by
  cases hv with
  | agg hs hV =>
    obtain ⟨h1, h2⟩ := h.spec
    exact .agg (hs.trans h1) fun i c d hc hd => let ⟨d0, k1, k2⟩ := h2 i d hd; k2 G w c (hV i c d0 hc k1)

def dels (σ : Sto) : List Nm → Sto
  | [] => σ
  | n :: r => dels (del σ n) r

theorem get_dels (σ : Sto) : ∀ (l : List Nm) (m : Nm), get (dels σ l) m = if m ∈ l then none else get σ m
  | [], m => by simp [dels]
  | n :: r, m => by
    simp only [dels]
    rw [get_dels _ r m, get_del]
    by_cases h1 : m ∈ r
    · rw [if_pos h1, if_pos (List.mem_cons_of_mem _ h1)]
    · rw [if_neg h1]
      by_cases h2 : n = m
      · rw [if_pos h2, if_pos (by rw [h2]; exact List.mem_cons_self)]
      · rw [if_neg h2, if_neg (by simp only [List.mem_cons, not_or]; exact ⟨fun e => h2 e.symm, h1⟩)]

theorem get_none_iff {σ : Sto} {m : Nm} : get σ m = none ↔ m ∉ σ.map (·.1) := by
  induction σ with
  | nil => simp [get]
  | cons p r ih =>
    obtain ⟨k, x⟩ := p
    simp only [get, List.map_cons, List.mem_cons, not_or]
    by_cases h : k = m
    · subst h; simp
    · rw [if_neg h, ih]
      exact ⟨fun h' => ⟨fun e => h e.symm, h'⟩, fun h' => h'.2⟩

/-- The operation's callee and its arguments, abstractly. -/
def calleeD (o : Oper) (e : Operand → D) : Option (FuncId × List D) :=
  match o.op with
  | .call c => match c.callee with
    | .value fo => match e fo with
      | .func (.func f) first captured => some (f, first ++ c.args.toList.map e ++ captured)
      | _ => none
    | _ => none
  | _ => none

section
variable {E : Ctx} {g : Nat} {o : Oper} {e : Operand → D} {κ : Kp}

theorem Vs.append {G : Gh} {w : World} {a b : Array Value} {x y : List D} (h1 : Vs G w a x) (h2 : Vs G w b y) : Vs G w (a ++ b) (x ++ y) := by
  refine ⟨by simp [h1.1, h2.1], fun i c d hc hd => ?_⟩
  have hs := h1.1
  by_cases hi : i < x.length
  · rw [List.getElem?_append_left hi] at hd
    rw [Array.getElem?_append_left (by omega)] at hc
    exact h1.2 i c d hc hd
  · rw [List.getElem?_append_right (by omega)] at hd
    rw [Array.getElem?_append_right (by omega)] at hc
    rw [hs] at hc
    exact h2.2 _ c d hc hd

theorem call_run {f : FuncId} {args : List D} (hc : calleeD o e = some (f, args)) {G : Gh} {w : World} {ρ : Operand → Value} (hV : ∀ x ∈ o.op.operands, V G w (ρ x) (e x)) (hcall : ∀ as w, (callFunc f as).run E.P w = .ok (.enter f as) w) :
    ∃ vs, (execOp ρ o).run E.P w = .ok (.enter f vs) w ∧ Vs G w vs args := by
  unfold calleeD at hc
  split at hc
  · rename_i c hop
    split at hc
    · rename_i fo hfo
      have hv := hV fo (by simp [hop, Op.operands, Call.operands, hfo])
      split at hc
      · rename_i f' first captured hef
        rw [hef] at hv
        cases hc
        generalize hρ : ρ fo = u at hv
        cases hv with
        | func h1 h2 h3 h4 =>
          rename_i fv cv
          refine ⟨fv ++ c.args.map ρ ++ cv, ?_, Vs.append (Vs.append ⟨h1, h3⟩ ⟨by simp, fun i x d hx hd => ?_⟩) ⟨h2, h4⟩⟩
          · simp only [execOp, hop, resolve, hfo, hρ, Deferred.ofValue, Sem.run_bind, Sem.run_pure, Result.andThen_ok, invoke]
            exact hcall _ _
          · simp only [Array.getElem?_map, Option.map_eq_some_iff] at hx
            obtain ⟨y, hy, rfl⟩ := hx
            simp only [List.getElem?_map, Array.getElem?_toList, hy, Option.map_some, Option.some.injEq] at hd
            subst hd
            refine hV y ?_
            simp only [hop, Op.operands, Call.operands, hfo]
            exact Array.mem_append.2 (.inr (Array.mem_of_getElem? hy))
      · cases hc
    · cases hc
  · cases hc

/-- A call, whatever it does to the objects that it is handed. -/
theorem top_call {f : FuncId} {args args' : List D} {σ σs σ' : Sto} {d : Nat} {r : D} (hc : calleeD o e = some (f, args)) (hco : CoL args args') (hd : o.dst = some d) (h : ACalls E f args' σs g d r σ') (hsub : ∀ p ∈ σs, get σ p.1 = some p.2) :
    TOp E g o e (get σ) r (get (σ' ++ dels σ (σs.map (·.1)))) := by
  intro w0 hA G w a hw hV ho hf K Q' hK
  obtain ⟨vs, hrun, hvs⟩ := call_run hc hV h.call
  obtain ⟨hcl, hcs⟩ := hco.spec
  have hvs' : Vs G w vs args' := ⟨hvs.1.trans hcl, fun i c d' hx hd' => let ⟨d0, k1, k2⟩ := hcs i d' hd'; k2 G w c (hvs.2 i c d0 hx k1)⟩
  have hsub' : ∀ n o, get σs n = some o → get σ n = some o := fun n o hn => hsub (n, o) (mem_of_get hn)
  have hrun2 := h.run w0 hA G w vs hw hvs' (ho.sub hsub') (hf d hd)
  refine op_enter hrun (Calls.mono hrun2 ?_)
  rintro en w' ⟨v, G', rfl, hw', hv, ho', hs⟩
  obtain ⟨f1, f2⟩ := frame (κs := get σs) (τ := get (dels σ (σs.map (·.1)))) hw ho hsub' (fun n o' hn => by
    rw [get_dels] at hn
    split at hn
    · cases hn
    · rename_i hnm
      exact ⟨hn, get_none_iff.2 hnm⟩) hs ho'
  rw [← get_append] at f1 f2
  exact hK G' w' v hw' hv f1 (f2.weaken fun n _ hn => by rw [hd]; exact hn)

/-- A call that leaves the objects that it is handed as they were. -/
theorem qop_call {f : FuncId} {args args' : List D} {σ σs nw : Sto} {d : Nat} {r : D} (hc : calleeD o e = some (f, args)) (hco : CoL args args') (hd : o.dst = some d) (h : ACalls E f args' σs g d r (nw ++ σs)) (hsub : ∀ p ∈ σs, get σ p.1 = some p.2) :
    QOp E g o e (get σ) r nw := by
  intro w0 hA G w a hw hV ho hf K Q' hK
  have hsub' : ∀ n o, get σs n = some o → get σ n = some o := fun n o hn => hsub (n, o) (mem_of_get hn)
  have he : get ((nw ++ σs) ++ dels σ (σs.map (·.1))) = Kp.or (get nw) (get σ) := by
    rw [get_append, get_append]
    funext n
    simp only [Kp.or]
    cases h1 : get nw n with
    | some x => simp
    | none =>
      simp only [Option.none_or]
      cases h2 : get σs n with
      | some x => rw [hsub' n x h2]; simp
      | none => rw [get_dels, if_neg (get_none_iff.1 h2)]; simp
  have := top_call hc hco hd h hsub w0 hA G w a hw hV ho hf K Q'
  rw [he] at this
  exact this hK

/-! ### Into a function and out of it -/

def argsEnv : Nat → List D → List (Nat × D)
  | _, [] => []
  | k, a :: r => (k, a) :: argsEnv (k + 1) r

theorem lk_argsEnv : ∀ (k : Nat) (l : List D) (t : Nat) (d : D), lk (argsEnv k l) t = some d → k ≤ t ∧ l[t - k]? = some d
  | _, [], _, _, h => by simp [argsEnv, lk] at h
  | k, a :: r, t, d, h => by
    simp only [argsEnv, lk] at h
    split at h
    · rename_i he
      subst he
      cases h
      simp
    · obtain ⟨h1, h2⟩ := lk_argsEnv (k + 1) r t d h
      refine ⟨by omega, ?_⟩
      rw [show t - k = (t - (k + 1)) + 1 by omega, List.getElem?_cons_succ]
      exact h2

/-- At a function's end: what it hands back, and what is left. -/
def Ends (E : Ctx) (fn : Func) (g d : Nat) (r : D) (σ' : Sto) (st : St) : Prop :=
  ∀ w0, E.A w0 → ∀ G w a, Rel w0 G w a st → (g < G.top ∧ ∀ j, G.ρ ⟨g, d, j⟩ = none) →
    ∃ v G', (results fn a.tmps).run E.P w = .ok v w ∧ WF w0 G' w ∧ V G' w v r ∧ Objs w0 G' w (get σ') ∧ Step (rsv g (some d)) G w (get st.σ) G' w (get σ')

def retQ (E : Ctx) (fn : Func) (g d : Nat) (r : D) (σ' : Sto) : Exit → St → Prop
  | .normal, st => Ends E fn g d r σ' st
  | .ret, st => Ends E fn g d r σ' st
  | _, _ => False

/-! ### The marks are taken at the end -/
/-- The block of a mark is shut. -/
def Shut (w w' : World) (D : Nat) : Prop := w.heap[D]? = some (.deferred (some [])) ∧ w' = w.putObj D (.deferred none)

theorem Shut.heap {w w' : World} {D b : Nat} (h : Shut w w' D) (hb : b ≠ D) : w'.heap[b]? = w.heap[b]? := by
  rw [h.2]
  unfold World.putObj
  simp only
  rw [Array.getElem?_setIfInBounds, if_neg (Ne.symm hb)]

theorem Shut.cell {w w' : World} {D : Nat} (h : Shut w w' D) {a : Addr} {v : Value} (hv : w.cell? a = some v) : w'.cell? a = some v := by
  have : a.block ≠ D := fun e => by
    simp [World.cell?, e, h.1] at hv
  rw [World.cell?_of_block (h.heap this)]
  exact hv

theorem V.shut {G : Gh} {w w' : World} {D0 : Nat} (h : Shut w w' D0) {v : Value} {d : D} (hv : V G w v d) : V G w' v d := by
  induction hv with
  | any v => exact .any v
  | unk b => exact .unk b
  | val v => exact .val v
  | agg h1 _ ih => exact .agg h1 ih
  | tup h1 _ ih => exact .tup h1 ih
  | nilsl x => exact .nilsl x
  | esl a x => exact .esl a x
  | sl X h1 h2 h3 h4 h5 h6 _ ih => exact .sl X h1 h2 h3 h4 h5 (fun i r j d hi hj => h.cell (h6 i r j d hi hj)) ih
  | own h1 => exact .own h1
  | osl h1 h2 h3 h4 => exact .osl h1 h2 h3 h4
  | ptr h1 => exact .ptr h1
  | aptr h1 => exact .aptr h1
  | eptr X h1 h2 _ ih => exact .eptr X h1 (fun j d hj => h.cell (h2 j d hj)) ih
  | mref h1 => exact .mref h1
  | yld h1 => exact .yld h1
  | fmap ms clock h1 h2 h0 h3 h4 h5 _ ih => exact .fmap ms clock h1 ((h.heap (fun e => by rw [e, h.1] at h2; cases h2)).trans h2) h0 h3 h4 h5 ih
  | fms h1 h2 => exact .fms h1 ((h.heap (fun e => by rw [e, h.1] at h2; cases h2)).trans h2)
  | func h1 h2 _ _ ih1 ih2 => exact .func h1 h2 ih1 ih2
  | iface _ ih => exact .iface ih

theorem shut_all {w0 : World} {G : Gh} {w w' : World} {κ : Kp} {D0 : Nat} (h : Shut w w' D0) (hb : w0.heap.size ≤ D0) (hF : G.F D0) (hw : WF w0 G w) (ho : Objs w0 G w κ) : WF w0 G w' ∧ Objs w0 G w' κ := by
  have hsz : w'.heap.size = w.heap.size := by rw [h.2]; unfold World.putObj; simp
  refine ⟨⟨?_, hw.old, fun b hb' => by rw [hsz]; exact hw.lt b hb', fun n v hn => ⟨(hw.nm n v hn).1, fun b hv => by rw [hsz]; exact (hw.nm n v hn).2 b hv⟩⟩, ⟨fun n o hn => ?_, ho.ne⟩⟩
  · refine ⟨⟨?_, ?_, ?_, by rw [hsz]; exact hw.below.size, fun k hk => (h.heap (by omega)).trans (hw.below.block k hk)⟩, by rw [h.2]; exact hw.below.drawn⟩
    · rw [h.2]; exact hw.below.os
    · rw [h.2]; exact hw.below.tape
    · rw [h.2]; exact hw.below.output
  · obtain ⟨v, h1, h2, h3⟩ := ho.ob n o hn
    exact ⟨v, h1, h2.mono (fun x d hx => hx.shut h) (fun b hb' => h.heap fun e => h3 b hb' (e ▸ hF)), h3⟩

theorem shut_step {R : Nm → Prop} {G1 G : Gh} {w1 w w' : World} {κ1 κ : Kp} {D0 : Nat} (h : Shut w w' D0) (hs : Step R G1 w1 κ1 G w κ) (hb : w1.heap.size ≤ D0) : Step R G1 w1 κ1 G w' κ := by
  have hsz : w'.heap.size = w.heap.size := by rw [h.2]; unfold World.putObj; simp
  exact { hs with
    size := by rw [hsz]; exact hs.size
    heap := fun b hb' hn => (h.heap (by omega)).trans (hs.heap b hb' hn) }

theorem acalls_of_awp {f : FuncId} {fn : Func} {c : Code} {N d : Nat} {args : List D} {σ σ' : Sto} {r : D} (hcall : ∀ as w, (callFunc f as).run E.P w = .ok (.enter f as) w) (hf : E.P.funcs[f]? = some fn) (hb : fn.body = some c) (hN : fn.ntmps = N) (hargs : args.length ≤ N)
    (h : AWp E N c (retQ E fn g d r σ') ⟨argsEnv 0 args, σ⟩) : ACalls E f args σ g d r σ' := by
  refine ⟨hcall, fun w0 hA G w vs hw hvs ho hfr => ?_⟩
  refine callsIn_wide.1 (callsIn_of_wp_marks (F := Fr none) (n := 0) hf hb (fr_fn _ _) ?_)
  have hwB : WF w0 { G with base := w.heap.size } w := ⟨hw.below, hw.old, hw.lt, hw.nm⟩
  have hV0 : ∀ v d, V G w v d → V { G with base := w.heap.size } w v d := fun v d h => h.mono (fun _ h => h) (fun _ _ => rfl) (fun _ _ h => h)
  have hoB : Objs w0 { G with base := w.heap.size } w (get σ) := ⟨fun n o hn => let ⟨v, h1, h2, h3⟩ := ho.ob n o hn; ⟨v, h1, h2.mono hV0 fun _ _ => rfl, h3⟩, ho.ne⟩
  have hsz : (vs ++ Array.replicate (fn.ntmps - vs.size) undef).size = N := by
    have := hvs.1
    simp
    omega
  refine wpIn_mono (h w0 hA { G with base := w.heap.size } w _ hsz ⟨hwB, fun t x ht => ?_, hoB, .nil (Nat.le_refl _)⟩ none (fun _ => rfl)) ?_
  · obtain ⟨_, h2⟩ := lk_argsEnv 0 args t x ht
    simp only [Nat.sub_zero] at h2
    have hlt : t < vs.size := by
      have := (List.getElem?_eq_some_iff.1 h2).1
      have := hvs.1
      omega
    refine ⟨by rw [hsz]; have := hvs.1; omega, ?_⟩
    rw [Array.getD_eq_getD_getElem?, Array.getElem?_append_left hlt]
    simp only [hlt, getElem?_pos, Option.getD_some]
    exact hV0 _ _ (hvs.2 t _ x (by simp [hlt]) h2)
  · rintro en a' w' ⟨G', st', h1, h2, h3, h4⟩
    have key : Ends E fn g d r σ' st' → LeavesInM (Fr none) 0 E.P fn a'.tmps (fun e w'' => ∃ v G'', e = .returned v ∧ WF w0 G'' w'' ∧ V G'' w'' v r ∧ Objs w0 G'' w'' (get σ') ∧ Step (rsv g (some d)) G w (get σ) G'' w'' (get σ')) a'.defers .returning w' := by
      intro he
      obtain ⟨hbs, Ds, hds, hnd, hD⟩ := h2.defers
      have hb3 := h3.base
      have hb4 : G'.base = w.heap.size := hb3
      -- one mark after the other
      have go : ∀ (Ds : List Nat) (w' : World) (a2 : Act), a2.tmps = a'.tmps → Ds.Nodup → (∀ b ∈ Ds, G'.F b ∧ G'.base ≤ b ∧ w'.heap[b]? = some (.deferred (some []))) → Rel w0 G' w' { a2 with defers := [] } st' → Step no { G with base := w.heap.size } w (get σ) G' w' (get st'.σ) →
          LeavesInM (Fr none) 0 E.P fn a'.tmps (fun e w'' => ∃ v G'', e = .returned v ∧ WF w0 G'' w'' ∧ V G'' w'' v r ∧ Objs w0 G'' w'' (get σ') ∧ Step (rsv g (some d)) G w (get σ) G'' w'' (get σ')) (Ds.map (fun b => { target := .collected b, args := #[] })) .returning w' := by
        intro Ds
        induction Ds with
        | nil =>
          intro w' a2 hat _ _ hr2 hs2
          obtain ⟨v, G'', k1, k2, k3, k4, k5⟩ := he w0 hA G' w' { a2 with defers := [] } hr2 ⟨Nat.lt_of_lt_of_le hfr.1 hs2.top, fun j => hs2.fresh hfr.1 (hfr.2 j) fun h => h⟩
          have hst := (hs2.weaken (R' := rsv g (some d)) fun _ _ h => h.elim).trans k5
          have k1' : (results fn a'.tmps).run E.P w' = .ok v w' := by rw [← hat]; exact k1
          refine ⟨v, k1', v, { G'' with base := G.base }, rfl, ⟨k2.below, k2.old, k2.lt, k2.nm⟩, k3.mono (fun _ h => h) (fun _ _ => rfl) (fun _ _ h => h), ⟨fun n o hn => let ⟨u, h1, h2, h3⟩ := k4.ob n o hn; ⟨u, h1, h2.mono (fun _ _ h => h.mono (fun _ h => h) (fun _ _ => rfl) (fun _ _ h => h)) fun _ _ => rfl, h3⟩, k4.ne⟩, ?_⟩
          exact ⟨hst.size, hst.heap, hst.F, hst.F', hst.ρ, hst.ρ', hst.top, hst.blk', hst.dom, rfl⟩
        | cons D0 Ds ih =>
          intro w' a2 hat hnd hD hr2 hs2
          obtain ⟨m1, m2, m3⟩ := hD D0 List.mem_cons_self
          obtain ⟨n1, n2⟩ := List.nodup_cons.1 hnd
          have hsh : Shut w' (w'.putObj D0 (.deferred none)) D0 := ⟨m3, rfl⟩
          have hbase : w.heap.size ≤ D0 := hb4 ▸ m2
          obtain ⟨q1, q2⟩ := shut_all hsh (Nat.le_trans hw.below.size hbase) m1 hr2.wf hr2.objs
          refine ⟨by simp, .inl ⟨D0, _, rfl, run_takeDeferred m3, ?_⟩⟩
          refine ih _ a2 hat n2 (fun b hb' => ?_) ⟨q1, fun t x ht => ⟨(hr2.env t x ht).1, (hr2.env t x ht).2.shut hsh⟩, q2, .nil (by have := hr2.defers.1; simpa [World.putObj] using this)⟩ (shut_step hsh hs2 hbase)
          obtain ⟨x1, x2, x3⟩ := hD b (List.mem_cons_of_mem _ hb')
          exact ⟨x1, x2, (hsh.heap fun e => n1 (e ▸ hb')).trans x3⟩
      rw [hds]
      exact go Ds w' a' rfl hnd hD ⟨h2.wf, h2.env, h2.objs, .nil hbs⟩ h3
    cases en with
    | normal => exact key h4
    | ret => exact key h4
    | _ => exact h4.elim

theorem Ends.sees {fn : Func} {d : Nat} {r : D} {σ' : Sto} {st : St} (h : Sees E st (Ends E fn g d r σ')) : Ends E fn g d r σ' st := by
  intro w0 hA G w a hr hfr
  obtain ⟨G1, st1, h1, h2, h3⟩ := h w0 hA G w a hr
  obtain ⟨v, G2, k1, k2, k3, k4, k5⟩ := h3 w0 hA G1 w a h1 ⟨Nat.lt_of_lt_of_le hfr.1 h2.top, fun j => h2.fresh hfr.1 (hfr.2 j) fun h => h⟩
  exact ⟨v, G2, k1, k2, k3, k4, (h2.weaken fun _ _ h => h.elim).trans k5⟩

/-- The results, abstractly. -/
def resD (P : Program) (st : St) : List ResultVar → Option (List D)
  | [] => some []
  | .tmp t :: r => match lk st.env t, resD P st r with
    | some d, some ds => some (d :: ds)
    | _, _ => none
  | .cell a t :: r => match lk st.env a, resD P st r with
    | some p, some ds => match loadD P (get st.σ) t p with
      | some d => some (d :: ds)
      | none => none
    | _, _ => none

def resV (ds : List D) : D :=
  match ds with
  | [d] => d
  | ds => .tup ds

def resOne (tmps : Array Value) : ResultVar → Sem Value
  | .tmp t => pure (tmps.getD t undef)
  | .cell p t => do loadVar t (← asAddr (tmps.getD p undef))

theorem results_eq (fn : Func) (tmps : Array Value) : results fn tmps = (do
    let vs ← fn.results.mapM (resOne tmps)
    pure (if h : vs.size = 1 then vs[0] else .tuple vs)) := by
  unfold results
  congr 1

theorem cell_run {G : Gh} {w : World} {σ : Sto} {u y : Value} {pd d : D} {t : TypeId} (hp : V G w u pd) (hld : loadD E.P (get σ) t pd = some d) (hy : (Instr.loadAt t u).run E.P w = .ok y w) : (do loadVar t (← asAddr u) : Sem Value).run E.P w = .ok y w := by
  cases hp <;> simp [loadD] at hld <;> simpa [Instr.loadAt, Instr.sureAddr, asAddr] using hy

theorem res_run {w0 : World} {G : Gh} {w : World} {a : Act} {st : St} (hr : Rel w0 G w a st) : ∀ (l : List ResultVar) (ds : List D), resD E.P st l = some ds →
    ∃ vs : List Value, (l.mapM (resOne a.tmps)).run E.P w = .ok vs w ∧ Vs G w vs.toArray ds
  | [], ds, h => by
    simp only [resD, Option.some.injEq] at h
    subst h
    exact ⟨[], rfl, rfl, fun i c d hc _ => by simp at hc⟩
  | .tmp t :: r, ds, h => by
    simp only [resD] at h
    split at h
    · rename_i d ds' hl hds
      cases h
      obtain ⟨vs, h1, h2⟩ := res_run hr r ds' hds
      refine ⟨a.tmps.getD t undef :: vs, ?_, ?_, fun i c d' hc hd => ?_⟩
      · rw [List.mapM_cons, Sem.run_bind]
        simp only [resOne, Sem.run_pure, Result.andThen_ok, Sem.run_bind, h1]
      · have := h2.1
        simpa using this
      · cases i with
        | zero => simp only [List.getElem?_toArray, List.getElem?_cons_zero, Option.some.injEq] at hc hd; subst hc; subst hd; exact (hr.env t d hl).2
        | succ i => exact h2.2 i c d' (by simpa using hc) (by simpa using hd)
    · cases h
  | .cell p t :: r, ds, h => by
    simp only [resD] at h
    split at h
    · rename_i pd ds' hl hds
      split at h
      · rename_i d hld
        cases h
        obtain ⟨vs, h1, h2⟩ := res_run hr r ds' hds
        have hp := (hr.env p pd hl).2
        obtain ⟨y, hy, hv⟩ := load_run (P := E.P) hr.objs hp hld
        have hy' : (resOne a.tmps (.cell p t)).run E.P w = .ok y w := cell_run hp hld hy
        refine ⟨y :: vs, ?_, ?_, fun i c d' hc hd => ?_⟩
        · rw [List.mapM_cons, Sem.run_bind, hy']
          simp only [Sem.run_pure, Result.andThen_ok, Sem.run_bind, h1]
        · have := h2.1
          simpa using this
        · cases i with
          | zero => simp only [List.getElem?_toArray, List.getElem?_cons_zero, Option.some.injEq] at hc hd; subst hc; subst hd; exact hv
          | succ i => exact h2.2 i c d' (by simpa using hc) (by simpa using hd)
      · cases h
    · cases h

theorem results_run {w0 : World} {G : Gh} {w : World} {a : Act} {st : St} (hr : Rel w0 G w a st) {fn : Func} {l : List ResultVar} (hl : fn.results = l.toArray) {ds : List D} (h : resD E.P st l = some ds) :
    ∃ v, (results fn a.tmps).run E.P w = .ok v w ∧ V G w v (resV ds) := by
  obtain ⟨vs, h1, h2⟩ := res_run (E := E) hr l ds h
  have hlen := h2.1
  simp only [List.size_toArray] at hlen
  refine ⟨if h : vs.toArray.size = 1 then vs.toArray[0] else .tuple vs.toArray, ?_, ?_⟩
  · rw [results_eq, hl, Sem.run_bind, Array.mapM_eq_mapM_toList]
    simp only [Sem.run_map, h1, Result.andThen_ok, Sem.run_pure]
  · match vs, ds, hlen with
    | [], [], _ => exact .tup rfl (fun i c d hc _ => by simp at hc)
    | [v], [d], _ => exact h2.2 0 v d rfl rfl
    | v :: v' :: vs, d :: d' :: ds, _ =>
      simp only [resV]
      rw [dif_neg (by simp)]
      exact .tup h2.1 h2.2

/-- The plain end: the results as they stand; some objects are dropped. -/
theorem ends_plain {fn : Func} {d : Nat} {r : D} {σ' : Sto} {st : St} {l : List ResultVar} (hl : fn.results = l.toArray) {ds : List D} (h : resD E.P st l = some ds) (hco : Co (resV ds) r) (hσ : ∀ p ∈ σ', get st.σ p.1 = some p.2) : Ends E fn g d r σ' st := by
  intro w0 _ G w a hr _
  obtain ⟨v, h1, h2⟩ := results_run (E := E) hr hl h
  have hs : ∀ n o, get σ' n = some o → get st.σ n = some o := fun n o hn => hσ (n, o) (mem_of_get hn)
  exact ⟨v, G, h1, hr.wf, hco G w v h2, hr.objs.sub hs, .drop hs⟩

end
end Go.Ab

namespace Go.Ab
open Go Go.RowKit

theorem sameBits_one {c : KC} {v : Value} (h : c.fits v = true) (n : Nat) : Instr.sameBits n v v = true := by
  rcases KC.fits_cases h with ⟨rfl, s, rfl⟩ | ⟨k, m, rfl, rfl⟩ | ⟨rfl, b, rfl⟩
  · cases n <;> simp [Instr.sameBits, beq_bytes]
  · cases n <;> simp [Instr.sameBits]
  · cases n <;> simp [Instr.sameBits]
theorem sameBits_list {n : Nat} : ∀ {cs : List KC} {l : List Value}, KC.fitsL cs l = true → ((l.zip l).all fun p => Instr.sameBits n p.1 p.2) = true
  | [], [], _ => rfl
  | [], _ :: _, h => by simp [KC.fitsL] at h
  | _ :: _, [], h => by simp [KC.fitsL] at h
  | c :: cs, v :: l, h => by
    simp only [KC.fitsL, Bool.and_eq_true] at h
    simp only [List.zip_cons_cons, List.all_cons, Bool.and_eq_true]
    exact ⟨sameBits_one h.1 n, sameBits_list h.2⟩
theorem sameBits_fits {ks : KS} {v : Value} (h : ks.fits v = true) (n : Nat) : Instr.sameBits (n + 1) v v = true := by
  cases ks with
  | one c => exact sameBits_one h _
  | agg cs =>
    cases v with
    | agg xs =>
      have := sameBits_list (n := n) (show KC.fitsL cs xs.toList = true by simpa [KS.fits] using h)
      simp only [Instr.sameBits, beq_self_eq_true, Bool.true_and]
      exact this
    | _ => simp [KS.fits] at h
theorem keyStays_run {P : Program} {w : World} {ks : KS} {v : Value} (h : ks.fits v = true) : (Instr.keyThatStays v v).run P w = .ok v w := by
  unfold Instr.keyThatStays
  rw [if_pos (sameBits_fits h 9999)]
  rfl

theorem Born.push {ms : Array MapEntry} {clock : Nat} (h : Born ms clock) {k v : Value} : Born (ms.push { key := k, val := v, born := clock }) (clock + 1) := by
  obtain ⟨h1, h2⟩ := h
  refine ⟨?_, fun m hm => ?_⟩
  · rw [Array.toList_push, List.map_append, List.nodup_append]
    refine ⟨h1, by simp, fun a ha b hb => ?_⟩
    obtain ⟨m, hm, rfl⟩ := List.mem_map.1 ha
    have hl := h2 m hm
    simp only [List.map_cons, List.map_nil, List.mem_singleton] at hb
    omega
  · rw [Array.toList_push] at hm
    rcases List.mem_append.1 hm with hm | hm
    · exact Nat.lt_succ_of_lt (h2 m hm)
    · rw [List.mem_singleton.1 hm]
      exact Nat.lt_succ_self _
theorem borns_modify {ms : Array MapEntry} {i : Nat} {k v : Value} : (ms.modify i fun e => { e with key := k, val := v }).toList.map (·.born) = ms.toList.map (·.born) := by
  apply List.ext_getElem?
  intro j
  simp only [List.getElem?_map, Array.getElem?_toList, Array.getElem?_modify]
  split
  · cases ms[j]? <;> rfl
  · rfl
theorem Born.set {ms : Array MapEntry} {clock i : Nat} (h : Born ms clock) {k v : Value} : Born (ms.modify i fun e => { e with key := k, val := v }) clock := by
  refine ⟨by rw [borns_modify]; exact h.1, fun m hm => ?_⟩
  have h1 : m.born ∈ (ms.modify i fun e => { e with key := k, val := v }).toList.map (·.born) := List.mem_map_of_mem hm
  rw [borns_modify] at h1
  obtain ⟨m', hm', he⟩ := List.mem_map.1 h1
  rw [← he]
  exact h.2 m' hm'

section
variable {E : Ctx} {g : Nat} {o : Oper} {e : Operand → D} {κ : Kp}

theorem MV.mono {G : Gh} {w w' : World} {ks : KS} {ms : Array MapEntry} {es : List (Value × D)} (h : MV G w ks ms es) (hV : ∀ x d, V G w x d → V G w' x d) : MV G w' ks ms es :=
  ⟨h.1, h.2.1, h.2.2.1, fun i m e hm he => hV _ _ (h.2.2.2 i m e hm he)⟩

theorem MV.push {G : Gh} {w : World} {ks : KS} {ms : Array MapEntry} {es : List (Value × D)} (h : MV G w ks ms es) {k v : Value} {d : D} {c : Nat} (hk : ks.fits k = true) (hv : V G w v d) : MV G w ks (ms.push { key := k, val := v, born := c }) (es ++ [(k, d)]) := by
  have at_ : ∀ (i : Nat) m e, (ms.push { key := k, val := v, born := c })[i]? = some m → (es ++ [(k, d)])[i]? = some e → (ms[i]? = some m ∧ es[i]? = some e) ∨ (m = { key := k, val := v, born := c } ∧ e = (k, d)) := fun i m e hm he => by
    rw [Array.getElem?_push] at hm
    split at hm
    · rename_i hi
      subst hi
      rw [h.1, List.getElem?_append_right (Nat.le_refl _), Nat.sub_self] at he
      cases hm; cases he
      exact .inr ⟨rfl, rfl⟩
    · rename_i hi
      have hlt := (Array.getElem?_eq_some_iff.1 hm).1
      rw [List.getElem?_append_left (by rw [← h.1]; exact hlt)] at he
      exact .inl ⟨hm, he⟩
  refine ⟨by simp [h.1], fun i m hm => ?_, fun i m e hm he => ?_, fun i m e hm he => ?_⟩
  · rw [Array.getElem?_push] at hm
    split at hm
    · cases hm; exact hk
    · exact h.2.1 i m hm
  · rcases at_ i m e hm he with ⟨h1, h2⟩ | ⟨rfl, rfl⟩
    · exact h.2.2.1 i m e h1 h2
    · rfl
  · rcases at_ i m e hm he with ⟨h1, h2⟩ | ⟨rfl, rfl⟩
    · exact h.2.2.2 i m e h1 h2
    · exact hv

theorem MV.set {G : Gh} {w : World} {ks : KS} {ms : Array MapEntry} {es : List (Value × D)} (h : MV G w ks ms es) {k v : Value} {d : D} (i : Nat) (hk : ks.fits k = true) (hv : V G w v d) : MV G w ks (ms.modify i fun e => { e with key := k, val := v }) (es.set i (k, d)) := by
  have at_ : ∀ (j : Nat) m, (ms.modify i fun e => { e with key := k, val := v })[j]? = some m → (i ≠ j ∧ ms[j]? = some m) ∨ (i = j ∧ m.key = k ∧ m.val = v) := fun j m hm => by
    rw [Array.getElem?_modify] at hm
    split at hm
    · rename_i hi
      obtain ⟨m0, _, rfl⟩ := Option.map_eq_some_iff.1 hm
      exact .inr ⟨hi, rfl, rfl⟩
    · rename_i hi
      exact .inl ⟨hi, hm⟩
  refine ⟨by simp [h.1], fun j m hm => ?_, fun j m e hm he => ?_, fun j m e hm he => ?_⟩
  · rcases at_ j m hm with ⟨_, h1⟩ | ⟨_, h1, _⟩
    · exact h.2.1 j m h1
    · rw [h1]; exact hk
  · rw [List.getElem?_set] at he
    rcases at_ j m hm with ⟨h0, h1⟩ | ⟨h0, h1, h2⟩
    · rw [if_neg h0] at he
      exact h.2.2.1 j m e h1 he
    · rw [if_pos h0] at he
      split at he
      · cases he; exact h1
      · cases he
  · rw [List.getElem?_set] at he
    rcases at_ j m hm with ⟨h0, h1⟩ | ⟨h0, h1, h2⟩
    · rw [if_neg h0] at he
      exact h.2.2.2 j m e h1 he
    · rw [if_pos h0] at he
      split at he
      · cases he; rw [h2]; exact hv
      · cases he

theorem top_mput {t kt et : TypeId} {m k x : Operand} (hop : o.op = .mapUpdate t m k x ∨ o.op = .insert t m k x) (hmt : mapT E.P t = some (kt, et)) {ks : KS} (hks : KS.of E.P kt = some ks) {n : Nm} (hm : e m = .mref n) {es : List (Value × D)} (hκ : κ n = some (.map ks es))
    {kv : Value} (hkd : keyD (e k) = some kv) (hf : ks.fits kv = true) : TOp E g o e κ (.val undef) (κ.put n (.map ks (mput es kv (e x)))) := by
  intro w0 hA G w a hw hV ho _ K Q' hK
  have hvm := hV m (by rcases hop with hop | hop <;> simp [hop, Op.operands])
  have hvk := hV k (by rcases hop with hop | hop <;> simp [hop, Op.operands])
  have hvx := hV x (by rcases hop with hop | hop <;> simp [hop, Op.operands])
  rw [hm] at hvm
  have hk := keyD_spec hvk hkd
  obtain ⟨v, hρ, ⟨r, ms, clock, rfl, hh, hborn, hmv⟩, hnF⟩ := ho.ob n _ hκ
  have hmv : MV G w ks ms es := hmv
  generalize hvm' : a.eval m = vm at hvm
  cases hvm with
  | mref hρ' =>
    rw [hρ] at hρ'
    cases hρ'
    have ht := mapT_spec hmt
    have hc := checkKey_run (P := E.P) (w := w) hks hf false
    have hfk := findKey_run (P := E.P) (w := w) hks hf ms.toList hmv.fits
    have hstay := keyStays_run (P := E.P) (w := w) hf
    have step : ∀ (o' : Obj) ms' clock' es', o' = .map ms' clock' → (Instr.mapUpdate t (.map (some r)) kv (a.eval x)).run E.P w = .ok () { w with heap := w.heap.setIfInBounds r o' } → MV G w ks ms' es' → Born ms' clock' →
        mput es kv (e x) = es' → ∀ r, o.wpIn (Fr r) 0 E.P a w K Q' := fun o' ms' clock' es' ho' hrun hmv' hbo hes => by
      obtain ⟨h1, h2⟩ := MapKept.heap_set (o' := o') hh
      have hex : (execOp a.eval o).run E.P w = .ok .skip { w with heap := w.heap.setIfInBounds r o' } := by
        rcases hop with hop | hop <;> simp only [execOp, hop, Sem.run_bind, hvm', hk, hrun, Result.andThen_ok, Sem.run_pure]
      refine op_skip hex ?_
      have hgr : Gr w { w with heap := w.heap.setIfInBounds r o' } (blk (.map (some r))) := Gr.of ⟨rfl, rfl, rfl, by simp, fun b _ hb => h2 b fun he => hb (by simp [blk, he])⟩
      obtain ⟨g1, g2, g3⟩ := change_obj (ob' := .map ks es') hw ho hκ hρ hgr ⟨r, ms', clock', rfl, by rw [← ho']; exact h1, hbo, hmv'.mono fun y d hy => hy.mono (fun _ h => h) (fun b hF => h2 b fun he => hnF r rfl (he ▸ hF)) (fun _ _ h => h)⟩
      rw [hes] at hK
      exact hK G _ _ g1 (.val _) g2 (g3.weaken fun _ _ h => h.elim)
    rcases hmv.find kv with ⟨h1, h2, h3⟩ | ⟨i, m0, d, h1, h2, h3, h4, h5, h6, h7⟩
    · refine step _ _ (clock + 1) _ rfl ?_ (hmv.push (c := clock) hf hvx) hborn.push (mput_new h3)
      simp only [Instr.mapUpdate, Sem.run_bind, run_underlying ht, Result.andThen_ok, MapKept.run_getObj_map hh, hc, hfk, h1, MapKept.run_setObj_map _ hh]
    · refine step _ _ clock _ rfl ?_ (hmv.set i hf hvx) hborn.set (mput_at h4 h7)
      simp only [Instr.mapUpdate, Sem.run_bind, run_underlying ht, Result.andThen_ok, MapKept.run_getObj_map hh, hc, hfk, h1, h2, Option.map_some, Option.getD_some, h3, hstay, MapKept.run_setObj_map _ hh]

end
end Go.Ab

namespace Go.Ab
open Go Go.RowKit

def nodupB : List Nat → Bool
  | [] => true
  | a :: l => !l.elem a && nodupB l

theorem nodupB_spec : ∀ l, nodupB l = true → l.Nodup
  | [], _ => .nil
  | a :: l, h => by
    simp only [nodupB, Bool.and_eq_true, Bool.not_eq_true', List.elem_eq_contains] at h
    exact List.nodup_cons.2 ⟨fun hm => by simp [hm] at h, nodupB_spec l h.2⟩

def dstsOk (N : Nat) (l : List Oper) : Bool := nodupB (l.filterMap (·.dst)) && (l.filterMap (·.dst)).all fun d => decide (d < N)

theorem dstsOk_spec {N : Nat} {l : List Oper} (h : dstsOk N l = true) : (l.filterMap (·.dst)).Nodup ∧ ∀ o ∈ l, ∀ d, o.dst = some d → d < N := by
  simp only [dstsOk, Bool.and_eq_true, List.all_eq_true, decide_eq_true_eq] at h
  exact ⟨nodupB_spec _ h.1, fun o ho d hd => h.2 d (List.mem_filterMap.2 ⟨o, ho, hd⟩)⟩

/-- One generation of names more. -/
theorem bump {w0 : World} {G : Gh} {w : World} {a : Act} {st : St} (hr : Rel w0 G w a st) :
    ∃ G1 : Gh, G1.top = G.top + 1 ∧ (∀ i j, G1.ρ ⟨G.top, i, j⟩ = none) ∧ (∀ i j, get st.σ ⟨G.top, i, j⟩ = none) ∧ Rel w0 G1 w a st ∧ Step no G w (get st.σ) G1 w (get st.σ) := by
  have hV : ∀ v d, V G w v d → V { G with top := G.top + 1 } w v d := fun v d h => h.mono (fun _ h => h) (fun _ _ => rfl) (fun _ _ h => h)
  have hfr : ∀ i j, G.ρ ⟨G.top, i, j⟩ = none := fun i j => by
    cases h : G.ρ ⟨G.top, i, j⟩ with
    | none => rfl
    | some v => exact absurd (hr.wf.nm _ v h).1 (Nat.lt_irrefl _)
  refine ⟨{ G with top := G.top + 1 }, rfl, hfr, fun i j => ?_, ⟨⟨hr.wf.below, hr.wf.old, hr.wf.lt, fun n v hn => ⟨Nat.lt_succ_of_lt (hr.wf.nm n v hn).1, (hr.wf.nm n v hn).2⟩⟩, fun t d ht => ⟨(hr.env t d ht).1, hV _ _ (hr.env t d ht).2⟩, ⟨fun n o hn => ?_, hr.objs.ne⟩, hr.defers⟩, ?_⟩
  · cases h : get st.σ ⟨G.top, i, j⟩ with
    | none => rfl
    | some o =>
      obtain ⟨v, hv, _⟩ := hr.objs.ob _ o h
      rw [hfr i j] at hv; cases hv
  · obtain ⟨v, hv, hov, hF⟩ := hr.objs.ob n o hn
    exact ⟨v, hv, hov.mono hV fun _ _ => rfl, hF⟩
  · exact ⟨Nat.le_refl _, fun _ _ _ => rfl, fun _ h => h, fun _ h => .inl h, fun _ _ h => h, fun _ _ h _ => h, Nat.le_succ _, fun _ h => .inr h, fun _ h => .inl h, rfl⟩

section
variable {E : Ctx} {N : Nat} {st : St}

theorem awp_region {Q : Exit → St → Prop} {id : Nat} {l : List Oper} (hd : dstsOk N l = true) (h : ∀ g, (∀ i j, get st.σ ⟨g, i, j⟩ = none) → AOps E N l g (fun s => Q .normal s) l st) : AWp E N (.region id l.toArray false) Q st := by
  intro w0 hA G w a hN hr r hrd
  obtain ⟨G1, ht, hf, hσ, hr1, hs1⟩ := bump hr
  obtain ⟨hnd, hlt⟩ := dstsOk_spec hd
  refine wpIn_region_lit (h G.top hσ w0 hA G1 w a hN hr1 (by omega) hnd (fun o ho d hd => ⟨hlt o ho d hd, fun j => hf d j⟩) _ (fun G' st' a' w' h1 h2 h3 h4 => ⟨G', st', h1, h2, ?_, h4⟩) r)
  exact ((hs1.weaken fun _ _ h => h.elim).trans h3).weaken fun n hn he => by omega

/-! ### Evaluation -/

def wantL (ds : List (Option Tmp)) (env : List (Nat × D)) : Option (Nat × Bool) → Option Bool
  | none => some true
  | some (j, b) => match ds[j]? with
    | some (some t) => match lk env t with
      | some (.val (.bool c)) => some (c == b)
      | some (.val (.tuple _)) => some false
      | _ => none
    | _ => some false

theorem wantL_eq {ops : List Oper} {ds : List (Option Tmp)} (h : ops.map (·.dst) = ds) (env : List (Nat × D)) (o : Oper) : wantL ds env o.guard = wantD ops env o := by
  subst h
  unfold wantL wantD
  cases o.guard with
  | none => rfl
  | some p =>
    obtain ⟨j, b⟩ := p
    simp only [List.getElem?_map]
    cases ops[j]? with
    | none => rfl
    | some x =>
      simp only [Option.map_some, Option.bind_some]
      cases x.dst <;> rfl

def storeD (P : Program) (t : TypeId) (ad v : D) (σ : Sto) : Option Sto :=
  match ad with
  | .ptr n off => match get σ n with
    | some (.box u cs) => if szOf P t = some v.cells.length ∧ off + v.cells.length ≤ cs.length ∧ v.cells.all D.one = true then some (set σ n (.box u (over cs off v.cells))) else none
    | _ => none
  | .aptr n k i j => match get σ n with
    | some (.arr u k' rows) => if k' = k then match rows[i]? with
        | some (.agg rc) => if szOf P t = some v.cells.length ∧ j + v.cells.length ≤ rc.length ∧ v.cells.all D.one = true then some (set σ n (.arr u k (rows.set i (.agg (over rc j v.cells))))) else none
        | _ => none
      else none
    | _ => none
  | _ => none

theorem storeD_sound {g : Nat} {o : Oper} {e : Operand → D} {σ σ' : Sto} {t : TypeId} {ao x : Operand} (hop : o.op = .store t ao x) (h : storeD E.P t (e ao) (e x) σ = some σ') : TOp E g o e (get σ) (.val undef) (get σ') := by
  unfold storeD at h
  split at h
  · rename_i n off ha
    split at h
    · rename_i u cs hk
      split at h
      · rename_i hc
        cases h
        rw [get_set' _ _ _ (by rw [hk]; simp)]
        exact top_store hop ha hk rfl hc.1 hc.2.1 hc.2.2
      · cases h
    · cases h
  · rename_i n k i j ha
    split at h
    · rename_i u k' rows hk
      split at h
      · rename_i hkk
        subst hkk
        split at h
        · rename_i rc hr
          split at h
          · rename_i hc
            cases h
            rw [get_set' _ _ _ (by rw [hk]; simp)]
            exact top_store_arr hop ha hk hr rfl hc.1 hc.2.1 hc.2.2 rfl (.inr ⟨_, rfl⟩)
          · cases h
        · cases h
      · cases h
    · cases h
  · cases h

noncomputable def mputD (P : Program) (t : TypeId) (m k x : D) (σ : Sto) : Option Sto :=
  match m with
  | .mref n => match get σ n with
    | some (.map ks es) => match mapT P t, keyD k with
      | some (kt, _), some kv => if KS.of P kt = some ks ∧ ks.fits kv = true then some (set σ n (.map ks (mput es kv x))) else none
      | _, _ => none
    | _ => none
  | _ => none

theorem mputD_sound {g : Nat} {o : Oper} {e : Operand → D} {σ σ' : Sto} {t : TypeId} {m k x : Operand} (hop : o.op = .mapUpdate t m k x ∨ o.op = .insert t m k x) (h : mputD E.P t (e m) (e k) (e x) σ = some σ') : TOp E g o e (get σ) (.val undef) (get σ') := by
  unfold mputD at h
  split at h
  · rename_i n hm
    split at h
    · rename_i ks es hκ
      split at h
      · rename_i kt et kv hmt hkd
        split at h
        · rename_i hc
          cases h
          rw [get_set' _ _ _ (by rw [hκ]; simp)]
          exact top_mput hop hmt hc.1 hm hκ hkd hc.2
        · cases h
      · cases h
    · cases h
  · cases h

noncomputable def stepD (E : Ctx) (ds : List (Option Tmp)) (g : Nat) (o : Oper) (st : St) : Option St :=
  match wantL ds st.env o.guard with
  | some true => match o.op with
    | .store t a x => (storeD E.P t (ev E st.env a) (ev E st.env x) st.σ).map (st.env' o.dst (.val undef))
    | .mapUpdate t m k x => (mputD E.P t (ev E st.env m) (ev E st.env k) (ev E st.env x) st.σ).map (st.env' o.dst (.val undef))
    | .insert t m k x => (mputD E.P t (ev E st.env m) (ev E st.env k) (ev E st.env x) st.σ).map (st.env' o.dst (.val undef))
    | _ => (dop E.P g o (ev E st.env) (get st.σ)).map fun p => st.put o.dst p.1 p.2
  | some false => some (st.put o.dst (.val undef) [])
  | none => none

noncomputable def arun (E : Ctx) (ds : List (Option Tmp)) (g : Nat) : Nat → List Oper → St → Option (List Oper × St)
  | 0, l, st => some (l, st)
  | _ + 1, [], st => some ([], st)
  | n + 1, o :: r, st => match stepD E ds g o st with
    | some st' => arun E ds g n r st'
    | none => none

variable {ops l l' : List Oper} {ds : List (Option Tmp)} {g : Nat} {Q : St → Prop} {st' : St}

theorem aops_step {o : Oper} {r : List Oper} (hds : ops.map (·.dst) = ds) (h : stepD E ds g o st = some st') (k : AOps E N ops g Q r st') : AOps E N ops g Q (o :: r) st := by
  unfold stepD at h
  rw [wantL_eq hds] at h
  split at h
  · rename_i hw
    split at h
    · rename_i t a x hop
      simp only [Option.map_eq_some_iff] at h
      obtain ⟨σ', hσ, rfl⟩ := h
      exact aops_t hw (storeD_sound hop hσ) k
    · rename_i t m q x hop
      simp only [Option.map_eq_some_iff] at h
      obtain ⟨σ', hσ, rfl⟩ := h
      exact aops_t hw (mputD_sound (.inl hop) hσ) k
    · rename_i t m q x hop
      simp only [Option.map_eq_some_iff] at h
      obtain ⟨σ', hσ, rfl⟩ := h
      exact aops_t hw (mputD_sound (.inr hop) hσ) k
    · simp only [Option.map_eq_some_iff] at h
      obtain ⟨p, hp, rfl⟩ := h
      exact aops_q hw (dop_sound hp) k
  · rename_i hw
    cases h
    exact aops_skip hw k
  · cases h

theorem aops_run (n : Nat) (hds : ops.map (·.dst) = ds) : ∀ {l : List Oper} {st : St}, arun E ds g n l st = some (l', st') → AOps E N ops g Q l' st' → AOps E N ops g Q l st := by
  induction n with
  | zero =>
    intro l st h k
    simp only [arun, Option.some.injEq, Prod.mk.injEq] at h
    obtain ⟨rfl, rfl⟩ := h
    exact k
  | succ n ih =>
    intro l st h k
    cases l with
    | nil =>
      simp only [arun, Option.some.injEq, Prod.mk.injEq] at h
      obtain ⟨rfl, rfl⟩ := h
      exact k
    | cons o r =>
      simp only [arun] at h
      split at h
      · rename_i s hs
        exact aops_step hds hs (ih h k)
      · cases h

/-- A call that turns objects. -/
theorem aops_call {o : Oper} {r : List Oper} {f : FuncId} {args args' : List D} {σs σ' : Sto} {d : Nat} {x : D} (hds : ops.map (·.dst) = ds) (hw : wantL ds st.env o.guard = some true) (hd : o.dst = some d) (hc : calleeD o (ev E st.env) = some (f, args)) (h : ACalls E f args' σs g d x σ') (hco : CoL args args')
    (hsub : ∀ p ∈ σs, get st.σ p.1 = some p.2) (k : AOps E N ops g Q r { env := (d, x) :: st.env, σ := σ' ++ dels st.σ (σs.map (·.1)) }) : AOps E N ops g Q (o :: r) st := by
  refine aops_t (by rw [← wantL_eq hds]; exact hw) (top_call hc hco hd h hsub) ?_
  simp only [hd, St.env']
  exact k

/-- A call that is handed no objects. -/
theorem aops_pure {o : Oper} {r : List Oper} {f : FuncId} {args args' : List D} {nw : Sto} {d : Nat} {x : D} (hds : ops.map (·.dst) = ds) (hw : wantL ds st.env o.guard = some true) (hd : o.dst = some d) (hc : calleeD o (ev E st.env) = some (f, args)) (h : ACalls E f args' [] g d x nw) (hco : CoL args args')
    (k : AOps E N ops g Q r { env := (d, x) :: st.env, σ := nw ++ st.σ }) : AOps E N ops g Q (o :: r) st :=
  aops_call hds hw hd hc h hco (fun p hp => by cases hp) k

/-- append. -/
theorem aops_append {o : Oper} {r : List Oper} {t el : TypeId} {so x : Operand} {d : Nat} (hds : ops.map (·.dst) = ds) (hw : wantL ds st.env o.guard = some true) (hop : o.op = .call { callee := .builtin .append, args := #[so, x], argTypes := #[t, t] }) (hd : o.dst = some d)
    {n : Nm} {len : Nat} (hs : ev E st.env so = .own n len) {k : Nat} {rows rows2 : List D} (hκ : get st.σ n = some (.arr el k rows)) {xf : Bool} (hx : ev E st.env x = .sl xf rows2)
    (he : elemS E.P t = some el) (hk : szOf E.P el = some k) {bs : Nat} (hbs : bytesOf E.P el = some bs) {z : Value} (hz : zeroOf E.P el = some z) (hzs : z.cells.size = k) (hk0 : 0 < k) (hok : okRows k rows2)
    (h63 : rows.length + rows2.length ≤ 9223372036854775807) (hb : (rows.length + rows2.length) * bs ≤ 140737488355328)
    (kk : AOps E N ops g Q r { env := (d, .own ⟨g, d, 0⟩ (rows.length + rows2.length)) :: st.env, σ := (⟨g, d, 0⟩, .arr el k (rows ++ rows2)) :: del st.σ n }) : AOps E N ops g Q (o :: r) st := by
  have := top_append (E := E) (g := g) (e := ev E st.env) (κ := get st.σ) hop hd hs hκ hx he hk hbs hz hzs hk0 hok h63 hb
  have he2 : (Kp.del (get st.σ) n).put ⟨g, d, 0⟩ (.arr el k (rows ++ rows2)) = get ((⟨g, d, 0⟩, .arr el k (rows ++ rows2)) :: del st.σ n) := by
    funext m
    simp only [Kp.put, Kp.del, get, get_del]
  rw [he2] at this
  refine aops_t (by rw [← wantL_eq hds]; exact hw) this ?_
  simp only [hd, St.env']
  exact kk

end
end Go.Ab
