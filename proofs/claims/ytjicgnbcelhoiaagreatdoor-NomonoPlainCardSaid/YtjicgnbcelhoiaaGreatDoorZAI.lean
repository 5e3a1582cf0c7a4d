/- A part of the proof, under no conditions of its own: ZAI. -/
import Derived.Test.YtjicgnbcelhoiaaGreatDoorZAH
import Derived.Test.YtjicgnbcelhoiaaGreatDoorZAG
import Derived.Maps.RangeRun
namespace Go.Ab
open Go Go.RowKit Go.Proofs Go.Shelf
section
variable {E : Ctx} {g : Nat} {o : Oper} {e : Operand → D} {κ : Kp}
theorem top_clear {x : Operand} {t el : TypeId} (hop : o.op = .call { callee := .builtin .clear, args := #[x], argTypes := #[t] }) {n : Nm} {k off len : Nat} (hx : e x = .osl n k off len) {rows : List D} (hκ : κ n = some (.arr el k rows))
  (he : elemS E.P t = some el) {z : Value} (hz : zeroOf E.P el = some z) (hzs : z.cells.size = k) (hz1 : z.cells.toList.all Value.oneCell' = true) (hol : off + len ≤ rows.length) :
  TOp E g o e κ (.tup []) (κ.put n (.arr el k (rows.take off ++ List.replicate len (ofV z) ++ rows.drop (off + len)))) := by
 intro w0 hA G w a hw hV ho _ K Q' hK
 have hvx := hV x (by simp [hop, Op.operands, Call.operands])
 rw [hx] at hvx
 obtain ⟨v, hρ, ⟨xs, hown, hfl⟩, hnF⟩ := ho.ob n _ hκ
 have hput : κ.put n (.arr el k rows) = κ := by
  funext m
  simp only [Kp.put]
  split
  ·rename_i h; subst h; exact hκ.symm
  ·rfl
 generalize hva : a.eval x = va at hvx
 cases hvx with
 | osl hρ' hC hle ha =>
  rename_i b cap L C ad
  rw [hρ] at hρ'
  cases hρ'
  have hu := elemS_spec he
  have hzc : zeroOf E.P el = some z := hz
  by_cases h0 : len = 0
  ·subst h0
   have hex : (execOp a.eval o).run E.P w = .ok (.value (.tuple #[])) w := by
    simp [execOp, hop, resolve, invoke, builtin, hva, Builtin.clear_, run_underlying hu, Result.andThen]
   refine op_val hex ?_
   have e1 : rows.take off ++ List.replicate 0 (ofV z) ++ rows.drop (off + 0) = rows := by simp
   rw [e1, hput] at hK
   exact hK G w _ hw (.tup rfl (fun i c d h => by simp at h)) ho (.refl _ _ _ _)
  ·rcases hown.2 with ⟨hc, hz0⟩ | ⟨b', cap', cur, hc, hb0, hh, hnc, hcm, hcs, htake⟩
   ·cases hc
   ·cases hc
    have had := ha (by omega)
    subst had
    have hcap : (off + len) * k ≤ rows.length * k := Nat.mul_le_mul_right k hol
    have hcap2 : rows.length * k ≤ C * k := Nat.mul_le_mul_right k hnc
    let zs : List Value := (Builtin.zeroCells z.cells len).toList
    have hzl : zs.length = len * k := by simp [zs, Builtin.zeroCells, hzs]
    have hzg : ∀ i j, i < len → j < k → zs[i * k + j]? = z.cells[j]? := fun i j hi hj => by
     have hlt : i * k + j < len * k := by have := row_le (k := k) hi; omega
     have hmod : (i * k + j) % k = j := by rw [Nat.mul_comm, Nat.mul_add_mod]; exact Nat.mod_eq_of_lt hj
     have hj' : j < z.cells.size := by omega
     simp only [zs, Builtin.zeroCells, hzs, Array.getElem?_toList, Array.getElem?_map, Array.getElem?_range, hlt, ↓reduceIte, Option.map_some, hmod]
     rw [getElem!_pos z.cells j hj', Array.getElem?_eq_getElem hj']
    have hz1' : ∀ v ∈ zs, v.oneCell' = true := fun v hv => by
     obtain ⟨q, hq, rfl⟩ := List.mem_iff_getElem.1 hv
     have hk0 : 0 < k := Nat.pos_of_ne_zero fun h => by rw [hzl, h, Nat.mul_zero] at hq; omega
     have hq' : q < len * k := by rw [← hzl]; exact hq
     have h1 := hzg (q / k) (q % k) (Nat.div_lt_of_lt_mul (by rw [Nat.mul_comm]; exact hq')) (Nat.mod_lt _ hk0)
     rw [show q / k * k + q % k = q from Nat.div_add_mod' q k, List.getElem?_eq_getElem hq] at h1
     have hmem : zs[q] ∈ z.cells.toList := by
      rw [Array.mem_toList_iff]
      exact Array.mem_of_getElem? h1.symm
     exact List.all_eq_true.1 hz1 _ hmem
    have hszm : (off + len) * k = off * k + len * k := Nat.add_mul _ _ _
    have hrun0 := run_storeCells_at E.P b (off * k) el zs 0 cur w hh (by rw [hzl]; omega) hz1'
    simp only [Nat.add_zero] at hrun0
    generalize hnew : (cur.toList.take (off * k) ++ zs ++ cur.toList.drop (off * k + zs.length)) = nw at hrun0
    have hnl : nw.length = cur.size := by rw [← hnew]; simp; omega
    have hget : ∀ m : Nat, nw[m]? = if off * k ≤ m ∧ m < off * k + len * k then zs[m - off * k]? else cur[m]? := by
     intro m
     rw [← hnew]
     have hl1 : (cur.toList.take (off * k)).length = off * k := by simp; omega
     by_cases h1 : m < off * k
     ·rw [List.append_assoc, List.getElem?_append_left (by omega), List.getElem?_take, if_pos h1, if_neg (by omega)]
      simp
     ·by_cases h2 : m < off * k + len * k
      ·rw [List.append_assoc, List.getElem?_append_right (by omega), List.getElem?_append_left (by omega), hl1, if_pos ⟨by omega, h2⟩]
      ·have hl2 : (cur.toList.take (off * k) ++ zs).length = off * k + len * k := by rw [List.length_append]; omega
       rw [List.getElem?_append_right (by omega), hl2, List.getElem?_drop, if_neg (by omega), hzl]
       rw [show off * k + len * k + (m - (off * k + len * k)) = m by omega]
       simp
    have hex : (execOp a.eval o).run E.P w = .ok (.value (.tuple #[])) (w.setRow b nw.toArray) := by
     have h1 : (Builtin.clear_ #[t] o.type #[.slice (some ⟨b, off * k, none⟩) len cap]).run E.P w = .ok (.tuple #[]) (w.setRow b nw.toArray) := by
      have h2 : (storeCells ⟨b, off * k, none⟩ (Builtin.zeroCells z.cells len).toList).run E.P w = .ok () (w.setRow b nw.toArray) := hrun0
      obtain ⟨len', rfl⟩ : ∃ l, len = l + 1 := ⟨len - 1, by omega⟩
      simp [Builtin.clear_, run_underlying hu, Result.andThen, Sem.run_bind, run_zeroValue hz, h2]
     simp [execOp, hop, resolve, invoke, builtin, hva, h1, Result.andThen]
    refine op_val hex ?_
    have hgr : Gr w (w.setRow b nw.toArray) (blk (.slice (some ⟨b, 0, none⟩) rows.length C)) :=
     Gr.of ⟨rfl, rfl, rfl, by simp, fun k _ hk => setRow_other w b k _ fun he => hk (by simp [blk, he])⟩
    have hVm : ∀ y d', V G w y d' → V G (w.setRow b nw.toArray) y d' := fun y d' h => h.mono (fun _ h => h) (fun b' hF => setRow_other w b b' _ fun he => hnF b rfl (he ▸ hF)) (fun _ _ h => h)
    have hxs : ∀ (m : Nat) y, xs[m]? = some y → cur[m]? = some y := by
     intro m y hy
     rw [← htake, List.getElem?_take] at hy
     split at hy
     ·simpa using hy
     ·cases hy
    have hlen' : (rows.take off ++ List.replicate len (ofV z) ++ rows.drop (off + len)).length = rows.length := by simp; omega
    have hrow' : ∀ (i : Nat) r, (rows.take off ++ List.replicate len (ofV z) ++ rows.drop (off + len))[i]? = some r → (off ≤ i ∧ i < off + len ∧ r = ofV z) ∨ (¬ (off ≤ i ∧ i < off + len) ∧ rows[i]? = some r) := by
     intro i r hr
     have hl1 : (rows.take off).length = off := by simp; omega
     by_cases h1 : i < off
     ·rw [List.append_assoc, List.getElem?_append_left (by omega), List.getElem?_take, if_pos h1] at hr
      exact .inr ⟨by omega, hr⟩
     ·by_cases h2 : i < off + len
      ·rw [List.append_assoc, List.getElem?_append_right (by omega), List.getElem?_append_left (by simp; omega), List.getElem?_replicate, if_pos (by omega)] at hr
       cases hr
       exact .inl ⟨by omega, h2, rfl⟩
      ·have hl2 : (rows.take off ++ List.replicate len (ofV z)).length = off + len := by simp; omega
       rw [List.getElem?_append_right (by omega), hl2, List.getElem?_drop, show off + len + (i - (off + len)) = i by omega] at hr
       exact .inr ⟨by omega, hr⟩
    obtain ⟨g1, g2, g3⟩ := change_obj (ob' := .arr el k (rows.take off ++ List.replicate len (ofV z) ++ rows.drop (off + len))) hw ho hκ hρ hgr ⟨nw.take (rows.length * k), ⟨by rw [hlen', List.length_take]; omega, .inr ⟨b, C, nw.toArray, by rw [hlen'], hb0, setRow_heap w b cur _ el (0, 0) hh, by rw [hlen']; exact hnc, hcm, by simpa [hnl] using hcs, by rw [hlen']⟩⟩, fun i2 r2 hr2 => by
     rcases hrow' i2 r2 hr2 with ⟨i1, i3, rfl⟩ | ⟨i1, hr0⟩
     ·rw [ofV_cells]
      refine ⟨by simp [hzs], fun j2 d2 hd2 => ?_⟩
      have hj2 : j2 < k := by
       have := (List.getElem?_eq_some_iff.1 hd2).1
       simpa [hzs] using this
      have hb1 : i2 * k + k ≤ rows.length * k := row_le (by omega)
      have hoff : off * k ≤ i2 * k := Nat.mul_le_mul_right k i1
      have hup : i2 * k + k ≤ (off + len) * k := row_le i3
      rw [List.getElem?_take, if_pos (by omega), hget, if_pos ⟨by omega, by omega⟩]
      have hi2 : i2 * k + j2 - off * k = (i2 - off) * k + j2 := by rw [Nat.sub_mul]; omega
      rw [hi2, hzg _ _ (by omega) hj2]
      have hj' : j2 < z.cells.size := by omega
      refine ⟨z.cells[j2], by simp [hj'], ?_⟩
      simp only [List.getElem?_map, Array.getElem?_toList, hj', Array.getElem?_eq_getElem, Option.map_some, Option.some.injEq] at hd2
      subst hd2
      exact .val _
     ·obtain ⟨q1, q2⟩ := hfl i2 r2 hr0
      refine ⟨q1, fun j2 d2 hd2 => ?_⟩
      obtain ⟨y, hy, hyv⟩ := q2 j2 d2 hd2
      have hj2 : j2 < k := by
       have := (List.getElem?_eq_some_iff.1 hd2).1
       omega
      have hi2' := (List.getElem?_eq_some_iff.1 hr0).1
      have := row_le (k := k) hi2'
      refine ⟨y, ?_, hVm _ _ hyv⟩
      rw [List.getElem?_take, if_pos (by omega), hget, if_neg ?_]
      ·exact hxs _ _ hy
      ·rintro ⟨k1, k2⟩
       refine i1 ⟨?_, ?_⟩
       ·rcases Nat.lt_or_ge i2 off with h | h
        ·have := row_le (k := k) h; omega
        ·exact h
       ·rcases Nat.lt_or_ge i2 (off + len) with h | h
        ·exact h
        ·have := Nat.mul_le_mul_right k h; omega⟩
    exact hK G _ _ g1 (.tup rfl (fun i c d h => by simp at h)) g2 (g3.weaken fun _ _ h => h.elim)
theorem qop_range {d : Nat} {t : TypeId} {x : Operand} (hd : o.dst = some d) (hop : o.op = .range t x) (hmt : (mapT E.P t).isSome = true) {ks : KS} {es : List (Value × D)} (hx : e x = .fmap ks es) :
  QOp E g o e κ (.ptr ⟨g, d, 0⟩ 0) [(⟨g, d, 0⟩, .iter ks es [])] := by
 intro w0 hA G w a hw hV ho hf K Q' hK
 have hvx := hV x (by simp [hop, Op.operands])
 rw [hx] at hvx
 obtain ⟨⟨kt, et⟩, hmt⟩ := Option.isSome_iff_exists.1 hmt
 have hu := mapT_spec hmt
 obtain ⟨hg, hfresh⟩ := hf d hd
 generalize hva : a.eval x = va at hvx
 cases hvx with
 | fmap ms clock hF hh hborn h1 h2 h3 h4 =>
  rename_i r
  have hc : (execOp a.eval o).run E.P w = .ok (.value (.pointer (some ⟨w.heap.size, 0, none⟩))) (w.alloc (.mapIter (some r) clock #[] clock)) := by
   simp only [execOp, hop, hva, Sem.run_bind, Instr.range, run_underlying hu, Result.andThen_ok, MapKept.run_getObj_map hh, Sem.run_pure, run_newObj]
   rfl
  refine op_val hc ?_
  have hgr : Gr w (w.alloc (.mapIter (some r) clock #[] clock)) none := gr_alloc w _
  have hnew := heap_alloc_n w (.mapIter (some r) clock #[] clock)
  have hup : ∀ v d', V G w v d' → V (G.upd ⟨g, d, 0⟩ (.pointer (some ⟨w.heap.size, 0, none⟩))) (w.alloc (.mapIter (some r) clock #[] clock)) v d' := fun v d' h => h.upd (hfresh 0) fun b hF => heap_alloc_o w _ b (hw.lt b hF)
  have hsz : (w.alloc (.mapIter (some r) clock #[] clock)).heap.size = w.heap.size + 1 := World.size_alloc _ _
  obtain ⟨g1, g2, g3⟩ := new_obj hw ho (hfresh 0) hg (v := .pointer (some ⟨w.heap.size, 0, none⟩)) (ob := .iter ks es []) hgr (fun b hb => by simp [blk] at hb; omega)
   ⟨w.heap.size, r, ms, clock, #[], rfl, hnew, hup _ _ (.fms hF hh), hborn, h1, h2, h3, fun i m e' hm he => hup _ _ (h4 i m e' hm he), fun i m hm => by simp, fun i m h => by simp at h⟩
  refine hK _ _ _ g1 (.ptr (by simp [Gh.upd])) (by rw [get_single]; exact g2) ?_
  rw [get_single]
  exact g3.weaken fun n _ hn => by subst hn; exact ⟨rfl, hd⟩
def NextOut (es : List (Value × D)) (pre : List Nat) (v : D) (pre' : List Nat) : Prop :=
 (v = .tup [.val (.bool false)] ∧ pre' = pre ∧ ∀ i, i < es.length → i ∈ pre) ∨ ∃ i e, es[i]? = some e ∧ i ∉ pre ∧ v = .tup [.val (.bool true), ofV e.1, e.2] ∧ pre' = pre ++ [i]
theorem op_next {it : Operand} (hop : o.op = .next it false) {n : Nm} (hx : e it = .ptr n 0) {ks : KS} {es : List (Value × D)} {pre : List Nat} (hκ : κ n = some (.iter ks es pre)) :
  ∀ w0, E.A w0 → ∀ G w (a : Act), WF w0 G w → (∀ x ∈ o.op.operands, V G w (a.eval x) (e x)) → Objs w0 G w κ → ∀ (K : Act → World → Prop) (Q' : Exit → Act → World → Prop),
   (∀ v pre' w' x, NextOut es pre v pre' → WF w0 G w' → V G w' x v → Objs w0 G w' (κ.put n (.iter ks es pre')) → Step (fun _ => False) G w κ G w' (κ.put n (.iter ks es pre')) → K (a.put o.dst x) w') → ∀ r, o.wpIn (Fr r) 0 E.P a w K Q' := by
 intro w0 hA G w a hw hV ho K Q' hK
 have hvx := hV it (by simp [hop, Op.operands])
 rw [hx] at hvx
 obtain ⟨v, hρ, hov, hnF⟩ := ho.ob n _ hκ
 obtain ⟨r, m, ms, clock, seen, rfl, hr, hfm, hborn, h1, h2, h3, h4, h5, h6⟩ := hov
 generalize hva : a.eval it = va at hvx
 cases hvx with
 | ptr hρ' =>
  rw [hρ] at hρ'
  cases hρ'
  cases hfm with
  | fms hF hh =>
   have hput : κ.put n (.iter ks es pre) = κ := by
    funext m
    simp only [Kp.put]
    split
    ·rename_i h; subst h; exact hκ.symm
    ·rfl
   rcases run_next_at (P := E.P) w o.type r m clock clock seen ms clock hr hh hborn.2 (Nat.le_refl _) with ⟨h0, hrun⟩ | ⟨x, hxm, w1, hal, hrun⟩
   ·have hex : (execOp a.eval o).run E.P w = .ok (.value (.tuple #[.bool false])) w := by
     simp [execOp, hop, hva, hrun, Result.andThen]
    refine op_val hex ?_
    refine hK (.tup [.val (.bool false)]) pre w _ (.inl ⟨rfl, rfl, fun i hi => ?_⟩) hw (.tup rfl (fun i c d hc hd => ?_)) (by rw [hput]; exact ho) (by rw [hput]; exact .refl _ _ _ _)
    ·have hi' : i < ms.size := by omega
     refine (h5 i ms[i] (by simp [hi'])).1 ?_
     cases hsn : seen.contains ms[i].born with
     | true => rfl
     | false =>
      have hmem : ms[i] ∈ (leftOf ms seen) := by
       unfold leftOf
       rw [Array.mem_filter]
       exact ⟨Array.getElem_mem hi', by rw [hsn]; rfl⟩
      have := Array.size_pos_of_mem hmem
      omega
    ·match i, hc, hd with
     | 0, hc, hd => cases hc; cases hd; exact .val _
     | i + 1, hc, hd => simp at hd
   ·have hex : (execOp a.eval o).run E.P w = .ok (.value (.tuple #[.bool true, x.key, x.val])) (Go.ChangeMaps.setBlock w1 r (.mapIter (some m) clock (seen.push x.born) clock)) := by
     simp [execOp, hop, hva, hrun, Result.andThen]
    refine op_val hex ?_
    have hxm' : x ∈ ms ∧ seen.contains x.born = false := by
     have : x ∈ leftOf ms seen := by simpa using hxm
     unfold leftOf at this
     rw [Array.mem_filter] at this
     exact ⟨this.1, by simpa using this.2⟩
    obtain ⟨i, hi, rfl⟩ := Array.mem_iff_getElem.1 hxm'.1
    have hie : i < es.length := by omega
    have hw1 : w1.heap = w.heap ∧ w1.os = w.os ∧ w1.output = w.output := by rcases hal with rfl | rfl <;> exact ⟨rfl, rfl, rfl⟩
    have hrm : r ≠ m := fun e => by subst e; rw [hr] at hh; cases hh
    have hset := fun b (hb : b ≠ r) => show (Go.ChangeMaps.setBlock w1 r (.mapIter (some m) clock (seen.push ms[i].born) clock)).heap[b]? = w.heap[b]? from by
     simp only [Go.ChangeMaps.setBlock, hw1.1]
     rw [Array.getElem?_setIfInBounds, if_neg (Ne.symm hb)]
    have hrl := (Array.getElem?_eq_some_iff.1 hr).1
    have hset1 : (Go.ChangeMaps.setBlock w1 r (.mapIter (some m) clock (seen.push ms[i].born) clock)).heap[r]? = some (.mapIter (some m) clock (seen.push ms[i].born) clock) := by
     simp only [Go.ChangeMaps.setBlock, hw1.1]
     rw [Array.getElem?_setIfInBounds, if_pos rfl, if_pos hrl]
    have hgr : Gr w (Go.ChangeMaps.setBlock w1 r (.mapIter (some m) clock (seen.push ms[i].born) clock)) (blk (.pointer (some ⟨r, 0, none⟩))) := by
     rcases hal with rfl | rfl <;> exact Gr.of ⟨rfl, rfl, rfl, by simp [Go.ChangeMaps.setBlock], fun b _ hb => hset b fun e => hb (by simp [blk, e])⟩
    have hVm : ∀ y d', V G w y d' → V G (Go.ChangeMaps.setBlock w1 r (.mapIter (some m) clock (seen.push ms[i].born) clock)) y d' := fun y d' h => h.mono (fun _ h => h) (fun b hF => hset b fun e => hnF r rfl (e ▸ hF)) (fun _ _ h => h)
    obtain ⟨g1, g2, g3⟩ := change_obj (ob' := .iter ks es (pre ++ [i])) hw ho hκ hρ hgr ⟨r, m, ms, clock, seen.push ms[i].born, rfl, hset1, hVm _ _ (.fms hF hh), hborn, h1, h2, h3, fun i m e' hm he => hVm _ _ (h4 i m e' hm he), fun j mj hj => by
     rw [Array.contains_push]
     have hj' := (Array.getElem?_eq_some_iff.1 hj).1
     have hjv := (Array.getElem?_eq_some_iff.1 hj).2
     simp only [Bool.or_eq_true, List.mem_append, List.mem_singleton, beq_iff_eq]
     rw [h5 j mj hj]
     refine or_congr Iff.rfl ⟨fun hb => ?_, fun hb => ?_⟩
     ·have hnd := hborn.1
      have e1 : (ms.toList.map (·.born))[j]'(by simpa using hj') = mj.born := by simp [hjv]
      have e2 : (ms.toList.map (·.born))[i]'(by simpa using hi) = ms[i].born := by simp
      exact (List.getElem_inj hnd).1 (by rw [e1, e2, hb])
     ·subst hb
      rw [← hjv], fun j mj hl hj => by
     rw [List.getLast?_concat] at hl
     cases hl
     rw [Array.back?_push, ← (Array.getElem?_eq_some_iff.1 hj).2]⟩
    refine hK _ _ _ _ (.inr ⟨i, es[i], List.getElem?_eq_getElem hie, ?_, rfl, rfl⟩) g1 (.tup rfl fun j c d hc hd => ?_) g2 g3
    ·intro hmem
     have := (h5 i ms[i] (by simp [hi])).2 hmem
     rw [hxm'.2] at this
     cases this
    ·have k1 := h3 i ms[i] es[i] (by simp [hi]) (List.getElem?_eq_getElem hie)
     have k2 := h4 i ms[i] es[i] (by simp [hi]) (List.getElem?_eq_getElem hie)
     match j, hc, hd with
     | 0, hc, hd => cases hc; cases hd; exact .val _
     | 1, hc, hd => cases hc; cases hd; rw [← k1]; exact V.ofV _ _ _
     | 2, hc, hd => cases hc; cases hd; exact hVm _ _ k2
     | j + 3, hc, hd => simp at hd
theorem qop_entry {it : Operand} (hop : o.op = .entry it) {n : Nm} (hx : e it = .ptr n 0) {ks : KS} {es : List (Value × D)} {pre : List Nat} {i : Nat} (hκ : κ n = some (.iter ks es (pre ++ [i]))) {p : Value × D} (hp : es[i]? = some p) :
  QOp E g o e κ (.tup [ofV p.1, p.2]) [] := by
 intro w0 hA G w a hw hV ho hf K Q' hK
 have hvx := hV it (by simp [hop, Op.operands])
 rw [hx] at hvx
 obtain ⟨v, hρ, hov, hnF⟩ := ho.ob n _ hκ
 obtain ⟨r, m, ms, clock, seen, rfl, hr, hfm, hborn, h1, h2, h3, h4, h5, h6⟩ := hov
 generalize hva : a.eval it = va at hvx
 cases hvx with
 | ptr hρ' =>
  rw [hρ] at hρ'
  cases hρ'
  cases hfm with
  | fms hF hh =>
   have hi : i < ms.size := by
    have := (List.getElem?_eq_some_iff.1 hp).1
    omega
   have hb := h6 i ms[i] List.getLast?_concat (by simp [hi])
   obtain ⟨s0, rfl⟩ : ∃ s0 : Array Nat, seen = s0.push ms[i].born := by
    refine ⟨seen.pop, ?_⟩
    obtain ⟨l⟩ := seen
    have hl : l.getLast? = some ms[i].born := by rw [List.getLast?_eq_getElem?]; simpa [Array.back?] using hb
    have hne : l ≠ [] := fun e => by subst e; simp at hl
    have h9 : l.getLast hne = ms[i].born := by
     rw [List.getLast?_eq_some_getLast hne] at hl
     exact Option.some.inj hl
    have h10 := List.dropLast_concat_getLast hne
    rw [h9] at h10
    simp [h10]
   have hrun := run_entry_at (P := E.P) w r m clock s0 ms clock ms[i] hr hh (by simp) hborn.1
   have hex : (execOp a.eval o).run E.P w = .ok (.value (.tuple #[ms[i].key, ms[i].val])) w := by
    simp [execOp, hop, hva, hrun, Result.andThen]
   refine op_val hex ?_
   have k1 := h3 i ms[i] p (by simp [hi]) hp
   have k2 := h4 i ms[i] p (by simp [hi]) hp
   refine hK _ _ _ hw (.tup rfl fun j c d hc hd => ?_) (by rw [or_nil]; exact ho) (by rw [or_nil]; exact .refl _ _ _ _)
   match j, hc, hd with
   | 0, hc, hd => cases hc; cases hd; rw [← k1]; exact V.ofV _ _ _
   | 1, hc, hd => cases hc; cases hd; exact k2
   | j + 2, hc, hd => simp at hd
end
section
variable {E : Ctx} {N : Nat} {st : St} {ops : List Oper} {ds : List (Option Tmp)} {g : Nat} {K : St → Prop} {o : Oper} {r : List Oper}
theorem aops_clear {t el : TypeId} {x : Operand} (hds : ops.map (·.dst) = ds) (hw : wantL ds st.env o.guard = some true) (hd : o.dst = none) (hop : o.op = .call { callee := .builtin .clear, args := #[x], argTypes := #[t] })
  {n : Nm} {k off len : Nat} (hx : ev E st.env x = .osl n k off len) (he : elemS E.P t = some el) {z : Value} (hz : zeroOf E.P el = some z) (hzs : z.cells.size = k) (hz1 : z.cells.toList.all Value.oneCell' = true)
  (h : SomeP (get st.σ n) fun ob => SomeP (arrOf el k ob) fun rows => off + len ≤ rows.length ∧ AOps E N ops g K r { env := st.env, σ := set st.σ n (.arr el k (rows.take off ++ List.replicate len (ofV z) ++ rows.drop (off + len))) }) : AOps E N ops g K (o :: r) st := by
 obtain ⟨ob, h1, h⟩ := h.elim
 obtain ⟨rows, h2, h3, h4⟩ := h.elim
 cases ob with
 | arr t' k' rows' =>
  simp only [arrOf] at h2
  split at h2
  ·rename_i hc
   obtain ⟨rfl, rfl⟩ := hc
   cases h2
   refine aops_t (v := .tup []) (σ := set st.σ n (.arr t' k' (rows.take off ++ List.replicate len (ofV z) ++ rows.drop (off + len)))) (by rw [← wantL_eq hds]; exact hw) ?_ (by rw [hd]; exact h4)
   rw [get_set' _ _ _ (by rw [h1]; simp)]
   exact top_clear hop hx h1 he hz hzs hz1 h3
  ·cases h2
 | _ => cases h2
theorem aops_range {t : TypeId} {x : Operand} {d : Nat} (hds : ops.map (·.dst) = ds) (hw : wantL ds st.env o.guard = some true) (hd : o.dst = some d) (hop : o.op = .range t x) (hmt : (mapT E.P t).isSome = true) {ks : KS} {es : List (Value × D)} (hx : ev E st.env x = .fmap ks es)
  (h : AOps E N ops g K r { env := (d, .ptr ⟨g, d, 0⟩ 0) :: st.env, σ := (⟨g, d, 0⟩, .iter ks es []) :: st.σ }) : AOps E N ops g K (o :: r) st := by
 refine aops_q (v := .ptr ⟨g, d, 0⟩ 0) (nw := [(⟨g, d, 0⟩, .iter ks es [])]) (by rw [← wantL_eq hds]; exact hw) (qop_range hd hop hmt hx) ?_
 rw [hd]
 exact h
theorem aops_entry2 {it : Operand} {d : Nat} (hds : ops.map (·.dst) = ds) (hw : wantL ds st.env o.guard = some true) (hd : o.dst = some d) (hop : o.op = .entry it) {n : Nm} (hx : ev E st.env it = .ptr n 0) {ks : KS} {es : List (Value × D)} {pre : List Nat} {i : Nat} (hn : get st.σ n = some (.iter ks es (pre ++ [i]))) {p : Value × D} (hp : es[i]? = some p)
  (h : AOps E N ops g K r { env := (d, .tup [ofV p.1, p.2]) :: st.env, σ := st.σ }) : AOps E N ops g K (o :: r) st := by
 refine aops_q (v := .tup [ofV p.1, p.2]) (nw := []) (by rw [← wantL_eq hds]; exact hw) (qop_entry hop hx hn hp) ?_
 rw [hd]
 exact h
theorem aops_next {it : Operand} {d : Nat} (hds : ops.map (·.dst) = ds) (hw : wantL ds st.env o.guard = some true) (hd : o.dst = some d) (hop : o.op = .next it false) {n : Nm} (hx : ev E st.env it = .ptr n 0) {ks : KS} {es : List (Value × D)} {pre : List Nat} (hn : get st.σ n = some (.iter ks es pre))
  (h : ∀ v pre', NextOut es pre v pre' → AOps E N ops g K r { env := (d, v) :: st.env, σ := set st.σ n (.iter ks es pre') }) : AOps E N ops g K (o :: r) st := by
 intro w0 hA G w a hN hr hg hnd hfr Q' hQ rr
 simp only [wpListIn]
 rw [if_pos (wantD_sound hr (by rw [← wantL_eq hds]; exact hw))]
 refine op_next hop hx hn w0 hA G w a hr.wf (fun x _ => hr.ev hA x) hr.objs _ _ (fun v pre' w' x hout hw' hv ho hs => ?_) rr
 have hκ : Kp.put (get st.σ) n (.iter ks es pre') = get (set st.σ n (.iter ks es pre')) := (get_set' _ _ _ (by rw [hn]; simp)).symm
 have hr' := hr.put' (v := v) (dst := o.dst) hs hκ hw' ho hv (fun d hd => by rw [hN]; exact (hfr o List.mem_cons_self d hd).1)
 have hnd' : (r.filterMap (·.dst)).Nodup := by
  simp only [List.filterMap_cons, hd, List.nodup_cons] at hnd
  exact hnd.2
 have h1 := h v pre' hout
 have e1 : st.env' o.dst v (set st.σ n (.iter ks es pre')) = { env := (d, v) :: st.env, σ := set st.σ n (.iter ks es pre') } := by rw [hd]; rfl
 rw [e1] at hr'
 refine h1 w0 hA G w' _ (by rw [put_size, hN]) hr' hg hnd' (fun o' ho' d' hd' => (hfr o' (by simp [ho']) d' hd')) Q' (fun G2 st2 a2 w2 k1 k2 k3 k4 => hQ G2 st2 a2 w2 k1 k2 ?_ k4) rr
 rw [hκ] at hs
 exact (hs.weaken fun n _ hn => hn.elim).trans k3
end
end Go.Ab
namespace Go.Ab
open Go Go.RowKit
theorem awp_rangeX {ι : Type} {E : Ctx} {N : Nat} {Q : Exit → St → Prop} {st : St} {gop : Operand} {p : Tmp} {assign body : Code} {f : FuncId} {caps : List D} {rD : D} (hE : E.rd = false) (hg : ev E st.env gop = .func (.func f) [] caps) (hp : p < N) (i0 : ι) (step : ι → D → ι → Prop) (fin : ι → Prop) (J : ι → Sto → Prop) (h0 : J i0 st.σ)
  (hit : ∀ n (I : ι → Sto → Prop), (∀ i x j, step i x j → YC E n x (I i) (I j)) → IC E f (.yld n :: caps) (I i0) (fun τ => ∃ i, fin i ∧ I i τ) rD)
  (hround : ∀ i x j, step i x j → ∀ σ, J i σ → AWp E.rnd N assign (thenQ (fun s => AWp E.rnd N body (thenQ (fun s' => J j s'.σ) fun _ _ => False) s) fun _ _ => False) { env := (p, x) :: st.env, σ := σ })
  (hdone : ∀ i σ, fin i → J i σ → Q .normal { env := st.env, σ := σ }) : AWp E N (.rangeFunc gop #[p] assign body) Q st := by
 intro w0 hA G w a hN hr r hrd
 obtain rfl := hrd hE
 refine wpIn_rangeFunc fun fn _ => ?_
 have hv := hr.ev hA gop
 rw [hg] at hv
 generalize hgv : a.eval gop = u at hv
 cases hv with
 | func h1 h2 h3 h4 =>
  rename_i fv cv
  have e1 : fv = #[] := Array.size_eq_zero_iff.1 h1
  subst e1
  obtain ⟨m1, m2, m3⟩ := new_mark hr.wf hr.objs
  generalize hG1 : ({ G with F := fun b => G.F b ∨ b = w.heap.size, top := G.top + 1 } : Gh) = G1 at m1 m2 m3
  have hmark : (w.alloc (.deferred (some []))).heap[w.heap.size]? = some (.deferred (some [])) := heap_alloc_n w _
  have hsz1 : (w.alloc (.deferred (some []))).heap.size = w.heap.size + 1 := World.size_alloc _ _
  have hF1 : G1.F w.heap.size := by rw [← hG1]; exact .inr rfl
  generalize hw1 : w.alloc (.deferred (some [])) = w1 at m1 m2 m3 hmark hsz1
  let rc : Loop := { state := .ready, pending := none, fn, tmps := a.tmps, params := #[p], assign, body, defers := w.heap.size }
  let n : Nm := ⟨G.top, 0, 0⟩
  have hn1 : G1.ρ n = none := by
   cases hc : G.ρ n with
   | none => rw [← hG1]; exact hc
   | some v => exact absurd (hr.wf.nm n v hc).1 (Nat.lt_irrefl _)
  have hng : n.g < G1.top := by rw [← hG1]; exact Nat.lt_succ_self _
  have henv1 : ∀ t d, lk st.env t = some d → t < rc.tmps.size ∧ V G1 w1 (rc.tmps.getD t undef) d := fun t d ht => ⟨(hr.env t d ht).1, (hr.env t d ht).2.step m3 hr.wf hr.objs⟩
  obtain ⟨k1, k2, k3⟩ := new_obj (n := n) (v := .pointer (some ⟨w1.heap.size, 0, none⟩)) (ob := .loop rc st.env) m1 m2 hn1 hng (gr_alloc w1 (.loop rc)) (fun b hb => by simp [blk] at hb; subst hb; simp)
   ⟨w1.heap.size, rfl, heap_alloc_n w1 _, fun t d ht => ⟨(henv1 t d ht).1, (henv1 t d ht).2.upd hn1 (fun b hF => heap_alloc_o w1 _ b (m1.lt b hF))⟩⟩
  have hor : Kp.or (single n (.loop rc st.env)) (get st.σ) = get ((n, .loop rc st.env) :: st.σ) := by
   funext m
   simp only [Kp.or, single, get]
   split <;> simp
  rw [hor] at k2 k3
  generalize hG2 : G1.upd n (.pointer (some ⟨w1.heap.size, 0, none⟩)) = G2 at k1 k2 k3
  have hρ2 : G2.ρ n = some (.pointer (some ⟨w1.heap.size, 0, none⟩)) := by rw [← hG2]; simp [Gh.upd]
  have hfree : ∀ j, G2.ρ ⟨G.top, 1, j⟩ = none := fun j => by
   rw [← hG2]
   have : G.ρ ⟨G.top, 1, j⟩ = none := by
    cases hc : G.ρ ⟨G.top, 1, j⟩ with
    | none => rfl
    | some v => exact absurd (hr.wf.nm _ v hc).1 (Nat.lt_irrefl _)
   simp only [Gh.upd]
   rw [if_neg (by simp [n]), ← hG1]
   exact this
  have htop2 : G.top < G2.top := by rw [← hG2, ← hG1]; exact Nat.lt_succ_self _
  have hnσ : get st.σ n = none := by
   cases hc : get st.σ n with
   | none => rfl
   | some o =>
    obtain ⟨v, hv, _⟩ := m2.ob n o hc
    rw [hn1] at hv; cases hv
  generalize hw2 : w1.alloc (.loop rc) = w2 at k1 k2 k3
  have hD2 : w2.heap[w.heap.size]? = some (.deferred (some [])) := by
   rw [← hw2, heap_alloc_o w1 _ _ (by omega)]
   exact hmark
  have hstep : Step no G w (get st.σ) G2 w2 (get ((n, .loop rc st.env) :: st.σ)) := by
   have s := (m3.weaken (R' := fun m => m.g = G.top) fun _ _ h => h.elim).trans (k3.weaken (R' := fun m => m.g = G.top) fun m _ hm => by rw [hm])
   exact s.weaken fun m h1 h2 => by
    have h3 : m.g = G.top := h2
    omega
  have hic := hit n (fun k τ => ∃ σ, τ = (n, .loop rc st.env) :: σ ∧ J k σ ∧ get σ n = none) fun i x j hs => yc_round rfl rfl rfl hN hp (hround i x j hs)
  have hvs : Vs G2 w2 (#[.func (.yield w1.heap.size) #[] #[]] ++ cv) (.yld n :: caps) := by
   refine Vs.append (a := #[.func (.yield w1.heap.size) #[] #[]]) (x := [.yld n]) ⟨rfl, fun i x d hx hd => ?_⟩ ⟨h2, fun i x d hx hd => ?_⟩
   ·match i, hx, hd with
    | 0, hx, hd => cases hx; cases hd; exact .yld hρ2
    | i + 1, hx, hd => simp at hd
   ·exact (h4 i x d hx hd).step hstep hr.wf hr.objs
  refine ⟨w1.heap.size, [{ target := .collected w.heap.size, args := #[] }], w2, { target := .fn (.func f) cv, args := #[.func (.yield w1.heap.size) #[] #[]] }, w2, f, #[.func (.yield w1.heap.size) #[] #[]] ++ cv, w2, ?_, ?_, fun _ _ => fr_fn _ _, ?_, fr_depth none 0, callsIn_fr.2 (Calls.mono (hic.run G.top 1 w0 hA G2 w2 _ _ ⟨st.σ, rfl, h0, hnσ⟩ k1 hvs k2 ⟨htop2, hfree⟩) ?_)⟩
  ·have := run_enterLoop_outer (P := E.P) (w := w) fn a.tmps #[p] assign body
   rw [hsz1, ← hw2]
   subst hw1
   exact this
  ·simp only [resolve, hgv]
   simp [Deferred.ofValue]
   rfl
  ·simp [invoke, hic.call]
  ·rintro e w' ⟨v, G', τ', rfl, ⟨ii, hfin, σ', rfl, hJ, hn'⟩, q1, q2, q3, q4⟩
   have hρ' := q4.ρ n _ hρ2
   obtain ⟨hl, t1, t2, t3⟩ := turn_loop (rc' := { rc with state := .exhausted }) q1 q3 hρ' rfl
   refine ⟨none, _, run_endLoop (P := E.P) hl (by simp [rc]), ?_⟩
   have hsub : ∀ m o, get σ' m = some o → get ((n, Ob.loop { rc with state := .exhausted } st.env) :: σ') m = some o := fun m o hm => get_tail (own := [(n, _)]) (fun q hq => by rw [List.mem_singleton.1 hq]; exact hn') m o hm
   have s2 : Step (fun m => m.g = G.top) G2 w2 (get ((n, .loop rc st.env) :: st.σ)) G' _ (get σ') := ((q4.weaken fun m _ hm => hm.1).trans (t3.weaken fun _ _ h => h.elim)).trans (Step.drop hsub)
   have s1 : Step no G w (get st.σ) G' _ (get σ') := ((hstep.weaken (R' := fun m => m.g = G.top) fun _ _ h => h.elim).trans s2).weaken fun m h1 h2 => by
    have h3 : m.g = G.top := h2
    omega
   refine ⟨G', { env := st.env, σ := σ' }, hN, ⟨t1, fun t d ht => ⟨(hr.env t d ht).1, (hr.env t d ht).2.step s1 hr.wf hr.objs⟩, t2.sub hsub, ?_⟩, s1, hdone ii σ' hfin hJ⟩
   obtain ⟨hb, Ds, hds, hnd, hD⟩ := hr.defers
   have hF2 : G2.F w.heap.size := by rw [← hG2]; exact hF1
   refine ⟨?_, w.heap.size :: Ds, by simp [hds], List.nodup_cons.2 ⟨fun hm => Nat.lt_irrefl _ (hr.wf.lt _ (hD _ hm).1), hnd⟩, fun b hm => ?_⟩
   ·have := s1.base
    have := s1.size
    omega
   ·rcases List.mem_cons.1 hm with rfl | hm
    ·exact ⟨s2.F _ hF2, by rw [s1.base]; exact hb, (s2.keeps k1 k2 _ hF2).trans hD2⟩
    ·obtain ⟨x1, x2, x3⟩ := hD b hm
     exact ⟨s1.F _ x1, by rw [s1.base]; exact x2, (s1.keeps hr.wf hr.objs _ x1).trans x3⟩
theorem awp_rangeX_k {ι : Type} {E : Ctx} {N : Nat} {Q : Exit → St → Prop} {st : St} {gop : Operand} {p : Tmp} {assign body : Code} {f : FuncId} {caps : List D} {rD : D} (hE : E.rd = false) (hg : ev E st.env gop = .func (.func f) [] caps) (hp : p < N) (i0 : ι) (step : ι → D → ι → Prop) (fin : ι → Prop) (J : ι → Sto → Prop) (h0 : J i0 st.σ)
  (hit : ∀ n (I : ι → Sto → Prop), (∀ i x j, step i x j → YC E n x (I i) (I j)) → IC E f (.yld n :: caps) (I i0) (fun τ => ∃ i, fin i ∧ I i τ) rD)
  (hround : ∀ i x j, step i x j → ∀ σ, J i σ → ∀ KA : St → Prop, (∀ s, (∀ KB : St → Prop, (∀ s', J j s'.σ → KB s') → AWp E.rnd N body (thenQ KB fun _ _ => False) s) → KA s) → AWp E.rnd N assign (thenQ KA fun _ _ => False) { env := (p, x) :: st.env, σ := σ })
  (hdone : ∀ i σ, fin i → J i σ → Q .normal { env := st.env, σ := σ }) : AWp E N (.rangeFunc gop #[p] assign body) Q st :=
 awp_rangeX hE hg hp i0 step fin J h0 hit (fun i x j hs σ hJ => hround i x j hs σ hJ (fun s => AWp E.rnd N body (thenQ (fun s' => J j s'.σ) fun _ _ => False) s) fun _ h => h _ fun _ h => h) hdone
end Go.Ab
namespace Go.Ab
open Go Go.RowKit Go.Proofs
def okV {β : Type} (encB : β → D) (vs : List Value) (b : β) : Prop := (encB b).cells = vs.map .val
theorem V.of_okV {β : Type} {encB : β → D} {cs : β → List D} (hag : ∀ b, encB b = .agg (cs b)) {G : Gh} {w : World} {vs : List Value} {b : β} (h : okV encB vs b) : V G w (.agg vs.toArray) (encB b) := by
 unfold okV at h
 rw [hag] at h ⊢
 have h' : cs b = vs.map .val := h
 rw [h']
 refine .agg (by simp) fun i c d hc hd => ?_
 simp only [List.getElem?_map, List.getElem?_toArray] at hc hd
 rw [hc] at hd
 cases hd
 exact .val _
theorem grow_of {w w' : World} (h : Bel w.heap.size w w') : ∃ q os', w' = Sort.grow (w.drewN q) os' := by
 refine ⟨w'.drawn - w.drawn, w'.heap.extract w.heap.size w'.heap.size, ?_⟩
 have hd := h.drawn
 have e1 : w.drawn + (w'.drawn - w.drawn) = w'.drawn := by omega
 have e2 : w.heap ++ w'.heap.extract w.heap.size w'.heap.size = w'.heap := by
  apply Array.ext
  ·rw [Array.size_append, Array.size_extract]
   have := h.size
   omega
  ·intro i h1 h2
   by_cases hi : i < w.heap.size
   ·rw [Array.getElem_append_left hi]
    have := h.block i hi
    rw [Array.getElem?_eq_getElem hi, Array.getElem?_eq_getElem h2] at this
    exact (Option.some.inj this).symm
   ·rw [Array.getElem_append_right (by omega), Array.getElem_extract]
    congr 1
    omega
 have h1 := h.os
 have h2 := h.tape
 have h3 := h.output
 cases w' with
 | mk heap tape drawn os output =>
  simp only at h1 h2 h3 e1 e2
  subst h1 h2 h3
  show _ = World.mk _ _ _ _ _
  simp only [World.drewN, e1]
  congr 1
  exact e2.symm
theorem cmpAt_of {E : Ctx} {β : Type} {k : Nat} {encB : β → D} {cs : β → List D} (hag : ∀ b, encB b = .agg (cs b)) {cmp : FuncId} {cf : β → β → Int} (h : ∀ x y g d, ACalls E cmp [encB x, encB y] [] g d (.val (.int .i64 (cf x y))) []) : CmpAt E.P E.A cmp β k (okV encB) cf := by
 intro x y w hA
 have hw := wf0 w
 have ho := objs0 w
 have hvs : Vs (G0 w) w #[.agg x.vs.toArray, .agg y.vs.toArray] [encB x.tag, encB y.tag] := by
  refine ⟨rfl, fun i c d hc hd => ?_⟩
  match i, hc, hd with
  | 0, hc, hd => cases hc; cases hd; exact V.of_okV hag x.fit
  | 1, hc, hd => cases hc; cases hd; exact V.of_okV hag y.fit
  | i + 2, hc, hd => simp at hd
 refine ((h x.tag y.tag 0 0).run w hA _ w _ hw hvs ho ⟨Nat.lt_succ_self 0, fun _ => rfl⟩).mono ?_
 rintro e w' ⟨v, G', rfl, q1, q2, _, _⟩
 exact ⟨by rw [V.of_val q2], grow_of q1.below⟩
end Go.Ab
namespace Go.Ab
open Go Go.RowKit
structure EC (E : Ctx) (f : FuncId) (args : List D) (σ : Sto) (g d : Nat) (S : D → Sto → Prop) : Prop where
 call : ∀ xs w, (callFunc f xs).run E.P w = .ok (.enter f xs) w
 run : ∀ w0, E.A w0 → ∀ G w (vs : Array Value), WF w0 G w → Vs G w vs args → Objs w0 G w (get σ) → (g < G.top ∧ ∀ j, G.ρ ⟨g, d, j⟩ = none) →
  Calls E.P f vs w fun e w' => ∃ v G' r τ', e = .returned v ∧ S r τ' ∧ WF w0 G' w' ∧ V G' w' v r ∧ Objs w0 G' w' (get τ') ∧ Step (rsv g (some d)) G w (get σ) G' w' (get τ')
section
variable {E : Ctx} {g : Nat}
def retE (E : Ctx) (fn : Func) (g d : Nat) (S : D → Sto → Prop) : Exit → St → Prop
 | .normal, st => ∃ r τ', S r τ' ∧ Ends E fn g d r τ' st
 | .ret, st => ∃ r τ', S r τ' ∧ Ends E fn g d r τ' st
 | _, _ => False
theorem ecalls_of_awp {f : FuncId} {fn : Func} {c : Code} {N d : Nat} {args : List D} {σ : Sto} {S : D → Sto → Prop} (hcall : ∀ xs w, (callFunc f xs).run E.P w = .ok (.enter f xs) w) (hf : E.P.funcs[f]? = some fn) (hb : fn.body = some c) (hN : fn.ntmps = N) (hargs : args.length ≤ N)
  (h : AWp E N c (retE E fn g d S) ⟨argsEnv 0 args, σ⟩) : EC E f args σ g d S := by
 refine ⟨hcall, fun w0 hA G w vs hw hvs ho hfr => ?_⟩
 refine callsIn_wide.1 (callsIn_of_wp_marks (F := Fr none) (n := 0) hf hb (fr_fn _ _) ?_)
 have hwB : WF w0 { G with base := w.heap.size } w := hw.rebase _
 have hoB : Objs w0 { G with base := w.heap.size } w (get σ) := ho.rebase _
 have hsz : (vs ++ Array.replicate (fn.ntmps - vs.size) undef).size = N := by
  have := hvs.1
  simp
  omega
 refine wpIn_mono (h w0 hA { G with base := w.heap.size } w _ hsz ⟨hwB, fun t x ht => ?_, hoB, .nil (Nat.le_refl _)⟩ none (fun _ => rfl)) ?_
 ·obtain ⟨_, h2⟩ := lk_argsEnv 0 args t x ht
  simp only [Nat.sub_zero] at h2
  have hlt : t < vs.size := by
   have := (List.getElem?_eq_some_iff.1 h2).1
   have := hvs.1
   omega
  refine ⟨by rw [hsz]; have := hvs.1; omega, ?_⟩
  rw [Array.getD_eq_getD_getElem?, Array.getElem?_append_left hlt]
  simp only [hlt, getElem?_pos, Option.getD_some]
  exact (hvs.2 t _ x (by simp [hlt]) h2).rebase _
 ·rintro en a' w' ⟨G', st', h1, h2, h3, h4⟩
  have key : (∃ r τ', S r τ' ∧ Ends E fn g d r τ' st') → LeavesInM (Fr none) 0 E.P fn a'.tmps (fun e w'' => ∃ v G'' r τ', e = .returned v ∧ S r τ' ∧ WF w0 G'' w'' ∧ V G'' w'' v r ∧ Objs w0 G'' w'' (get τ') ∧ Step (rsv g (some d)) G w (get σ) G'' w'' (get τ')) a'.defers .returning w' := by
   rintro ⟨r, τ', hpost, he⟩
   obtain ⟨hbs, Ds, hds, hnd, hD⟩ := h2.defers
   have hb3 := h3.base
   have hb4 : G'.base = w.heap.size := hb3
   have go : ∀ (Ds : List Nat) (w' : World) (a2 : Act), a2.tmps = a'.tmps → Ds.Nodup → (∀ b ∈ Ds, G'.F b ∧ G'.base ≤ b ∧ w'.heap[b]? = some (.deferred (some []))) → Rel w0 G' w' { a2 with defers := [] } st' → Step no { G with base := w.heap.size } w (get σ) G' w' (get st'.σ) →
     LeavesInM (Fr none) 0 E.P fn a'.tmps (fun e w'' => ∃ v G'' r τ', e = .returned v ∧ S r τ' ∧ WF w0 G'' w'' ∧ V G'' w'' v r ∧ Objs w0 G'' w'' (get τ') ∧ Step (rsv g (some d)) G w (get σ) G'' w'' (get τ')) (Ds.map (fun b => { target := .collected b, args := #[] })) .returning w' := by
    intro Ds
    induction Ds with
    | nil =>
     intro w' a2 hat _ _ hr2 hs2
     obtain ⟨v, G'', k1, k2, k3, k4, k5⟩ := he w0 hA G' w' { a2 with defers := [] } hr2 ⟨Nat.lt_of_lt_of_le hfr.1 hs2.top, fun j => hs2.fresh hfr.1 (hfr.2 j) fun h => h⟩
     have hst := (hs2.weaken (R' := rsv g (some d)) fun _ _ h => h.elim).trans k5
     have k1' : (results fn a'.tmps).run E.P w' = .ok v w' := by rw [← hat]; exact k1
     exact ⟨v, k1', v, { G'' with base := G.base }, r, τ', rfl, hpost, k2.rebase _, k3.rebase _, k4.rebase _, Step.rebase w.heap.size hst⟩
    | cons D0 Ds ih =>
     intro w' a2 hat hnd hD hr2 hs2
     obtain ⟨m1, m2, m3⟩ := hD D0 List.mem_cons_self
     obtain ⟨n1, n2⟩ := List.nodup_cons.1 hnd
     have hsh : Shut w' (w'.putObj D0 (.deferred none)) D0 := ⟨m3, rfl⟩
     have hbase : w.heap.size ≤ D0 := hb4 ▸ m2
     obtain ⟨q1, q2⟩ := shut_all hsh (Nat.le_trans hw.below.size hbase) m1 hr2.wf hr2.objs
     refine ⟨by simp, .inl ⟨D0, _, rfl, run_takeDeferred m3, ?_⟩⟩
     refine ih _ a2 hat n2 (fun b hb' => ?_) ⟨q1, fun t x ht => ⟨(hr2.env t x ht).1, (hr2.env t x ht).2.shut hsh⟩, q2, .nil (by have := hr2.defers.1; simpa [World.putObj] using this)⟩ (shut_step hsh hs2 hbase)
     obtain ⟨x1, x2, x3⟩ := hD b (List.mem_cons_of_mem _ hb')
     exact ⟨x1, x2, (hsh.heap fun e => n1 (e ▸ hb')).trans x3⟩
   rw [hds]
   exact go Ds w' a' rfl hnd hD ⟨h2.wf, h2.env, h2.objs, .nil hbs⟩ h3
  cases en with
  | normal => exact key h4
  | ret => exact key h4
  | _ => exact h4.elim
end
section
variable {E : Ctx} {N : Nat} {ops : List Oper} {g : Nat} {Q : St → Prop} {st : St} {o : Oper} {rest : List Oper} {ds : List (Option Tmp)}
theorem aops_ecall {f : FuncId} {args args' : List D} {d : Nat} {S : D → Sto → Prop} (hds : ops.map (·.dst) = ds) (hw : wantL ds st.env o.guard = some true) (hd : o.dst = some d) (hc : calleeD o (ev E st.env) = some (f, args)) (h : EC E f args' [] g d S) (hco : CoL args args')
  (k : ∀ r τ', S r τ' → (∀ p ∈ st.σ, get τ' p.1 = none) → AOps E N ops g Q rest { env := (d, r) :: st.env, σ := st.σ ++ τ' }) : AOps E N ops g Q (o :: rest) st := by
 intro w0 hA G w a hN hr hg hnd hfr Q' hQ rr
 simp only [wpListIn]
 rw [if_pos (wantD_sound hr (by rw [← wantL_eq hds]; exact hw))]
 have hf := (hfr o (by simp) d hd).2
 obtain ⟨vs, hrun, hvs⟩ := call_run (e := ev E st.env) hc (fun x _ => hr.ev hA x) h.call
 have hvs' := Vs.co hvs hco
 have hown : ∀ p ∈ st.σ, get ([] : Sto) p.1 = none := fun p _ => rfl
 have e0 : get (st.σ ++ []) = get st.σ := by rw [List.append_nil]
 have ho0 : Objs w0 G w (get (st.σ ++ [])) := by rw [e0]; exact hr.objs
 have hrun2 := h.run w0 hA G w vs hr.wf hvs' (hr.objs.sub fun n o hn => by cases hn) ⟨hg, hf⟩
 refine op_enter hrun (Calls.mono hrun2 ?_) rr
 rintro en w' ⟨v, G', r, τ', rfl, hp, hw', hv, ho', hs⟩
 obtain ⟨h1, h2, h3⟩ := tail_frame hr.wf ho0 hown hs ho'
 rw [e0] at h3
 have hr' := hr.put' (v := r) (dst := o.dst) (σ := st.σ ++ τ') (h3.weaken (R' := rsv g o.dst) fun n _ hn => by rw [hd]; exact hn) rfl hw' h2 hv (fun d hd => by rw [hN]; exact (hfr o List.mem_cons_self d hd).1)
 have e1 : st.env' o.dst r (st.σ ++ τ') = { env := (d, r) :: st.env, σ := st.σ ++ τ' } := by rw [hd]; rfl
 rw [e1] at hr'
 have hnd' : (rest.filterMap (·.dst)).Nodup ∧ d ∉ rest.filterMap (·.dst) := by
  simp only [List.filterMap_cons, hd, List.nodup_cons] at hnd
  exact ⟨hnd.2, hnd.1⟩
 refine k r τ' hp h1 w0 hA G' w' _ (by rw [put_size, hN]) hr' (Nat.lt_of_lt_of_le hg h3.top) hnd'.1 (fun o' ho' d' hd' => ⟨(hfr o' (by simp [ho']) d' hd').1, fun j => h3.fresh hg ((hfr o' (by simp [ho']) d' hd').2 j) fun ⟨_, he⟩ => ?_⟩) Q' (fun G2 st2 a2 w2 k1 k2 k3 k4 => hQ G2 st2 a2 w2 k1 k2 ?_ k4) rr
 ·cases he
  exact hnd'.2 (List.mem_filterMap.2 ⟨o', ho', hd'⟩)
 ·exact (h3.weaken fun n _ hn => hn.1).trans k3
end
end Go.Ab
namespace Go.Ab
open Go Go.RowKit
theorem acalls_mclone {E : Ctx} {f : FuncId} (hcall : ∀ xs w, (callFunc f xs).run E.P w = .ok (.enter f xs) w)
  (hC : ∀ b es clock w, w.heap[b]? = some (.map es clock) → Calls E.P f #[.map (some b)] w fun e w' => e = .returned (.map (some w.heap.size)) ∧ w' = w.alloc (.map es clock)) (ks : KS) (es : List (Value × D)) (g d : Nat) :
  ACalls E f [.fmap ks es] [] g d (.mref ⟨g, d, 1⟩) [(⟨g, d, 1⟩, .map ks es)] where
 call := hcall
 run w0 hA G w vs hw hvs ho hfr := by
  obtain ⟨l⟩ := vs
  obtain ⟨h1, h2⟩ := hvs
  have h1' : l.length = 1 := h1
  match l, h1' with
  | [x], _ =>
   have hx := h2 0 x (.fmap ks es) rfl rfl
   cases hx with
   | fmap ms clock hF hh hborn k1 k2 k3 k4 =>
    refine (hC _ ms clock w hh).mono ?_
    rintro e w' ⟨rfl, rfl⟩
    have hnew := heap_alloc_n w (.map ms clock)
    have hsz : (w.alloc (.map ms clock)).heap.size = w.heap.size + 1 := World.size_alloc _ _
    obtain ⟨q1, q2, q3⟩ := new_obj hw ho (hfr.2 1) hfr.1 (v := .map (some w.heap.size)) (ob := .map ks es) (gr_alloc w _) (fun b hb => by simp [blk] at hb; omega)
     ⟨w.heap.size, ms, clock, rfl, hnew, hborn, k1, k2, k3, fun i m e' hm he => (k4 i m e' hm he).upd (hfr.2 1) fun b hF => heap_alloc_o w _ b (hw.lt b hF)⟩
    have he : Kp.or (single ⟨g, d, 1⟩ (.map ks es)) (get []) = get [(⟨g, d, 1⟩, .map ks es)] := by rw [← get_single, ← get_append]; rfl
    rw [he] at q2 q3
    exact ⟨_, _, rfl, q1, .mref (by simp [Gh.upd]), q2, q3.weaken fun n _ hn => by subst hn; exact ⟨rfl, rfl⟩⟩
theorem acalls_same {E : Ctx} {f : FuncId} {l : List Value} {v : Value} {g d : Nat} (hcall : ∀ xs w, (callFunc f xs).run E.P w = .ok (.enter f xs) w)
  (h : ∀ w, Calls E.P f l.toArray w fun e w' => e = .returned v ∧ w' = w) : ACalls E f (l.map .val) [] g d (.val v) [] :=
 acalls_grown hcall fun _ _ w _ => (h w).mono fun _ _ ⟨h1, h2⟩ => ⟨h1, 0, #[], by rw [h2, Sort.grow_empty]; rfl⟩
end Go.Ab
