/- A part of the proof, under no conditions of its own: ZAS. -/
import Derived.Test.YtmmfjicebmeamaaGreatZAK
import Derived.Test.YtmmfjicebmeamaaGreatZAG
import Derived.Maps.RangeRun
import Derived.Test.YtmmfjicebmeamaaGreatZAR
import Derived.Test.YtmmfjicebmeamaaGreatZAH
import Derived.Test.YtmmfjicebmeamaaGreatZAI
import Derived.Test.YtmmfjicebmeamaaGreatZAL
namespace Go.Ab
open Go Go.RowKit Go.Proofs Go.Shelf

section
variable {E : Ctx} {g : Nat} {o : Oper} {e : Operand → D} {κ : Kp}

theorem top_clear {x : Operand} {t el : TypeId} (hop : o.op = .call { callee := .builtin .clear, args := #[x], argTypes := #[t] }) {n : Nm} {k off len : Nat} (hx : e x = .osl n k off len) {rows : List D} (hκ : κ n = some (.arr el k rows))
    (he : elemS E.P t = some el) {z : Value} (hz : zeroOf E.P el = some z) (hzs : z.cells.size = k) (hz1 : z.cells.toList.all Value.oneCell' = true) (hol : off + len ≤ rows.length) :
    TOp E g o e κ (.tup []) (κ.put n (.arr el k (rows.take off ++ List.replicate len (ofV z) ++ rows.drop (off + len)))) := by
  intro w0 hA G w a hw hV ho _ K Q' hK
  have hvx := hV x (by simp [hop, Op.operands, Call.operands])
  rw [hx] at hvx
  obtain ⟨v, hρ, ⟨xs, hown, hfl⟩, hnF⟩ := ho.ob n _ hκ
  have hput : κ.put n (.arr el k rows) = κ := by
    funext m
    simp only [Kp.put]
    split
    · rename_i h; subst h; exact hκ.symm
    · rfl
  generalize hva : a.eval x = va at hvx
  cases hvx with
  | osl hρ' hC hle ha =>
    rename_i b cap L C ad
    rw [hρ] at hρ'
    cases hρ'
    have hu := elemS_spec he
    have hzc : zeroOf E.P el = some z := hz
    by_cases h0 : len = 0
    · subst h0
      have hex : (execOp a.eval o).run E.P w = .ok (.value (.tuple #[])) w := by
        simp [execOp, hop, resolve, invoke, builtin, hva, Builtin.clear_, run_underlying hu, Result.andThen]
      refine op_val hex ?_
      have e1 : rows.take off ++ List.replicate 0 (ofV z) ++ rows.drop (off + 0) = rows := by simp
      rw [e1, hput] at hK
      exact hK G w _ hw (.tup rfl (fun i c d h => by simp at h)) ho (.refl _ _ _ _)
    · rcases hown.2 with ⟨hc, hz0⟩ | ⟨b', cap', cur, hc, hb0, hh, hnc, hcm, hcs, htake⟩
      · cases hc
      · cases hc
        have had := ha (by omega)
        subst had
        have hcap : (off + len) * k ≤ rows.length * k := Nat.mul_le_mul_right k hol
        have hcap2 : rows.length * k ≤ C * k := Nat.mul_le_mul_right k hnc
        let zs : List Value := (Builtin.zeroCells z.cells len).toList
        have hzl : zs.length = len * k := by simp [zs, Builtin.zeroCells, hzs]
        have hzg : ∀ i j, i < len → j < k → zs[i * k + j]? = z.cells[j]? := fun i j hi hj => by
          have hlt : i * k + j < len * k := by have := row_le (k := k) hi; omega
          have hmod : (i * k + j) % k = j := by rw [Nat.mul_comm, Nat.mul_add_mod]; exact Nat.mod_eq_of_lt hj
          have hj' : j < z.cells.size := by omega
          simp only [zs, Builtin.zeroCells, hzs, Array.getElem?_toList, Array.getElem?_map, Array.getElem?_range, hlt, ↓reduceIte, Option.map_some, hmod]
          rw [getElem!_pos z.cells j hj', Array.getElem?_eq_getElem hj']
        have hz1' : ∀ v ∈ zs, v.oneCell' = true := fun v hv => by
          obtain ⟨q, hq, rfl⟩ := List.mem_iff_getElem.1 hv
          have hk0 : 0 < k := Nat.pos_of_ne_zero fun h => by rw [hzl, h, Nat.mul_zero] at hq; omega
          have hq' : q < len * k := by rw [← hzl]; exact hq
          have h1 := hzg (q / k) (q % k) (Nat.div_lt_of_lt_mul (by rw [Nat.mul_comm]; exact hq')) (Nat.mod_lt _ hk0)
          rw [show q / k * k + q % k = q from Nat.div_add_mod' q k, List.getElem?_eq_getElem hq] at h1
          have hmem : zs[q] ∈ z.cells.toList := by
            rw [Array.mem_toList_iff]
            exact Array.mem_of_getElem? h1.symm
          exact List.all_eq_true.1 hz1 _ hmem
        have hszm : (off + len) * k = off * k + len * k := Nat.add_mul _ _ _
        have hrun0 := run_storeCells_at E.P b (off * k) el zs 0 cur w hh (by rw [hzl]; omega) hz1'
        simp only [Nat.add_zero] at hrun0
        generalize hnew : (cur.toList.take (off * k) ++ zs ++ cur.toList.drop (off * k + zs.length)) = nw at hrun0
        have hnl : nw.length = cur.size := by rw [← hnew]; simp; omega
        have hget : ∀ m : Nat, nw[m]? = if off * k ≤ m ∧ m < off * k + len * k then zs[m - off * k]? else cur[m]? := by
          intro m
          rw [← hnew]
          have hl1 : (cur.toList.take (off * k)).length = off * k := by simp; omega
          by_cases h1 : m < off * k
          · rw [List.append_assoc, List.getElem?_append_left (by omega), List.getElem?_take, if_pos h1, if_neg (by omega)]
            simp
          · by_cases h2 : m < off * k + len * k
            · rw [List.append_assoc, List.getElem?_append_right (by omega), List.getElem?_append_left (by omega), hl1, if_pos ⟨by omega, h2⟩]
            · have hl2 : (cur.toList.take (off * k) ++ zs).length = off * k + len * k := by rw [List.length_append]; omega
              rw [List.getElem?_append_right (by omega), hl2, List.getElem?_drop, if_neg (by omega), hzl]
              rw [show off * k + len * k + (m - (off * k + len * k)) = m by omega]
              simp
        have hex : (execOp a.eval o).run E.P w = .ok (.value (.tuple #[])) (w.setRow b nw.toArray) := by
          have h1 : (Builtin.clear_ #[t] o.type #[.slice (some ⟨b, off * k, none⟩) len cap]).run E.P w = .ok (.tuple #[]) (w.setRow b nw.toArray) := by
            have h2 : (storeCells ⟨b, off * k, none⟩ (Builtin.zeroCells z.cells len).toList).run E.P w = .ok () (w.setRow b nw.toArray) := hrun0
            obtain ⟨len', rfl⟩ : ∃ l, len = l + 1 := ⟨len - 1, by omega⟩
            simp [Builtin.clear_, run_underlying hu, Result.andThen, Sem.run_bind, run_zeroValue hz, h2]
          simp [execOp, hop, resolve, invoke, builtin, hva, h1, Result.andThen]
        refine op_val hex ?_
        have hgr : Gr w (w.setRow b nw.toArray) (blk (.slice (some ⟨b, 0, none⟩) rows.length C)) :=
          Gr.of ⟨rfl, rfl, rfl, by simp, fun k _ hk => setRow_other w b k _ fun he => hk (by simp [blk, he])⟩
        have hVm : ∀ y d', V G w y d' → V G (w.setRow b nw.toArray) y d' := fun y d' h => h.mono (fun _ h => h) (fun b' hF => setRow_other w b b' _ fun he => hnF b rfl (he ▸ hF)) (fun _ _ h => h)
        have hxs : ∀ (m : Nat) y, xs[m]? = some y → cur[m]? = some y := by
          intro m y hy
          rw [← htake, List.getElem?_take] at hy
          split at hy
          · simpa using hy
          · cases hy
        have hlen' : (rows.take off ++ List.replicate len (ofV z) ++ rows.drop (off + len)).length = rows.length := by simp; omega
        have hrow' : ∀ (i : Nat) r, (rows.take off ++ List.replicate len (ofV z) ++ rows.drop (off + len))[i]? = some r → (off ≤ i ∧ i < off + len ∧ r = ofV z) ∨ (¬ (off ≤ i ∧ i < off + len) ∧ rows[i]? = some r) := by
          intro i r hr
          have hl1 : (rows.take off).length = off := by simp; omega
          by_cases h1 : i < off
          · rw [List.append_assoc, List.getElem?_append_left (by omega), List.getElem?_take, if_pos h1] at hr
            exact .inr ⟨by omega, hr⟩
          · by_cases h2 : i < off + len
            · rw [List.append_assoc, List.getElem?_append_right (by omega), List.getElem?_append_left (by simp; omega), List.getElem?_replicate, if_pos (by omega)] at hr
              cases hr
              exact .inl ⟨by omega, h2, rfl⟩
            · have hl2 : (rows.take off ++ List.replicate len (ofV z)).length = off + len := by simp; omega
              rw [List.getElem?_append_right (by omega), hl2, List.getElem?_drop, show off + len + (i - (off + len)) = i by omega] at hr
              exact .inr ⟨by omega, hr⟩
        obtain ⟨g1, g2, g3⟩ := change_obj (ob' := .arr el k (rows.take off ++ List.replicate len (ofV z) ++ rows.drop (off + len))) hw ho hκ hρ hgr ⟨nw.take (rows.length * k), ⟨by rw [hlen', List.length_take]; omega, .inr ⟨b, C, nw.toArray, by rw [hlen'], hb0, setRow_heap w b cur _ el (0, 0) hh, by rw [hlen']; exact hnc, hcm, by simpa [hnl] using hcs, by rw [hlen']⟩⟩, fun i2 r2 hr2 => by
          rcases hrow' i2 r2 hr2 with ⟨i1, i3, rfl⟩ | ⟨i1, hr0⟩
          · rw [ofV_cells]
            refine ⟨by simp [hzs], fun j2 d2 hd2 => ?_⟩
            have hj2 : j2 < k := by
              have := (List.getElem?_eq_some_iff.1 hd2).1
              simpa [hzs] using this
            have hb1 : i2 * k + k ≤ rows.length * k := row_le (by omega)
            have hoff : off * k ≤ i2 * k := Nat.mul_le_mul_right k i1
            have hup : i2 * k + k ≤ (off + len) * k := row_le i3
            rw [List.getElem?_take, if_pos (by omega), hget, if_pos ⟨by omega, by omega⟩]
            have hi2 : i2 * k + j2 - off * k = (i2 - off) * k + j2 := by rw [Nat.sub_mul]; omega
            rw [hi2, hzg _ _ (by omega) hj2]
            have hj' : j2 < z.cells.size := by omega
            refine ⟨z.cells[j2], by simp [hj'], ?_⟩
            simp only [List.getElem?_map, Array.getElem?_toList, hj', Array.getElem?_eq_getElem, Option.map_some, Option.some.injEq] at hd2
            subst hd2
            exact .val _
          · obtain ⟨q1, q2⟩ := hfl i2 r2 hr0
            refine ⟨q1, fun j2 d2 hd2 => ?_⟩
            obtain ⟨y, hy, hyv⟩ := q2 j2 d2 hd2
            have hj2 : j2 < k := by
              have := (List.getElem?_eq_some_iff.1 hd2).1
              omega
            have hi2' := (List.getElem?_eq_some_iff.1 hr0).1
            have := row_le (k := k) hi2'
            refine ⟨y, ?_, hVm _ _ hyv⟩
            rw [List.getElem?_take, if_pos (by omega), hget, if_neg ?_]
            · exact hxs _ _ hy
            · rintro ⟨k1, k2⟩
              refine i1 ⟨?_, ?_⟩
              · rcases Nat.lt_or_ge i2 off with h | h
                · have := row_le (k := k) h; omega
                · exact h
              · rcases Nat.lt_or_ge i2 (off + len) with h | h
                · exact h
                · have := Nat.mul_le_mul_right k h; omega⟩
        exact hK G _ _ g1 (.tup rfl (fun i c d h => by simp at h)) g2 (g3.weaken fun _ _ h => h.elim)


/-- What the next step over a map hands out: nothing where all have come, or one that has not come. -/
def NextOut (es : List (Value × D)) (pre : List Nat) (v : D) (pre' : List Nat) : Prop :=
  (v = .tup [.val (.bool false)] ∧ pre' = pre ∧ ∀ i, i < es.length → i ∈ pre) ∨ ∃ i e, es[i]? = some e ∧ i ∉ pre ∧ v = .tup [.val (.bool true), ofV e.1, e.2] ∧ pre' = pre ++ [i]

end

section
variable {E : Ctx} {N : Nat} {st : St} {ops : List Oper} {ds : List (Option Tmp)} {g : Nat} {K : St → Prop} {o : Oper} {r : List Oper}

theorem aops_clear {t el : TypeId} {x : Operand} (hds : ops.map (·.dst) = ds) (hw : wantL ds st.env o.guard = some true) (hd : o.dst = none) (hop : o.op = .call { callee := .builtin .clear, args := #[x], argTypes := #[t] })
    {n : Nm} {k off len : Nat} (hx : ev E st.env x = .osl n k off len) (he : elemS E.P t = some el) {z : Value} (hz : zeroOf E.P el = some z) (hzs : z.cells.size = k) (hz1 : z.cells.toList.all Value.oneCell' = true)
    (h : SomeP (get st.σ n) fun ob => SomeP (arrOf el k ob) fun rows => off + len ≤ rows.length ∧ AOps E N ops g K r { env := st.env, σ := set st.σ n (.arr el k (rows.take off ++ List.replicate len (ofV z) ++ rows.drop (off + len))) }) : AOps E N ops g K (o :: r) st := by
  obtain ⟨ob, h1, h⟩ := h.elim
  obtain ⟨rows, h2, h3, h4⟩ := h.elim
  cases ob with
  | arr t' k' rows' =>
    simp only [arrOf] at h2
    split at h2
    · rename_i hc
      obtain ⟨rfl, rfl⟩ := hc
      cases h2
      refine aops_t (v := .tup []) (σ := set st.σ n (.arr t' k' (rows.take off ++ List.replicate len (ofV z) ++ rows.drop (off + len)))) (by rw [← wantL_eq hds]; exact hw) ?_ (by rw [hd]; exact h4)
      rw [get_set' _ _ _ (by rw [h1]; simp)]
      exact top_clear hop hx h1 he hz hzs hz1 h3
    · cases h2
  | _ => cases h2

end
end Go.Ab

namespace Go.Ab
open Go Go.RowKit

end Go.Ab

namespace Go.Ab
open Go Go.RowKit Go.Proofs

/-- The cells are just these values. -/
def okV {β : Type} (encB : β → D) (vs : List Value) (b : β) : Prop := (encB b).cells = vs.map .val

theorem V.of_okV {β : Type} {encB : β → D} {cs : β → List D} (hag : ∀ b, encB b = .agg (cs b)) {G : Gh} {w : World} {vs : List Value} {b : β} (h : okV encB vs b) : V G w (.agg vs.toArray) (encB b) := by
  unfold okV at h
  rw [hag] at h ⊢
  have h' : cs b = vs.map .val := h
  rw [h']
  refine .agg (by simp) fun i c d hc hd => ?_
  simp only [List.getElem?_map, List.getElem?_toArray] at hc hd
  rw [hc] at hd
  cases hd
  exact .val _

theorem grow_of {w w' : World} (h : Bel w.heap.size w w') : ∃ q os', w' = Sort.grow (w.drewN q) os' := by
  refine ⟨w'.drawn - w.drawn, w'.heap.extract w.heap.size w'.heap.size, ?_⟩
  have hd := h.drawn
  have e1 : w.drawn + (w'.drawn - w.drawn) = w'.drawn := by omega
  have e2 : w.heap ++ w'.heap.extract w.heap.size w'.heap.size = w'.heap := by
    apply Array.ext
    · rw [Array.size_append, Array.size_extract]
      have := h.size
      omega
    · intro i h1 h2
      by_cases hi : i < w.heap.size
      · rw [Array.getElem_append_left hi]
        have := h.block i hi
        rw [Array.getElem?_eq_getElem hi, Array.getElem?_eq_getElem h2] at this
        exact (Option.some.inj this).symm
      · rw [Array.getElem_append_right (by omega), Array.getElem_extract]
        congr 1
        omega
  have h1 := h.os
  have h2 := h.tape
  have h3 := h.output
  cases w' with
  | mk heap tape drawn os output =>
    simp only at h1 h2 h3 e1 e2
    subst h1 h2 h3
    show _ = World.mk _ _ _ _ _
    simp only [World.drewN, e1]
    congr 1
    exact e2.symm

theorem cmpAt_of {E : Ctx} {β : Type} {k : Nat} {encB : β → D} {cs : β → List D} (hag : ∀ b, encB b = .agg (cs b)) {cmp : FuncId} {cf : β → β → Int} (hA : ∀ w, E.A w) (h : ∀ x y g d, ACalls E cmp [encB x, encB y] [] g d (.val (.int .i64 (cf x y))) []) : CmpAt E.P cmp β k (okV encB) cf := by
  intro x y w
  have hw := wf0 w
  have ho := objs0 w
  have hvs : Vs (G0 w) w #[.agg x.vs.toArray, .agg y.vs.toArray] [encB x.tag, encB y.tag] := by
    refine ⟨rfl, fun i c d hc hd => ?_⟩
    match i, hc, hd with
    | 0, hc, hd => cases hc; cases hd; exact V.of_okV hag x.fit
    | 1, hc, hd => cases hc; cases hd; exact V.of_okV hag y.fit
    | i + 2, hc, hd => simp at hd
  refine ((h x.tag y.tag 0 0).run w (hA w) _ w _ hw hvs ho ⟨Nat.lt_succ_self 0, fun _ => rfl⟩).mono ?_
  rintro e w' ⟨v, G', rfl, q1, q2, _, _⟩
  exact ⟨by rw [V.of_val q2], grow_of q1.below⟩
end Go.Ab

namespace Go.Proofs.T
open Go Go.Ab Go.RowKit

/-! ## Orders -/

theorem cmpL_anti : ∀ x y : List UInt8, cmpL x y = - cmpL y x
  | [], [] => by simp [cmpL]
  | [], _ :: _ => by simp [cmpL]
  | _ :: _, [] => by simp [cmpL]
  | a :: x, b :: y => by
    simp only [cmpL]
    by_cases h1 : a < b
    · have : ¬ b < a := fun h => absurd (UInt8.lt_trans h1 h) (UInt8.lt_irrefl _)
      simp [h1, this]
    · by_cases h2 : b < a
      · simp [h1, h2]
      · simp [h1, h2, cmpL_anti x y]
theorem cmpL_trans : ∀ x y z : List UInt8, cmpL x y < 0 → cmpL y z < 0 → cmpL x z < 0
  | [], [], _, h, _ => by simp [cmpL] at h
  | [], _ :: _, [], _, h => by simp [cmpL] at h
  | [], _ :: _, _ :: _, _, _ => by simp [cmpL]
  | _ :: _, [], _, h, _ => by simp [cmpL] at h
  | _ :: _, _ :: _, [], _, h => by simp [cmpL] at h
  | a :: x, b :: y, c :: z, h1, h2 => by
    simp only [cmpL] at h1 h2 ⊢
    by_cases hab : a < b
    · by_cases hbc : b < c
      · have := UInt8.lt_trans hab hbc
        simp [this]
      · by_cases hcb : c < b
        · simp [hbc, hcb] at h2
        · have hbc' : b = c := UInt8.le_antisymm (UInt8.not_lt.1 hcb) (UInt8.not_lt.1 hbc)
          subst hbc'
          simp [hab]
    · by_cases hba : b < a
      · simp [hab, hba] at h1
      · have hab' : a = b := UInt8.le_antisymm (UInt8.not_lt.1 hba) (UInt8.not_lt.1 hab)
        subst hab'
        by_cases hbc : a < c
        · simp [hbc]
        · by_cases hcb : c < a
          · simp [hbc, hcb] at h2
          · simp only [hbc, hcb, UInt8.lt_irrefl, if_false] at h1 h2 ⊢
            exact cmpL_trans x y z h1 h2
theorem cmpS_anti (a b : Str) : cmpS a b = - cmpS b a := cmpL_anti _ _
theorem cmpS_trans {a b c : Str} (h1 : cmpS a b < 0) (h2 : cmpS b c < 0) : cmpS a c < 0 := cmpL_trans _ _ _ h1 h2

theorem subT_of {l σ : Sto} (h : leS l σ) : ∀ n o, Ab.get l n = some o → Ab.get σ n = some o := fun n o hn => leS_spec h (n, o) (mem_of_get hn)
/-- A comparing function as it should be. -/
structure Good {β : Type} (cf : β → β → Int) : Prop where
  anti : ∀ x y, cf x y < 0 ↔ 0 < cf y x
  trans : ∀ x y z, cf x y ≤ 0 → cf y z ≤ 0 → cf x z ≤ 0
theorem Good.zero {β : Type} {cf : β → β → Int} (h : Good cf) (x : β) : cf x x = 0 := by
  have := h.anti x x
  omega
theorem Good.swo {β : Type} {cf : β → β → Int} (h : Good cf) : Sort.SWO (Go.Proofs.ltOf cf) where
  irrefl x := by
    have := h.zero x
    simp [Go.Proofs.ltOf, this]
  trans x y z h1 h2 := by
    simp only [Go.Proofs.ltOf, decide_eq_true_eq] at *
    have h3 := h.trans x y z (by omega) (by omega)
    rcases Int.lt_or_eq_of_le h3 with h4 | h4
    · exact h4
    · have h5 := h.anti z x
      have h6 := h.anti x z
      have h7 := h.trans z x y (by omega) (by omega)
      have h8 := h.anti y z
      omega
  ntrans x y z h1 h2 := by
    simp only [Go.Proofs.ltOf, decide_eq_false_iff_not] at *
    have e1 := h.anti x y
    have e2 := h.anti y x
    have e3 := h.anti y z
    have e4 := h.anti z y
    have h3 := h.trans z y x (by omega) (by omega)
    have e5 := h.anti x z
    omega
theorem Good.lex {β : Type} {c1 c2 : β → β → Int} (h1 : Good c1) (h2 : Good c2) : Good fun x y => if c1 x y = 0 then c2 x y else c1 x y where
  anti x y := by
    have a1 := h1.anti x y
    have a2 := h1.anti y x
    have a3 := h2.anti x y
    by_cases e : c1 x y = 0
    · have e' : c1 y x = 0 := by omega
      simp only [e, e', if_true]
      exact a3
    · have e' : c1 y x ≠ 0 := by omega
      simp only [e, e', if_false]
      exact a1
  trans x y z k1 k2 := by
    have a1 := h1.anti x y
    have a2 := h1.anti y x
    have a3 := h1.anti y z
    have a4 := h1.anti z y
    have a5 := h1.anti x z
    have a6 := h1.anti z x
    have l1 : c1 x y ≤ 0 := by split at k1 <;> omega
    have l2 : c1 y z ≤ 0 := by split at k2 <;> omega
    have t1 := h1.trans x y z l1 l2
    by_cases e : c1 x z = 0
    · rw [if_pos e]
      have t2 := h1.trans y z x l2 (by omega)
      have t3 := h1.trans z x y (by omega) l1
      rw [if_pos (by omega)] at k1
      rw [if_pos (by omega)] at k2
      exact h2.trans x y z k1 k2
    · rw [if_neg e]
      exact t1
theorem Good.pull {α β : Type} {cf : β → β → Int} (h : Good cf) (f : α → β) : Good fun x y => cf (f x) (f y) := ⟨fun _ _ => h.anti _ _, fun _ _ _ => h.trans _ _ _⟩

def cmpI (a b : Int) : Int := if a < b then -1 else if b < a then 1 else 0
theorem cmpI_zero {a b : Int} : cmpI a b = 0 ↔ a = b := by
  unfold cmpI
  split
  · constructor <;> omega
  · split <;> constructor <;> omega
theorem goodI : Good cmpI := by
  refine ⟨fun x y => ?_, fun x y z => ?_⟩
  · unfold cmpI
    split <;> split <;> (try split) <;> (try split) <;> constructor <;> omega
  · have key : ∀ a b : Int, cmpI a b ≤ 0 ↔ a ≤ b := fun a b => by
      unfold cmpI
      split
      · constructor <;> omega
      · split <;> constructor <;> omega
    rw [key, key, key]
    omega
theorem goodS : Good cmpS := by
  refine ⟨fun x y => ?_, fun x y z h1 h2 => ?_⟩
  · have := cmpS_anti x y
    constructor <;> omega
  · rcases Int.lt_or_eq_of_le h1 with k1 | k1
    · rcases Int.lt_or_eq_of_le h2 with k2 | k2
      · have := cmpS_trans k1 k2
        omega
      · rw [cmpS_zero.1 k2] at k1
        omega
    · rw [cmpS_zero.1 k1]
      exact h2
def ordB (b : Bool) : Int := if b then 1 else 0
theorem ordB_inj {a b : Bool} (h : ordB a = ordB b) : a = b := by cases a <;> cases b <;> simp [ordB] at h <;> rfl

/-! ## Nodes -/

structure Nd where
  method : Bool
  name : Str
  idx : Int
instance : Inhabited Nd := ⟨⟨false, ⟨#[]⟩, 0⟩⟩
theorem Nd.eq_iff {a b : Nd} : a = b ↔ a.method = b.method ∧ a.name = b.name ∧ a.idx = b.idx := by
  cases a
  cases b
  simp
def ndC (n : Nd) : List D := [dB n.method, encS n.name, dI n.idx]
def encNd (n : Nd) : D := .agg (ndC n)
theorem encNd_cells (n : Nd) : (encNd n).cells = ndC n := rfl
def slNd (l : List Nd) : D := .sl false (l.map encNd)
attribute [go_sem] encNd_cells encNd ndC slNd
theorem lenRowsNd (l : List Nd) : lenRows 3 (l.map encNd) := fun r hr => by
  obtain ⟨n, _, rfl⟩ := List.mem_map.1 hr
  rfl

def or3 (a b c : Int) : Int := if a = 0 then (if b = 0 then c else b) else a
def cfNd (x y : Nd) : Int := or3 (cmpI (ordB x.method) (ordB y.method)) (cmpS x.name y.name) (cmpI x.idx y.idx)
theorem goodNd : Good cfNd :=
  (goodI.pull fun x : Nd => ordB x.method).lex ((goodS.pull fun x : Nd => x.name).lex (goodI.pull fun x : Nd => x.idx))
theorem cfNd_zero {x y : Nd} : cfNd x y = 0 ↔ x = y := by
  constructor
  · intro h
    unfold cfNd or3 at h
    split at h
    · rename_i h1
      split at h
      · rename_i h2
        exact Nd.eq_iff.2 ⟨ordB_inj (cmpI_zero.1 h1), cmpS_zero.1 h2, cmpI_zero.1 h⟩
      · contradiction
    · contradiction
  · rintro rfl
    exact goodNd.zero _
def ltNd : Nd → Nd → Bool := Go.Proofs.ltOf cfNd
theorem nd_uniq {l l2 : List Nd} (hp : l2.Perm l) (ho : l2.Pairwise fun a b => Go.Proofs.ltOf cfNd b a = false) : l2 = srt ltNd l := by
  refine srt_uniq goodNd.swo (fun a _ b _ h1 h2 => ?_) hp ho
  simp only [Go.Proofs.ltOf, decide_eq_false_iff_not] at h1 h2
  have k1 := goodNd.anti a b
  have k2 := goodNd.anti b a
  exact cfNd_zero.1 (by omega)
end Go.Proofs.T


namespace Go.Proofs.T
open Go Go.Ab Go.RowKit

/-! ## Nodes compared -/

theorem order_calls (b : Bool) (g d : Nat) : ACalls E 123 [dB b] [] g d (dI (ordB b)) [] := by
  refine acalls_of_awp (fn := Tryz.f123) (N := 4) Tryz.call123 Tryz.func123 rfl rfl (by simp) ?_
  simp only [go_sem]
  refine awp_seq_k (fun K1 hK1 => ?_)
  refine awp_plain 1 (by kernel_rfl) rfl (fun g0 hg0 => ?_)
  simp only [go_sem]
  refine hK1 _ ?_
  refine awp_seq_k (fun K2 hK2 => ?_)
  refine awp_seq_k (fun K3 hK3 => ?_)
  refine awp_plain 1 (by kernel_rfl) rfl (fun g1 hg1 => ?_)
  simp only [go_sem]
  refine hK3 _ ?_
  cases b with
  | true =>
    refine awp_t rfl ?_
    refine awp_seq_k (fun K4 hK4 => ?_)
    refine awp_plain 1 (by kernel_rfl) rfl (fun g2 hg2 => ?_)
    simp only [go_sem]
    refine hK4 _ ?_
    refine awp_ret ?_
    refine ends_ev rfl ?_
    simp only [go_sem]
    exact Co.refl _
  | false =>
    refine awp_f rfl ?_
    refine awp_skip ?_
    refine hK2 _ ?_
    refine awp_seq_k (fun K5 hK5 => ?_)
    refine awp_plain 1 (by kernel_rfl) rfl (fun g3 hg3 => ?_)
    simp only [go_sem]
    refine hK5 _ ?_
    refine awp_ret ?_
    refine ends_ev rfl ?_
    simp only [go_sem]
    exact Co.refl _
theorem isNaNI_calls (a : Int) (g d : Nat) : ACalls E 155 [dI a] [] g d (dB false) [] := by
  refine acalls_of_awp (fn := Tryz.f155) (N := 6) Tryz.call155 Tryz.func155 rfl rfl (by simp) ?_
  simp only [go_sem]
  refine awp_seq_k (fun K1 hK1 => ?_)
  refine awp_plain 1 (by kernel_rfl) rfl (fun g0 hg0 => ?_)
  simp only [go_sem]
  refine hK1 _ ?_
  refine awp_seq_k (fun K2 hK2 => ?_)
  refine awp_plain 4 (by kernel_rfl) rfl (fun g1 hg1 => ?_)
  simp only [go_sem, decide_true, Bool.not_true]
  refine hK2 _ ?_
  refine awp_ret ?_
  refine ends_ev rfl ?_
  simp only [go_sem]
  exact Co.refl _
theorem cmpInt_calls (a b : Int) (g d : Nat) : ACalls E 122 [dI a, dI b] [] g d (dI (cmpI a b)) [] := by
  refine acalls_of_awp (fn := Tryz.f122) (N := 20) Tryz.call122 Tryz.func122 rfl rfl (by simp) ?_
  simp only [go_sem]
  refine awp_seq_k (fun K1 hK1 => ?_)
  refine awp_plain 1 (by kernel_rfl) rfl (fun g0 hg0 => ?_)
  simp only [go_sem]
  refine hK1 _ ?_
  refine awp_seq_k (fun K2 hK2 => ?_)
  refine awp_ops (by kernel_rfl) rfl (fun g1 hg1 ops1 KR1 hops1 hKR1 => ?_)
  refine aops_eval 1 hops1 ?_
  simp only [go_sem]
  refine aops_pure hops1 rfl rfl rfl (isNaNI_calls _ _ _) (CoL.refl _) ?_
  refine aops_last 1 hops1 ?_
  simp only [go_sem]
  refine hKR1 _ ?_
  refine hK2 _ ?_
  refine awp_seq_k (fun K3 hK3 => ?_)
  refine awp_ops (by kernel_rfl) rfl (fun g2 hg2 ops2 KR2 hops2 hKR2 => ?_)
  refine aops_eval 1 hops2 ?_
  simp only [go_sem]
  refine aops_pure hops2 rfl rfl rfl (isNaNI_calls _ _ _) (CoL.refl _) ?_
  refine aops_last 1 hops2 ?_
  simp only [go_sem]
  refine hKR2 _ ?_
  refine hK3 _ ?_
  refine awp_seq_k (fun K4 hK4 => ?_)
  refine awp_seq_k (fun K5 hK5 => ?_)
  refine awp_plain 1 (by kernel_rfl) rfl (fun g3 hg3 => ?_)
  simp only [go_sem]
  refine hK5 _ ?_
  refine awp_f rfl ?_
  refine awp_skip ?_
  refine hK4 _ ?_
  refine awp_seq_k (fun K6 hK6 => ?_)
  refine awp_seq_k (fun K7 hK7 => ?_)
  refine awp_plain 1 (by kernel_rfl) rfl (fun g7 hg7 => ?_)
  simp only [go_sem]
  refine hK7 _ ?_
  refine awp_f rfl ?_
  refine awp_skip ?_
  refine hK6 _ ?_
  refine awp_seq_k (fun K8 hK8 => ?_)
  refine awp_seq_k (fun K9 hK9 => ?_)
  by_cases h : a < b
  · refine awp_plain 3 (by kernel_rfl) rfl (fun g9 hg9 => ?_)
    simp only [go_sem, h, decide_true]
    refine hK9 _ ?_
    refine awp_t rfl ?_
    refine awp_seq_k (fun K10 hK10 => ?_)
    refine awp_plain 1 (by kernel_rfl) rfl (fun g10 hg10 => ?_)
    simp only [go_sem]
    refine hK10 _ ?_
    refine awp_ret ?_
    refine ends_ev rfl ?_
    simp only [go_sem]
    exact Co.of_eq (by simp [cmpI, h])
  · refine awp_plain 3 (by kernel_rfl) rfl (fun g9 hg9 => ?_)
    simp only [go_sem, h, decide_false]
    refine hK9 _ ?_
    refine awp_f rfl ?_
    refine awp_skip ?_
    refine hK8 _ ?_
    refine awp_seq_k (fun K11 hK11 => ?_)
    refine awp_seq_k (fun K12 hK12 => ?_)
    by_cases h2 : b < a
    · refine awp_plain 3 (by kernel_rfl) rfl (fun g11 hg11 => ?_)
      simp only [go_sem, h2, decide_true]
      refine hK12 _ ?_
      refine awp_t rfl ?_
      refine awp_seq_k (fun K13 hK13 => ?_)
      refine awp_plain 1 (by kernel_rfl) rfl (fun g12 hg12 => ?_)
      simp only [go_sem]
      refine hK13 _ ?_
      refine awp_ret ?_
      refine ends_ev rfl ?_
      simp only [go_sem]
      exact Co.of_eq (by simp [cmpI, h, h2])
    · refine awp_plain 3 (by kernel_rfl) rfl (fun g11 hg11 => ?_)
      simp only [go_sem, h2, decide_false]
      refine hK12 _ ?_
      refine awp_f rfl ?_
      refine awp_skip ?_
      refine hK11 _ ?_
      refine awp_seq_k (fun K14 hK14 => ?_)
      refine awp_plain 1 (by kernel_rfl) rfl (fun g13 hg13 => ?_)
      simp only [go_sem]
      refine hK14 _ ?_
      refine awp_ret ?_
      refine ends_ev rfl ?_
      simp only [go_sem]
      exact Co.of_eq (by simp [cmpI, h, h2])
theorem or3_calls (x : Bool) (a b c : Int) (g d : Nat) : ACalls E 121 [.sl x [dI a, dI b, dI c]] [] g d (dI (or3 a b c)) [] := by
  refine acalls_of_awp (fn := Tryz.f121) (N := 18) Tryz.call121 Tryz.func121 rfl rfl (by simp) ?_
  simp only [go_sem]
  refine awp_seq_k (fun K1 hK1 => ?_)
  refine awp_plain 1 (by kernel_rfl) rfl (fun g0 hg0 => ?_)
  simp only [go_sem]
  refine hK1 _ ?_
  refine awp_seq_k (fun K2 hK2 => ?_)
  refine awp_plain 1 (by kernel_rfl) rfl (fun g1 hg1 => ?_)
  simp only [go_sem]
  refine hK2 _ ?_
  refine awp_seq_k (fun K3 hK3 => ?_)
  refine awp_seq_k (fun K4 hK4 => ?_)
  refine awp_plain 3 (by kernel_rfl) rfl (fun g2 hg2 => ?_)
  simp only [go_sem]
  refine hK4 _ ?_
  refine awp_block ?_
  refine awp_loop (fun m s => ∃ k, k ≤ 3 ∧ m = 3 - k ∧ (0 < k → a = 0) ∧ (1 < k → b = 0) ∧ (2 < k → c = 0) ∧
      Le { env := [(6, .sl x [dI a, dI b, dI c]), (7, dI 3), (8, dN k), (3, dI 0)], σ := [] } s) 3 ?_ ?_
  · refine ⟨0, by omega, rfl, by omega, by omega, by omega, le_of ?_⟩
    simp only [go_sem]
    trivial
  · rintro m s ⟨k, hk, rfl, h1, h2, h3, hle⟩
    refine awp_keep hle ?_
    clear hle
    match k, hk, h1, h2, h3 with
    | 0, hk, h1, h2, h3 =>
      refine awp_seq_k (fun K5 hK5 => ?_)
      refine awp_plain 1 (by kernel_rfl) rfl (fun g3 hg3 => ?_)
      simp only [go_sem]
      refine hK5 _ ?_
      refine awp_seq_k (fun K6 hK6 => ?_)
      refine awp_t rfl ?_
      refine awp_skip ?_
      refine hK6 _ ?_
      refine awp_seq_k (fun K7 hK7 => ?_)
      refine awp_block ?_
      refine awp_seq_k (fun K8 hK8 => ?_)
      refine awp_plain 3 (by kernel_rfl) rfl (fun g4 hg4 => ?_)
      simp only [go_sem]
      refine hK8 _ ?_
      refine awp_seq_k (fun K9 hK9 => ?_)
      by_cases ha : a = 0
      · subst ha
        refine awp_plain 3 (by kernel_rfl) rfl (fun g5 hg5 => ?_)
        simp only [go_sem, decide_true]
        refine hK9 _ ?_
        refine awp_f rfl ?_
        refine awp_skip ?_
        refine hK7 _ ?_
        refine awp_plain 2 (by kernel_rfl) rfl (fun g7 hg7 => ?_)
        simp only [go_sem]
        try simp (disch := omega) only [wrapN]
        refine ⟨_, ?_, 1, by omega, rfl, by simp, by omega, by omega, le_of ?_⟩
        · omega
        simp only [go_sem]
        omega
      · refine awp_plain 3 (by kernel_rfl) rfl (fun g5 hg5 => ?_)
        simp only [go_sem, ha]
        refine hK9 _ ?_
        refine awp_t rfl ?_
        refine awp_seq_k (fun K10 hK10 => ?_)
        refine awp_plain 2 (by kernel_rfl) rfl (fun g6 hg6 => ?_)
        simp only [go_sem]
        refine hK10 _ ?_
        refine awp_ret ?_
        refine ends_ev rfl ?_
        simp only [go_sem]
        exact Co.of_eq (by simp [or3, ha])
    | 1, hk, h1, h2, h3 =>
      have ha := h1 (by omega)
      subst ha
      refine awp_seq_k (fun K11 hK11 => ?_)
      refine awp_plain 1 (by kernel_rfl) rfl (fun g3 hg3 => ?_)
      simp only [go_sem]
      refine hK11 _ ?_
      refine awp_seq_k (fun K12 hK12 => ?_)
      refine awp_t rfl ?_
      refine awp_skip ?_
      refine hK12 _ ?_
      refine awp_seq_k (fun K13 hK13 => ?_)
      refine awp_block ?_
      refine awp_seq_k (fun K14 hK14 => ?_)
      refine awp_plain 3 (by kernel_rfl) rfl (fun g4 hg4 => ?_)
      simp only [go_sem]
      refine hK14 _ ?_
      refine awp_seq_k (fun K15 hK15 => ?_)
      by_cases hb : b = 0
      · subst hb
        refine awp_plain 3 (by kernel_rfl) rfl (fun g5 hg5 => ?_)
        simp only [go_sem, decide_true]
        refine hK15 _ ?_
        refine awp_f rfl ?_
        refine awp_skip ?_
        refine hK13 _ ?_
        refine awp_plain 2 (by kernel_rfl) rfl (fun g7 hg7 => ?_)
        simp only [go_sem]
        try simp (disch := omega) only [wrapN]
        refine ⟨_, ?_, 2, by omega, rfl, by simp, by simp, by omega, le_of ?_⟩
        · omega
        simp only [go_sem]
        omega
      · refine awp_plain 3 (by kernel_rfl) rfl (fun g5 hg5 => ?_)
        simp only [go_sem, hb]
        refine hK15 _ ?_
        refine awp_t rfl ?_
        refine awp_seq_k (fun K16 hK16 => ?_)
        refine awp_plain 2 (by kernel_rfl) rfl (fun g6 hg6 => ?_)
        simp only [go_sem]
        refine hK16 _ ?_
        refine awp_ret ?_
        refine ends_ev rfl ?_
        simp only [go_sem]
        exact Co.of_eq (by simp [or3, hb])
    | 2, hk, h1, h2, h3 =>
      have ha := h1 (by omega)
      have hb := h2 (by omega)
      subst ha hb
      refine awp_seq_k (fun K17 hK17 => ?_)
      refine awp_plain 1 (by kernel_rfl) rfl (fun g3 hg3 => ?_)
      simp only [go_sem]
      refine hK17 _ ?_
      refine awp_seq_k (fun K18 hK18 => ?_)
      refine awp_t rfl ?_
      refine awp_skip ?_
      refine hK18 _ ?_
      refine awp_seq_k (fun K19 hK19 => ?_)
      refine awp_block ?_
      refine awp_seq_k (fun K20 hK20 => ?_)
      refine awp_plain 3 (by kernel_rfl) rfl (fun g4 hg4 => ?_)
      simp only [go_sem]
      refine hK20 _ ?_
      refine awp_seq_k (fun K21 hK21 => ?_)
      by_cases hc : c = 0
      · subst hc
        refine awp_plain 3 (by kernel_rfl) rfl (fun g5 hg5 => ?_)
        simp only [go_sem, decide_true]
        refine hK21 _ ?_
        refine awp_f rfl ?_
        refine awp_skip ?_
        refine hK19 _ ?_
        refine awp_plain 2 (by kernel_rfl) rfl (fun g7 hg7 => ?_)
        simp only [go_sem]
        try simp (disch := omega) only [wrapN]
        refine ⟨_, ?_, 3, by omega, rfl, by simp, by simp, by simp, le_of ?_⟩
        · omega
        simp only [go_sem]
        omega
      · refine awp_plain 3 (by kernel_rfl) rfl (fun g5 hg5 => ?_)
        simp only [go_sem, hc]
        refine hK21 _ ?_
        refine awp_t rfl ?_
        refine awp_seq_k (fun K22 hK22 => ?_)
        refine awp_plain 2 (by kernel_rfl) rfl (fun g6 hg6 => ?_)
        simp only [go_sem]
        refine hK22 _ ?_
        refine awp_ret ?_
        refine ends_ev rfl ?_
        simp only [go_sem]
        exact Co.of_eq (by simp [or3])
    | 3, hk, h1, h2, h3 =>
      have ha := h1 (by omega)
      have hb := h2 (by omega)
      have hc := h3 (by omega)
      subst ha hb hc
      refine awp_seq_k (fun K23 hK23 => ?_)
      refine awp_plain 1 (by kernel_rfl) rfl (fun g3 hg3 => ?_)
      simp only [go_sem]
      refine hK23 _ ?_
      refine awp_seq_k (fun K24 hK24 => ?_)
      refine awp_f rfl ?_
      refine awp_exit ?_
      refine hK3 _ ?_
      refine awp_seq_k (fun K25 hK25 => ?_)
      refine awp_plain 2 (by kernel_rfl) rfl (fun g8 hg8 => ?_)
      simp only [go_sem]
      refine hK25 _ ?_
      refine awp_ret ?_
      refine ends_ev rfl ?_
      simp only [go_sem]
      exact Co.of_eq (by simp [or3])
theorem ndCompare_calls (x y : Nd) (g d : Nat) : ACalls E 84 [encNd x, encNd y] [] g d (dI (cfNd x y)) [] := by
  refine acalls_of_awp (fn := Tryz.f84) (N := 24) Tryz.call84 Tryz.func84 rfl rfl (by simp) ?_
  simp only [go_sem]
  refine awp_seq_k (fun K1 hK1 => ?_)
  refine awp_plain 3 (by kernel_rfl) rfl (fun g0 hg0 => ?_)
  simp only [go_sem]
  refine hK1 _ ?_
  refine awp_seq_k (fun K2 hK2 => ?_)
  refine awp_any 19 (by kernel_rfl) (by kernel_rfl) rfl (fun g1 hg1 ops1 KR1 hops1 hKR1 => ?_)
  refine qrun_eval 2 hops1 ?_
  simp only [go_sem]
  refine qrun_pure hops1 rfl rfl rfl (order_calls _ _ _) (CoL.refl _) rfl ?_
  refine qrun_eval 2 hops1 ?_
  simp only [go_sem]
  refine qrun_pure hops1 rfl rfl rfl (order_calls _ _ _) (CoL.refl _) rfl ?_
  refine qrun_pure hops1 rfl rfl rfl (cmpInt_calls _ _ _ _) (CoL.refl _) rfl ?_
  refine qrun_eval 4 hops1 ?_
  simp only [go_sem]
  refine qrun_pure hops1 rfl rfl rfl (nameCompare_calls _ _ _ _) (CoL.refl _) rfl ?_
  refine qrun_eval 4 hops1 ?_
  simp only [go_sem]
  refine qrun_pure hops1 rfl rfl rfl (cmpInt_calls _ _ _ _) (CoL.refl _) rfl ?_
  refine qrun_eval 1 hops1 ?_
  simp only [go_sem]
  refine qrun_pure hops1 rfl rfl rfl (or3_calls _ _ _ _ _ _) (CoL.refl _) rfl ?_
  refine qrun_last 0 hops1 ?_
  simp only [go_sem]
  refine aops_last 1 hops1 ?_
  simp only [go_sem]
  refine hKR1 _ ?_
  refine hK2 _ ?_
  refine awp_ret ?_
  refine ends_ev rfl ?_
  simp only [go_sem]
  exact Co.refl _
theorem ndCmp_at : CmpAt Tryz.prog 84 Nd 3 (okV encNd) cfNd := cmpAt_of (E := E) (fun _ => rfl) (fun _ => trivial) fun x y g d => ndCompare_calls x y g d

/-! ## Sorting nodes -/
theorem sortNd_calls (l : List Nd) (hl : l.length ≤ 1000000) (n : Nm) (g d : Nat) :
    ACalls E 83 [.own n l.length, .func (.func 84) [] []] [(n, .arr 120 3 (l.map encNd))] g d (.tup []) [(n, .arr 120 3 ((srt ltNd l).map encNd))] :=
  acalls_sort (E := E) (k := 3) (ok := okV encNd) (encB := encNd) Tryz.laySortNode (by kernel_rfl) (by kernel_rfl) Tryz.call83 ag120 sz120 (by decide) (fun _ => ⟨rfl, rfl⟩)
    (fun G w vs b h => by
      have h' : Vs G w vs ([.bool b.method, .string b.name, .int .i64 b.idx].map .val) := h
      rw [Vs.toVals h']
      rfl)
    goodNd.swo ndCmp_at Tryz.call84 (by omega) (fun l2 hp ho => nd_uniq hp ho) n g d
end Go.Proofs.T


namespace Go.Proofs.T
open Go Go.Ab Go.RowKit

/-! ## Nodes that follow one another, each once -/

open Classical in
/-- The first ones, without those that are the one before. -/
noncomputable def cpU (L : List Nd) : Nat → List Nd
  | 0 => []
  | m + 1 => if 0 < m ∧ L[m]? = L[m - 1]? then cpU L m else cpU L m ++ (L[m]?).toList
theorem cpU_same {L : List Nd} {m : Nat} (hm : 0 < m) (h : L[m]? = L[m - 1]?) : cpU L (m + 1) = cpU L m := by
  rw [cpU, if_pos ⟨hm, h⟩]
theorem cpU_new {L : List Nd} {m : Nat} {x : Nd} (hx : L[m]? = some x) (h : 0 < m → L[m - 1]? ≠ some x) : cpU L (m + 1) = cpU L m ++ [x] := by
  rw [cpU, if_neg (fun k => h k.1 (by rw [← k.2]; exact hx)), hx]
  rfl
theorem cpU_len (L : List Nd) : ∀ m, (cpU L m).length ≤ m
  | 0 => Nat.le_refl _
  | m + 1 => by
    have ih := cpU_len L m
    rw [cpU]
    split
    · omega
    · rw [List.length_append]
      cases L[m]? <;> simp <;> omega
theorem cpU_mem (L : List Nd) (x : Nd) : ∀ m, x ∈ cpU L m ↔ x ∈ L.take m
  | 0 => by simp [cpU]
  | m + 1 => by
    have ih := cpU_mem L x m
    rw [cpU, List.take_add_one, List.mem_append, ← ih]
    split
    · rename_i h
      constructor
      · exact .inl
      · rintro (h1 | h1)
        · exact h1
        · rw [ih]
          rw [h.2] at h1
          have h2 : L[m - 1]? = some x := by simpa [Option.mem_toList] using h1
          have hlt := (List.getElem?_eq_some_iff.1 h2).1
          refine List.mem_of_getElem? (i := m - 1) ?_
          rw [List.getElem?_take, if_pos (by omega)]
          exact h2
    · rw [List.mem_append]
theorem cpU_all (L : List Nd) (x : Nd) : x ∈ cpU L L.length ↔ x ∈ L := by rw [cpU_mem, List.take_length]
/-- Of a list in order: strictly in order. -/
theorem cpU_strict {L : List Nd} (h : Ord ltNd L) : ∀ m, m ≤ L.length → (cpU L m).Pairwise (fun a b => cfNd a b < 0) ∧ ∀ x ∈ cpU L m, ∀ y, L[m - 1]? = some y → cfNd x y ≤ 0
  | 0, _ => ⟨by simp [cpU], by simp [cpU]⟩
  | m + 1, hm => by
    obtain ⟨h1, h2⟩ := cpU_strict h m (by omega)
    have hx : L[m]? = some L[m] := List.getElem?_eq_getElem (by omega)
    have hle : ∀ y, 0 < m → L[m - 1]? = some y → cfNd y L[m] ≤ 0 := fun y h0 hy => by
      have hlt := (List.getElem?_eq_some_iff.1 hy).1
      have hyv := (List.getElem?_eq_some_iff.1 hy).2
      have := List.pairwise_iff_getElem.1 h (m - 1) m hlt (by omega) (by omega)
      rw [hyv] at this
      simp only [ltNd, Go.Proofs.ltOf, decide_eq_false_iff_not] at this
      have := goodNd.anti L[m] y
      omega
    by_cases hs : 0 < m ∧ L[m]? = L[m - 1]?
    · rw [cpU_same hs.1 hs.2]
      refine ⟨h1, fun x hx y hy => h2 x hx y ?_⟩
      rw [← hs.2]
      simpa using hy
    · have hne : 0 < m → L[m - 1]? ≠ some L[m] := fun h0 he => hs ⟨h0, by rw [he]; exact hx⟩
      rw [cpU_new hx hne]
      have key : ∀ x ∈ cpU L m, cfNd x L[m] < 0 := fun x hxm => by
        have h0 : 0 < m := by
          cases m with
          | zero => simp [cpU] at hxm
          | succ m => omega
        have hy : L[m - 1]? = some L[m - 1] := List.getElem?_eq_getElem (by omega)
        have k1 := h2 x hxm _ hy
        have k2 := hle _ h0 hy
        have k3 : cfNd L[m - 1] L[m] ≠ 0 := fun e => hne h0 (by rw [hy, cfNd_zero.1 e])
        have k4 := goodNd.trans _ _ _ k1 k2
        rcases Int.lt_or_eq_of_le k4 with k5 | k5
        · exact k5
        · have e := cfNd_zero.1 k5
          subst e
          have k6 := goodNd.anti L[m] L[m - 1]
          have k7 := goodNd.anti L[m - 1] L[m]
          omega
      refine ⟨?_, fun x hxm y hy => ?_⟩
      · rw [List.pairwise_append]
        refine ⟨h1, by simp, fun a ha b hb => ?_⟩
        rw [List.mem_singleton.1 hb]
        exact key a ha
      · have hy' : y = L[m] := by
          have : L[m]? = some y := by simpa using hy
          rw [hx] at this
          exact (Option.some.inj this).symm
        subst hy'
        rcases List.mem_append.1 hxm with hxm | hxm
        · have := key x hxm
          omega
        · rw [List.mem_singleton.1 hxm, goodNd.zero]
          omega
theorem cpU_nodup {L : List Nd} (h : Ord ltNd L) : (cpU L L.length).Nodup := by
  refine (cpU_strict h L.length (Nat.le_refl _)).1.imp fun {a b} h e => ?_
  subst e
  rw [goodNd.zero] at h
  omega

theorem ndEq {X Y : Nd} (h : X ≠ Y) : ¬ (X.method = Y.method ∧ X.name = Y.name ∧ X.idx = Y.idx) := fun e => h (Nd.eq_iff.2 e)
theorem subOne (j : Nat) (h : j ≤ 1000000) : IntKind.i64.wrap (((j + 1 : Nat) : Int) - 1) = (j : Int) := by
  have e : ((j + 1 : Nat) : Int) - 1 = (j : Int) := by omega
  rw [e]
  exact wrapN _ (by omega) (by omega)
theorem subLen (n j : Nat) : ((n : Int) - (j : Int)).toNat = n - j := by omega
set_option maxRecDepth 100000 in
theorem compact_calls (L : List Nd) (hL : L.length ≤ 1000000) (n : Nm) (g d : Nat) :
    ACalls E 85 [.own n L.length] [(n, .arr 120 3 (L.map encNd))] g d (slNd (cpU L L.length)) [] := by
  refine acalls_of_awp (fn := Tryz.f85) (N := 61) Tryz.call85 Tryz.func85 rfl rfl (by simp) ?_
  simp only [go_sem]
  refine awp_seq_k (fun K1 hK1 => ?_)
  refine awp_plain 1 (by kernel_rfl) rfl (fun g0 hg0 => ?_)
  simp only [go_sem]
  refine hK1 _ ?_
  refine awp_seq_k (fun K2 hK2 => ?_)
  refine awp_seq_k (fun K3 hK3 => ?_)
  by_cases h2 : L.length < 2
  · have hc : cpU L L.length = L := by
      match L, h2 with
      | [], _ => rfl
      | [x], _ => rw [show [x].length = 0 + 1 from rfl, cpU_new (x := x) rfl (by simp)]; rfl
    have h2' : ((L.length : Int) < 2) = True := eq_true (by omega)
    refine awp_plain 3 (by kernel_rfl) rfl (fun g1 hg1 => ?_)
    simp only [go_sem, h2', decide_true]
    refine hK3 _ ?_
    refine awp_t rfl ?_
    refine awp_seq_k (fun K4 hK4 => ?_)
    refine awp_plain 2 (by kernel_rfl) rfl (fun g2 hg2 => ?_)
    simp only [go_sem]
    refine hK4 _ ?_
    refine awp_ret ?_
    refine ret_frz n ?_
    simp only [go_sem]
    refine ends_ev rfl ?_
    simp only [go_sem]
    exact Co.of_eq (by rw [hc])
  · have h2' : ((L.length : Int) < 2) = False := eq_false (by omega)
    refine awp_plain 3 (by kernel_rfl) rfl (fun g1 hg1 => ?_)
    simp only [go_sem, h2', decide_false]
    refine hK3 _ ?_
    refine awp_f rfl ?_
    refine awp_skip ?_
    refine hK2 _ ?_
    refine awp_seq_k (fun K5 hK5 => ?_)
    refine awp_seq_k (fun K6 hK6 => ?_)
    refine awp_plain 1 (by kernel_rfl) rfl (fun g3 hg3 => ?_)
    simp only [go_sem]
    refine hK6 _ ?_
    refine awp_block ?_
    refine awp_loop (fun m s => ∃ j, j + 1 ≤ L.length ∧ m = L.length - j ∧ cpU L (j + 1) = L.take (j + 1) ∧ Le { env := [(0, .own n L.length), (3, dN (j + 1))], σ := [(n, .arr 120 3 (L.map encNd))] } s) L.length ?_ ?_
    · refine ⟨0, by omega, rfl, ?_, le_of ?_⟩
      · have hx : L[0]? = some L[0] := List.getElem?_eq_getElem (by omega)
        rw [cpU_new hx (by simp), List.take_add_one, hx]
        rfl
      simp only [go_sem]
      all_goals first | exact rfl | exact ⟨rfl, rfl⟩ | trivial
    · rintro m s ⟨j, hj, rfl, hcp, hle⟩
      refine awp_keep hle ?_
      clear hle
      have hsub := subOne j (by omega)
      refine awp_seq_k (fun K7 hK7 => ?_)
      refine awp_seq_k (fun K8 hK8 => ?_)
      by_cases hlt : j + 1 < L.length
      · have hg1 := getM (f := encNd) hlt
        have hg0 := getM (f := encNd) (show j < L.length by omega)
        have e1 : L[j + 1]? = some L[j + 1] := List.getElem?_eq_getElem hlt
        have e0 : L[j]? = some L[j] := List.getElem?_eq_getElem (by omega)
        have hj' : j < L.length := by omega
        refine awp_plain 4 (by kernel_rfl) rfl (fun g4 hg4 => ?_)
        simp only [go_sem, hlt, decide_true]
        refine hK8 _ ?_
        refine awp_t rfl ?_
        refine awp_skip ?_
        refine hK7 _ ?_
        refine awp_seq_k (fun K9 hK9 => ?_)
        refine awp_block ?_
        refine awp_seq_k (fun K10 hK10 => ?_)
        generalize L[j + 1] = X at *
        generalize L[j] = Y at *
        by_cases hxy : X = Y
        · subst hxy
          have hk0 : cpU L (j + 1 + 1) = L.take (j + 1) := by rw [cpU_same (by omega) (by rw [e1]; exact e0.symm)]; exact hcp
          have hsl : ((j + 1 : Nat) : Int) ≤ (L.length : Int) := by omega
          refine awp_anyq (by kernel_rfl) rfl (fun g6 hg6 ops6 KR6 hops6 hKR6 => ?_)
          refine qrun_last 10 hops6 ?_
          simp only [go_sem, decide_true, hlt, hj', hsub, hg1, hg0]
          try simp (disch := omega) only [wrapN, wrapB, Int.tdiv_eq_ediv_of_nonneg, Int.tmod_eq_emod_of_nonneg]
          refine hKR6 _ ?_
          refine hK10 _ ?_
          refine awp_t rfl ?_
          refine awp_seq_k (fun K11 hK11 => ?_)
          refine awp_plain 4 (by kernel_rfl) rfl (fun g7 hg7 => ?_)
          simp only [go_sem, (show (0 < L.length) = True from eq_true (by omega)), hsl, subLen, Nat.le_refl]
          refine hK11 _ ?_
          refine awp_seq_k (fun K12 hK12 => ?_)
          refine awp_seq_k (fun K13 hK13 => ?_)
          refine awp_plain 1 (by kernel_rfl) rfl (fun g8 hg8 => ?_)
          simp only [go_sem]
          refine hK13 _ ?_
          refine awp_block ?_
          clear hg1 hg0
          refine awp_loop (fun m s => ∃ (i k : Nat) (R : List Nd), i + 1 ≤ L.length - (j + 1) ∧ m = L.length - i ∧ R.length = L.length ∧ k ≤ j + 1 + i ∧ (cpU L (j + 1 + (i + 1))).length = k ∧ R.take k = cpU L (j + 1 + (i + 1)) ∧ (∀ q, j + 1 + i ≤ q → R[q]? = L[q]?) ∧
              Le { env := [(0, .own n L.length), (3, dN k), (4, .osl n 3 (j + 1) (L.length - (j + 1))), (5, dN (i + 1))], σ := [(n, .arr 120 3 (R.map encNd))] } s) L.length ?_ ?_
          · refine ⟨0, j + 1, L, by omega, rfl, rfl, by omega, ?_, ?_, fun q _ => rfl, le_of ?_⟩
            · rw [Nat.zero_add, hk0, List.length_take]; omega
            · rw [Nat.zero_add, hk0]
            simp only [go_sem]
            all_goals first | exact rfl | exact ⟨rfl, rfl⟩ | trivial
          · rintro m s ⟨i, k, R, hi, rfl, hRl, hk, hcl, htk, hq, hle⟩
            refine awp_keep hle ?_
            clear hle
            have hsubi := subOne i (by omega)
            refine awp_seq_k (fun K14 hK14 => ?_)
            refine awp_seq_k (fun K15 hK15 => ?_)
            by_cases hlti : i + 1 < L.length - (j + 1)
            · have f1 : R[j + 1 + (i + 1)]? = some L[j + 1 + (i + 1)] := by rw [hq _ (by omega)]; exact List.getElem?_eq_getElem (by omega)
              have f0 : R[j + 1 + i]? = some L[j + 1 + i] := by rw [hq _ (by omega)]; exact List.getElem?_eq_getElem (by omega)
              have l1 : L[j + 1 + (i + 1)]? = some L[j + 1 + (i + 1)] := List.getElem?_eq_getElem (by omega)
              have l0 : L[j + 1 + i]? = some L[j + 1 + i] := List.getElem?_eq_getElem (by omega)
              refine awp_plain 4 (by kernel_rfl) rfl (fun g9 hg9 => ?_)
              simp only [go_sem, hlti, decide_true]
              refine hK15 _ ?_
              refine awp_t rfl ?_
              refine awp_skip ?_
              refine hK14 _ ?_
              refine awp_seq_k (fun K16 hK16 => ?_)
              refine awp_block ?_
              refine awp_seq_k (fun K17 hK17 => ?_)
              generalize L[j + 1 + (i + 1)] = X2 at *
              generalize L[j + 1 + i] = Y2 at *
              have hg1 : (R.map encNd)[j + 1 + (i + 1)]? = some (encNd X2) := by rw [List.getElem?_map, f1]; rfl
              have hg0 : (R.map encNd)[j + 1 + i]? = some (encNd Y2) := by rw [List.getElem?_map, f0]; rfl
              have c1 : (i < L.length - (j + 1)) = True := eq_true (by omega)
              have c2 : (j + 1 + (L.length - (j + 1)) ≤ R.length) = True := eq_true (by omega)
              by_cases hxy : X2 = Y2
              · subst hxy
                have hs := cpU_same (L := L) (m := j + 1 + (i + 1)) (by omega) (by rw [l1, show j + 1 + (i + 1) - 1 = j + 1 + i by omega]; exact l0.symm)
                refine awp_anyq (by kernel_rfl) rfl (fun g11 hg11 ops11 KR11 hops11 hKR11 => ?_)
                refine qrun_last 10 hops11 ?_
                simp only [go_sem, decide_true, Bool.not_true, hlti, hsubi, hg1, hg0, c1, c2]
                try simp (disch := omega) only [wrapN, wrapB, Int.tdiv_eq_ediv_of_nonneg, Int.tmod_eq_emod_of_nonneg]
                refine hKR11 _ ?_
                refine hK17 _ ?_
                refine awp_f rfl ?_
                refine awp_skip ?_
                refine hK16 _ ?_
                refine awp_plain 3 (by kernel_rfl) rfl (fun g10 hg10 => ?_)
                simp only [go_sem]
                try simp (disch := omega) only [wrapN]
                refine ⟨_, ?_, i + 1, k, R, by omega, rfl, hRl, by omega, ?_, ?_, fun q h => hq q (by omega), le_of ?_⟩
                · omega
                · rw [← hcl, ← hs]; rfl
                · rw [htk, ← hs]; rfl
                simp only [go_sem]
                all_goals first | exact rfl | exact ⟨rfl, rfl⟩ | trivial | omega
              · have hs := cpU_new (L := L) (m := j + 1 + (i + 1)) l1 (fun _ h => by rw [show j + 1 + (i + 1) - 1 = j + 1 + i by omega, l0] at h; exact hxy (Option.some.inj h).symm)
                have c3 : (k < R.length) = True := eq_true (by omega)
                have hgk := getM (f := encNd) (l := R) (k := k) (by omega)
                refine awp_anyq (by kernel_rfl) rfl (fun g11 hg11 ops11 KR11 hops11 hKR11 => ?_)
                refine qrun_last 10 hops11 ?_
                simp only [go_sem, ndEq hxy, decide_false, Bool.not_false, hlti, hsubi, hg1, hg0, c1, c2]
                try simp (disch := omega) only [wrapN, wrapB, Int.tdiv_eq_ediv_of_nonneg, Int.tmod_eq_emod_of_nonneg]
                refine hKR11 _ ?_
                refine hK17 _ ?_
                refine awp_t rfl ?_
                refine awp_seq_k (fun K18 hK18 => ?_)
                refine awp_plain 8 (by kernel_rfl) rfl (fun g12 hg12 => ?_)
                simp only [go_sem, c3, hgk, hlti, hg1, c2]
                refine hK18 _ ?_
                refine awp_plain 3 (by kernel_rfl) rfl (fun g13 hg13 => ?_)
                simp only [go_sem]
                try simp (disch := omega) only [wrapN]
                refine hK16 _ ?_
                refine awp_plain 3 (by kernel_rfl) rfl (fun g10 hg10 => ?_)
                simp only [go_sem]
                try simp (disch := omega) only [wrapN]
                refine ⟨_, ?_, i + 1, k + 1, R.set k X2, by omega, rfl, by rw [List.length_set]; exact hRl, by omega, ?_, ?_, fun q h => ?_, le_of ?_⟩
                · omega
                · have : cpU L (j + 1 + (i + 1 + 1)) = cpU L (j + 1 + (i + 1)) ++ [X2] := hs
                  rw [this, List.length_append, hcl]
                  rfl
                · have : cpU L (j + 1 + (i + 1 + 1)) = cpU L (j + 1 + (i + 1)) ++ [X2] := hs
                  rw [this, List.take_add_one, List.getElem?_set_self (by omega), List.take_set_of_le (Nat.le_refl _), htk]
                  rfl
                · rw [List.getElem?_set_ne (by omega)]
                  exact hq q (by omega)
                simp only [go_sem, List.map_set]
                all_goals first | exact rfl | exact ⟨rfl, rfl⟩ | trivial | omega
            · have hfin : j + 1 + (i + 1) = L.length := by omega
              rw [hfin] at hcl htk
              have c4 : (0 < R.length) = True := eq_true (by omega)
              have c5 : (k ≤ R.length) = True := eq_true (by omega)
              refine awp_plain 4 (by kernel_rfl) rfl (fun g9 hg9 => ?_)
              simp only [go_sem, hlti, decide_false]
              refine hK15 _ ?_
              refine awp_f rfl ?_
              refine awp_exit ?_
              refine hK12 _ ?_
              refine awp_seq_k (fun K19 hK19 => ?_)
              refine awp_ops (by kernel_rfl) rfl (fun g14 hg14 ops14 KR14 hops14 hKR14 => ?_)
              refine aops_eval 3 hops14 ?_
              simp only [go_sem, c4, c5, subLen, Nat.le_refl]
              refine aops_clear hops14 rfl rfl rfl rfl es78 ze120 rfl (by decide) ?_
              simp only [go_sem]
              first | refine ⟨by omega, ?_⟩ | skip
              generalize hZ : List.take k (List.map encNd R) ++ List.replicate (R.length - k) (D.agg [D.val (Value.bool false), D.val (Value.string ByteArray.empty), D.val (Value.int IntKind.i64 0)]) ++ List.drop (k + (R.length - k)) (List.map encNd R) = Z
              have hkR : k ≤ R.length := by omega
              have hZl : Z.length = R.length := by rw [← hZ]; simp; omega
              have hZt : Z.take k = (cpU L L.length).map encNd := by
                rw [← hZ, List.append_assoc, List.take_append_of_le_length (by simp; omega), List.take_take, Nat.min_self, ← List.map_take, htk]
              have hZr : lenRows 3 Z := fun r hr => by
                rw [← hZ] at hr
                rcases List.mem_append.1 hr with hr | hr
                · rcases List.mem_append.1 hr with hr | hr
                  · exact lenRowsNd R r (List.mem_of_mem_take hr)
                  · rw [(List.mem_replicate.1 hr).2]; rfl
                · exact lenRowsNd R r (List.mem_of_mem_drop hr)
              have c6 : (0 < Z.length) = True := eq_true (by omega)
              have c7 : (k ≤ Z.length) = True := eq_true (by omega)
              have c8 : ((k : Int) - 0).toNat = k := by omega
              have c9 : (0 + k ≤ Z.length) = True := eq_true (by omega)
              refine aops_last 0 hops14 ?_
              simp only [go_sem]
              refine hKR14 _ ?_
              refine hK19 _ ?_
              refine awp_seq_k (fun K20 hK20 => ?_)
              refine awp_plain 4 (by kernel_rfl) rfl (fun g15 hg15 => ?_)
              simp only [go_sem, c6, c7, c8, Int.natCast_nonneg, Int.le_refl]
              refine hK20 _ ?_
              refine awp_ret ?_
              refine ret_frz n ?_
              simp only [go_sem, c7, hZr, hZt]
              refine ends_ev rfl ?_
              simp only [go_sem]
              exact Co.refl _
        · have hs := cpU_new (L := L) (m := j + 1) e1 (fun _ h => by rw [show j + 1 - 1 = j by omega, e0] at h; exact hxy (Option.some.inj h).symm)
          refine awp_anyq (by kernel_rfl) rfl (fun g6 hg6 ops6 KR6 hops6 hKR6 => ?_)
          refine qrun_last 10 hops6 ?_
          simp only [go_sem, ndEq hxy, decide_false, hlt, hj', hsub, hg1, hg0]
          try simp (disch := omega) only [wrapN, wrapB, Int.tdiv_eq_ediv_of_nonneg, Int.tmod_eq_emod_of_nonneg]
          refine hKR6 _ ?_
          refine hK10 _ ?_
          refine awp_f rfl ?_
          refine awp_skip ?_
          refine hK9 _ ?_
          refine awp_plain 3 (by kernel_rfl) rfl (fun g5 hg5 => ?_)
          simp only [go_sem]
          try simp (disch := omega) only [wrapN]
          refine ⟨_, ?_, j + 1, by omega, rfl, ?_, le_of ?_⟩
          · omega
          · rw [hs, hcp, List.take_add_one (l := L) (i := j + 1), e1]
            rfl
          simp only [go_sem]
          all_goals first | exact rfl | exact ⟨rfl, rfl⟩ | trivial | omega
      · have hfin : j + 1 = L.length := by omega
        have hc : cpU L L.length = L := by rw [← hfin, hcp, hfin, List.take_length]
        refine awp_plain 4 (by kernel_rfl) rfl (fun g4 hg4 => ?_)
        simp only [go_sem, hlt, decide_false]
        refine hK8 _ ?_
        refine awp_f rfl ?_
        refine awp_exit ?_
        refine hK5 _ ?_
        refine awp_seq_k (fun K21 hK21 => ?_)
        refine awp_plain 2 (by kernel_rfl) rfl (fun g16 hg16 => ?_)
        simp only [go_sem]
        refine hK21 _ ?_
        refine awp_ret ?_
        refine ret_frz n ?_
        simp only [go_sem]
        refine ends_ev rfl ?_
        simp only [go_sem]
        exact Co.of_eq (by rw [hc])
end Go.Proofs.T


namespace Go.Proofs.T
open Go Go.Ab Go.RowKit

/-! ## The nodes of a program -/

theorem okRowsSig : ∀ l : List Sig, okRows 7 (l.map encSi) := fun l => okRows_map 7 encSi l fun _ => ⟨rfl, rfl⟩
theorem cloneSg_calls (l : List Sig) (hl : l.length ≤ 1000000) (g d : Nat) : ACalls E 82 [slSi l] [] g d (.own ⟨g, d, 1⟩ l.length) [(⟨g, d, 1⟩, .arr 46 7 (l.map encSi))] := by
  cases l with
  | nil =>
    refine acalls_of_awp (fn := Tryz.f82) (N := 8) Tryz.call82 Tryz.func82 rfl rfl (by simp) ?_
    simp only [go_sem]
    refine awp_seq_k (fun K1 hK1 => ?_)
    refine awp_plain 1 (by kernel_rfl) rfl (fun g0 hg0 => ?_)
    simp only [go_sem]
    refine hK1 _ ?_
    refine awp_seq_k (fun K2 hK2 => ?_)
    refine awp_seq_k (fun K3 hK3 => ?_)
    refine awp_plain 2 (by kernel_rfl) rfl (fun g1 hg1 => ?_)
    simp only [go_sem]
    refine hK3 _ ?_
    refine awp_unk rfl ?_ ?_
    · refine awp_seq_k (fun K4 hK4 => ?_)
      refine awp_plain 1 (by kernel_rfl) rfl (fun g2 hg2 => ?_)
      simp only [go_sem]
      refine hK4 _ ?_
      refine awp_ret ?_
      refine ret_nil 2 46 7 rfl fun gz hgz => ?_
      refine ends_own [⟨gz, 0, 0⟩] rfl ?_
      simp only [go_sem, newSto]
      exact Co.refl _
    · refine awp_skip ?_
      refine hK2 _ ?_
      refine awp_seq_k (fun K5 hK5 => ?_)
      refine awp_ops (by kernel_rfl) rfl (fun g3 hg3 ops3 KR3 hops3 hKR3 => ?_)
      refine aops_eval 2 hops3 ?_
      simp only [go_sem]
      refine aops_app hops3 rfl rfl rfl rfl rfl es43 sz46 by46 ze46 rfl (by decide) ?_
      simp only [go_sem, List.length_nil]
      first | refine ⟨⟨by omega, by omega⟩, ?_⟩ | skip
      refine aops_last 1 hops3 ?_
      simp only [go_sem]
      refine hKR3 _ ?_
      refine hK5 _ ?_
      refine awp_ret ?_
      refine ends_own [⟨g3, 7, 0⟩] rfl ?_
      simp only [go_sem, newSto]
      exact Co.refl _
  | cons a l =>
    simp only [List.length_cons] at hl
    refine acalls_of_awp (fn := Tryz.f82) (N := 8) Tryz.call82 Tryz.func82 rfl rfl (by simp) ?_
    simp only [go_sem]
    refine awp_seq_k (fun K1 hK1 => ?_)
    refine awp_plain 1 (by kernel_rfl) rfl (fun g0 hg0 => ?_)
    simp only [go_sem]
    refine hK1 _ ?_
    refine awp_seq_k (fun K2 hK2 => ?_)
    refine awp_seq_k (fun K3 hK3 => ?_)
    refine awp_plain 2 (by kernel_rfl) rfl (fun g1 hg1 => ?_)
    simp only [go_sem]
    refine hK3 _ ?_
    refine awp_f rfl ?_
    refine awp_skip ?_
    refine hK2 _ ?_
    refine awp_seq_k (fun K4 hK4 => ?_)
    refine awp_ops (by kernel_rfl) rfl (fun g3 hg3 ops3 KR3 hops3 hKR3 => ?_)
    refine aops_eval 2 hops3 ?_
    simp only [go_sem]
    refine aops_app hops3 rfl rfl rfl rfl rfl es43 sz46 by46 ze46 rfl (by decide) ?_
    simp only [go_sem, List.length_map, okRowsSig, List.length_cons, List.length_nil, Nat.zero_add, List.nil_append]
    first | refine ⟨⟨by omega, by omega⟩, ?_⟩ | skip
    refine aops_last 1 hops3 ?_
    simp only [go_sem, List.nil_append]
    refine hKR3 _ ?_
    refine hK4 _ ?_
    refine awp_ret ?_
    refine ends_own [⟨g3, 7, 0⟩] rfl ?_
    simp only [go_sem, newSto]
    exact Co.refl _

/-- The nodes of some formals. -/
def ndF (b : Bool) (s : Str) (n : Nat) : List Nd := (List.range n).map fun i : Nat => ⟨b, s, (i : Int)⟩
theorem ndF_succ (b : Bool) (s : Str) (n : Nat) : ndF b s (n + 1) = ndF b s n ++ [⟨b, s, (n : Int)⟩] := by unfold ndF; rw [List.range_succ, List.map_append]; rfl
theorem ndF_len (b : Bool) (s : Str) (n : Nat) : (ndF b s n).length = n := by simp [ndF]
theorem ndF_mem (b : Bool) (s : Str) (n : Nat) (x : Nd) : x ∈ ndF b s n ↔ ∃ i, i < n ∧ x = ⟨b, s, (i : Int)⟩ := by
  unfold ndF
  simp only [List.mem_map, List.mem_range]
  constructor
  · rintro ⟨i, h, rfl⟩
    exact ⟨i, h, rfl⟩
  · rintro ⟨i, h, rfl⟩
    exact ⟨i, h, rfl⟩
def siN (s : Sig) : List Nd := ndF true s.name s.formals.length
def ndD (d : Dec) : List Nd := ndF false d.name d.formals.length ++ (d.sigs ++ [d.sig]).flatMap siN
def ndP (p : Prg) : List Nd := p.decls.flatMap ndD
/-- The variable that holds the nodes, and their array. -/
def ndS (q : Nat) (R : List Nd) (τ : Sto) : Prop := ∃ a i, a ≠ q ∧ τ = [(⟨q, 3, 0⟩, .box 78 [.own ⟨a, i, 0⟩ R.length]), (⟨a, i, 0⟩, .arr 120 3 (R.map encNd))]

set_option maxRecDepth 100000 in
theorem nodes1_calls (b : Bool) (s : Str) (l : List Formal) (q : Nat) (R : List Nd) (hl : R.length + l.length ≤ 1000000) :
    IC E 81 [dB b, encS s, slFm l, .ptr ⟨q, 3, 0⟩ 0] (ndS q R) (ndS q (R ++ ndF b s l.length)) (.tup []) := by
  refine icalls_of_awp (fn := Tryz.f81) (N := 21) Tryz.call81 Tryz.func81 rfl rfl (by simp) (fun g d τ hτ => ?_)
  simp only [go_sem]
  refine awp_seq_k (fun K1 hK1 => ?_)
  obtain ⟨a, i, ha, rfl⟩ := hτ
  refine awp_plain 3 (by kernel_rfl) rfl (fun g0 hg0 => ?_)
  simp only [go_sem]
  refine hK1 _ ?_
  refine awp_block ?_
  refine awp_loop (fun m st => ∃ k a i, k ≤ l.length ∧ m = l.length - k ∧ a ≠ q ∧ LeT { env := [(0, dB b), (1, encS s), (3, .ptr ⟨q, 3, 0⟩ 0), (8, slFm l), (9, dN l.length), (10, dN k)], σ := [(⟨q, 3, 0⟩, .box 78 [.own ⟨a, i, 0⟩ (R ++ ndF b s k).length]), (⟨a, i, 0⟩, .arr 120 3 ((R ++ ndF b s k).map encNd))] } st) l.length ?_ ?_
  · refine ⟨0, a, i, Nat.zero_le _, rfl, ha, let_of (by simp [ndF]) ?_⟩
    simp only [go_sem]
    all_goals first | exact rfl | exact ⟨rfl, rfl⟩ | trivial
  · rintro m st ⟨k, a, i, hk, rfl, ha, hle⟩
    refine awp_keepT hle ?_
    clear hle
    have hkl := ndF_len b s k
    refine awp_seq_k (fun K2 hK2 => ?_)
    by_cases hlt : k < l.length
    · refine awp_plain 1 (by kernel_rfl) rfl (fun g1 hg1 => ?_)
      simp only [go_sem, hlt]
      refine hK2 _ ?_
      refine awp_seq_k (fun K3 hK3 => ?_)
      refine awp_t rfl ?_
      refine awp_skip ?_
      refine hK3 _ ?_
      refine awp_seq_k (fun K4 hK4 => ?_)
      refine awp_block ?_
      refine awp_seq_k (fun K5 hK5 => ?_)
      refine awp_plain 2 (by kernel_rfl) rfl (fun g2 hg2 => ?_)
      simp only [go_sem]
      refine hK5 _ ?_
      refine awp_ops (by kernel_rfl) rfl (fun g3 hg3 ops3 KR3 hops3 hKR3 => ?_)
      refine aops_eval 6 hops3 ?_
      simp only [go_sem, ha]
      refine aops_app hops3 rfl rfl rfl rfl rfl es78 sz120 by120 ze120 rfl (by decide) ?_
      simp only [go_sem, Ne.symm ha]
      first | refine ⟨⟨by omega, by omega⟩, ?_⟩ | skip
      have hn3_q : g3 ≠ q := fresh_g hg3 3 0 (by simp [go_sem])
      refine aops_last 1 hops3 ?_
      simp only [go_sem, hn3_q]
      refine hKR3 _ ?_
      refine hK4 _ ?_
      refine awp_plain 2 (by kernel_rfl) rfl (fun g4 hg4 => ?_)
      simp only [go_sem]
      try simp (disch := omega) only [wrapN]
      refine ⟨_, ?_, k + 1, g3, 19, hlt, rfl, hn3_q, ⟨leE_spec ?_, subT_of ?_⟩⟩
      · omega
      · simp only [go_sem]
        all_goals first | done | exact rfl | exact ⟨rfl, rfl⟩ | trivial | omega
      · simp only [go_sem, ndF_succ, List.map_append, List.length_append, ← List.append_assoc, hn3_q, Ne.symm hn3_q]
        all_goals first | done | exact rfl | exact ⟨rfl, rfl⟩ | trivial | omega
    · have : k = l.length := by omega
      subst this
      refine awp_plain 1 (by kernel_rfl) rfl (fun g1 hg1 => ?_)
      simp only [go_sem, hlt]
      refine hK2 _ ?_
      refine awp_seq_k (fun K6 hK6 => ?_)
      refine awp_f rfl ?_
      refine awp_exit ?_
      refine ends_tail (own := []) rfl rfl (by simp [go_sem]) (⟨a, i, ha, by rw [List.length_append, List.map_append]⟩) ?_
      simp only [go_sem]
      exact Co.refl _
end Go.Proofs.T

