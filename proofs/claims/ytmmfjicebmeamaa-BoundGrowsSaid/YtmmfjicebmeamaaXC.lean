/- A part of the proof, under no conditions of its own: XC. -/
import Derived.Test.YtmmfjicebmeamaaXB
namespace Go.Ab
open Go Go.RowKit

def bytesOf (P : Program) (t : TypeId) : Option Nat := (P.info? t).map (·.bytes)

/-- Rows of k known cells each. -/
def okRows (k : Nat) (rows : List D) : Prop := ∀ r ∈ rows, r.cells.length = k ∧ r.cells.all D.one = true

theorem okRows_nil (k : Nat) : okRows k [] := fun r h => by cases h
theorem okRows_cons {k : Nat} {r : D} {rows : List D} (h1 : r.cells.length = k ∧ r.cells.all D.one = true) (h2 : okRows k rows) : okRows k (r :: rows) := fun x hx => by
  rcases List.mem_cons.1 hx with h | h
  · subst h; exact h1
  · exact h2 x h

section
variable {w0 : World} {G : Gh} {w : World} {κ : Kp} {P : Program}

/-- What an appended slice holds, cell by cell. -/
theorem sl_cells {v : Value} {x : Bool} {rows : List D} {k : Nat} (h : V G w v (.sl x rows)) (hk : okRows k rows) (hk0 : 0 < k) :
    (v = .slice none 0 0 ∧ rows = []) ∨ ∃ (ad : Addr) (c : Nat) (news : List Value), v = .slice (some ad) rows.length c ∧ news.length = rows.length * k ∧ (∀ (j : Nat) u, news[j]? = some u → w.cell? (ad.add j) = some u) ∧ (∀ u ∈ news, u.oneCell' = true) ∧ Flat G w k rows (news[·]?) := by
  cases h with
  | nilsl => exact .inl ⟨rfl, rfl⟩
  | esl a => exact .inr ⟨a, 0, [], rfl, by simp, fun j u h => by simp at h, fun u h => by simp at h, fun i r h => by simp at h⟩
  | sl X hn h2 h3 hF hl hc hV =>
    rename_i b off n cap k'
    subst hn
    refine .inr ⟨_, _, (List.range (rows.length * k)).map fun q => X (q / k) (q % k), rfl, by simp, ?_, ?_, ?_⟩
    all_goals
      have hkk : ∀ (i : Nat) r, rows[i]? = some r → k' = k := fun i r hr => by
        rw [← hl i r hr]
        exact (hk r (List.mem_of_getElem? hr)).1
      have cellAt : ∀ q, q < rows.length * k → ∃ r d, rows[q / k]? = some r ∧ r.cells[q % k]? = some d ∧ k' = k := fun q hq => by
        have hi : q / k < rows.length := Nat.div_lt_of_lt_mul (by rw [Nat.mul_comm]; exact hq)
        have hr : rows[q / k]? = some rows[q / k] := List.getElem?_eq_getElem hi
        have hlen := (hk _ (List.getElem_mem hi)).1
        exact ⟨_, _, hr, List.getElem?_eq_getElem (by rw [hlen]; exact Nat.mod_lt _ hk0), hkk _ _ hr⟩
    · intro j u hu
      by_cases hj : j < rows.length * k
      · rw [List.getElem?_map, List.getElem?_range hj] at hu
        simp only [Option.map_some, Option.some.injEq] at hu
        subst hu
        obtain ⟨r, d, hr, hd, rfl⟩ := cellAt j hj
        rw [Addr.add_lit, ← hc _ _ _ _ hr hd, Nat.mul_comm, Nat.div_add_mod]
      · rw [List.getElem?_eq_none (by simpa using hj)] at hu
        cases hu
    · intro u hu
      simp only [List.mem_map, List.mem_range] at hu
      obtain ⟨q, hq, rfl⟩ := hu
      obtain ⟨r, d, hr, hd, _⟩ := cellAt q hq
      refine (hV _ _ _ _ hr hd).one ?_
      have := (hk r (List.mem_of_getElem? hr)).2
      rw [List.all_eq_true] at this
      exact this d (List.mem_of_getElem? hd)
    · intro i r hr
      have hi := (List.getElem?_eq_some_iff.1 hr).1
      refine ⟨(hk r (List.mem_of_getElem? hr)).1, fun j d hd => ?_⟩
      have hj : j < k := by
        have := (List.getElem?_eq_some_iff.1 hd).1
        rw [(hk r (List.mem_of_getElem? hr)).1] at this
        exact this
      have hrow := row_le (k := k) hi
      refine ⟨X i j, ?_, hV _ _ _ _ hr hd⟩
      have e1 : (i * k + j) / k = i := by rw [Nat.mul_comm, Nat.mul_add_div hk0, Nat.div_eq_of_lt hj]; rfl
      have e2 : (i * k + j) % k = j := by rw [Nat.mul_comm, Nat.mul_add_mod]; exact Nat.mod_eq_of_lt hj
      simp only [List.getElem?_map, List.getElem?_range (show i * k + j < rows.length * k by omega), Option.map_some, e1, e2]

theorem append_blk {base : Nat} {t ty el : TypeId} {i : TypeInfo} {z : Value} (ht : P.underlying t = some (.slice el)) (hi : P.info? el = some i) (hz : i.zero = some z)
    {v : Value} {n : Nat} {xs : List Value} (hown : w.ownsRow base el i.size v n xs) {ad : Addr} {m c : Nat} {news : List Value} (hl : news.length = m * i.size) (hnews : ∀ (j : Nat) u, news[j]? = some u → w.cell? (ad.add j) = some u) (h1 : ∀ u ∈ news, u.oneCell' = true)
    (h63 : n + m ≤ maxLen) (hbytes : (n + m) * i.bytes ≤ 140737488355328) {v' : Value} {w' : World}
    (hr : (Builtin.append_ #[t, t] ty #[v, .slice (some ad) m c]).run P w = .ok v' w') (hv' : v'.ownBlock ≠ none) : blk v' = blk v ∨ blk v' = some w.heap.size := by
  have hsmall : n + m ≤ 9223372036854775807 := by simp only [maxLen] at h63; omega
  rcases hown.2 with ⟨rfl, rfl⟩ | ⟨g, cap, cur, rfl, hbg, hg, hnc, hcm, hcs, htake⟩
  · by_cases hm : m = 0
    · subst hm
      have : (Builtin.append_ #[t, t] ty #[.slice none 0 0, .slice (some ad) 0 c]).run P w = .ok (.slice none 0 0) w := by
        simp [Builtin.append_, run_underlying ht, sizeOf, typeInfo, hi, Builtin.lenOf, Builtin.firstCells, loadCells, loadCellsFrom]
      rw [this] at hr
      cases hr
      exact absurd rfl hv'
    · have := run_append_nil (P := P) w t ty el i z ht hi hz ad m c news hl hnews (by omega) (by omega) (by have hb := hbytes; simp only [Nat.zero_add] at hb; omega)
      rw [this] at hr
      cases hr
      exact .inr rfl
  · by_cases hroom : n + m ≤ cap
    · have hfit : n * i.size + news.length ≤ cur.size := by rw [hl, hcs, ← Nat.add_mul]; exact Nat.mul_le_mul_right _ hroom
      have := run_append_room (P := P) w t ty el i ht hi g n cap cur hg ad m c news hl hnews h1 hroom hfit
      rw [this] at hr
      cases hr
      exact .inl rfl
    · have := run_append_grow (P := P) w t ty el i z ht hi hz ⟨g, 0, none⟩ n cap xs hown.1 (hown.cells (g := g) rfl) ad m c news hl hnews (by omega) (by omega) (growslice_fits (by omega) hbytes)
      rw [this] at hr
      cases hr
      exact .inr rfl

theorem Flat.append {k : Nat} {rows rows2 : List D} {xs news : List Value} (h : Flat G w k rows (xs[·]?)) (hx : xs.length = rows.length * k) (h2 : Flat G w k rows2 (news[·]?)) : Flat G w k (rows ++ rows2) ((xs ++ news)[·]?) := by
  intro i r hr
  by_cases hi : i < rows.length
  · rw [List.getElem?_append_left hi] at hr
    obtain ⟨g1, g2⟩ := h i r hr
    refine ⟨g1, fun j d hd => ?_⟩
    obtain ⟨x, hx', hv⟩ := g2 j d hd
    refine ⟨x, ?_, hv⟩
    simp only at hx' ⊢
    rw [List.getElem?_append_left ((List.getElem?_eq_some_iff.1 hx').1)]
    exact hx'
  · rw [List.getElem?_append_right (by omega)] at hr
    obtain ⟨g1, g2⟩ := h2 _ r hr
    refine ⟨g1, fun j d hd => ?_⟩
    obtain ⟨x, hx', hv⟩ := g2 j d hd
    refine ⟨x, ?_, hv⟩
    simp only at hx' ⊢
    have : i * k = rows.length * k + (i - rows.length) * k := by rw [← Nat.add_mul]; congr 1; omega
    rw [List.getElem?_append_right (by omega), show i * k + j - xs.length = (i - rows.length) * k + j by omega]
    exact hx'

theorem Flat.mono {k : Nat} {rows : List D} {xs : Nat → Option Value} {G' : Gh} {w' : World} (h : Flat G w k rows xs) (hV : ∀ x d, V G w x d → V G' w' x d) : Flat G' w' k rows xs :=
  fun i r hr => ⟨(h i r hr).1, fun j d hd => let ⟨x, hx, hv⟩ := (h i r hr).2 j d hd; ⟨x, hx, hV _ _ hv⟩⟩

/-- append onto an array of the call's own (or onto nil). -/
theorem top_append {E : Ctx} {g : Nat} {o : Oper} {e : Operand → D} {t el : TypeId} {so x : Operand} (hop : o.op = .call { callee := .builtin .append, args := #[so, x], argTypes := #[t, t] }) {d : Nat} (hd : o.dst = some d)
    {n : Nm} {len : Nat} (hs : e so = .own n len) {k : Nat} {rows rows2 : List D} (hκ : κ n = some (.arr el k rows)) {xf : Bool} (hx : e x = .sl xf rows2)
    (he : elemS E.P t = some el) (hk : szOf E.P el = some k) {bs : Nat} (hbs : bytesOf E.P el = some bs) {z : Value} (hz : zeroOf E.P el = some z) (hzs : z.cells.size = k) (hk0 : 0 < k) (hok : okRows k rows2)
    (h63 : rows.length + rows2.length ≤ 9223372036854775807) (hb : (rows.length + rows2.length) * bs ≤ 140737488355328) :
    TOp E g o e κ (.own ⟨g, d, 0⟩ (rows.length + rows2.length)) ((κ.del n).put ⟨g, d, 0⟩ (.arr el k (rows ++ rows2))) := by
  intro w0 hA G w a hw hV ho hf K Q' hK
  obtain ⟨hg, hfresh⟩ := hf d hd
  have hn2 := hfresh 0
  have hvs := hV so (by simp [hop, Op.operands, Call.operands])
  have hvx := hV x (by simp [hop, Op.operands, Call.operands])
  rw [hs] at hvs
  rw [hx] at hvx
  obtain ⟨v, hρ, ⟨xs, hown, hfl⟩, hnF⟩ := ho.ob n _ hκ
  have hvv : a.eval so = v ∧ ∃ ad c, v = .slice ad len c := by
    generalize a.eval so = u at hvs
    cases hvs with
    | own hρ' => rw [hρ] at hρ'; cases hρ'; exact ⟨rfl, _, _, rfl⟩
  obtain ⟨i, hi⟩ : ∃ i, E.P.info? el = some i := by
    unfold szOf at hk
    cases hi : E.P.info? el with
    | none => rw [hi] at hk; cases hk
    | some i => exact ⟨i, rfl⟩
  have hik : i.size = k := by simpa [szOf, hi] using hk
  have hib : i.bytes = bs := by simpa [bytesOf, hi] using hbs
  have hiz : i.zero = some z := by simpa [zeroOf, hi] using hz
  have ht := elemS_spec he
  have hbw : w0.heap.size ≤ w.heap.size := hw.below.size
  have hkeepV : ∀ w', w.grownBy w' (blk v) → ∀ y d', V G w y d' → V (G.upd ⟨g, d, 0⟩ y) w' y d' → True := fun _ _ _ _ _ _ => trivial
  clear hkeepV
  have fin : ∀ v' w' news, (Builtin.append_ #[t, t] o.type #[v, a.eval x]).run E.P w = .ok v' w' → w'.ownsRow w0.heap.size el k v' (rows.length + rows2.length) (xs ++ news) → w.grownBy w' (blk v) → (∃ ad c, v' = .slice ad (rows.length + rows2.length) c) →
      Flat G w k rows2 (news[·]?) → (∀ b, blk v' = some b → blk v = some b ∨ (w.heap.size ≤ b ∧ b < w'.heap.size)) → ∀ r, o.wpIn (Fr r) 0 E.P a w K Q' := by
    intro v' w' news hrun hown' hgr hform hfl2 hb'
    have hVm : ∀ y d', V G w y d' → V (G.upd ⟨g, d, 0⟩ v') w' y d' := fun y d' h => h.upd hn2 fun b hF => hgr.block b (hw.lt b hF) fun e => hnF b e.symm hF
    obtain ⟨g1, g2, g3⟩ := turn_obj (ob' := .arr el k (rows ++ rows2)) hw ho hκ hρ hn2 hg hgr hb' ⟨xs ++ news, by rw [List.length_append]; exact hown', (Flat.append (G := G) (w := w) hfl hown.1 hfl2).mono hVm⟩
    have hex : (execOp a.eval o).run E.P w = .ok (.value v') w' := by
      simp [execOp, hop, resolve, invoke, builtin, hvv.1, hrun]
    refine op_val hex ?_
    obtain ⟨ad, c, rfl⟩ := hform
    exact hK _ _ _ g1 (.own (by simp [Gh.upd])) g2 (g3.weaken fun m _ hm => by subst hm; exact ⟨rfl, hd⟩)
  rcases sl_cells hvx hok hk0 with ⟨hnil, rfl⟩ | ⟨ad, c, news, hsrc, hl, hcell, hone, hfl2⟩
  · have hrun := run_append_owned_none (P := E.P) (w := w) w0.heap.size t o.type el i k ht hi v rows.length xs hown
    refine fin v w [] (by rw [hnil]; exact hrun) (by simpa using hown) ⟨rfl, rfl, rfl, Nat.le_refl _, fun _ _ _ => rfl⟩ ?_ (fun j r hr => by simp at hr) (fun b h => .inl h)
    rcases hown.2 with ⟨rfl, h0⟩ | ⟨g', cap, cur, rfl, _⟩
    · exact ⟨none, 0, by rw [h0]; rfl⟩
    · exact ⟨_, _, rfl⟩
  · obtain ⟨v', w', hrun, hown', hgr, _⟩ := run_append_own (P := E.P) w w0.heap.size t o.type el i z k bs ht hi hiz hik hib hzs hk0 v rows.length xs hown ad rows2.length c news hl hcell hone (by simp only [maxLen]; omega) hb hbw
    have hgr' : w.grownBy w' (blk v) := by
      have : blk v = v.ownBlock := by
        rcases hown.2 with ⟨rfl, _⟩ | ⟨g', cap, cur, rfl, _⟩ <;> rfl
      rw [this]; exact hgr
    refine fin v' w' news (by rw [hsrc]; exact hrun) hown' hgr' ?_ hfl2 (fun b hb2 => ?_)
    · rcases hown'.2 with ⟨rfl, h0⟩ | ⟨g', cap, cur, rfl, _⟩
      · exact ⟨none, 0, by rw [h0]⟩
      · exact ⟨_, _, rfl⟩
    · have hlt : b < w'.heap.size := (hown'.lt b (by
        rcases hown'.2 with ⟨rfl, h0⟩ | ⟨g', cap, cur, rfl, _⟩
        · cases hb2
        · exact hb2)).2
      subst hik
      rcases append_blk (P := E.P) ht hi hiz hown hl hcell hone (by simp only [maxLen]; omega) (by rw [hib]; exact hb) hrun (by
        rcases hown'.2 with ⟨rfl, h0⟩ | ⟨g', cap, cur, rfl, _⟩
        · cases hb2
        · simp [Value.ownBlock]) with h | h
      · exact .inl (h ▸ hb2)
      · rw [h] at hb2
        cases hb2
        exact .inr ⟨Nat.le_refl _, hlt⟩

end
end Go.Ab

namespace Go.Ab
open Go Go.RowKit

structure ACalls (E : Ctx) (f : FuncId) (args : List D) (σ : Sto) (g d : Nat) (r : D) (σ' : Sto) : Prop where
  call : ∀ as w, (callFunc f as).run E.P w = .ok (.enter f as) w
  run : ∀ w0, E.A w0 → ∀ G w (vs : Array Value), WF w0 G w → Vs G w vs args → Objs w0 G w (get σ) → (g < G.top ∧ ∀ j, G.ρ ⟨g, d, j⟩ = none) →
    Calls E.P f vs w fun e w' => ∃ v G', e = .returned v ∧ WF w0 G' w' ∧ V G' w' v r ∧ Objs w0 G' w' (get σ') ∧ Step (rsv g (some d)) G w (get σ) G' w' (get σ')

/-- Whatever the one denotes, the other denotes too. -/
def Co (d d' : D) : Prop := ∀ G w v, V G w v d → V G w v d'

theorem Co.refl (d : D) : Co d d := fun _ _ _ h => h
theorem Co.nil (x : Bool) : Co (.val (.slice none 0 0)) (.sl x []) := fun _ _ _ h => by rw [V.of_val h]; exact .nilsl x
theorem Co.any (d : D) : Co d .any := fun _ _ v _ => .any v
theorem Co.inexact (rows : List D) (x : Bool) : Co (.sl x rows) (.sl false rows) := fun _ _ _ h => by
  cases h with
  | nilsl => exact .nilsl _
  | esl a => exact .esl a _
  | sl X h1 h2 h3 h4 h5 h6 h7 => exact .sl X h1 (fun h => by cases h) h3 h4 h5 h6 h7

inductive CoL : List D → List D → Prop
  | nil : CoL [] []
  | cons {d d' : D} {l l' : List D} : Co d d' → CoL l l' → CoL (d :: l) (d' :: l')

theorem CoL.refl : ∀ l, CoL l l
  | [] => .nil
  | d :: l => .cons (.refl d) (CoL.refl l)

theorem CoL.spec {l l' : List D} (h : CoL l l') : l.length = l'.length ∧ ∀ (i : Nat) d', l'[i]? = some d' → ∃ d, l[i]? = some d ∧ Co d d' := by
  induction h with
  | nil => exact ⟨rfl, fun i d' h => by simp at h⟩
  | cons h _ ih =>
    rename_i d d' l l' _
    refine ⟨by simp [ih.1], fun i d'' hd => ?_⟩
    cases i with
    | zero => simp at hd; subst hd; exact ⟨d, rfl, h⟩
    | succ i => exact ih.2 i d'' (by simpa using hd)

theorem Co.agg {cs cs' : List D} (h : CoL cs cs') : Co (.agg cs) (.agg cs') := fun G w v hv => by
  cases hv with
  | agg hs hV =>
    obtain ⟨h1, h2⟩ := h.spec
    exact .agg (hs.trans h1) fun i c d hc hd => let ⟨d0, k1, k2⟩ := h2 i d hd; k2 G w c (hV i c d0 hc k1)

def dels (σ : Sto) : List Nm → Sto
  | [] => σ
  | n :: r => dels (del σ n) r

theorem get_dels (σ : Sto) : ∀ (l : List Nm) (m : Nm), get (dels σ l) m = if m ∈ l then none else get σ m
  | [], m => by simp [dels]
  | n :: r, m => by
    simp only [dels]
    rw [get_dels _ r m, get_del]
    by_cases h1 : m ∈ r
    · rw [if_pos h1, if_pos (List.mem_cons_of_mem _ h1)]
    · rw [if_neg h1]
      by_cases h2 : n = m
      · rw [if_pos h2, if_pos (by rw [h2]; exact List.mem_cons_self)]
      · rw [if_neg h2, if_neg (by simp only [List.mem_cons, not_or]; exact ⟨fun e => h2 e.symm, h1⟩)]

theorem get_none_iff {σ : Sto} {m : Nm} : get σ m = none ↔ m ∉ σ.map (·.1) := by
  induction σ with
  | nil => simp [get]
  | cons p r ih =>
    obtain ⟨k, x⟩ := p
    simp only [get, List.map_cons, List.mem_cons, not_or]
    by_cases h : k = m
    · subst h; simp
    · rw [if_neg h, ih]
      exact ⟨fun h' => ⟨fun e => h e.symm, h'⟩, fun h' => h'.2⟩

/-- The operation's callee and its arguments, abstractly. -/
def calleeD (o : Oper) (e : Operand → D) : Option (FuncId × List D) :=
  match o.op with
  | .call c => match c.callee with
    | .value fo => match e fo with
      | .func (.func f) first captured => some (f, first ++ c.args.toList.map e ++ captured)
      | _ => none
    | _ => none
  | _ => none

section
variable {E : Ctx} {g : Nat} {o : Oper} {e : Operand → D} {κ : Kp}

theorem Vs.append {G : Gh} {w : World} {a b : Array Value} {x y : List D} (h1 : Vs G w a x) (h2 : Vs G w b y) : Vs G w (a ++ b) (x ++ y) := by
  refine ⟨by simp [h1.1, h2.1], fun i c d hc hd => ?_⟩
  have hs := h1.1
  by_cases hi : i < x.length
  · rw [List.getElem?_append_left hi] at hd
    rw [Array.getElem?_append_left (by omega)] at hc
    exact h1.2 i c d hc hd
  · rw [List.getElem?_append_right (by omega)] at hd
    rw [Array.getElem?_append_right (by omega)] at hc
    rw [hs] at hc
    exact h2.2 _ c d hc hd

theorem call_run {f : FuncId} {args : List D} (hc : calleeD o e = some (f, args)) {G : Gh} {w : World} {ρ : Operand → Value} (hV : ∀ x ∈ o.op.operands, V G w (ρ x) (e x)) (hcall : ∀ as w, (callFunc f as).run E.P w = .ok (.enter f as) w) :
    ∃ vs, (execOp ρ o).run E.P w = .ok (.enter f vs) w ∧ Vs G w vs args := by
  unfold calleeD at hc
  split at hc
  · rename_i c hop
    split at hc
    · rename_i fo hfo
      have hv := hV fo (by simp [hop, Op.operands, Call.operands, hfo])
      split at hc
      · rename_i f' first captured hef
        rw [hef] at hv
        cases hc
        generalize hρ : ρ fo = u at hv
        cases hv with
        | func h1 h2 h3 h4 =>
          rename_i fv cv
          refine ⟨fv ++ c.args.map ρ ++ cv, ?_, Vs.append (Vs.append ⟨h1, h3⟩ ⟨by simp, fun i x d hx hd => ?_⟩) ⟨h2, h4⟩⟩
          · simp only [execOp, hop, resolve, hfo, hρ, Deferred.ofValue, Sem.run_bind, Sem.run_pure, Result.andThen_ok, invoke]
            exact hcall _ _
          · simp only [Array.getElem?_map, Option.map_eq_some_iff] at hx
            obtain ⟨y, hy, rfl⟩ := hx
            simp only [List.getElem?_map, Array.getElem?_toList, hy, Option.map_some, Option.some.injEq] at hd
            subst hd
            refine hV y ?_
            simp only [hop, Op.operands, Call.operands, hfo]
            exact Array.mem_append.2 (.inr (Array.mem_of_getElem? hy))
      · cases hc
    · cases hc
  · cases hc

/-- A call, whatever it does to the objects that it is handed. -/
theorem top_call {f : FuncId} {args args' : List D} {σ σs σ' : Sto} {d : Nat} {r : D} (hc : calleeD o e = some (f, args)) (hco : CoL args args') (hd : o.dst = some d) (h : ACalls E f args' σs g d r σ') (hsub : ∀ p ∈ σs, get σ p.1 = some p.2) :
    TOp E g o e (get σ) r (get (σ' ++ dels σ (σs.map (·.1)))) := by
  intro w0 hA G w a hw hV ho hf K Q' hK
  obtain ⟨vs, hrun, hvs⟩ := call_run hc hV h.call
  obtain ⟨hcl, hcs⟩ := hco.spec
  have hvs' : Vs G w vs args' := ⟨hvs.1.trans hcl, fun i c d' hx hd' => let ⟨d0, k1, k2⟩ := hcs i d' hd'; k2 G w c (hvs.2 i c d0 hx k1)⟩
  have hsub' : ∀ n o, get σs n = some o → get σ n = some o := fun n o hn => hsub (n, o) (mem_of_get hn)
  have hrun2 := h.run w0 hA G w vs hw hvs' (ho.sub hsub') (hf d hd)
  refine op_enter hrun (Calls.mono hrun2 ?_)
  rintro en w' ⟨v, G', rfl, hw', hv, ho', hs⟩
  obtain ⟨f1, f2⟩ := frame (κs := get σs) (τ := get (dels σ (σs.map (·.1)))) hw ho hsub' (fun n o' hn => by
    rw [get_dels] at hn
    split at hn
    · cases hn
    · rename_i hnm
      exact ⟨hn, get_none_iff.2 hnm⟩) hs ho'
  rw [← get_append] at f1 f2
  exact hK G' w' v hw' hv f1 (f2.weaken fun n _ hn => by rw [hd]; exact hn)

/-- A call that leaves the objects that it is handed as they were. -/
theorem qop_call {f : FuncId} {args args' : List D} {σ σs nw : Sto} {d : Nat} {r : D} (hc : calleeD o e = some (f, args)) (hco : CoL args args') (hd : o.dst = some d) (h : ACalls E f args' σs g d r (nw ++ σs)) (hsub : ∀ p ∈ σs, get σ p.1 = some p.2) :
    QOp E g o e (get σ) r nw := by
  intro w0 hA G w a hw hV ho hf K Q' hK
  have hsub' : ∀ n o, get σs n = some o → get σ n = some o := fun n o hn => hsub (n, o) (mem_of_get hn)
  have he : get ((nw ++ σs) ++ dels σ (σs.map (·.1))) = Kp.or (get nw) (get σ) := by
    rw [get_append, get_append]
    funext n
    simp only [Kp.or]
    cases h1 : get nw n with
    | some x => simp
    | none =>
      simp only [Option.none_or]
      cases h2 : get σs n with
      | some x => rw [hsub' n x h2]; simp
      | none => rw [get_dels, if_neg (get_none_iff.1 h2)]; simp
  have := top_call hc hco hd h hsub w0 hA G w a hw hV ho hf K Q'
  rw [he] at this
  exact this hK

/-! ### Into a function and out of it -/

def argsEnv : Nat → List D → List (Nat × D)
  | _, [] => []
  | k, a :: r => (k, a) :: argsEnv (k + 1) r

theorem lk_argsEnv : ∀ (k : Nat) (l : List D) (t : Nat) (d : D), lk (argsEnv k l) t = some d → k ≤ t ∧ l[t - k]? = some d
  | _, [], _, _, h => by simp [argsEnv, lk] at h
  | k, a :: r, t, d, h => by
    simp only [argsEnv, lk] at h
    split at h
    · rename_i he
      subst he
      cases h
      simp
    · obtain ⟨h1, h2⟩ := lk_argsEnv (k + 1) r t d h
      refine ⟨by omega, ?_⟩
      rw [show t - k = (t - (k + 1)) + 1 by omega, List.getElem?_cons_succ]
      exact h2

/-- At a function's end: what it hands back, and what is left. -/
def Ends (E : Ctx) (fn : Func) (g d : Nat) (r : D) (σ' : Sto) (st : St) : Prop :=
  ∀ w0, E.A w0 → ∀ G w a, Rel w0 G w a st → (g < G.top ∧ ∀ j, G.ρ ⟨g, d, j⟩ = none) →
    ∃ v G', (results fn a.tmps).run E.P w = .ok v w ∧ WF w0 G' w ∧ V G' w v r ∧ Objs w0 G' w (get σ') ∧ Step (rsv g (some d)) G w (get st.σ) G' w (get σ')

def retQ (E : Ctx) (fn : Func) (g d : Nat) (r : D) (σ' : Sto) : Exit → St → Prop
  | .normal, st => Ends E fn g d r σ' st
  | .ret, st => Ends E fn g d r σ' st
  | _, _ => False

/-! ### The marks are taken at the end -/
/-- The block of a mark is shut. -/
def Shut (w w' : World) (D : Nat) : Prop := w.heap[D]? = some (.deferred (some [])) ∧ w' = w.putObj D (.deferred none)

theorem Shut.heap {w w' : World} {D b : Nat} (h : Shut w w' D) (hb : b ≠ D) : w'.heap[b]? = w.heap[b]? := by
  rw [h.2]
  unfold World.putObj
  simp only
  rw [Array.getElem?_setIfInBounds, if_neg (Ne.symm hb)]

theorem Shut.cell {w w' : World} {D : Nat} (h : Shut w w' D) {a : Addr} {v : Value} (hv : w.cell? a = some v) : w'.cell? a = some v := by
  have : a.block ≠ D := fun e => by
    simp [World.cell?, e, h.1] at hv
  rw [World.cell?_of_block (h.heap this)]
  exact hv

theorem V.shut {G : Gh} {w w' : World} {D0 : Nat} (h : Shut w w' D0) {v : Value} {d : D} (hv : V G w v d) : V G w' v d := by
  induction hv with
  | any v => exact .any v
  | unk b => exact .unk b
  | val v => exact .val v
  | agg h1 _ ih => exact .agg h1 ih
  | tup h1 _ ih => exact .tup h1 ih
  | nilsl x => exact .nilsl x
  | esl a x => exact .esl a x
  | sl X h1 h2 h3 h4 h5 h6 _ ih => exact .sl X h1 h2 h3 h4 h5 (fun i r j d hi hj => h.cell (h6 i r j d hi hj)) ih
  | own h1 => exact .own h1
  | ptr h1 => exact .ptr h1
  | aptr h1 => exact .aptr h1
  | eptr X h1 h2 _ ih => exact .eptr X h1 (fun j d hj => h.cell (h2 j d hj)) ih
  | mref h1 => exact .mref h1
  | yld h1 => exact .yld h1
  | fmap ms clock h1 h2 h3 h4 h5 _ ih => exact .fmap ms clock h1 ((h.heap (fun e => by rw [e, h.1] at h2; cases h2)).trans h2) h3 h4 h5 ih
  | func h1 h2 _ _ ih1 ih2 => exact .func h1 h2 ih1 ih2
  | iface _ ih => exact .iface ih

theorem shut_all {w0 : World} {G : Gh} {w w' : World} {κ : Kp} {D0 : Nat} (h : Shut w w' D0) (hb : w0.heap.size ≤ D0) (hF : G.F D0) (hw : WF w0 G w) (ho : Objs w0 G w κ) : WF w0 G w' ∧ Objs w0 G w' κ := by
  have hsz : w'.heap.size = w.heap.size := by rw [h.2]; unfold World.putObj; simp
  refine ⟨⟨?_, hw.old, fun b hb' => by rw [hsz]; exact hw.lt b hb', fun n v hn => ⟨(hw.nm n v hn).1, fun b hv => by rw [hsz]; exact (hw.nm n v hn).2 b hv⟩⟩, ⟨fun n o hn => ?_, ho.ne⟩⟩
  · refine ⟨?_, ?_, ?_, by rw [hsz]; exact hw.below.size, fun k hk => (h.heap (by omega)).trans (hw.below.block k hk)⟩
    · rw [h.2]; exact hw.below.os
    · rw [h.2]; exact hw.below.tape
    · rw [h.2]; exact hw.below.output
  · obtain ⟨v, h1, h2, h3⟩ := ho.ob n o hn
    exact ⟨v, h1, h2.mono (fun x d hx => hx.shut h) (fun b hb' => h.heap fun e => h3 b hb' (e ▸ hF)), h3⟩

theorem shut_step {R : Nm → Prop} {G1 G : Gh} {w1 w w' : World} {κ1 κ : Kp} {D0 : Nat} (h : Shut w w' D0) (hs : Step R G1 w1 κ1 G w κ) (hb : w1.heap.size ≤ D0) : Step R G1 w1 κ1 G w' κ := by
  have hsz : w'.heap.size = w.heap.size := by rw [h.2]; unfold World.putObj; simp
  exact { hs with
    size := by rw [hsz]; exact hs.size
    heap := fun b hb' hn => (h.heap (by omega)).trans (hs.heap b hb' hn) }

theorem acalls_of_awp {f : FuncId} {fn : Func} {c : Code} {N d : Nat} {args : List D} {σ σ' : Sto} {r : D} (hcall : ∀ as w, (callFunc f as).run E.P w = .ok (.enter f as) w) (hf : E.P.funcs[f]? = some fn) (hb : fn.body = some c) (hN : fn.ntmps = N) (hargs : args.length ≤ N)
    (h : AWp E N c (retQ E fn g d r σ') ⟨argsEnv 0 args, σ⟩) : ACalls E f args σ g d r σ' := by
  refine ⟨hcall, fun w0 hA G w vs hw hvs ho hfr => ?_⟩
  refine callsIn_wide.1 (callsIn_of_wp_marks (F := Fr none) (n := 0) hf hb (fr_fn _ _) ?_)
  have hwB : WF w0 { G with base := w.heap.size } w := ⟨hw.below, hw.old, hw.lt, hw.nm⟩
  have hV0 : ∀ v d, V G w v d → V { G with base := w.heap.size } w v d := fun v d h => h.mono (fun _ h => h) (fun _ _ => rfl) (fun _ _ h => h)
  have hoB : Objs w0 { G with base := w.heap.size } w (get σ) := ⟨fun n o hn => let ⟨v, h1, h2, h3⟩ := ho.ob n o hn; ⟨v, h1, h2.mono hV0 fun _ _ => rfl, h3⟩, ho.ne⟩
  have hsz : (vs ++ Array.replicate (fn.ntmps - vs.size) undef).size = N := by
    have := hvs.1
    simp
    omega
  refine wpIn_mono (h w0 hA { G with base := w.heap.size } w _ hsz ⟨hwB, fun t x ht => ?_, hoB, .nil (Nat.le_refl _)⟩ none (fun _ => rfl)) ?_
  · obtain ⟨_, h2⟩ := lk_argsEnv 0 args t x ht
    simp only [Nat.sub_zero] at h2
    have hlt : t < vs.size := by
      have := (List.getElem?_eq_some_iff.1 h2).1
      have := hvs.1
      omega
    refine ⟨by rw [hsz]; have := hvs.1; omega, ?_⟩
    rw [Array.getD_eq_getD_getElem?, Array.getElem?_append_left hlt]
    simp only [hlt, getElem?_pos, Option.getD_some]
    exact hV0 _ _ (hvs.2 t _ x (by simp [hlt]) h2)
  · rintro en a' w' ⟨G', st', h1, h2, h3, h4⟩
    have key : Ends E fn g d r σ' st' → LeavesInM (Fr none) 0 E.P fn a'.tmps (fun e w'' => ∃ v G'', e = .returned v ∧ WF w0 G'' w'' ∧ V G'' w'' v r ∧ Objs w0 G'' w'' (get σ') ∧ Step (rsv g (some d)) G w (get σ) G'' w'' (get σ')) a'.defers .returning w' := by
      intro he
      obtain ⟨hbs, Ds, hds, hnd, hD⟩ := h2.defers
      have hb3 := h3.base
      have hb4 : G'.base = w.heap.size := hb3
      -- one mark after the other
      have go : ∀ (Ds : List Nat) (w' : World) (a2 : Act), a2.tmps = a'.tmps → Ds.Nodup → (∀ b ∈ Ds, G'.F b ∧ G'.base ≤ b ∧ w'.heap[b]? = some (.deferred (some []))) → Rel w0 G' w' { a2 with defers := [] } st' → Step no { G with base := w.heap.size } w (get σ) G' w' (get st'.σ) →
          LeavesInM (Fr none) 0 E.P fn a'.tmps (fun e w'' => ∃ v G'', e = .returned v ∧ WF w0 G'' w'' ∧ V G'' w'' v r ∧ Objs w0 G'' w'' (get σ') ∧ Step (rsv g (some d)) G w (get σ) G'' w'' (get σ')) (Ds.map (fun b => { target := .collected b, args := #[] })) .returning w' := by
        intro Ds
        induction Ds with
        | nil =>
          intro w' a2 hat _ _ hr2 hs2
          obtain ⟨v, G'', k1, k2, k3, k4, k5⟩ := he w0 hA G' w' { a2 with defers := [] } hr2 ⟨Nat.lt_of_lt_of_le hfr.1 hs2.top, fun j => hs2.fresh hfr.1 (hfr.2 j) fun h => h⟩
          have hst := (hs2.weaken (R' := rsv g (some d)) fun _ _ h => h.elim).trans k5
          have k1' : (results fn a'.tmps).run E.P w' = .ok v w' := by rw [← hat]; exact k1
          refine ⟨v, k1', v, { G'' with base := G.base }, rfl, ⟨k2.below, k2.old, k2.lt, k2.nm⟩, k3.mono (fun _ h => h) (fun _ _ => rfl) (fun _ _ h => h), ⟨fun n o hn => let ⟨u, h1, h2, h3⟩ := k4.ob n o hn; ⟨u, h1, h2.mono (fun _ _ h => h.mono (fun _ h => h) (fun _ _ => rfl) (fun _ _ h => h)) fun _ _ => rfl, h3⟩, k4.ne⟩, ?_⟩
          exact ⟨hst.size, hst.heap, hst.F, hst.F', hst.ρ, hst.ρ', hst.top, hst.blk', hst.dom, rfl⟩
        | cons D0 Ds ih =>
          intro w' a2 hat hnd hD hr2 hs2
          obtain ⟨m1, m2, m3⟩ := hD D0 List.mem_cons_self
          obtain ⟨n1, n2⟩ := List.nodup_cons.1 hnd
          have hsh : Shut w' (w'.putObj D0 (.deferred none)) D0 := ⟨m3, rfl⟩
          have hbase : w.heap.size ≤ D0 := hb4 ▸ m2
          obtain ⟨q1, q2⟩ := shut_all hsh (Nat.le_trans hw.below.size hbase) m1 hr2.wf hr2.objs
          refine ⟨by simp, .inl ⟨D0, _, rfl, run_takeDeferred m3, ?_⟩⟩
          refine ih _ a2 hat n2 (fun b hb' => ?_) ⟨q1, fun t x ht => ⟨(hr2.env t x ht).1, (hr2.env t x ht).2.shut hsh⟩, q2, .nil (by have := hr2.defers.1; simpa [World.putObj] using this)⟩ (shut_step hsh hs2 hbase)
          obtain ⟨x1, x2, x3⟩ := hD b (List.mem_cons_of_mem _ hb')
          exact ⟨x1, x2, (hsh.heap fun e => n1 (e ▸ hb')).trans x3⟩
      rw [hds]
      exact go Ds w' a' rfl hnd hD ⟨h2.wf, h2.env, h2.objs, .nil hbs⟩ h3
    cases en with
    | normal => exact key h4
    | ret => exact key h4
    | _ => exact h4.elim

theorem Ends.sees {fn : Func} {d : Nat} {r : D} {σ' : Sto} {st : St} (h : Sees E st (Ends E fn g d r σ')) : Ends E fn g d r σ' st := by
  intro w0 hA G w a hr hfr
  obtain ⟨G1, st1, h1, h2, h3⟩ := h w0 hA G w a hr
  obtain ⟨v, G2, k1, k2, k3, k4, k5⟩ := h3 w0 hA G1 w a h1 ⟨Nat.lt_of_lt_of_le hfr.1 h2.top, fun j => h2.fresh hfr.1 (hfr.2 j) fun h => h⟩
  exact ⟨v, G2, k1, k2, k3, k4, (h2.weaken fun _ _ h => h.elim).trans k5⟩

/-- The results, abstractly. -/
def resD (P : Program) (st : St) : List ResultVar → Option (List D)
  | [] => some []
  | .tmp t :: r => match lk st.env t, resD P st r with
    | some d, some ds => some (d :: ds)
    | _, _ => none
  | .cell a t :: r => match lk st.env a, resD P st r with
    | some p, some ds => match loadD P (get st.σ) t p with
      | some d => some (d :: ds)
      | none => none
    | _, _ => none

def resV (ds : List D) : D :=
  match ds with
  | [d] => d
  | ds => .tup ds

def resOne (tmps : Array Value) : ResultVar → Sem Value
  | .tmp t => pure (tmps.getD t undef)
  | .cell p t => do loadVar t (← asAddr (tmps.getD p undef))

theorem results_eq (fn : Func) (tmps : Array Value) : results fn tmps = (do
    let vs ← fn.results.mapM (resOne tmps)
    pure (if h : vs.size = 1 then vs[0] else .tuple vs)) := by
  unfold results
  congr 1

theorem cell_run {G : Gh} {w : World} {σ : Sto} {u y : Value} {pd d : D} {t : TypeId} (hp : V G w u pd) (hld : loadD E.P (get σ) t pd = some d) (hy : (Instr.loadAt t u).run E.P w = .ok y w) : (do loadVar t (← asAddr u) : Sem Value).run E.P w = .ok y w := by
  cases hp <;> simp [loadD] at hld <;> simpa [Instr.loadAt, Instr.sureAddr, asAddr] using hy

theorem res_run {w0 : World} {G : Gh} {w : World} {a : Act} {st : St} (hr : Rel w0 G w a st) : ∀ (l : List ResultVar) (ds : List D), resD E.P st l = some ds →
    ∃ vs : List Value, (l.mapM (resOne a.tmps)).run E.P w = .ok vs w ∧ Vs G w vs.toArray ds
  | [], ds, h => by
    simp only [resD, Option.some.injEq] at h
    subst h
    exact ⟨[], rfl, rfl, fun i c d hc _ => by simp at hc⟩
  | .tmp t :: r, ds, h => by
    simp only [resD] at h
    split at h
    · rename_i d ds' hl hds
      cases h
      obtain ⟨vs, h1, h2⟩ := res_run hr r ds' hds
      refine ⟨a.tmps.getD t undef :: vs, ?_, ?_, fun i c d' hc hd => ?_⟩
      · rw [List.mapM_cons, Sem.run_bind]
        simp only [resOne, Sem.run_pure, Result.andThen_ok, Sem.run_bind, h1]
      · have := h2.1
        simpa using this
      · cases i with
        | zero => simp only [List.getElem?_toArray, List.getElem?_cons_zero, Option.some.injEq] at hc hd; subst hc; subst hd; exact (hr.env t d hl).2
        | succ i => exact h2.2 i c d' (by simpa using hc) (by simpa using hd)
    · cases h
  | .cell p t :: r, ds, h => by
    simp only [resD] at h
    split at h
    · rename_i pd ds' hl hds
      split at h
      · rename_i d hld
        cases h
        obtain ⟨vs, h1, h2⟩ := res_run hr r ds' hds
        have hp := (hr.env p pd hl).2
        obtain ⟨y, hy, hv⟩ := load_run (P := E.P) hr.objs hp hld
        have hy' : (resOne a.tmps (.cell p t)).run E.P w = .ok y w := cell_run hp hld hy
        refine ⟨y :: vs, ?_, ?_, fun i c d' hc hd => ?_⟩
        · rw [List.mapM_cons, Sem.run_bind, hy']
          simp only [Sem.run_pure, Result.andThen_ok, Sem.run_bind, h1]
        · have := h2.1
          simpa using this
        · cases i with
          | zero => simp only [List.getElem?_toArray, List.getElem?_cons_zero, Option.some.injEq] at hc hd; subst hc; subst hd; exact hv
          | succ i => exact h2.2 i c d' (by simpa using hc) (by simpa using hd)
      · cases h
    · cases h

theorem results_run {w0 : World} {G : Gh} {w : World} {a : Act} {st : St} (hr : Rel w0 G w a st) {fn : Func} {l : List ResultVar} (hl : fn.results = l.toArray) {ds : List D} (h : resD E.P st l = some ds) :
    ∃ v, (results fn a.tmps).run E.P w = .ok v w ∧ V G w v (resV ds) := by
  obtain ⟨vs, h1, h2⟩ := res_run (E := E) hr l ds h
  have hlen := h2.1
  simp only [List.size_toArray] at hlen
  refine ⟨if h : vs.toArray.size = 1 then vs.toArray[0] else .tuple vs.toArray, ?_, ?_⟩
  · rw [results_eq, hl, Sem.run_bind, Array.mapM_eq_mapM_toList]
    simp only [Sem.run_map, h1, Result.andThen_ok, Sem.run_pure]
  · match vs, ds, hlen with
    | [], [], _ => exact .tup rfl (fun i c d hc _ => by simp at hc)
    | [v], [d], _ => exact h2.2 0 v d rfl rfl
    | v :: v' :: vs, d :: d' :: ds, _ =>
      simp only [resV]
      rw [dif_neg (by simp)]
      exact .tup h2.1 h2.2

/-- The plain end: the results as they stand; some objects are dropped. -/
theorem ends_plain {fn : Func} {d : Nat} {r : D} {σ' : Sto} {st : St} {l : List ResultVar} (hl : fn.results = l.toArray) {ds : List D} (h : resD E.P st l = some ds) (hco : Co (resV ds) r) (hσ : ∀ p ∈ σ', get st.σ p.1 = some p.2) : Ends E fn g d r σ' st := by
  intro w0 _ G w a hr _
  obtain ⟨v, h1, h2⟩ := results_run (E := E) hr hl h
  have hs : ∀ n o, get σ' n = some o → get st.σ n = some o := fun n o hn => hσ (n, o) (mem_of_get hn)
  exact ⟨v, G, h1, hr.wf, hco G w v h2, hr.objs.sub hs, .drop hs⟩

end
end Go.Ab

namespace Go.Ab
open Go Go.RowKit

theorem sameBits_one {c : KC} {v : Value} (h : c.fits v = true) (n : Nat) : Instr.sameBits n v v = true := by
  rcases KC.fits_cases h with ⟨rfl, s, rfl⟩ | ⟨k, m, rfl, rfl⟩ | ⟨rfl, b, rfl⟩
  · cases n <;> simp [Instr.sameBits, beq_bytes]
  · cases n <;> simp [Instr.sameBits]
  · cases n <;> simp [Instr.sameBits]
theorem sameBits_list {n : Nat} : ∀ {cs : List KC} {l : List Value}, KC.fitsL cs l = true → ((l.zip l).all fun p => Instr.sameBits n p.1 p.2) = true
  | [], [], _ => rfl
  | [], _ :: _, h => by simp [KC.fitsL] at h
  | _ :: _, [], h => by simp [KC.fitsL] at h
  | c :: cs, v :: l, h => by
    simp only [KC.fitsL, Bool.and_eq_true] at h
    simp only [List.zip_cons_cons, List.all_cons, Bool.and_eq_true]
    exact ⟨sameBits_one h.1 n, sameBits_list h.2⟩
theorem sameBits_fits {ks : KS} {v : Value} (h : ks.fits v = true) (n : Nat) : Instr.sameBits (n + 1) v v = true := by
  cases ks with
  | one c => exact sameBits_one h _
  | agg cs =>
    cases v with
    | agg xs =>
      have := sameBits_list (n := n) (show KC.fitsL cs xs.toList = true by simpa [KS.fits] using h)
      simp only [Instr.sameBits, beq_self_eq_true, Bool.true_and]
      exact this
    | _ => simp [KS.fits] at h
theorem keyStays_run {P : Program} {w : World} {ks : KS} {v : Value} (h : ks.fits v = true) : (Instr.keyThatStays v v).run P w = .ok v w := by
  unfold Instr.keyThatStays
  rw [if_pos (sameBits_fits h 9999)]
  rfl

section
variable {E : Ctx} {g : Nat} {o : Oper} {e : Operand → D} {κ : Kp}

theorem MV.mono {G : Gh} {w w' : World} {ks : KS} {ms : Array MapEntry} {es : List (Value × D)} (h : MV G w ks ms es) (hV : ∀ x d, V G w x d → V G w' x d) : MV G w' ks ms es :=
  ⟨h.1, h.2.1, h.2.2.1, fun i m e hm he => hV _ _ (h.2.2.2 i m e hm he)⟩

theorem MV.push {G : Gh} {w : World} {ks : KS} {ms : Array MapEntry} {es : List (Value × D)} (h : MV G w ks ms es) {k v : Value} {d : D} {c : Nat} (hk : ks.fits k = true) (hv : V G w v d) : MV G w ks (ms.push { key := k, val := v, born := c }) (es ++ [(k, d)]) := by
  have at_ : ∀ (i : Nat) m e, (ms.push { key := k, val := v, born := c })[i]? = some m → (es ++ [(k, d)])[i]? = some e → (ms[i]? = some m ∧ es[i]? = some e) ∨ (m = { key := k, val := v, born := c } ∧ e = (k, d)) := fun i m e hm he => by
    rw [Array.getElem?_push] at hm
    split at hm
    · rename_i hi
      subst hi
      rw [h.1, List.getElem?_append_right (Nat.le_refl _), Nat.sub_self] at he
      cases hm; cases he
      exact .inr ⟨rfl, rfl⟩
    · rename_i hi
      have hlt := (Array.getElem?_eq_some_iff.1 hm).1
      rw [List.getElem?_append_left (by rw [← h.1]; exact hlt)] at he
      exact .inl ⟨hm, he⟩
  refine ⟨by simp [h.1], fun i m hm => ?_, fun i m e hm he => ?_, fun i m e hm he => ?_⟩
  · rw [Array.getElem?_push] at hm
    split at hm
    · cases hm; exact hk
    · exact h.2.1 i m hm
  · rcases at_ i m e hm he with ⟨h1, h2⟩ | ⟨rfl, rfl⟩
    · exact h.2.2.1 i m e h1 h2
    · rfl
  · rcases at_ i m e hm he with ⟨h1, h2⟩ | ⟨rfl, rfl⟩
    · exact h.2.2.2 i m e h1 h2
    · exact hv

theorem MV.set {G : Gh} {w : World} {ks : KS} {ms : Array MapEntry} {es : List (Value × D)} (h : MV G w ks ms es) {k v : Value} {d : D} (i : Nat) (hk : ks.fits k = true) (hv : V G w v d) : MV G w ks (ms.modify i fun e => { e with key := k, val := v }) (es.set i (k, d)) := by
  have at_ : ∀ (j : Nat) m, (ms.modify i fun e => { e with key := k, val := v })[j]? = some m → (i ≠ j ∧ ms[j]? = some m) ∨ (i = j ∧ m.key = k ∧ m.val = v) := fun j m hm => by
    rw [Array.getElem?_modify] at hm
    split at hm
    · rename_i hi
      obtain ⟨m0, _, rfl⟩ := Option.map_eq_some_iff.1 hm
      exact .inr ⟨hi, rfl, rfl⟩
    · rename_i hi
      exact .inl ⟨hi, hm⟩
  refine ⟨by simp [h.1], fun j m hm => ?_, fun j m e hm he => ?_, fun j m e hm he => ?_⟩
  · rcases at_ j m hm with ⟨_, h1⟩ | ⟨_, h1, _⟩
    · exact h.2.1 j m h1
    · rw [h1]; exact hk
  · rw [List.getElem?_set] at he
    rcases at_ j m hm with ⟨h0, h1⟩ | ⟨h0, h1, h2⟩
    · rw [if_neg h0] at he
      exact h.2.2.1 j m e h1 he
    · rw [if_pos h0] at he
      split at he
      · cases he; exact h1
      · cases he
  · rw [List.getElem?_set] at he
    rcases at_ j m hm with ⟨h0, h1⟩ | ⟨h0, h1, h2⟩
    · rw [if_neg h0] at he
      exact h.2.2.2 j m e h1 he
    · rw [if_pos h0] at he
      split at he
      · cases he; rw [h2]; exact hv
      · cases he

theorem top_mput {t kt et : TypeId} {m k x : Operand} (hop : o.op = .mapUpdate t m k x ∨ o.op = .insert t m k x) (hmt : mapT E.P t = some (kt, et)) {ks : KS} (hks : KS.of E.P kt = some ks) {n : Nm} (hm : e m = .mref n) {es : List (Value × D)} (hκ : κ n = some (.map ks es))
    {kv : Value} (hkd : keyD (e k) = some kv) (hf : ks.fits kv = true) : TOp E g o e κ (.val undef) (κ.put n (.map ks (mput es kv (e x)))) := by
  intro w0 hA G w a hw hV ho _ K Q' hK
  have hvm := hV m (by rcases hop with hop | hop <;> simp [hop, Op.operands])
  have hvk := hV k (by rcases hop with hop | hop <;> simp [hop, Op.operands])
  have hvx := hV x (by rcases hop with hop | hop <;> simp [hop, Op.operands])
  rw [hm] at hvm
  have hk := keyD_spec hvk hkd
  obtain ⟨v, hρ, ⟨r, ms, clock, rfl, hh, hmv⟩, hnF⟩ := ho.ob n _ hκ
  have hmv : MV G w ks ms es := hmv
  generalize hvm' : a.eval m = vm at hvm
  cases hvm with
  | mref hρ' =>
    rw [hρ] at hρ'
    cases hρ'
    have ht := mapT_spec hmt
    have hc := checkKey_run (P := E.P) (w := w) hks hf false
    have hfk := findKey_run (P := E.P) (w := w) hks hf ms.toList hmv.fits
    have hstay := keyStays_run (P := E.P) (w := w) hf
    have step : ∀ (o' : Obj) ms' clock' es', o' = .map ms' clock' → (Instr.mapUpdate t (.map (some r)) kv (a.eval x)).run E.P w = .ok () { w with heap := w.heap.setIfInBounds r o' } → MV G w ks ms' es' →
        mput es kv (e x) = es' → ∀ r, o.wpIn (Fr r) 0 E.P a w K Q' := fun o' ms' clock' es' ho' hrun hmv' hes => by
      obtain ⟨h1, h2⟩ := MapKept.heap_set (o' := o') hh
      have hex : (execOp a.eval o).run E.P w = .ok .skip { w with heap := w.heap.setIfInBounds r o' } := by
        rcases hop with hop | hop <;> simp only [execOp, hop, Sem.run_bind, hvm', hk, hrun, Result.andThen_ok, Sem.run_pure]
      refine op_skip hex ?_
      have hgr : w.grownBy { w with heap := w.heap.setIfInBounds r o' } (blk (.map (some r))) := ⟨rfl, rfl, rfl, by simp, fun b _ hb => h2 b fun he => hb (by simp [blk, he])⟩
      obtain ⟨g1, g2, g3⟩ := change_obj (ob' := .map ks es') hw ho hκ hρ hgr ⟨r, ms', clock', rfl, by rw [← ho']; exact h1, hmv'.mono fun y d hy => hy.mono (fun _ h => h) (fun b hF => h2 b fun he => hnF r rfl (he ▸ hF)) (fun _ _ h => h)⟩
      rw [hes] at hK
      exact hK G _ _ g1 (.val _) g2 (g3.weaken fun _ _ h => h.elim)
    rcases hmv.find kv with ⟨h1, h2, h3⟩ | ⟨i, m0, d, h1, h2, h3, h4, h5, h6, h7⟩
    · refine step _ _ (clock + 1) _ rfl ?_ (hmv.push (c := clock) hf hvx) (mput_new h3)
      simp only [Instr.mapUpdate, Sem.run_bind, run_underlying ht, Result.andThen_ok, MapKept.run_getObj_map hh, hc, hfk, h1, MapKept.run_setObj_map _ hh]
    · refine step _ _ clock _ rfl ?_ (hmv.set i hf hvx) (mput_at h4 h7)
      simp only [Instr.mapUpdate, Sem.run_bind, run_underlying ht, Result.andThen_ok, MapKept.run_getObj_map hh, hc, hfk, h1, h2, Option.map_some, Option.getD_some, h3, hstay, MapKept.run_setObj_map _ hh]

end
end Go.Ab

namespace Go.Ab
open Go Go.RowKit

def nodupB : List Nat → Bool
  | [] => true
  | a :: l => !l.elem a && nodupB l

theorem nodupB_spec : ∀ l, nodupB l = true → l.Nodup
  | [], _ => .nil
  | a :: l, h => by
    simp only [nodupB, Bool.and_eq_true, Bool.not_eq_true', List.elem_eq_contains] at h
    exact List.nodup_cons.2 ⟨fun hm => by simp [hm] at h, nodupB_spec l h.2⟩

def dstsOk (N : Nat) (l : List Oper) : Bool := nodupB (l.filterMap (·.dst)) && (l.filterMap (·.dst)).all fun d => decide (d < N)

theorem dstsOk_spec {N : Nat} {l : List Oper} (h : dstsOk N l = true) : (l.filterMap (·.dst)).Nodup ∧ ∀ o ∈ l, ∀ d, o.dst = some d → d < N := by
  simp only [dstsOk, Bool.and_eq_true, List.all_eq_true, decide_eq_true_eq] at h
  exact ⟨nodupB_spec _ h.1, fun o ho d hd => h.2 d (List.mem_filterMap.2 ⟨o, ho, hd⟩)⟩

/-- One generation of names more. -/
theorem bump {w0 : World} {G : Gh} {w : World} {a : Act} {st : St} (hr : Rel w0 G w a st) :
    ∃ G1 : Gh, G1.top = G.top + 1 ∧ (∀ i j, G1.ρ ⟨G.top, i, j⟩ = none) ∧ (∀ i j, get st.σ ⟨G.top, i, j⟩ = none) ∧ Rel w0 G1 w a st ∧ Step no G w (get st.σ) G1 w (get st.σ) := by
  have hV : ∀ v d, V G w v d → V { G with top := G.top + 1 } w v d := fun v d h => h.mono (fun _ h => h) (fun _ _ => rfl) (fun _ _ h => h)
  have hfr : ∀ i j, G.ρ ⟨G.top, i, j⟩ = none := fun i j => by
    cases h : G.ρ ⟨G.top, i, j⟩ with
    | none => rfl
    | some v => exact absurd (hr.wf.nm _ v h).1 (Nat.lt_irrefl _)
  refine ⟨{ G with top := G.top + 1 }, rfl, hfr, fun i j => ?_, ⟨⟨hr.wf.below, hr.wf.old, hr.wf.lt, fun n v hn => ⟨Nat.lt_succ_of_lt (hr.wf.nm n v hn).1, (hr.wf.nm n v hn).2⟩⟩, fun t d ht => ⟨(hr.env t d ht).1, hV _ _ (hr.env t d ht).2⟩, ⟨fun n o hn => ?_, hr.objs.ne⟩, hr.defers⟩, ?_⟩
  · cases h : get st.σ ⟨G.top, i, j⟩ with
    | none => rfl
    | some o =>
      obtain ⟨v, hv, _⟩ := hr.objs.ob _ o h
      rw [hfr i j] at hv; cases hv
  · obtain ⟨v, hv, hov, hF⟩ := hr.objs.ob n o hn
    exact ⟨v, hv, hov.mono hV fun _ _ => rfl, hF⟩
  · exact ⟨Nat.le_refl _, fun _ _ _ => rfl, fun _ h => h, fun _ h => .inl h, fun _ _ h => h, fun _ _ h _ => h, Nat.le_succ _, fun _ h => .inr h, fun _ h => .inl h, rfl⟩

section
variable {E : Ctx} {N : Nat} {st : St}

theorem awp_region {Q : Exit → St → Prop} {id : Nat} {l : List Oper} (hd : dstsOk N l = true) (h : ∀ g, (∀ i j, get st.σ ⟨g, i, j⟩ = none) → AOps E N l g (fun s => Q .normal s) l st) : AWp E N (.region id l.toArray false) Q st := by
  intro w0 hA G w a hN hr r hrd
  obtain ⟨G1, ht, hf, hσ, hr1, hs1⟩ := bump hr
  obtain ⟨hnd, hlt⟩ := dstsOk_spec hd
  refine wpIn_region_lit (h G.top hσ w0 hA G1 w a hN hr1 (by omega) hnd (fun o ho d hd => ⟨hlt o ho d hd, fun j => hf d j⟩) _ (fun G' st' a' w' h1 h2 h3 h4 => ⟨G', st', h1, h2, ?_, h4⟩) r)
  exact ((hs1.weaken fun _ _ h => h.elim).trans h3).weaken fun n hn he => by omega

/-! ### Evaluation -/

def wantL (ds : List (Option Tmp)) (env : List (Nat × D)) : Option (Nat × Bool) → Option Bool
  | none => some true
  | some (j, b) => match ds[j]? with
    | some (some t) => match lk env t with
      | some (.val (.bool c)) => some (c == b)
      | some (.val (.tuple _)) => some false
      | _ => none
    | _ => some false

theorem wantL_eq {ops : List Oper} {ds : List (Option Tmp)} (h : ops.map (·.dst) = ds) (env : List (Nat × D)) (o : Oper) : wantL ds env o.guard = wantD ops env o := by
  subst h
  unfold wantL wantD
  cases o.guard with
  | none => rfl
  | some p =>
    obtain ⟨j, b⟩ := p
    simp only [List.getElem?_map]
    cases ops[j]? with
    | none => rfl
    | some x =>
      simp only [Option.map_some, Option.bind_some]
      cases x.dst <;> rfl

def storeD (P : Program) (t : TypeId) (ad v : D) (σ : Sto) : Option Sto :=
  match ad with
  | .ptr n off => match get σ n with
    | some (.box u cs) => if szOf P t = some v.cells.length ∧ off + v.cells.length ≤ cs.length ∧ v.cells.all D.one = true then some (set σ n (.box u (over cs off v.cells))) else none
    | _ => none
  | .aptr n k i j => match get σ n with
    | some (.arr u k' rows) => if k' = k then match rows[i]? with
        | some (.agg rc) => if szOf P t = some v.cells.length ∧ j + v.cells.length ≤ rc.length ∧ v.cells.all D.one = true then some (set σ n (.arr u k (rows.set i (.agg (over rc j v.cells))))) else none
        | _ => none
      else none
    | _ => none
  | _ => none

theorem storeD_sound {g : Nat} {o : Oper} {e : Operand → D} {σ σ' : Sto} {t : TypeId} {ao x : Operand} (hop : o.op = .store t ao x) (h : storeD E.P t (e ao) (e x) σ = some σ') : TOp E g o e (get σ) (.val undef) (get σ') := by
  unfold storeD at h
  split at h
  · rename_i n off ha
    split at h
    · rename_i u cs hk
      split at h
      · rename_i hc
        cases h
        rw [get_set' _ _ _ (by rw [hk]; simp)]
        exact top_store hop ha hk rfl hc.1 hc.2.1 hc.2.2
      · cases h
    · cases h
  · rename_i n k i j ha
    split at h
    · rename_i u k' rows hk
      split at h
      · rename_i hkk
        subst hkk
        split at h
        · rename_i rc hr
          split at h
          · rename_i hc
            cases h
            rw [get_set' _ _ _ (by rw [hk]; simp)]
            exact top_store_arr hop ha hk hr rfl hc.1 hc.2.1 hc.2.2 rfl (.inr ⟨_, rfl⟩)
          · cases h
        · cases h
      · cases h
    · cases h
  · cases h

noncomputable def mputD (P : Program) (t : TypeId) (m k x : D) (σ : Sto) : Option Sto :=
  match m with
  | .mref n => match get σ n with
    | some (.map ks es) => match mapT P t, keyD k with
      | some (kt, _), some kv => if KS.of P kt = some ks ∧ ks.fits kv = true then some (set σ n (.map ks (mput es kv x))) else none
      | _, _ => none
    | _ => none
  | _ => none

theorem mputD_sound {g : Nat} {o : Oper} {e : Operand → D} {σ σ' : Sto} {t : TypeId} {m k x : Operand} (hop : o.op = .mapUpdate t m k x ∨ o.op = .insert t m k x) (h : mputD E.P t (e m) (e k) (e x) σ = some σ') : TOp E g o e (get σ) (.val undef) (get σ') := by
  unfold mputD at h
  split at h
  · rename_i n hm
    split at h
    · rename_i ks es hκ
      split at h
      · rename_i kt et kv hmt hkd
        split at h
        · rename_i hc
          cases h
          rw [get_set' _ _ _ (by rw [hκ]; simp)]
          exact top_mput hop hmt hc.1 hm hκ hkd hc.2
        · cases h
      · cases h
    · cases h
  · cases h

noncomputable def stepD (E : Ctx) (ds : List (Option Tmp)) (g : Nat) (o : Oper) (st : St) : Option St :=
  match wantL ds st.env o.guard with
  | some true => match o.op with
    | .store t a x => (storeD E.P t (ev E st.env a) (ev E st.env x) st.σ).map (st.env' o.dst (.val undef))
    | .mapUpdate t m k x => (mputD E.P t (ev E st.env m) (ev E st.env k) (ev E st.env x) st.σ).map (st.env' o.dst (.val undef))
    | .insert t m k x => (mputD E.P t (ev E st.env m) (ev E st.env k) (ev E st.env x) st.σ).map (st.env' o.dst (.val undef))
    | _ => (dop E.P g o (ev E st.env) (get st.σ)).map fun p => st.put o.dst p.1 p.2
  | some false => some (st.put o.dst (.val undef) [])
  | none => none

noncomputable def arun (E : Ctx) (ds : List (Option Tmp)) (g : Nat) : Nat → List Oper → St → Option (List Oper × St)
  | 0, l, st => some (l, st)
  | _ + 1, [], st => some ([], st)
  | n + 1, o :: r, st => match stepD E ds g o st with
    | some st' => arun E ds g n r st'
    | none => none

variable {ops l l' : List Oper} {ds : List (Option Tmp)} {g : Nat} {Q : St → Prop} {st' : St}

theorem aops_step {o : Oper} {r : List Oper} (hds : ops.map (·.dst) = ds) (h : stepD E ds g o st = some st') (k : AOps E N ops g Q r st') : AOps E N ops g Q (o :: r) st := by
  unfold stepD at h
  rw [wantL_eq hds] at h
  split at h
  · rename_i hw
    split at h
    · rename_i t a x hop
      simp only [Option.map_eq_some_iff] at h
      obtain ⟨σ', hσ, rfl⟩ := h
      exact aops_t hw (storeD_sound hop hσ) k
    · rename_i t m q x hop
      simp only [Option.map_eq_some_iff] at h
      obtain ⟨σ', hσ, rfl⟩ := h
      exact aops_t hw (mputD_sound (.inl hop) hσ) k
    · rename_i t m q x hop
      simp only [Option.map_eq_some_iff] at h
      obtain ⟨σ', hσ, rfl⟩ := h
      exact aops_t hw (mputD_sound (.inr hop) hσ) k
    · simp only [Option.map_eq_some_iff] at h
      obtain ⟨p, hp, rfl⟩ := h
      exact aops_q hw (dop_sound hp) k
  · rename_i hw
    cases h
    exact aops_skip hw k
  · cases h

theorem aops_run (n : Nat) (hds : ops.map (·.dst) = ds) : ∀ {l : List Oper} {st : St}, arun E ds g n l st = some (l', st') → AOps E N ops g Q l' st' → AOps E N ops g Q l st := by
  induction n with
  | zero =>
    intro l st h k
    simp only [arun, Option.some.injEq, Prod.mk.injEq] at h
    obtain ⟨rfl, rfl⟩ := h
    exact k
  | succ n ih =>
    intro l st h k
    cases l with
    | nil =>
      simp only [arun, Option.some.injEq, Prod.mk.injEq] at h
      obtain ⟨rfl, rfl⟩ := h
      exact k
    | cons o r =>
      simp only [arun] at h
      split at h
      · rename_i s hs
        exact aops_step hds hs (ih h k)
      · cases h

/-- A call that turns objects. -/
theorem aops_call {o : Oper} {r : List Oper} {f : FuncId} {args args' : List D} {σs σ' : Sto} {d : Nat} {x : D} (hds : ops.map (·.dst) = ds) (hw : wantL ds st.env o.guard = some true) (hd : o.dst = some d) (hc : calleeD o (ev E st.env) = some (f, args)) (h : ACalls E f args' σs g d x σ') (hco : CoL args args')
    (hsub : ∀ p ∈ σs, get st.σ p.1 = some p.2) (k : AOps E N ops g Q r { env := (d, x) :: st.env, σ := σ' ++ dels st.σ (σs.map (·.1)) }) : AOps E N ops g Q (o :: r) st := by
  refine aops_t (by rw [← wantL_eq hds]; exact hw) (top_call hc hco hd h hsub) ?_
  simp only [hd, St.env']
  exact k

/-- A call that is handed no objects. -/
theorem aops_pure {o : Oper} {r : List Oper} {f : FuncId} {args args' : List D} {nw : Sto} {d : Nat} {x : D} (hds : ops.map (·.dst) = ds) (hw : wantL ds st.env o.guard = some true) (hd : o.dst = some d) (hc : calleeD o (ev E st.env) = some (f, args)) (h : ACalls E f args' [] g d x nw) (hco : CoL args args')
    (k : AOps E N ops g Q r { env := (d, x) :: st.env, σ := nw ++ st.σ }) : AOps E N ops g Q (o :: r) st :=
  aops_call hds hw hd hc h hco (fun p hp => by cases hp) k

/-- append. -/
theorem aops_append {o : Oper} {r : List Oper} {t el : TypeId} {so x : Operand} {d : Nat} (hds : ops.map (·.dst) = ds) (hw : wantL ds st.env o.guard = some true) (hop : o.op = .call { callee := .builtin .append, args := #[so, x], argTypes := #[t, t] }) (hd : o.dst = some d)
    {n : Nm} {len : Nat} (hs : ev E st.env so = .own n len) {k : Nat} {rows rows2 : List D} (hκ : get st.σ n = some (.arr el k rows)) {xf : Bool} (hx : ev E st.env x = .sl xf rows2)
    (he : elemS E.P t = some el) (hk : szOf E.P el = some k) {bs : Nat} (hbs : bytesOf E.P el = some bs) {z : Value} (hz : zeroOf E.P el = some z) (hzs : z.cells.size = k) (hk0 : 0 < k) (hok : okRows k rows2)
    (h63 : rows.length + rows2.length ≤ 9223372036854775807) (hb : (rows.length + rows2.length) * bs ≤ 140737488355328)
    (kk : AOps E N ops g Q r { env := (d, .own ⟨g, d, 0⟩ (rows.length + rows2.length)) :: st.env, σ := (⟨g, d, 0⟩, .arr el k (rows ++ rows2)) :: del st.σ n }) : AOps E N ops g Q (o :: r) st := by
  have := top_append (E := E) (g := g) (e := ev E st.env) (κ := get st.σ) hop hd hs hκ hx he hk hbs hz hzs hk0 hok h63 hb
  have he2 : (Kp.del (get st.σ) n).put ⟨g, d, 0⟩ (.arr el k (rows ++ rows2)) = get ((⟨g, d, 0⟩, .arr el k (rows ++ rows2)) :: del st.σ n) := by
    funext m
    simp only [Kp.put, Kp.del, get, get_del]
  rw [he2] at this
  refine aops_t (by rw [← wantL_eq hds]; exact hw) this ?_
  simp only [hd, St.env']
  exact kk

end
end Go.Ab

namespace Go.Ab
open Go Go.RowKit

/-! ### Which operation waits for which -/

def maskOf (acc : List Nat) (o : Oper) : Nat :=
  o.after.toList.foldl (fun m e => if Region.binds .any e then m ||| 2 ^ e.on ||| acc.getD e.on 0 else m) 0

def masks : List Oper → List Nat → List Nat
  | [], acc => acc
  | o :: r, acc => masks r (acc ++ [maskOf acc o])

theorem foldl_bit (acc : List Nat) (j : Nat) : ∀ (l : List Edge) (m : Nat), (l.foldl (fun m e => if Region.binds .any e then m ||| 2 ^ e.on ||| acc.getD e.on 0 else m) m).testBit j = true →
    m.testBit j = true ∨ ∃ e ∈ l, Region.binds .any e = true ∧ (e.on = j ∨ (acc.getD e.on 0).testBit j = true)
  | [], m, h => .inl h
  | e :: l, m, h => by
    simp only [List.foldl_cons] at h
    rcases foldl_bit acc j l _ h with h1 | ⟨e', he, h2⟩
    · split at h1
      · rename_i hb
        simp only [Nat.testBit_or, Bool.or_eq_true] at h1
        rcases h1 with (h1 | h1) | h1
        · exact .inl h1
        · refine .inr ⟨e, List.mem_cons_self, hb, .inl ?_⟩
          rw [Nat.testBit_two_pow] at h1
          simpa using h1
        · exact .inr ⟨e, List.mem_cons_self, hb, .inr h1⟩
      · exact .inl h1
    · exact .inr ⟨e', List.mem_cons_of_mem _ he, h2⟩

theorem masks_get : ∀ (l : List Oper) (acc : List Nat), (masks l acc).length = acc.length + l.length ∧ (∀ i : Nat, i < acc.length → (masks l acc)[i]? = acc[i]?) ∧
    ∀ (i : Nat) o, l[i]? = some o → (masks l acc)[acc.length + i]? = some (maskOf ((masks l acc).take (acc.length + i)) o)
  | [], acc => ⟨by simp [masks], fun _ _ => rfl, fun i o h => by simp at h⟩
  | o :: r, acc => by
    obtain ⟨h1, h2, h3⟩ := masks_get r (acc ++ [maskOf acc o])
    simp only [masks]
    refine ⟨by rw [h1]; simp; omega, fun i hi => ?_, fun i o' ho => ?_⟩
    · rw [h2 i (by simp; omega), List.getElem?_append_left hi]
    · cases i with
      | zero =>
        simp only [List.getElem?_cons_zero, Option.some.injEq] at ho
        subst ho
        rw [Nat.add_zero, h2 acc.length (by simp), List.getElem?_append_right (by omega)]
        simp only [Nat.sub_self, List.getElem?_cons_zero, Option.some.injEq]
        congr 1
        apply List.ext_getElem?
        intro j
        rw [List.getElem?_take]
        split
        · rename_i hj
          rw [h2 j (by simp; omega), List.getElem?_append_left hj]
        · rename_i hj
          rw [List.getElem?_eq_none (by omega)]
      | succ i =>
        have := h3 i o' (by simpa using ho)
        simp only [List.length_append, List.length_singleton] at this
        rw [show acc.length + (i + 1) = acc.length + 1 + i by omega]
        exact this

def edgesOk : Nat → List Oper → Bool
  | _, [] => true
  | i, o :: r => (o.after.toList.all fun e => !Region.binds .any e || decide (e.on < i)) && edgesOk (i + 1) r

theorem edgesOk_spec : ∀ (k : Nat) (l : List Oper), edgesOk k l = true → ∀ (i : Nat) o, l[i]? = some o → ∀ e ∈ o.after, Region.binds .any e = true → e.on < k + i
  | _, [], _, i, o, h, _, _, _ => by simp at h
  | k, x :: r, h, i, o, ho, e, he, hb => by
    simp only [edgesOk, Bool.and_eq_true, List.all_eq_true, Bool.or_eq_true, Bool.not_eq_true', decide_eq_true_eq] at h
    cases i with
    | zero =>
      simp only [List.getElem?_cons_zero, Option.some.injEq] at ho
      subst ho
      rcases h.1 e (by simpa using he) with h1 | h1
      · rw [hb] at h1; cases h1
      · omega
    | succ i =>
      have := edgesOk_spec (k + 1) r h.2 i o (by simpa using ho) e he hb
      omega

/-- What has come up is closed: with an operation all that it waits for. -/
def Down (l : List Oper) (L : Nat → Prop) : Prop := ∀ (i : Nat) o, l[i]? = some o → L i → ∀ e ∈ o.after, Region.binds .any e = true → L e.on

theorem anc {l : List Oper} (hE : edgesOk 0 l = true) {L : Nat → Prop} (hL : Down l L) : ∀ (i : Nat) o, l[i]? = some o → (∀ e ∈ o.after, Region.binds .any e = true → L e.on) → ∀ j m, (masks l [])[i]? = some m → m.testBit j = true → L j := by
  intro i
  induction i using Nat.strongRecOn with
  | _ i ih =>
    intro o ho hall j m hm hb
    obtain ⟨h1, _, h3⟩ := masks_get l []
    have := h3 i o ho
    simp only [List.length_nil, Nat.zero_add] at this h1
    rw [this] at hm
    cases hm
    rcases foldl_bit _ j _ _ hb with h | ⟨e, he, hbd, h⟩
    · simp at h
    · have he' : e ∈ o.after := by simpa using he
      have hlt := edgesOk_spec 0 l hE i o ho e he' hbd
      simp only [Nat.zero_add] at hlt
      rcases h with rfl | h
      · exact hall e he' hbd
      · have hi := (List.getElem?_eq_some_iff.1 ho).1
        have hoe : l[e.on]? = some l[e.on] := List.getElem?_eq_getElem (by omega)
        have hme : (masks l [])[e.on]? = some (masks l [])[e.on] := List.getElem?_eq_getElem (by omega)
        refine ih e.on hlt _ hoe (hL e.on _ hoe (hall e he' hbd)) j _ hme ?_
        rw [List.getD_eq_getElem?_getD, List.getElem?_take, if_pos hlt, hme] at h
        exact h

/-- The temporaries that an operation looks at. -/
def looks (l : List Oper) (o : Oper) : List Nat :=
  (o.op.operands.toList.filterMap fun | .tmp t => some t | _ => none) ++
  (match o.guard with
   | some (j, _) => ((l[j]?).bind (·.dst)).toList
   | none => [])

def bit (M : List Nat) (i j : Nat) : Bool := (M.getD i 0).testBit j

/-- For operation i: each temporary that it looks at and that operation j writes: one waits for the other. -/
def looksOk (M : List Nat) (l : List Oper) (i : Nat) (o : Oper) : Bool :=
  (looks l o).all fun t => (List.range l.length).all fun j =>
    !((l[j]?).bind (·.dst) == some t) || j == i || (if j < i then bit M i j else bit M j i)

def allIdx (f : Nat → Oper → Bool) : Nat → List Oper → Bool
  | _, [] => true
  | i, o :: r => f i o && allIdx f (i + 1) r

theorem allIdx_spec {f : Nat → Oper → Bool} : ∀ {k : Nat} {l : List Oper}, allIdx f k l = true → ∀ (i : Nat) o, l[i]? = some o → f (k + i) o = true
  | _, [], _, i, o, h => by simp at h
  | k, x :: r, h, i, o, ho => by
    simp only [allIdx, Bool.and_eq_true] at h
    cases i with
    | zero => simp only [List.getElem?_cons_zero, Option.some.injEq] at ho; subst ho; exact h.1
    | succ i =>
      have := allIdx_spec h.2 i o (by simpa using ho)
      rw [show k + (i + 1) = k + 1 + i by omega]
      exact this

def regOk (N : Nat) (l : List Oper) (nq : Nat) : Bool :=
  dstsOk N l && edgesOk 0 l && allIdx (looksOk (masks l []) l) 0 l && allIdx (fun i _ => decide (i < nq) || (List.range i).all fun j => bit (masks l []) i j) 0 l

/-! ### The first part, in the order of the text -/

def putE (env : List (Nat × D)) (dst : Option Tmp) (v : D) : List (Nat × D) :=
  match dst with
  | some d => (d, v) :: env
  | none => env

def QStep (E : Ctx) (ops : List Oper) (g : Nat) (σ0 : Sto) (o : Oper) (env : List (Nat × D)) (v : D) (nw : Sto) : Prop :=
  (wantD ops env o = some true ∧ QOp E g o (ev E env) (get σ0) v nw ∧ ∀ p ∈ nw, p.1.g = g ∧ o.dst = some p.1.i) ∨ (wantD ops env o = some false ∧ v = .val undef ∧ nw = [])

inductive QTrace (E : Ctx) (ops : List Oper) (g : Nat) (σ0 : Sto) : List Oper → List (Nat × D) → List (D × Sto) → List (Nat × D) → Prop
  | nil {env : List (Nat × D)} : QTrace E ops g σ0 [] env [] env
  | cons {o : Oper} {r : List Oper} {env env' : List (Nat × D)} {v : D} {nw : Sto} {tr : List (D × Sto)} : QStep E ops g σ0 o env v nw → QTrace E ops g σ0 r (putE env o.dst v) tr env' → QTrace E ops g σ0 (o :: r) env ((v, nw) :: tr) env'

def accN : List (D × Sto) → Sto → Sto
  | [], acc => acc
  | (_, nw) :: r, acc => accN r (nw ++ acc)

def QRun (E : Ctx) (ops : List Oper) (g : Nat) (σ0 : Sto) (K : St → Prop) (l : List Oper) (st : St) : Prop :=
  ∃ tr env', QTrace E ops g σ0 l st.env tr env' ∧ K ⟨env', accN tr st.σ⟩

section
variable {E : Ctx} {N : Nat} {ops : List Oper} {g : Nat} {σ0 : Sto} {st : St}

theorem qrun_nil {K : St → Prop} (h : K st) : QRun E ops g σ0 K [] st := ⟨[], st.env, .nil, h⟩

theorem qrun_cons {K : St → Prop} {o : Oper} {r : List Oper} {v : D} {nw : Sto} (hs : QStep E ops g σ0 o st.env v nw) (h : QRun E ops g σ0 K r { env := putE st.env o.dst v, σ := nw ++ st.σ }) : QRun E ops g σ0 K (o :: r) st :=
  let ⟨tr, env', h1, h2⟩ := h
  ⟨(v, nw) :: tr, env', .cons hs h1, h2⟩

theorem QTrace.length {l : List Oper} {env env' : List (Nat × D)} {tr : List (D × Sto)} (h : QTrace E ops g σ0 l env tr env') : tr.length = l.length := by
  induction h with
  | nil => rfl
  | cons _ _ ih => simp [ih]

theorem QTrace.split {l : List Oper} {env env' : List (Nat × D)} {tr : List (D × Sto)} (h : QTrace E ops g σ0 l env tr env') : ∀ (i : Nat) o, l[i]? = some o → ∃ envi v nw, QTrace E ops g σ0 (l.take i) env (tr.take i) envi ∧ tr[i]? = some (v, nw) ∧ QStep E ops g σ0 o envi v nw := by
  induction h with
  | nil => intro i o h; simp at h
  | cons hs _ ih =>
    intro i o ho
    cases i with
    | zero => simp only [List.getElem?_cons_zero, Option.some.injEq] at ho; subst ho; exact ⟨_, _, _, .nil, rfl, hs⟩
    | succ i =>
      obtain ⟨envi, v, nw, h1, h2, h3⟩ := ih i o (by simpa using ho)
      exact ⟨envi, v, nw, .cons hs h1, h2, h3⟩

theorem QTrace.env {l : List Oper} {env env' : List (Nat × D)} {tr : List (D × Sto)} (h : QTrace E ops g σ0 l env tr env') (t : Nat) :
    (∃ (j : Nat) (o : Oper) (v : D) (nw : Sto), l[j]? = some o ∧ o.dst = some t ∧ tr[j]? = some (v, nw) ∧ lk env' t = some v) ∨ ((∀ (j : Nat) o, l[j]? = some o → o.dst ≠ some t) ∧ lk env' t = lk env t) := by
  induction h with
  | nil => exact .inr ⟨fun j o h => by simp at h, rfl⟩
  | cons hs _ ih =>
    rename_i o r env env' v nw tr _
    rcases ih with ⟨j, o', v', nw', h1, h2, h3, h4⟩ | ⟨h1, h2⟩
    · exact .inl ⟨j + 1, o', v', nw', by simpa using h1, h2, by simpa using h3, h4⟩
    · by_cases hd : o.dst = some t
      · refine .inl ⟨0, o, v, nw, rfl, hd, rfl, ?_⟩
        rw [h2, hd]
        simp [putE, lk]
      · refine .inr ⟨fun j o' ho => ?_, ?_⟩
        · cases j with
          | zero => simp only [List.getElem?_cons_zero, Option.some.injEq] at ho; subst ho; exact hd
          | succ j => exact h1 j o' (by simpa using ho)
        · rw [h2]
          cases hx : o.dst with
          | none => rfl
          | some d =>
            simp only [putE, lk]
            rw [if_neg (fun e => hd (by rw [hx, e]))]

/-- The objects when the operations in 'L' have come up. -/
def kapp (L : Nat → Bool) : Nat → List (D × Sto) → Kp → Kp
  | _, [], κ => κ
  | k, (_, nw) :: r, κ => kapp L (k + 1) r (if L k then Kp.or (get nw) κ else κ)

def Dis (a b : Kp) : Prop := ∀ n, a n = none ∨ b n = none

theorem or_comm' {a b κ : Kp} (h : Dis a b) : Kp.or a (Kp.or b κ) = Kp.or b (Kp.or a κ) := by
  funext n
  unfold Kp.or
  rcases h n with h | h <;> simp [h]

theorem kapp_or (L : Nat → Bool) (a : Kp) : ∀ (k : Nat) (tr : List (D × Sto)) (κ : Kp), (∀ p ∈ tr, Dis a (get p.2)) → kapp L k tr (Kp.or a κ) = Kp.or a (kapp L k tr κ)
  | _, [], _, _ => rfl
  | k, (v, nw) :: r, κ, h => by
    simp only [kapp]
    split
    · rw [← or_comm' (h (v, nw) List.mem_cons_self), kapp_or L a (k + 1) r _ fun p hp => h p (List.mem_cons_of_mem _ hp)]
    · exact kapp_or L a (k + 1) r κ fun p hp => h p (List.mem_cons_of_mem _ hp)

theorem kapp_congr {L L' : Nat → Bool} : ∀ (k : Nat) (tr : List (D × Sto)) (κ : Kp), (∀ j, k ≤ j → L j = L' j) → kapp L k tr κ = kapp L' k tr κ
  | _, [], _, _ => rfl
  | k, (_, _) :: r, κ, h => by
    simp only [kapp, h k (Nat.le_refl _)]
    exact kapp_congr (k + 1) r _ fun j hj => h j (by omega)

theorem kapp_put {L L' : Nat → Bool} {i : Nat} (hi : L i = false) (hi' : L' i = true) (ho : ∀ j, j ≠ i → L' j = L j) : ∀ (k : Nat) (tr : List (D × Sto)) (κ : Kp) (v : D) (nw : Sto), k ≤ i → tr[i - k]? = some (v, nw) →
    (∀ (j : Nat) p, tr[j]? = some p → k + j ≠ i → Dis (get nw) (get p.2)) → kapp L' k tr κ = Kp.or (get nw) (kapp L k tr κ)
  | k, [], κ, v, nw, _, h, _ => by simp at h
  | k, (v0, nw0) :: r, κ, v, nw, hk, h, hd => by
    simp only [kapp]
    by_cases he : k = i
    · subst he
      simp only [Nat.sub_self, List.getElem?_cons_zero, Option.some.injEq, Prod.mk.injEq] at h
      obtain ⟨rfl, rfl⟩ := h
      rw [hi, hi']
      simp only [if_true, Bool.false_eq_true, if_false]
      rw [kapp_congr (L' := L) (k + 1) r _ fun j hj => ho j (by omega)]
      refine kapp_or L _ (k + 1) r κ fun p hp => ?_
      obtain ⟨j, hj⟩ := List.mem_iff_getElem?.1 hp
      exact hd (j + 1) p (by simpa using hj) (by omega)
    · rw [ho k he]
      rw [show i - k = (i - (k + 1)) + 1 by omega, List.getElem?_cons_succ] at h
      have ih := fun κ' => kapp_put hi hi' ho (k + 1) r κ' v nw (by omega) h (fun j p hj hne => hd (j + 1) p (by simpa using hj) (by omega))
      split
      · rw [ih]
      · rw [ih]

theorem kapp_old {L : Nat → Bool} {n : Nm} : ∀ (k : Nat) (tr : List (D × Sto)) (κ : Kp), (∀ p ∈ tr, get p.2 n = none) → kapp L k tr κ n = κ n
  | _, [], _, _ => rfl
  | k, (v, nw) :: r, κ, h => by
    simp only [kapp]
    rw [kapp_old (k + 1) r _ fun p hp => h p (List.mem_cons_of_mem _ hp)]
    split
    · unfold Kp.or
      rw [h (v, nw) List.mem_cons_self]
      simp
    · rfl

theorem kapp_all {L : Nat → Bool} : ∀ (k : Nat) (tr : List (D × Sto)) (σ : Sto), (∀ j, k ≤ j → j < k + tr.length → L j = true) → kapp L k tr (get σ) = get (accN tr σ)
  | _, [], _, _ => rfl
  | k, (v, nw) :: r, σ, h => by
    simp only [kapp, accN]
    rw [h k (Nat.le_refl _) (by simp), if_pos rfl, ← get_append]
    exact kapp_all (k + 1) r _ fun j h1 h2 => h j (by omega) (by simp; omega)

theorem kapp_none {L : Nat → Bool} : ∀ (k : Nat) (tr : List (D × Sto)) (κ : Kp), (∀ j, L j = false) → kapp L k tr κ = κ
  | _, [], _, _ => rfl
  | k, (v, nw) :: r, κ, h => by
    simp only [kapp]
    rw [h k]
    exact kapp_none (k + 1) r _ h

end
end Go.Ab
