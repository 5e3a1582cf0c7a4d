/- A part of the proof, under no conditions of its own: Ab9. -/
import Derived.Test.YtomkekilpdkjgaaDoorAb8
/-
  append.
-/
namespace Go.Ab
open Go Go.RowKit

def bytesOf (P : Program) (t : TypeId) : Option Nat := (P.info? t).map (·.bytes)

/-- Rows of k known cells each. -/
def okRows (k : Nat) (rows : List D) : Prop := ∀ r ∈ rows, r.cells.length = k ∧ r.cells.all D.one = true

theorem okRows_nil (k : Nat) : okRows k [] := fun r h => by cases h
theorem okRows_cons {k : Nat} {r : D} {rows : List D} (h1 : r.cells.length = k ∧ r.cells.all D.one = true) (h2 : okRows k rows) : okRows k (r :: rows) := fun x hx => by
  rcases List.mem_cons.1 hx with h | h
  · subst h; exact h1
  · exact h2 x h

section
variable {w0 : World} {G : Gh} {w : World} {κ : Kp} {P : Program}

/-- What an appended slice holds, cell by cell. -/
theorem sl_cells {v : Value} {x : Bool} {rows : List D} {k : Nat} (h : V G w v (.sl x rows)) (hk : okRows k rows) (hk0 : 0 < k) :
    (v = .slice none 0 0 ∧ rows = []) ∨ ∃ (ad : Addr) (c : Nat) (news : List Value), v = .slice (some ad) rows.length c ∧ news.length = rows.length * k ∧ (∀ (j : Nat) u, news[j]? = some u → w.cell? (ad.add j) = some u) ∧ (∀ u ∈ news, u.oneCell' = true) ∧ Flat G w k rows (news[·]?) := by
  cases h with
  | nilsl => exact .inl ⟨rfl, rfl⟩
  | esl a => exact .inr ⟨a, 0, [], rfl, by simp, fun j u h => by simp at h, fun u h => by simp at h, fun i r h => by simp at h⟩
  | sl X hn h2 h3 hF hl hc hV =>
    rename_i b off n cap k'
    subst hn
    refine .inr ⟨_, _, (List.range (rows.length * k)).map fun q => X (q / k) (q % k), rfl, by simp, ?_, ?_, ?_⟩
    all_goals
      have hkk : ∀ (i : Nat) r, rows[i]? = some r → k' = k := fun i r hr => by
        rw [← hl i r hr]
        exact (hk r (List.mem_of_getElem? hr)).1
      have cellAt : ∀ q, q < rows.length * k → ∃ r d, rows[q / k]? = some r ∧ r.cells[q % k]? = some d ∧ k' = k := fun q hq => by
        have hi : q / k < rows.length := Nat.div_lt_of_lt_mul (by rw [Nat.mul_comm]; exact hq)
        have hr : rows[q / k]? = some rows[q / k] := List.getElem?_eq_getElem hi
        have hlen := (hk _ (List.getElem_mem hi)).1
        exact ⟨_, _, hr, List.getElem?_eq_getElem (by rw [hlen]; exact Nat.mod_lt _ hk0), hkk _ _ hr⟩
    · intro j u hu
      by_cases hj : j < rows.length * k
      · rw [List.getElem?_map, List.getElem?_range hj] at hu
        simp only [Option.map_some, Option.some.injEq] at hu
        subst hu
        obtain ⟨r, d, hr, hd, rfl⟩ := cellAt j hj
        rw [Addr.add_lit, ← hc _ _ _ _ hr hd, Nat.mul_comm, Nat.div_add_mod]
      · rw [List.getElem?_eq_none (by simpa using hj)] at hu
        cases hu
    · intro u hu
      simp only [List.mem_map, List.mem_range] at hu
      obtain ⟨q, hq, rfl⟩ := hu
      obtain ⟨r, d, hr, hd, _⟩ := cellAt q hq
      refine (hV _ _ _ _ hr hd).one ?_
      have := (hk r (List.mem_of_getElem? hr)).2
      rw [List.all_eq_true] at this
      exact this d (List.mem_of_getElem? hd)
    · intro i r hr
      have hi := (List.getElem?_eq_some_iff.1 hr).1
      refine ⟨(hk r (List.mem_of_getElem? hr)).1, fun j d hd => ?_⟩
      have hj : j < k := by
        have := (List.getElem?_eq_some_iff.1 hd).1
        rw [(hk r (List.mem_of_getElem? hr)).1] at this
        exact this
      have hrow := row_le (k := k) hi
      refine ⟨X i j, ?_, hV _ _ _ _ hr hd⟩
      have e1 : (i * k + j) / k = i := by rw [Nat.mul_comm, Nat.mul_add_div hk0, Nat.div_eq_of_lt hj]; rfl
      have e2 : (i * k + j) % k = j := by rw [Nat.mul_comm, Nat.mul_add_mod]; exact Nat.mod_eq_of_lt hj
      simp only [List.getElem?_map, List.getElem?_range (show i * k + j < rows.length * k by omega), Option.map_some, e1, e2]

theorem append_blk {base : Nat} {t ty el : TypeId} {i : TypeInfo} {z : Value} (ht : P.underlying t = some (.slice el)) (hi : P.info? el = some i) (hz : i.zero = some z)
    {v : Value} {n : Nat} {xs : List Value} (hown : w.ownsRow base el i.size v n xs) {ad : Addr} {m c : Nat} {news : List Value} (hl : news.length = m * i.size) (hnews : ∀ (j : Nat) u, news[j]? = some u → w.cell? (ad.add j) = some u) (h1 : ∀ u ∈ news, u.oneCell' = true)
    (h63 : n + m ≤ maxLen) (hbytes : (n + m) * i.bytes ≤ 140737488355328) {v' : Value} {w' : World}
    (hr : (Builtin.append_ #[t, t] ty #[v, .slice (some ad) m c]).run P w = .ok v' w') (hv' : v'.ownBlock ≠ none) : blk v' = blk v ∨ blk v' = some w.heap.size := by
  have hsmall : n + m ≤ 9223372036854775807 := by simp only [maxLen] at h63; omega
  rcases hown.2 with ⟨rfl, rfl⟩ | ⟨g, cap, cur, rfl, hbg, hg, hnc, hcm, hcs, htake⟩
  · by_cases hm : m = 0
    · subst hm
      have : (Builtin.append_ #[t, t] ty #[.slice none 0 0, .slice (some ad) 0 c]).run P w = .ok (.slice none 0 0) w := by
        simp [Builtin.append_, run_underlying ht, sizeOf, typeInfo, hi, Builtin.lenOf, Builtin.firstCells, loadCells, loadCellsFrom]
      rw [this] at hr
      cases hr
      exact absurd rfl hv'
    · have := run_append_nil (P := P) w t ty el i z ht hi hz ad m c news hl hnews (by omega) (by omega) (by have hb := hbytes; simp only [Nat.zero_add] at hb; omega)
      rw [this] at hr
      cases hr
      exact .inr rfl
  · by_cases hroom : n + m ≤ cap
    · have hfit : n * i.size + news.length ≤ cur.size := by rw [hl, hcs, ← Nat.add_mul]; exact Nat.mul_le_mul_right _ hroom
      have := run_append_room (P := P) w t ty el i ht hi g n cap cur hg ad m c news hl hnews h1 hroom hfit
      rw [this] at hr
      cases hr
      exact .inl rfl
    · have := run_append_grow (P := P) w t ty el i z ht hi hz ⟨g, 0, none⟩ n cap xs hown.1 (hown.cells (g := g) rfl) ad m c news hl hnews (by omega) (by omega) (growslice_fits (by omega) hbytes)
      rw [this] at hr
      cases hr
      exact .inr rfl

theorem Flat.append {k : Nat} {rows rows2 : List D} {xs news : List Value} (h : Flat G w k rows (xs[·]?)) (hx : xs.length = rows.length * k) (h2 : Flat G w k rows2 (news[·]?)) : Flat G w k (rows ++ rows2) ((xs ++ news)[·]?) := by
  intro i r hr
  by_cases hi : i < rows.length
  · rw [List.getElem?_append_left hi] at hr
    obtain ⟨g1, g2⟩ := h i r hr
    refine ⟨g1, fun j d hd => ?_⟩
    obtain ⟨x, hx', hv⟩ := g2 j d hd
    refine ⟨x, ?_, hv⟩
    simp only at hx' ⊢
    rw [List.getElem?_append_left ((List.getElem?_eq_some_iff.1 hx').1)]
    exact hx'
  · rw [List.getElem?_append_right (by omega)] at hr
    obtain ⟨g1, g2⟩ := h2 _ r hr
    refine ⟨g1, fun j d hd => ?_⟩
    obtain ⟨x, hx', hv⟩ := g2 j d hd
    refine ⟨x, ?_, hv⟩
    simp only at hx' ⊢
    have : i * k = rows.length * k + (i - rows.length) * k := by rw [← Nat.add_mul]; congr 1; omega
    rw [List.getElem?_append_right (by omega), show i * k + j - xs.length = (i - rows.length) * k + j by omega]
    exact hx'

theorem Flat.mono {k : Nat} {rows : List D} {xs : Nat → Option Value} {G' : Gh} {w' : World} (h : Flat G w k rows xs) (hV : ∀ x d, V G w x d → V G' w' x d) : Flat G' w' k rows xs :=
  fun i r hr => ⟨(h i r hr).1, fun j d hd => let ⟨x, hx, hv⟩ := (h i r hr).2 j d hd; ⟨x, hx, hV _ _ hv⟩⟩

/-- append onto an array of the call's own (or onto nil). -/
theorem top_append {E : Ctx} {g : Nat} {o : Oper} {e : Operand → D} {t el : TypeId} {so x : Operand} (hop : o.op = .call { callee := .builtin .append, args := #[so, x], argTypes := #[t, t] }) {d : Nat} (hd : o.dst = some d)
    {n : Nm} {len : Nat} (hs : e so = .own n len) {k : Nat} {rows rows2 : List D} (hκ : κ n = some (.arr el k rows)) {xf : Bool} (hx : e x = .sl xf rows2)
    (he : elemS E.P t = some el) (hk : szOf E.P el = some k) {bs : Nat} (hbs : bytesOf E.P el = some bs) {z : Value} (hz : zeroOf E.P el = some z) (hzs : z.cells.size = k) (hk0 : 0 < k) (hok : okRows k rows2)
    (h63 : rows.length + rows2.length ≤ 9223372036854775807) (hb : (rows.length + rows2.length) * bs ≤ 140737488355328) :
    TOp E g o e κ (.own ⟨g, d, 0⟩ (rows.length + rows2.length)) ((κ.del n).put ⟨g, d, 0⟩ (.arr el k (rows ++ rows2))) := by
  intro w0 hA G w a hw hV ho hf K Q' hK
  obtain ⟨hg, hfresh⟩ := hf d hd
  have hn2 := hfresh 0
  have hvs := hV so (by simp [hop, Op.operands, Call.operands])
  have hvx := hV x (by simp [hop, Op.operands, Call.operands])
  rw [hs] at hvs
  rw [hx] at hvx
  obtain ⟨v, hρ, ⟨xs, hown, hfl⟩, hnF⟩ := ho.ob n _ hκ
  have hvv : a.eval so = v ∧ ∃ ad c, v = .slice ad len c := by
    generalize a.eval so = u at hvs
    cases hvs with
    | own hρ' => rw [hρ] at hρ'; cases hρ'; exact ⟨rfl, _, _, rfl⟩
  obtain ⟨i, hi⟩ : ∃ i, E.P.info? el = some i := by
    unfold szOf at hk
    cases hi : E.P.info? el with
    | none => rw [hi] at hk; cases hk
    | some i => exact ⟨i, rfl⟩
  have hik : i.size = k := by simpa [szOf, hi] using hk
  have hib : i.bytes = bs := by simpa [bytesOf, hi] using hbs
  have hiz : i.zero = some z := by simpa [zeroOf, hi] using hz
  have ht := elemS_spec he
  have hbw : w0.heap.size ≤ w.heap.size := hw.below.size
  have hkeepV : ∀ w', w.grownBy w' (blk v) → ∀ y d', V G w y d' → V (G.upd ⟨g, d, 0⟩ y) w' y d' → True := fun _ _ _ _ _ _ => trivial
  clear hkeepV
  have fin : ∀ v' w' news, (Builtin.append_ #[t, t] o.type #[v, a.eval x]).run E.P w = .ok v' w' → w'.ownsRow w0.heap.size el k v' (rows.length + rows2.length) (xs ++ news) → w.grownBy w' (blk v) → (∃ ad c, v' = .slice ad (rows.length + rows2.length) c) →
      Flat G w k rows2 (news[·]?) → (∀ b, blk v' = some b → blk v = some b ∨ (w.heap.size ≤ b ∧ b < w'.heap.size)) → o.wp E.P a w K Q' := by
    intro v' w' news hrun hown' hgr hform hfl2 hb'
    have hVm : ∀ y d', V G w y d' → V (G.upd ⟨g, d, 0⟩ v') w' y d' := fun y d' h => h.upd hn2 fun b hF => hgr.block b (hw.lt b hF) fun e => hnF b e.symm hF
    obtain ⟨g1, g2, g3⟩ := turn_obj (ob' := .arr el k (rows ++ rows2)) hw ho hκ hρ hn2 hg hgr hb' ⟨xs ++ news, by rw [List.length_append]; exact hown', (Flat.append (G := G) (w := w) hfl hown.1 hfl2).mono hVm⟩
    unfold Oper.wp
    have hex : (execOp a.eval o).run E.P w = .ok (.value v') w' := by
      simp [execOp, hop, resolve, invoke, builtin, hvv.1, hrun]
    rw [hex]
    obtain ⟨ad, c, rfl⟩ := hform
    exact hK _ _ _ g1 (.own (by simp [Gh.upd])) g2 (g3.weaken fun m _ hm => by subst hm; exact ⟨rfl, hd⟩)
  rcases sl_cells hvx hok hk0 with ⟨hnil, rfl⟩ | ⟨ad, c, news, hsrc, hl, hcell, hone, hfl2⟩
  · have hrun := run_append_owned_none (P := E.P) (w := w) w0.heap.size t o.type el i k ht hi v rows.length xs hown
    refine fin v w [] (by rw [hnil]; exact hrun) (by simpa using hown) ⟨rfl, rfl, rfl, Nat.le_refl _, fun _ _ _ => rfl⟩ ?_ (fun j r hr => by simp at hr) (fun b h => .inl h)
    rcases hown.2 with ⟨rfl, h0⟩ | ⟨g', cap, cur, rfl, _⟩
    · exact ⟨none, 0, by rw [h0]; rfl⟩
    · exact ⟨_, _, rfl⟩
  · obtain ⟨v', w', hrun, hown', hgr, _⟩ := run_append_own (P := E.P) w w0.heap.size t o.type el i z k bs ht hi hiz hik hib hzs hk0 v rows.length xs hown ad rows2.length c news hl hcell hone (by simp only [maxLen]; omega) hb hbw
    have hgr' : w.grownBy w' (blk v) := by
      have : blk v = v.ownBlock := by
        rcases hown.2 with ⟨rfl, _⟩ | ⟨g', cap, cur, rfl, _⟩ <;> rfl
      rw [this]; exact hgr
    refine fin v' w' news (by rw [hsrc]; exact hrun) hown' hgr' ?_ hfl2 (fun b hb2 => ?_)
    · rcases hown'.2 with ⟨rfl, h0⟩ | ⟨g', cap, cur, rfl, _⟩
      · exact ⟨none, 0, by rw [h0]⟩
      · exact ⟨_, _, rfl⟩
    · have hlt : b < w'.heap.size := (hown'.lt b (by
        rcases hown'.2 with ⟨rfl, h0⟩ | ⟨g', cap, cur, rfl, _⟩
        · cases hb2
        · exact hb2)).2
      subst hik
      rcases append_blk (P := E.P) ht hi hiz hown hl hcell hone (by simp only [maxLen]; omega) (by rw [hib]; exact hb) hrun (by
        rcases hown'.2 with ⟨rfl, h0⟩ | ⟨g', cap, cur, rfl, _⟩
        · cases hb2
        · simp [Value.ownBlock]) with h | h
      · exact .inl (h ▸ hb2)
      · rw [h] at hb2
        cases hb2
        exact .inr ⟨Nat.le_refl _, hlt⟩

end
end Go.Ab
