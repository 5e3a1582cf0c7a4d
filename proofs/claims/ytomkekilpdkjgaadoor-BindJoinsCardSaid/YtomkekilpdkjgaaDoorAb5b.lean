/- A part of the proof, under no conditions of its own: Ab5b. -/
import Derived.Test.YtomkekilpdkjgaaDoorAb5
/-
  Building an aggregate; then all reading operations in one theorem.
-/
namespace Go.Ab
open Go Go.RowKit

section
variable {P : Program} {G : Gh} {w : World}

/-- A value's cells denote its abstract cells. -/
def Vs (G : Gh) (w : World) (cs : Array Value) (ds : List D) : Prop := cs.size = ds.length ∧ ∀ (i : Nat) c d, cs[i]? = some c → ds[i]? = some d → V G w c d

theorem V.cells {v : Value} {d : D} (h : V G w v d) (h1 : d.cells.all D.one = true) : Vs G w v.cells d.cells ∧ ∀ c ∈ v.cells.toList, c.oneCell' = true := by
  have single : ∀ {v : Value} {d : D}, V G w v d → d.one = true → v.oneCell' = true → Vs G w #[v] [d] ∧ ∀ c ∈ (#[v] : Array Value).toList, c.oneCell' = true := by
    intro v d hv _ ho
    refine ⟨⟨rfl, fun i c d' hc hd => ?_⟩, fun c hc => ?_⟩
    · cases i with
      | zero => simp at hc hd; subst hc; subst hd; exact hv
      | succ i => simp at hd
    · simp at hc; subst hc; exact ho
  have plain : ∀ {v : Value} {d : D}, V G w v d → d.one = true → Vs G w v.cells [d] ∧ ∀ c ∈ v.cells.toList, c.oneCell' = true := by
    intro v d hv ho
    have h1 := hv.one ho
    have : v.cells = #[v] := by cases v <;> simp [Value.oneCell'] at h1 <;> rfl
    rw [this]
    exact single hv ho h1
  cases d with
  | agg cs =>
    cases h with
    | agg hs hV =>
      refine ⟨⟨hs, hV⟩, fun c hc => ?_⟩
      obtain ⟨i, hi⟩ := List.mem_iff_getElem?.1 hc
      simp only [Value.cells, Array.getElem?_toList] at hi
      have hlt := (Array.getElem?_eq_some_iff.1 hi).1
      have hd : cs[i]? = some cs[i] := List.getElem?_eq_getElem (by omega)
      exact (hV i c _ hi hd).one (by
        simp only [D.cells, List.all_eq_true] at h1
        exact h1 _ (List.getElem_mem _))
  | any => simp [D.cells, D.one] at h1
  | tup => simp [D.cells, D.one] at h1
  | _ => exact plain h (by simpa [D.cells] using h1)

theorem foldl_set (off : Nat) : ∀ (l : List Value) (j : Nat) (cs : Array Value), 
    ((l.zipIdx j).foldl (fun (cs : Array Value) (p : Value × Nat) => cs.setIfInBounds (off + p.2) p.1) cs).size = cs.size ∧
    ∀ i, ((l.zipIdx j).foldl (fun (cs : Array Value) (p : Value × Nat) => cs.setIfInBounds (off + p.2) p.1) cs)[i]? = if off + j ≤ i ∧ i < off + j + l.length ∧ i < cs.size then l[i - (off + j)]? else cs[i]?
  | [], j, cs => ⟨rfl, fun i => by simp; intro h1 h2; omega⟩
  | v :: r, j, cs => by
    obtain ⟨h1, h2⟩ := foldl_set off r (j + 1) (cs.setIfInBounds (off + j) v)
    simp only [List.zipIdx_cons, List.foldl_cons]
    refine ⟨by rw [h1]; simp, fun i => ?_⟩
    rw [h2 i, Array.getElem?_setIfInBounds]
    simp only [Array.size_setIfInBounds, List.length_cons]
    by_cases hi : off + j = i
    · subst hi
      by_cases hs : off + j < cs.size
      · rw [if_neg (by omega), if_pos rfl, if_pos hs, if_pos ⟨by omega, by omega, hs⟩]
        simp
      · rw [if_neg (by omega), if_pos rfl, if_neg hs, if_neg (by omega)]
        simp [Nat.le_of_not_lt hs]
    · rw [if_neg hi]
      by_cases hc : off + (j + 1) ≤ i ∧ i < off + (j + 1) + r.length ∧ i < cs.size
      · rw [if_pos hc, if_pos ⟨by omega, by omega, hc.2.2⟩]
        have : i - (off + j) = (i - (off + (j + 1))) + 1 := by omega
        rw [this, List.getElem?_cons_succ]
      · rw [if_neg hc, if_neg (by omega)]

theorem over_get (cs : List D) (o : Nat) (new : List D) (ho : o + new.length ≤ cs.length) (i : Nat) :
    (over cs o new)[i]? = if o ≤ i ∧ i < o + new.length then new[i - o]? else cs[i]? := by
  unfold over
  have hl : (cs.take o ++ new).length = o + new.length := by simp; omega
  by_cases h1 : i < o
  · rw [List.append_assoc, List.getElem?_append_left (by simp; omega), List.getElem?_take, if_pos h1, if_neg (by omega)]
  · by_cases h2 : i < o + new.length
    · rw [List.append_assoc, List.getElem?_append_right (by simp; omega), List.getElem?_append_left (by simp; omega), if_pos ⟨by omega, h2⟩]
      congr 1
      simp
      omega
    · rw [List.getElem?_append_right (by omega), if_neg (by omega), List.getElem?_drop, hl]
      congr 1
      omega

theorem over_length (cs : List D) (o : Nat) (new : List D) (ho : o + new.length ≤ cs.length) : (over cs o new).length = cs.length := by
  unfold over
  simp
  omega

theorem fill_run (place : Nat → Option (Nat × Nat)) : ∀ (ps : List (Nat × Value)) (qs : List (Nat × D)) (cs : Array Value) (ds ds' : List D),
    ps.length = qs.length → (∀ (j : Nat) p q, ps[j]? = some p → qs[j]? = some q → p.1 = q.1 ∧ V G w p.2 q.2) → Vs G w cs ds → fillD place ds qs = some ds' →
    ∃ cs', Instr.fill place cs ps = some cs' ∧ Vs G w cs' ds'
  | [], [], cs, ds, ds', _, _, hv, h => by
    simp only [fillD, Option.some.injEq] at h
    subst h
    exact ⟨cs, rfl, hv⟩
  | (i, v) :: ps, (i', d) :: qs, cs, ds, ds', hl, hp, hv, h => by
    obtain ⟨rfl, hvd⟩ : i = i' ∧ V G w v d := hp 0 _ _ rfl rfl
    simp only [fillD] at h
    split at h
    · cases h
    · rename_i o k hpl
      split at h
      · rename_i hc
        obtain ⟨rfl, hle, h1⟩ := hc
        obtain ⟨⟨hs, hV⟩, _⟩ := hvd.cells h1
        have hfold : v.cells.zipIdx.foldl (fun cs (x : Value × Nat) => match x with | (c, j) => cs.setIfInBounds (o + j) c) cs = (v.cells.toList.zipIdx 0).foldl (fun (cs : Array Value) (p : Value × Nat) => cs.setIfInBounds (o + p.2) p.1) cs := by
          rw [← Array.foldl_toList, Array.toList_zipIdx]
        obtain ⟨f1, f2⟩ := foldl_set o v.cells.toList 0 cs
        have hv' : Vs G w (v.cells.zipIdx.foldl (fun cs (x : Value × Nat) => match x with | (c, j) => cs.setIfInBounds (o + j) c) cs) (over ds o d.cells) := by
          rw [hfold]
          refine ⟨by rw [f1, over_length ds o _ hle, hv.1], fun j c d' hc hd => ?_⟩
          rw [f2 j] at hc
          rw [over_get ds o _ hle] at hd
          simp only [Nat.add_zero, Array.length_toList] at hc
          by_cases hj : o ≤ j ∧ j < o + d.cells.length
          · rw [if_pos hj] at hd
            rw [if_pos ⟨hj.1, by omega, by have := hv.1; omega⟩] at hc
            exact hV _ _ _ (by simpa using hc) hd
          · rw [if_neg hj] at hd
            rw [if_neg (by omega)] at hc
            exact hv.2 _ _ _ hc hd
        obtain ⟨cs', hf, hv''⟩ := fill_run place ps qs _ _ ds' (by simpa using hl) (fun j p q hpj hqj => hp (j + 1) p q hpj hqj) hv' h
        refine ⟨cs', ?_, hv''⟩
        simp only [Instr.fill, hpl]
        rw [if_neg (by have := hv.1; simp; omega)]
        exact hf
      · cases h
  | [], _ :: _, _, _, _, hl, _, _, _ => by simp at hl
  | _ :: _, [], _, _, _, hl, _, _, _ => by simp at hl

theorem Vs.vals (cs : Array Value) : Vs G w cs (cs.toList.map .val) :=
  ⟨by simp, fun i c d hc hd => by
    simp only [List.getElem?_map, Array.getElem?_toList, hc, Option.map_some, Option.some.injEq] at hd
    subst hd
    exact .val c⟩

theorem build_run {t : TypeId} {ps : Array (Nat × Value)} {qs : List (Nat × D)} (hl : ps.size = qs.length) (hp : ∀ (j : Nat) p q, ps[j]? = some p → qs[j]? = some q → p.1 = q.1 ∧ V G w p.2 q.2)
    {v : D} (h : buildD P t qs = some v) : ∃ x, (Instr.build t ps).run P w = .ok x w ∧ V G w x v := by
  unfold buildD at h
  split at h
  · rename_i z pl hz hpl
    cases hf : fillD (fun i => pl[i]?) (z.cells.toList.map .val) qs with
    | none => rw [hf] at h; cases h
    | some ds' =>
      rw [hf] at h
      cases h
      obtain ⟨cs', h1, h2⟩ := fill_run (G := G) (w := w) (fun i => pl[i]?) ps.toList qs z.cells _ ds' (by simpa using hl) (fun j p q h1 h2 => hp j p q (by simpa using h1) h2) (Vs.vals _) hf
      refine ⟨.agg cs', run_build w t ps cs' ?_, .agg h2.1 h2.2⟩
      unfold placesOf at hpl
      unfold zeroOf at hz
      split at hpl
      · rename_i fields hu
        cases hi : P.info? t with
        | none => rw [hi] at hz; cases hz
        | some it =>
          rw [hi] at hz
          simp only [Option.bind_some] at hz
          unfold Program.built
          simp only [hi, hu, hz, hpl]
          simpa using h1
      · cases hpl
  · cases h

theorem isIfc_spec {t : TypeId} (h : ¬ isIfc P t = true) : P.concrete t = true := by
  unfold isIfc at h
  unfold Program.concrete
  split <;> simp_all

theorem dopR_sound {E : Ctx} {o : Oper} {e : Operand → D} {κ : Kp} {v : D} (h : dopR E.P o e κ = some v) : Yields E o e κ v := by
  intro w0 hA G w ρ hw hV ho
  unfold dopR at h
  split at h
  · rename_i x hop
    cases h
    exact ⟨ρ x, by simp [execOp, hop], hV x (by simp [hop, Op.operands])⟩
  · rename_i x hop
    cases h
    exact ⟨ρ x, by simp [execOp, hop], hV x (by simp [hop, Op.operands])⟩
  · rename_i c a b hop
    have hc := hV c (by simp [hop, Op.operands])
    split at h
    · rename_i hb
      rw [hb] at hc
      cases h
      exact ⟨ρ a, by simp [execOp, hop, V.of_val hc, asBool], hV a (by simp [hop, Op.operands])⟩
    · rename_i hb
      rw [hb] at hc
      cases h
      exact ⟨ρ b, by simp [execOp, hop, V.of_val hc, asBool], hV b (by simp [hop, Op.operands])⟩
    · cases h
  · rename_i t x hop
    obtain ⟨y, hy, hv⟩ := load_run ho (hV x (by simp [hop, Op.operands])) h
    exact ⟨y, by simp [execOp, hop, hy], hv⟩
  · rename_i x hop
    exact nil_run hop (hV x (by simp [hop, Op.operands])) h
  · rename_i op t x y t2 hop
    obtain ⟨z, hz, hv⟩ := bin_run (P := E.P) (op := op) (t := t) (xo := x) (yo := y) (hV x (by simp [hop, Op.operands])) (hV y (by simp [hop, Op.operands])) h
    refine ⟨z, ?_, hv⟩
    simp only [execOp, hop]
    rw [Sem.run_bind, hz]
    simp
  · rename_i op t x hop
    obtain ⟨z, hz, hv⟩ := un_run (P := E.P) (hV x (by simp [hop, Op.operands])) h
    exact ⟨z, by simp [execOp, hop, hz], hv⟩
  · rename_i s d x hop
    obtain ⟨z, hz, hv⟩ := conv_run (P := E.P) (hV x (by simp [hop, Op.operands])) h
    exact ⟨z, by simp [execOp, hop, hz], hv⟩
  · rename_i t x hop
    split at h
    · cases h
    · rename_i hi
      cases h
      exact ⟨_, by simp [execOp, hop, run_makeInterface w t (ρ x) (isIfc_spec hi)], .iface (hV x (by simp [hop, Op.operands]))⟩
  · rename_i fn a c hop
    cases h
    refine ⟨.func fn (a.map ρ) (c.map ρ), by simp [execOp, hop, Instr.makeFunc], .func (by simp) (by simp) (fun i x d hx hd => ?_) (fun i x d hx hd => ?_)⟩
    · simp only [Array.getElem?_map, Option.map_eq_some_iff] at hx
      obtain ⟨y, hy, rfl⟩ := hx
      simp only [List.getElem?_map, Array.getElem?_toList, hy, Option.map_some, Option.some.injEq] at hd
      subst hd
      exact hV y (by simp only [hop, Op.operands]; exact Array.mem_append.2 (.inl (Array.mem_of_getElem? hy)))
    · simp only [Array.getElem?_map, Option.map_eq_some_iff] at hx
      obtain ⟨y, hy, rfl⟩ := hx
      simp only [List.getElem?_map, Array.getElem?_toList, hy, Option.map_some, Option.some.injEq] at hd
      subst hd
      exact hV y (by simp only [hop, Op.operands]; exact Array.mem_append.2 (.inr (Array.mem_of_getElem? hy)))
  · rename_i t x f hop
    obtain ⟨z, hz, hv⟩ := fieldAddr_run (P := E.P) (hV x (by simp [hop, Op.operands])) h
    exact ⟨z, by simp [execOp, hop, hz], hv⟩
  · rename_i t x f hop
    obtain ⟨z, hz, hv⟩ := field_run (P := E.P) (hV x (by simp [hop, Op.operands])) h
    exact ⟨z, by simp [execOp, hop, hz], hv⟩
  · rename_i t x i hop
    obtain ⟨z, hz, hv⟩ := indexAddr_run (P := E.P) ho (hV x (by simp [hop, Op.operands])) (hV i (by simp [hop, Op.operands])) h
    exact ⟨z, by simp [execOp, hop, hz], hv⟩
  · rename_i t x i hop
    obtain ⟨z, hz, hv⟩ := index_run (P := E.P) (hV x (by simp [hop, Op.operands])) (hV i (by simp [hop, Op.operands])) h
    exact ⟨z, by simp [execOp, hop, hz], hv⟩
  · rename_i t i hop
    have hx := hV t (by simp [hop, Op.operands])
    split at h
    · rename_i vs ht
      rw [ht] at hx
      generalize hρ : ρ t = u at hx
      cases hx with
      | tup hs hVs =>
        rename_i cs
        have hlt : i < cs.size := by
          have := (List.getElem?_eq_some_iff.1 h).1
          omega
        exact ⟨cs[i], by simp [execOp, hop, hρ, Instr.extract, hlt], hVs i _ _ (by simp [hlt]) h⟩
    · cases h
  · rename_i t ps hop
    obtain ⟨z, hz, hv⟩ := build_run (P := E.P) (G := G) (w := w) (t := t) (ps := ps.map fun p => (p.1, ρ p.2)) (qs := ps.toList.map fun p => (p.1, e p.2)) (by simp) (fun j p q hp hq => by
      simp only [Array.getElem?_map, Option.map_eq_some_iff] at hp
      obtain ⟨y, hy, rfl⟩ := hp
      simp only [List.getElem?_map, Array.getElem?_toList, hy, Option.map_some, Option.some.injEq] at hq
      subst hq
      refine ⟨rfl, hV y.2 ?_⟩
      simp only [hop, Op.operands, List.mem_toArray, List.mem_map]
      exact ⟨y, by simpa using Array.mem_of_getElem? hy, rfl⟩) h
    exact ⟨z, by simp [execOp, hop, hz], hv⟩
  · rename_i c hop
    split at h
    · rename_i x t hc ha ht
      have hx : x ∈ c.operands := by
        unfold Call.operands
        refine Array.mem_append.2 (.inr ?_)
        rw [← Array.mem_toList_iff, ha]
        simp
      obtain ⟨z, hz, hv⟩ := len_run (P := E.P) (ty := o.type) (hV x (by simpa [hop, Op.operands] using hx)) h
      have ha' : c.args = #[x] := by rw [← Array.toArray_toList (xs := c.args), ha]
      have ht' : c.argTypes = #[t] := by rw [← Array.toArray_toList (xs := c.argTypes), ht]
      exact ⟨z, by simp [execOp, hop, resolve, hc, invoke, builtin, ha', ht', hz], hv⟩
    · cases h
  · cases h

end
end Go.Ab
