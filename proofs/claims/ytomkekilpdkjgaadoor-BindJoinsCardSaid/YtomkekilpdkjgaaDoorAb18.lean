/- A part of the proof, under no conditions of its own: Ab18. -/
import Derived.Test.YtomkekilpdkjgaaDoorAb17
import Derived.Lib.LaidTab
import Derived.Sort.Grow
import Derived.Shelf.Spec.SlicesGrow
import Derived.Deep.Draws
/-
  Contracts of the library, as contracts over abstract values.
-/
namespace Go.Ab
open Go Go.RowKit

theorem Vs.toVals {G : Gh} {w : World} {vs : Array Value} {l : List Value} (h : Vs G w vs (l.map .val)) : vs = l.toArray := by
  apply Array.ext_getElem?
  intro i
  obtain ⟨h1, h2⟩ := h
  simp only [List.length_map] at h1
  simp only [List.getElem?_toArray]
  by_cases hi : i < l.length
  · have hv : vs[i]? = some vs[i] := by simp [h1, hi]
    rw [hv, List.getElem?_eq_getElem hi]
    have := h2 i vs[i] (.val l[i]) hv (by simp [hi])
    rw [V.of_val this]
  · rw [List.getElem?_eq_none (by omega), Array.getElem?_eq_none (by omega)]

theorem acalls_grown {E : Ctx} {f : FuncId} {l : List Value} {v : Value} {g d : Nat} (hcall : ∀ xs w, (callFunc f xs).run E.P w = .ok (.enter f xs) w)
    (h : ∀ w0, E.A w0 → ∀ w, Below w0.heap.size w0 w → Calls E.P f l.toArray w fun e w' => e = .returned v ∧ ∃ k os, w' = Sort.grow (w.drewN k) os) : ACalls E f (l.map .val) [] g d (.val v) [] where
  call := hcall
  run w0 hA G w vs hw hvs ho hfr := by
    rw [Vs.toVals hvs]
    refine (h w0 hA w hw.below).mono ?_
    rintro e w' ⟨rfl, k, os, rfl⟩
    have hheap : (Sort.grow (w.drewN k) os).heap = w.heap ++ os := rfl
    have hsz : w.heap.size ≤ (Sort.grow (w.drewN k) os).heap.size := by rw [hheap, Array.size_append]; omega
    have hb : ∀ b, b < w.heap.size → (Sort.grow (w.drewN k) os).heap[b]? = w.heap[b]? := fun b hb => by rw [hheap, Array.getElem?_append_left hb]
    refine ⟨v, G, rfl, ⟨⟨?_, ?_, ?_, ?_, ?_⟩, hw.old, fun b hb => Nat.lt_of_lt_of_le (hw.lt b hb) hsz, fun n v hn => ⟨(hw.nm n v hn).1, fun b hb => ⟨((hw.nm n v hn).2 b hb).1, Nat.lt_of_lt_of_le ((hw.nm n v hn).2 b hb).2 hsz⟩⟩⟩, .val v, ⟨fun n o hn => by simp [get] at hn, fun n m o o' v v' b hn => by simp [get] at hn⟩,
      ⟨hsz, fun b hb' _ => hb b hb', fun _ h => h, fun _ h => .inl h, fun _ _ h => h, fun _ _ h _ => h, Nat.le_refl _, fun _ h => .inr h, fun _ h => .inl h⟩⟩
    · exact hw.below.os
    · exact hw.below.tape
    · exact hw.below.output
    · exact Nat.le_trans hw.below.size hsz
    · exact fun b hb' => (hb b (Nat.lt_of_lt_of_le hb' hw.below.size)).trans (hw.below.block b hb')

theorem tab_keeps {P : Program} {w0 w : World} {n : String} {k : IntKind} {zs : List Int} (h : Lib.TabIs P w0 n k zs) (hb : Below w0.heap.size w0 w) : Lib.TabIs P w n k zs := by
  unfold Lib.TabIs World.var? at h ⊢
  cases hg : P.globalNamed n with
  | none => simp [hg] at h
  | some g =>
    simp only [hg, Option.bind_some] at h ⊢
    have hlt : g < w0.heap.size := by
      rcases Nat.lt_or_ge g w0.heap.size with h' | h'
      · exact h'
      · simp [Array.getElem?_eq_none h'] at h
    rw [hb.block g hlt]
    exact h


/-- Rows that denote no more. -/
theorem Co.sl {x x' : Bool} {rows rows' : List D} (hx : x' = true → x = true) (hl : rows.length = rows'.length) (h : ∀ (i : Nat) r r', rows[i]? = some r → rows'[i]? = some r' → CoL r.cells r'.cells) : Co (.sl x rows) (.sl x' rows') := by
  intro G w v hv
  cases hv with
  | nilsl =>
    have : rows' = [] := List.eq_nil_of_length_eq_zero hl.symm
    subst this
    exact .nilsl _
  | esl a =>
    have : rows' = [] := List.eq_nil_of_length_eq_zero hl.symm
    subst this
    exact .esl a _
  | sl X h1 h2 h3 h4 h5 h6 h7 =>
    have get : ∀ (i : Nat) r', rows'[i]? = some r' → ∃ r, rows[i]? = some r ∧ CoL r.cells r'.cells := fun i r' hr => by
      have hi : i < rows.length := by rw [hl]; exact (List.getElem?_eq_some_iff.1 hr).1
      exact ⟨rows[i], by simp [hi], h i _ _ (by simp [hi]) hr⟩
    rename_i b off n cap k
    refine .sl (k := k) X (h1.trans hl) (fun e => h2 (hx e)) h3 h4 (fun i r' hr => ?_) (fun i r' j d' hr hd => ?_) (fun i r' j d' hr hd => ?_)
    · obtain ⟨r, hr1, hc⟩ := get i r' hr
      rw [← hc.spec.1]; exact h5 i r hr1
    · obtain ⟨r, hr1, hc⟩ := get i r' hr
      obtain ⟨d, hd1, _⟩ := hc.spec.2 j d' hd
      exact h6 i r j d hr1 hd1
    · obtain ⟨r, hr1, hc⟩ := get i r' hr
      obtain ⟨d, hd1, hco⟩ := hc.spec.2 j d' hd
      exact hco _ _ _ (h7 i r j d hr1 hd1)

theorem Co.map {α : Type} {x x' : Bool} {f f' : α → D} (l : List α) (hx : x' = true → x = true) (h : ∀ a ∈ l, CoL (f a).cells (f' a).cells) : Co (.sl x (l.map f)) (.sl x' (l.map f')) := by
  refine Co.sl hx (by simp) fun i r r' hr hr' => ?_
  rw [List.getElem?_map] at hr hr'
  cases hl : l[i]? with
  | none => rw [hl] at hr; cases hr
  | some a =>
    rw [hl] at hr hr'
    cases hr; cases hr'
    exact h a (List.mem_of_getElem? hl)

section
variable {E : Ctx} {N : Nat} {st : St} {Q : Exit → St → Prop}
/-- A variable is seen more loosely. -/
theorem awp_co {c : Code} (t : Nat) (d' : D) (h : SomeP (lk st.env t) fun d => Co d d' ∧ AWp E N c Q { env := (t, d') :: st.env, σ := st.σ }) : AWp E N c Q st := by
  obtain ⟨d, h1, h2, h3⟩ := h.elim
  refine Sees.awp fun w0 _ G w a hr => ⟨G, ⟨(t, d') :: st.env, st.σ⟩, ⟨hr.wf, fun u x hu => ?_, hr.objs, hr.defers⟩, .refl _ _ _ _, h3⟩
  simp only [lk] at hu
  split at hu
  · rename_i e
    subst e
    cases hu
    exact ⟨(hr.env _ _ h1).1, h2 _ _ _ (hr.env _ _ h1).2⟩
  · exact hr.env u x hu
end

theorem set_mapIdx {α β : Type} (F : Nat → Nat → α → β) (l : List α) (k : Nat) (v : β) (hv : ∀ a, l[k]? = some a → v = F (k + 1) k a) (hF : ∀ i a, i ≠ k → F k i a = F (k + 1) i a) :
    (l.mapIdx (F k)).set k v = l.mapIdx (F (k + 1)) := by
  apply List.ext_getElem?
  intro i
  rw [List.getElem?_set]
  simp only [List.length_mapIdx, List.getElem?_mapIdx]
  split
  · rename_i e
    subst e
    split
    · rename_i hlt
      simp [hlt, hv l[k] (by simp [hlt])]
    · rename_i hlt
      simp [List.getElem?_eq_none (show l.length ≤ k by omega)]
  · rename_i e
    cases hl : l[i]? with
    | none => rfl
    | some a => simp [hF i a (Ne.symm e)]

theorem getMI {α β : Type} (f : Nat → α → β) (l : List α) (k : Nat) (h : k < l.length) : (l.mapIdx f)[k]? = some (f k l[k]) := by simp [h]

attribute [go_sem] List.length_mapIdx


/-- What a call hands back may be seen otherwise. -/
theorem ACalls.sees {E : Ctx} {f : FuncId} {args : List D} {σ σ' σ2 : Sto} {g d : Nat} {r r2 : D} (h : ACalls E f args σ g d r σ') (hs : Sees E ⟨[(0, r)], σ'⟩ fun st => lk st.env 0 = some r2 ∧ ∀ p ∈ σ2, get st.σ p.1 = some p.2) : ACalls E f args σ g d r2 σ2 where
  call := h.call
  run w0 hA G w vs hw hvs ho hfr := by
    refine (h.run w0 hA G w vs hw hvs ho hfr).mono ?_
    rintro e w' ⟨v, G', rfl, k1, k2, k3, k4⟩
    have henv : ∀ t x, lk [(0, r)] t = some x → t < (#[v] : Array Value).size ∧ V G' w' ((#[v] : Array Value).getD t undef) x := by
      intro t x hx
      simp only [lk] at hx
      split at hx
      · rename_i e
        subst e
        cases hx
        exact ⟨by simp, by simpa using k2⟩
      · cases hx
    obtain ⟨G2, st2, hr2, hst2, hl, hsub⟩ := hs w0 hA G' w' { tmps := #[v], defers := [] } ⟨k1, henv, k3, rfl⟩
    have hsub' : ∀ n o, get σ2 n = some o → get st2.σ n = some o := fun n o hn => hsub _ (mem_of_get hn)
    refine ⟨v, G2, rfl, hr2.wf, by simpa using (hr2.env 0 r2 hl).2, hr2.objs.sub hsub', (k4.trans (hst2.weaken fun _ _ h => h.elim)).trans (Step.drop hsub')⟩

theorem sees_done {E : Ctx} {st : St} {K : St → Prop} (h : K st) : Sees E st K := Sees.of h

theorem Co.tup {cs cs' : List D} (h : CoL cs cs') : Co (.tup cs) (.tup cs') := fun G w v hv => by
  cases hv with
  | tup h1 h2 =>
    refine .tup (h1.trans h.spec.1) fun i c d hc hd => ?_
    obtain ⟨d0, hd0, hco⟩ := h.spec.2 i d hd
    exact hco _ _ _ (h2 i c d0 hc hd0)

/-- A call that hands back a new row without an element. -/
theorem acalls_row {E : Ctx} {f : FuncId} {l : List Value} {t : TypeId} {k g d : Nat} (hcall : ∀ xs w, (callFunc f xs).run E.P w = .ok (.enter f xs) w)
    (h : ∀ w0, E.A w0 → ∀ w, Below w0.heap.size w0 w → Calls E.P f l.toArray w fun e w' => ∃ v, e = .returned v ∧ w.grownBy w' none ∧
      (v = .slice none 0 0 ∨ ∃ cap cur, v = .slice (some ⟨w.heap.size, 0, none⟩) 0 cap ∧ w'.heap[w.heap.size]? = some (.cells cur t (0, 0)) ∧ cap ≤ maxLen ∧ cur.size = cap * k)) :
    ACalls E f (l.map .val) [] g d (.own ⟨g, d, 1⟩ 0) [(⟨g, d, 1⟩, .arr t k [])] where
  call := hcall
  run w0 hA G w vs hw hvs ho hfr := by
    rw [Vs.toVals hvs]
    refine (h w0 hA w hw.below).mono ?_
    rintro e w' ⟨v, rfl, hgr, hv⟩
    have hob : OV w0 (G.upd ⟨g, d, 1⟩ v) w' v (.arr t k []) := by
      refine ⟨[], ⟨by simp, ?_⟩, fun i r h => by simp at h⟩
      rcases hv with rfl | ⟨cap, cur, rfl, h1, h2, h3⟩
      · exact .inl ⟨rfl, rfl⟩
      · exact .inr ⟨_, cap, cur, rfl, hw.below.size, h1, Nat.zero_le _, h2, h3, by simp⟩
    have hblk : ∀ b, blk v = some b → w.heap.size ≤ b ∧ b < w'.heap.size := by
      intro b hb
      rcases hv with rfl | ⟨cap, cur, rfl, h1, h2, h3⟩
      · simp [blk] at hb
      · simp only [blk, Option.some.injEq] at hb
        subst hb
        exact ⟨Nat.le_refl _, (Array.getElem?_eq_some_iff.1 h1).1⟩
    obtain ⟨q1, q2, q3⟩ := new_obj hw ho (hfr.2 1) hfr.1 hgr hblk hob
    have he : Kp.or (single ⟨g, d, 1⟩ (.arr t k [])) (get []) = get [(⟨g, d, 1⟩, .arr t k [])] := by rw [← get_single, ← get_append]; rfl
    rw [he] at q2 q3
    refine ⟨v, _, rfl, q1, ?_, q2, q3.weaken fun n _ hn => by subst hn; exact ⟨rfl, rfl⟩⟩
    have hρ : (G.upd ⟨g, d, 1⟩ v).ρ ⟨g, d, 1⟩ = some v := by simp [Gh.upd]
    rcases hv with rfl | ⟨cap, cur, rfl, h1, h2, h3⟩
    · exact .own hρ
    · exact .own hρ

theorem Co.one {x : Bool} {r r' : D} (h : CoL r.cells r'.cells) : Co (.sl x [r]) (.sl false [r']) :=
  Co.sl (fun e => by cases e) rfl (fun i a a' ha ha' => by
    cases i with
    | zero => cases ha; cases ha'; exact h
    | succ i => cases ha)

theorem okRows_map {α : Type} (k : Nat) (f : α → D) (l : List α) (h : ∀ a, (f a).cells.length = k ∧ (f a).cells.all D.one = true) : okRows k (l.map f) := fun r hr => by
  obtain ⟨a, _, rfl⟩ := List.mem_map.1 hr
  exact h a

end Go.Ab
