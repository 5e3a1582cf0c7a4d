/- A part of the proof, under no conditions of its own: ZAG. -/
import Derived.Test.YtjicgnbcelhoiaaGreatDoorZAF
import Derived.Shelf.SlSortCmp.NoneTotal
import Derived.Stop.Asserts
import Derived.Laws.Externs
namespace Go.Ab
open Go Go.RowKit Go.Proofs Go.Shelf
open Go.Sort (flatK get_flatK size_flatK blk_iff HoldsK)
structure Cell (β : Type) (k : Nat) (ok : List Value → β → Prop) where
 vs : List Value
 tag : β
 len : vs.length = k
 one : ∀ v ∈ vs, v.oneCell' = true
 fit : ok vs tag
def CmpAt (P : Program) (A : World → Prop) (cmp : FuncId) (β : Type) (k : Nat) (ok : List Value → β → Prop) (cf : β → β → Int) : Prop :=
 ∀ x y : Cell β k ok, ∀ w, A w → Calls P cmp #[.agg x.vs.toArray, .agg y.vs.toArray] w fun e w' => e = .returned (.int .i64 (cf x.tag y.tag)) ∧ ∃ q os', w' = Sort.grow (w.drewN q) os'
theorem grownBy_sput {w : World} {g n : Nat} {os : Array Obj} (d : Array Value) : Gr w (Sort.grow (Sort.putRow id (Sort.ahead w n) g 0 d) os) (some g) := by
 refine ⟨⟨rfl, rfl, rfl, by simp, fun k hk hne => ?_⟩, Nat.le_add_right _ _⟩
 rw [Sort.heap_grow_old _ _ (by simpa using hk)]
 have : g ≠ k := fun e => hne (by rw [e])
 simp [Sort.putRow, Sort.mapBlock, Sort.ahead, Array.getElem?_modify, this]
theorem heap_put {w : World} {g n : Nat} {os : Array Obj} {cur : Array Value} {e : TypeId} {fr : Nat × Nat} (d : Array Value) (hb : w.heap[g]? = some (.cells cur e fr)) :
  (Sort.grow (Sort.putRow id (Sort.ahead w n) g 0 d) os).heap[g]? = some (.cells (Sort.putCells id 0 d cur) e fr) := by
 have hg : g < w.heap.size := (Array.getElem?_eq_some_iff.1 hb).1
 rw [Sort.heap_grow_old _ _ (by simpa using hg)]
 simp [Sort.putRow, Sort.mapBlock, Sort.ahead, Array.getElem?_modify, hb, Sort.onCells]
theorem take_put (cur d : Array Value) (h : d.size ≤ cur.size) : (Sort.putCells id 0 d cur).toList.take d.size = d.toList := by
 apply List.ext_getElem?
 intro j
 by_cases hj : j < d.size
 ·rw [List.getElem?_take_of_lt hj, Array.getElem?_toList]
  simp [Sort.putCells, hj, show j < cur.size by omega]
 ·rw [List.getElem?_take_eq_none (by omega), List.getElem?_eq_none (by simp; omega)]
theorem swo_pull {α β : Type} [Inhabited α] [Inhabited β] {lt : β → β → Bool} (h : Sort.SWO lt) (f : α → β) : Sort.SWO fun x y => lt (f x) (f y) :=
 ⟨fun _ => h.irrefl _, fun _ _ _ => h.trans _ _ _, fun _ _ _ => h.ntrans _ _ _⟩
variable {β : Type} {k : Nat} {ok : List Value → β → Prop}
theorem get_flat {α : Type} [Inhabited α] {enc : α → List Value} (hk : ∀ x, (enc x).length = k) (d : Array α) (i j : Nat) (hi : i < d.size) (hj : j < k) :
  (flatK enc k d)[i * k + j]? = (enc d[i]!)[j]? := by
 have h1 : i * k + j < d.size * k := by
  have := Nat.mul_le_mul_right k (show i + 1 ≤ d.size from hi); rw [Nat.add_mul, Nat.one_mul] at this; omega
 have h2 := get_flatK enc k d _ h1
 have e1 : (i * k + j) / k = i := (blk_iff k i _ (by omega)).1 ⟨by omega, by omega⟩
 have e2 : (i * k + j) % k = j := by rw [Nat.mod_eq_sub_div_mul, e1]; omega
 rw [e1, e2] at h2
 rw [Array.getElem?_eq_getElem (by simpa using h1), List.getElem?_eq_getElem (by rw [hk]; exact hj)]
 rw [getElem!_pos (flatK enc k d) _ (by simpa using h1)] at h2
 rw [h2, getElem!_pos _ _ (by rw [hk]; exact hj)]
theorem Vs.pair {G : Gh} {w : World} {vs : Array Value} {a b : D} (h : Vs G w vs [a, b]) : ∃ x y, vs = #[x, y] ∧ V G w x a ∧ V G w y b := by
 obtain ⟨l⟩ := vs
 obtain ⟨h1, h2⟩ := h
 have h1' : l.length = 2 := h1
 match l, h1' with
 | [x, y], _ => exact ⟨x, y, rfl, h2 0 x a rfl rfl, h2 1 y b rfl rfl⟩
theorem acalls_sort {E : Ctx} {f cmp : FuncId} {encB : β → D} {t : TypeId} {ρ : Ren} (L : SlLaysF0.n6 E.P ρ) (hf : ρ.f 6 = f) (ht : ρ.t 24 = t) (hcall : ∀ xs w, (callFunc f xs).run E.P w = .ok (.enter f xs) w)
  (hag : aggOf E.P t = some true) (hsz : szOf E.P t = some k) (hk0 : 0 < k) (henc : ∀ b, (encB b).cells.length = k ∧ (encB b).cells.all D.one = true)
  (hok : ∀ G w vs b, Vs G w vs (encB b).cells → ok vs.toList b) {cf : β → β → Int} [Inhabited β] (hO : Sort.SWO (ltOf cf)) (hkeep : ∀ w0 w, E.A w0 → Below w0.heap.size w0 w → E.A w) (hcmp : CmpAt E.P E.A cmp β k ok cf) (ecmp : ∀ xs w, (callFunc cmp xs).run E.P w = .ok (.enter cmp xs) w)
  {l l' : List β} (hlen : l.length < 4611686018427387904) (huniq : ∀ l2 : List β, l2.Perm l → l2.Pairwise (fun a b => ltOf cf b a = false) → l2 = l') (n : Nm) (g d : Nat) :
  ACalls E f [.own n l.length, .func (.func cmp) [] []] [(n, .arr t k (l.map encB))] g d (.tup []) [(n, .arr t k (l'.map encB))] where
 call := hcall
 run w0 hA G w vs hw hvs ho hfr := by
  obtain ⟨v, hρ, ⟨xs, hown, hfl⟩, hnF⟩ := ho.ob n (.arr t k (l.map encB)) (by simp [get])
  -- the arguments
  have hv2 : ∃ cap a, vs = #[.slice a l.length cap, .func (.func cmp) #[] #[]] ∧ v = .slice a l.length cap := by
   obtain ⟨a0, a1, rfl, h0, h3⟩ := hvs.pair
   cases h0 with
   | own h0 =>
    rename_i a cap
    cases h3 with
    | @func _ fs cs _ _ e1 e2 =>
     have e3 : fs = #[] := by simpa using e1
     have e4 : cs = #[] := by simpa using e2
     subst e3 e4
     exact ⟨cap, a, rfl, by rw [hρ] at h0; exact Option.some.inj h0⟩
  obtain ⟨cap, a, rfl, rfl⟩ := hv2
  have fin0 : ∀ w', w' = w → l = l' → ∃ v G', Ending.returned (.tuple #[]) = .returned v ∧ WF w0 G' w' ∧ V G' w' v (.tup []) ∧ Objs w0 G' w' (get [(n, .arr t k (l'.map encB))]) ∧ Step (rsv g (some d)) G w (get [(n, .arr t k (l.map encB))]) G' w' (get [(n, .arr t k (l'.map encB))]) := by
   rintro w' rfl rfl
   exact ⟨_, G, rfl, hw, .tup rfl (fun i c d h => by simp at h), ho, .refl _ _ _ _⟩
  by_cases hl0 : l.length = 0
  ·have hl : l = [] := List.length_eq_zero_iff.1 hl0
   subst hl
   have := huniq [] (List.Perm.refl _) .nil
   subst this
   refine ((AnyF.slices_SortFunc_none L a cap (.func (.func cmp) #[] #[]) w).mono ?_ : Calls E.P (ρ.f 6) _ w _) |> fun h => by rw [hf] at h; exact h
   rintro e w' ⟨rfl, rfl⟩
   exact fin0 _ rfl rfl
  ·rcases hown.2 with ⟨_, hc⟩ | ⟨g0, cap', cur, hc, hb0, hh, hnc, hcm, hcs, htake⟩
   ·exact absurd (by simpa using hc) hl0
   ·have hll : (l.map encB).length = l.length := by simp
    rw [hll] at hnc htake hown hc
    cases hc
    have hk1 : l.length * k ≤ cap * k := Nat.mul_le_mul_right k hnc
    -- the elements
    have hel : ∀ i : Fin l.length, ∃ c : Cell β k ok, c.tag = l[i] ∧ c.vs = (cur.toList.drop (i * k)).take k ∧ Vs G w c.vs.toArray (encB l[i]).cells := by
     intro i
     have hi : (i : Nat) * k + k ≤ l.length * k := by
      have := Nat.mul_le_mul_right k (show (i : Nat) + 1 ≤ l.length from i.2); rw [Nat.add_mul, Nat.one_mul] at this; exact this
     obtain ⟨_, hrow⟩ := hfl i (encB l[i]) (by simp)
     have hvl : ((cur.toList.drop (i * k)).take k).length = k := by simp; omega
     have hget : ∀ j, j < k → ((cur.toList.drop (i * k)).take k)[j]? = xs[(i : Nat) * k + j]? := by
      intro j hj
      rw [← htake, List.getElem?_take_of_lt hj, List.getElem?_drop, List.getElem?_take_of_lt (by omega)]
     have hV : Vs G w ((cur.toList.drop (i * k)).take k).toArray (encB l[i]).cells := by
      refine ⟨by simp only [List.size_toArray, hvl, (henc _).1], fun j c d' hc' hd' => ?_⟩
      have hj : j < k := by
       have := (List.getElem?_eq_some_iff.1 hd').1
       rw [(henc _).1] at this; exact this
      obtain ⟨x, hx, hvx⟩ := hrow j d' hd'
      rw [List.getElem?_toArray, hget j hj, hx] at hc'
      cases hc'
      exact hvx
     refine ⟨⟨_, l[i], hvl, fun v hv => ?_, by simpa using hok G w _ _ hV⟩, rfl, rfl, hV⟩
     obtain ⟨j, hj, rfl⟩ := List.mem_iff_getElem.1 hv
     have hj' : j < (encB l[i]).cells.length := by rw [(henc _).1]; omega
     exact (hV.2 j _ _ (by rw [List.getElem?_toArray]; exact List.getElem?_eq_getElem hj) (List.getElem?_eq_getElem hj')).one (List.all_eq_true.1 (henc l[i]).2 _ (List.getElem_mem hj'))
    have hch := Classical.axiomOfChoice hel
    obtain ⟨F, hF⟩ := hch
    letI : Inhabited (Cell β k ok) := ⟨F ⟨0, by omega⟩⟩
    let d0 : Array (Cell β k ok) := Array.ofFn F
    have hd0 : d0.size = l.length := by simp [d0]
    have hd0g : ∀ i (h : i < l.length), d0[i]! = F ⟨i, h⟩ := fun i h => by
     rw [getElem!_pos d0 i (by rw [hd0]; exact h)]
     simp [d0]
    have hH : HoldsK Cell.vs k w g0 0 d0 := by
     intro j hj
     have hj' : j < d0.size * k := by simpa using hj
     have hjk : j % k < k := Nat.mod_lt _ hk0
     have hji : j / k < l.length := by rw [← hd0]; exact Nat.div_lt_of_lt_mul (by rw [Nat.mul_comm]; exact hj')
     refine ⟨?_, by simp [World.frozen?, hh]⟩
     have e : j / k * k + j % k = j := Nat.div_add_mod' j k
     have h1 := get_flat (k := k) (enc := Cell.vs) (fun x => x.len) d0 (j / k) (j % k) (by rw [hd0]; exact hji) hjk
     rw [e] at h1
     rw [getElem!_pos _ j (by simpa using hj')]
     simp only [World.cell?, hh, Nat.zero_add, Option.isSome_none, Bool.false_eq_true, if_false, id]
     rw [← Array.getElem?_eq_getElem, h1, hd0g _ hji, (hF ⟨j / k, hji⟩).2.1, List.getElem?_take_of_lt hjk, List.getElem?_drop]
     simp only [e, Array.getElem?_toList]
    have hOα : Sort.SWO (ltOf fun x y : Cell β k ok => cf x.tag y.tag) := swo_pull hO Cell.tag
    have hblk : g0 < w.heap.size := (Array.getElem?_eq_some_iff.1 hh).1
    have hc := AnyQ.slices_SortFunc L k (fun w => by rw [ht]; exact run_isAgg hag) (fun w => by rw [ht]; exact run_sizeOf hsz) Cell.vs (fun x => x.len) (fun x => x.one) (fun x y => cf x.tag y.tag) hOα cmp #[] g0 0 cap d0 w ecmp
     (fun m os dk hdk x y => by
      have h9 := hcmp x y (sortWorldK Cell.vs k w g0 0 m dk os) (hkeep w0 _ hA (hw.below.toBelow.grown (grownBy_sput _).togrownBy hw.below.size (fun b hb => by cases hb; exact hb0)))
      simpa using h9) hH hblk (by rw [hd0]; exact hlen)
    rw [hf, hd0] at hc
    refine hc.mono ?_
    rintro e w' ⟨rfl, d', m, os, ⟨hps, _, hperm⟩, hsort, rfl⟩
    have hd's : d'.size = l.length := hps.trans hd0
    have htag : (d'.toList.map Cell.tag) = l' := by
     refine huniq _ ?_ ?_
     ·have e1 : (d0.extract 0 l.length).toList = d0.toList := by simp [← hd0]
      have e2 : (d'.extract 0 l.length).toList = d'.toList := by simp [← hd's]
      rw [e1, e2] at hperm
      have := hperm.map Cell.tag
      refine this.trans (List.Perm.of_eq ?_)
      apply List.ext_getElem?
      intro i
      by_cases hi : i < l.length
      ·simp [d0, hi, (hF ⟨i, hi⟩).1]
      ·rw [List.getElem?_eq_none (by simp [d0]; omega), List.getElem?_eq_none (by omega)]
     ·rw [List.pairwise_iff_getElem]
      intro i j hi hj hij
      have hi' : i < d'.size := by simpa using hi
      have hj' : j < d'.size := by simpa using hj
      have := hsort i j (Nat.zero_le _) hij (by omega)
      rw [getElem!_pos d' i hi', getElem!_pos d' j hj'] at this
      simpa [ltOf] using this
    have hmem : ∀ i, i < l.length → ∃ j : Fin l.length, d'[i]! = F j := by
     intro i hi
     have e1 : (d0.extract 0 l.length).toList = d0.toList := by simp [← hd0]
     have e2 : (d'.extract 0 l.length).toList = d'.toList := by simp [← hd's]
     rw [e1, e2] at hperm
     have h1 : d'[i]! ∈ d'.toList := by
      rw [getElem!_pos d' i (by omega)]
      simp
     have h2 := hperm.mem_iff.1 h1
     obtain ⟨j, hj⟩ := (List.mem_ofFn).1 (by simpa [d0] using h2)
     exact ⟨j, hj.symm⟩
    have hl' : l'.length = l.length := by rw [← htag]; simp [hd's]
    have hgr : Gr w (sortWorldK Cell.vs k w g0 0 m d' os) (blk (.slice (some ⟨g0, 0, none⟩) l.length cap)) := grownBy_sput _
    have hflat : (flatK Cell.vs k d').size = l.length * k := by simp [hd's]
    have hnF0 : ¬ G.F g0 := hnF g0 rfl
    have hov : OV w0 G (sortWorldK Cell.vs k w g0 0 m d' os) (.slice (some ⟨g0, 0, none⟩) l.length cap) (.arr t k (l'.map encB)) := by
     refine ⟨(flatK Cell.vs k d').toList, ⟨by simp [hd's, hl'], .inr ⟨g0, cap, _, by simp [hl'], hb0, heap_put _ hh, by simpa [hl'] using hnc, hcm, by simp [Sort.putCells, hcs], ?_⟩⟩, ?_⟩
     ·have := take_put cur (flatK Cell.vs k d') (by rw [hflat, hcs]; exact hk1)
      rw [hflat] at this
      simpa [hl'] using this
     ·intro i r hr
      have hi : i < l.length := by
       have := (List.getElem?_eq_some_iff.1 hr).1
       simpa [hl'] using this
      have hr' : r = encB d'[i]!.tag := by
       rw [← htag] at hr
       have hi' : i < d'.size := by omega
       rw [getElem!_pos d' i hi']
       simpa [hi'] using hr.symm
      subst hr'
      refine ⟨(henc _).1, fun j dd hdd => ?_⟩
      have hj : j < k := by
       have := (List.getElem?_eq_some_iff.1 hdd).1
       rw [(henc _).1] at this; exact this
      obtain ⟨jj, hjj⟩ := hmem i hi
      have hVr := (hF jj).2.2
      rw [← (hF jj).1, ← hjj] at hVr
      have hjl : j < d'[i]!.vs.length := by rw [d'[i]!.len]; exact hj
      refine ⟨d'[i]!.vs[j], ?_, ?_⟩
      ·rw [Array.getElem?_toList, get_flat (fun x => x.len) d' i j (by omega) hj, List.getElem?_eq_getElem hjl]
      ·refine (hVr.2 j _ dd (by simp [hjl]) hdd).mono (fun _ h => h) (fun b hb => hgr.block b (hw.lt b hb) fun e => ?_) (fun _ _ h => h)
       simp only [blk, Option.some.injEq] at e
       exact hnF0 (e ▸ hb)
    obtain ⟨q1, q2, q3⟩ := change_obj hw ho (n := n) (ob := .arr t k (l.map encB)) (by simp [get]) hρ hgr hov
    have hput : Kp.put (get [(n, .arr t k (l.map encB))]) n (.arr t k (l'.map encB)) = get [(n, .arr t k (l'.map encB))] := by
     funext m
     simp only [Kp.put, get]
     split <;> simp
    rw [hput] at q2 q3
    exact ⟨_, G, rfl, q1, .tup rfl (fun i c d h => by simp at h), q2, q3.weaken fun _ _ h => h.elim⟩
end Go.Ab
namespace Go.Ab
open Go.Sort (SWO)
variable {β : Type}
def Ord (lt : β → β → Bool) (l : List β) : Prop := l.Pairwise fun a b => lt b a = false
noncomputable def srt (lt : β → β → Bool) (l : List β) : List β := l.mergeSort fun a b => !lt b a
theorem SWO.total {lt : β → β → Bool} (h : SWO lt) (a b : β) : (!lt b a || !lt a b) = true := by
 cases h1 : lt b a with
 | false => simp
 | true =>
  cases h2 : lt a b with
  | false => simp
  | true => have := h.trans _ _ _ h1 h2; rw [h.irrefl] at this; cases this
theorem srt_perm (lt : β → β → Bool) (l : List β) : (srt lt l).Perm l := List.mergeSort_perm _ _
theorem srt_ord {lt : β → β → Bool} (h : SWO lt) (l : List β) : Ord lt (srt lt l) := by
 have := List.pairwise_mergeSort (le := fun a b => !lt b a) (fun a b c h1 h2 => by
  simp only [Bool.not_eq_true'] at h1 h2 ⊢
  exact h.ntrans _ _ _ h2 h1) (fun a b => SWO.total h a b) l
 exact this.imp fun h => by simpa using h
theorem srt_uniq {lt : β → β → Bool} (h : SWO lt) {l l2 : List β} (hd : ∀ a ∈ l, ∀ b ∈ l, lt a b = false → lt b a = false → a = b) (hp : l2.Perm l) (ho : Ord lt l2) : l2 = srt lt l :=
 List.Perm.eq_of_pairwise (le := fun a b => lt b a = false) (fun a b ha hb h1 h2 => hd a (hp.subset ha) b ((srt_perm lt l).subset hb) h2 h1) ho (srt_ord h l) (hp.trans (srt_perm lt l).symm)
theorem srt_len (lt : β → β → Bool) (l : List β) : (srt lt l).length = l.length := (srt_perm lt l).length_eq
def Mid (lt : β → β → Bool) (l : List β) (k n : Nat) : Prop := ∀ (i j : Nat) a b, i < j → j ≤ k → j ≠ n → l[i]? = some a → l[j]? = some b → lt b a = false
def Upto (lt : β → β → Bool) (l : List β) (k : Nat) : Prop := ∀ (i j : Nat) a b, i < j → j < k → l[i]? = some a → l[j]? = some b → lt b a = false
end Go.Ab
namespace Go.Ab
open Go Go.RowKit
def Leads (E : Ctx) (o : Oper) (e : Operand → D) (f : FuncId) (args : List D) : Prop :=
 ∀ G w (ρ : Operand → Value), (∀ x ∈ o.op.operands, V G w (ρ x) (e x)) → ∃ vs, (execOp ρ o).run E.P w = (callFunc f vs).run E.P w ∧ Vs G w vs args
def Recv (P : Program) (t : TypeId) (name : String) (d : D) (f : FuncId) (d' : D) : Prop :=
 ∀ G w v, V G w v d → ∃ v', (method (P.types.size + Made.depth) t v name).run P w = .ok (f, v') w ∧ V G w v' d'
def XCalls (E : Ctx) (f : FuncId) (args : List D) (σ : Sto) (g d : Nat) (r : D) (σ' : Sto) : Prop :=
 ∀ w0, E.A w0 → ∀ G w (vs : Array Value), WF w0 G w → Vs G w vs args → Objs w0 G w (get σ) → (g < G.top ∧ ∀ j, G.ρ ⟨g, d, j⟩ = none) →
  ∃ v w' G', (callFunc f vs).run E.P w = .ok (.value v) w' ∧ WF w0 G' w' ∧ V G' w' v r ∧ Objs w0 G' w' (get σ') ∧ Step (rsv g (some d)) G w (get σ) G' w' (get σ')
section
variable {E : Ctx} {g : Nat} {o : Oper} {e : Operand → D}
theorem Vs.map_ops {G : Gh} {w : World} {ρ : Operand → Value} (xs : Array Operand) (h : ∀ x ∈ xs, V G w (ρ x) (e x)) : Vs G w (xs.map ρ) (xs.toList.map e) := by
 refine ⟨by simp, fun i x d hx hd => ?_⟩
 simp only [Array.getElem?_map, Option.map_eq_some_iff] at hx
 obtain ⟨y, hy, rfl⟩ := hx
 simp only [List.getElem?_map, Array.getElem?_toList, hy, Option.map_some, Option.some.injEq] at hd
 subst hd
 exact h y (Array.mem_of_getElem? hy)
theorem leads_fn {c : Call} {fo : Operand} {f : FuncId} (hop : o.op = .call c) (hc : c.callee = .value fo) (hf : e fo = .func (.func f) [] []) : Leads E o e f (c.args.toList.map e) := by
 intro G w ρ hV
 have hv := hV fo (by simp [hop, Op.operands, Call.operands, hc])
 rw [hf] at hv
 generalize hρ : ρ fo = u at hv
 cases hv with
 | func h1 h2 h3 h4 =>
  rename_i fv cv
  have e1 : fv = #[] := Array.size_eq_zero_iff.1 h1
  have e2 : cv = #[] := Array.size_eq_zero_iff.1 h2
  subst e1 e2
  refine ⟨c.args.map ρ, ?_, Vs.map_ops c.args fun x hx => hV x ?_⟩
  ·simp [execOp, hop, resolve, hc, hρ, Deferred.ofValue, invoke]
  ·simp only [hop, Op.operands, Call.operands, hc]
   exact Array.mem_append.2 (.inr hx)
theorem leads_method {c : Call} {ro : Operand} {name : String} {t : TypeId} {d d' : D} {f : FuncId} (hop : o.op = .call c) (hc : c.callee = .invoke ro name) (hr : e ro = .iface t d) (hm : Recv E.P t name d f d') : Leads E o e f (d' :: c.args.toList.map e) := by
 intro G w ρ hV
 have hv := hV ro (by simp [hop, Op.operands, Call.operands, hc])
 rw [hr] at hv
 generalize hρ : ρ ro = u at hv
 cases hv with
 | iface h1 =>
  rename_i v
  obtain ⟨v', k1, k2⟩ := hm G w v h1
  have k3 : Vs G w #[v'] [d'] := ⟨rfl, fun i x y hx hy => by
   match i, hx, hy with
   | 0, hx, hy => cases hx; cases hy; exact k2⟩
  have k4 : Vs G w (c.args.map ρ) (c.args.toList.map e) := Vs.map_ops c.args fun x hx => hV x (by
   simp only [hop, Op.operands, Call.operands, hc]
   exact Array.mem_append.2 (.inr hx))
  refine ⟨#[v'] ++ c.args.map ρ, ?_, k3.append k4⟩
  have h0 : (#[Value.iface t v] ++ Array.map ρ c.args)[0]? = some (Value.iface t v) := by simp [Array.getElem?_append]
  have hx : (Array.map ρ c.args).extract 0 c.args.size = Array.map ρ c.args := by
   have := Array.extract_size (xs := Array.map ρ c.args)
   rwa [Array.size_map] at this
  simp [execOp, hop, resolve, hc, hρ, invoke, h0, hx, callMethod, k1, Result.andThen]
theorem Vs.co {G : Gh} {w : World} {vs : Array Value} {args args' : List D} (h : Vs G w vs args) (hco : CoL args args') : Vs G w vs args' :=
 let ⟨hcl, hcs⟩ := hco.spec
 ⟨h.1.trans hcl, fun i c d' hx hd' => let ⟨d0, k1, k2⟩ := hcs i d' hd'; k2 G w c (h.2 i c d0 hx k1)⟩
theorem top_leads {f : FuncId} {args args' : List D} {σ σs σ' : Sto} {d : Nat} {r : D} (hc : Leads E o e f args) (hco : CoL args args') (hd : o.dst = some d) (h : ACalls E f args' σs g d r σ') (hsub : ∀ p ∈ σs, get σ p.1 = some p.2) :
  TOp E g o e (get σ) r (get (σ' ++ dels σ (σs.map (·.1)))) := by
 intro w0 hA G w a hw hV ho hf K Q' hK
 obtain ⟨vs, hrun, hvs⟩ := hc G w a.eval hV
 rw [h.call] at hrun
 have hvs' := hvs.co hco
 have hsub' : ∀ n o, get σs n = some o → get σ n = some o := fun n o hn => hsub (n, o) (mem_of_get hn)
 have hrun2 := h.run w0 hA G w vs hw hvs' (ho.sub hsub') (hf d hd)
 refine op_enter hrun (Calls.mono hrun2 ?_)
 rintro en w' ⟨v, G', rfl, hw', hv, ho', hs⟩
 obtain ⟨f1, f2⟩ := frame (κs := get σs) (τ := get (dels σ (σs.map (·.1)))) hw ho hsub' (fun n o' hn => by
  rw [get_dels] at hn
  split at hn
  ·cases hn
  ·rename_i hnm
   exact ⟨hn, get_none_iff.2 hnm⟩) hs ho'
 rw [← get_append] at f1 f2
 exact hK G' w' v hw' hv f1 (f2.weaken fun n _ hn => by rw [hd]; exact hn)
theorem top_entry {f : FuncId} {args args' : List D} {σ σs σ' : Sto} {d : Nat} {r : D} (hc : Leads E o e f args) (hco : CoL args args') (hd : o.dst = some d) (h : XCalls E f args' σs g d r σ') (hsub : ∀ p ∈ σs, get σ p.1 = some p.2) :
  TOp E g o e (get σ) r (get (σ' ++ dels σ (σs.map (·.1)))) := by
 intro w0 hA G w a hw hV ho hf K Q' hK
 obtain ⟨vs, hrun, hvs⟩ := hc G w a.eval hV
 have hvs' := hvs.co hco
 have hsub' : ∀ n o, get σs n = some o → get σ n = some o := fun n o hn => hsub (n, o) (mem_of_get hn)
 obtain ⟨v, w', G', hrun2, hw', hv, ho', hs⟩ := h w0 hA G w vs hw hvs' (ho.sub hsub') (hf d hd)
 rw [hrun2] at hrun
 refine op_val hrun ?_
 obtain ⟨f1, f2⟩ := frame (κs := get σs) (τ := get (dels σ (σs.map (·.1)))) hw ho hsub' (fun n o' hn => by
  rw [get_dels] at hn
  split at hn
  ·cases hn
  ·rename_i hnm
   exact ⟨hn, get_none_iff.2 hnm⟩) hs ho'
 rw [← get_append] at f1 f2
 exact hK G' w' v hw' hv f1 (f2.weaken fun n _ hn => by rw [hd]; exact hn)
end
section
variable {E : Ctx} {N : Nat} {st : St} {ops : List Oper} {ds : List (Option Tmp)} {g : Nat} {Q : St → Prop}
theorem aops_inv {o : Oper} {r : List Oper} {f : FuncId} {args args' : List D} {σs σ' : Sto} {d : Nat} {x : D} (hds : ops.map (·.dst) = ds) (hw : wantL ds st.env o.guard = some true) (hd : o.dst = some d) (hc : Leads E o (ev E st.env) f args) (h : ACalls E f args' σs g d x σ') (hco : CoL args args')
  (hsub : ∀ p ∈ σs, get st.σ p.1 = some p.2) (k : AOps E N ops g Q r { env := (d, x) :: st.env, σ := σ' ++ dels st.σ (σs.map (·.1)) }) : AOps E N ops g Q (o :: r) st := by
 refine aops_t (by rw [← wantL_eq hds]; exact hw) (top_leads hc hco hd h hsub) ?_
 simp only [hd, St.env']
 exact k
theorem aops_entry {o : Oper} {r : List Oper} {f : FuncId} {args args' : List D} {σs σ' : Sto} {d : Nat} {x : D} (hds : ops.map (·.dst) = ds) (hw : wantL ds st.env o.guard = some true) (hd : o.dst = some d) (hc : Leads E o (ev E st.env) f args) (h : XCalls E f args' σs g d x σ') (hco : CoL args args')
  (hsub : ∀ p ∈ σs, get st.σ p.1 = some p.2) (k : AOps E N ops g Q r { env := (d, x) :: st.env, σ := σ' ++ dels st.σ (σs.map (·.1)) }) : AOps E N ops g Q (o :: r) st := by
 refine aops_t (by rw [← wantL_eq hds]; exact hw) (top_entry hc hco hd h hsub) ?_
 simp only [hd, St.env']
 exact k
end
end Go.Ab
namespace Go.Ab
open Go Go.RowKit
section
variable {E : Ctx} {g d : Nat} {f : FuncId} {args : List D}
theorem xcalls_pure {r : D} (h : ∀ w0, E.A w0 → ∀ G w vs, WF w0 G w → Vs G w vs args → ∃ v, (callFunc f vs).run E.P w = .ok (.value v) w ∧ V G w v r) : XCalls E f args [] g d r [] := by
 intro w0 hA G w vs hw hvs ho _
 obtain ⟨v, h1, h2⟩ := h w0 hA G w vs hw hvs
 exact ⟨v, w, G, h1, hw, h2, ho, .refl _ _ _ _⟩
theorem xcalls_box {h fl : Value} {t : TypeId} {cs : List D}
  (hrun : ∀ w0, E.A w0 → ∀ G w vs, WF w0 G w → Vs G w vs args → ∃ c, (callFunc f vs).run E.P w = .ok (.value (.agg #[h, .pointer (some ⟨w.heap.size, 0, none⟩), fl])) (w.alloc (.cells c t)) ∧ Vs G w c cs) :
  XCalls E f args [] g d (.agg [.val h, .ptr ⟨g, d, 0⟩ 0, .val fl]) [(⟨g, d, 0⟩, .box t cs)] := by
 intro w0 hA G w vs hw hvs ho hf
 obtain ⟨c, hc, hs⟩ := hrun w0 hA G w vs hw hvs
 obtain ⟨hg, hfresh⟩ := hf
 have hgr : Gr w (w.alloc (.cells c t)) none := gr_alloc w _
 have hnew : (w.alloc (.cells c t)).heap[w.heap.size]? = some (.cells c t (0, 0)) := heap_alloc_n w _
 have hsz : (w.alloc (.cells c t)).heap.size = w.heap.size + 1 := World.size_alloc _ _
 obtain ⟨h1, h2, h3⟩ := new_obj hw ho (hfresh 0) hg (v := .pointer (some ⟨w.heap.size, 0, none⟩)) (ob := .box t cs) hgr (fun b hb => by simp [blk] at hb; omega)
  ⟨w.heap.size, c, rfl, hnew, hs.1, fun i x d hx hd' => (hs.2 i x d hx hd').upd (hfresh 0) (fun b hF => heap_alloc_o w _ b (hw.lt b hF))⟩
 have he : Kp.or (single (⟨g, d, 0⟩ : Nm) (.box t cs)) (get []) = get [((⟨g, d, 0⟩ : Nm), Ob.box t cs)] := by
  rw [← get_single]
  funext n
  simp [Kp.or, get]
 rw [he] at h2 h3
 refine ⟨_, _, _, hc, h1, .agg (by simp) (fun i x y hx hy => ?_), h2, h3.weaken fun n _ hn => by subst hn; exact ⟨rfl, rfl⟩⟩
 match i, hx, hy with
 | 0, hx, hy => cases hx; cases hy; exact .val _
 | 1, hx, hy => cases hx; cases hy; exact .ptr (by simp [Gh.upd])
 | 2, hx, hy => cases hx; cases hy; exact .val _
 | n + 3, hx, hy => simp at hy
end
section
variable {E : Ctx} {N : Nat} {st : St} {ops : List Oper} {ds : List (Option Tmp)} {g : Nat} {Q : St → Prop}
theorem aops_inv0 {o : Oper} {r : List Oper} {f : FuncId} {args args' : List D} {nw : Sto} {d : Nat} {x : D} (hds : ops.map (·.dst) = ds) (hw : wantL ds st.env o.guard = some true) (hd : o.dst = some d) (hc : Leads E o (ev E st.env) f args) (h : ACalls E f args' [] g d x nw) (hco : CoL args args')
  (k : AOps E N ops g Q r { env := (d, x) :: st.env, σ := nw ++ st.σ }) : AOps E N ops g Q (o :: r) st :=
 aops_inv hds hw hd hc h hco (fun p hp => by cases hp) k
theorem aops_entry0 {o : Oper} {r : List Oper} {f : FuncId} {args args' : List D} {nw : Sto} {d : Nat} {x : D} (hds : ops.map (·.dst) = ds) (hw : wantL ds st.env o.guard = some true) (hd : o.dst = some d) (hc : Leads E o (ev E st.env) f args) (h : XCalls E f args' [] g d x nw) (hco : CoL args args')
  (k : AOps E N ops g Q r { env := (d, x) :: st.env, σ := nw ++ st.σ }) : AOps E N ops g Q (o :: r) st :=
 aops_entry hds hw hd hc h hco (fun p hp => by cases hp) k
theorem aops_has {o : Oper} {r : List Oper} {d : Nat} {x : Operand} {xT asserted t : TypeId} {dv : D} (hds : ops.map (·.dst) = ds) (hw : wantL ds st.env o.guard = some true) (hd : o.dst = some d) (hop : o.op = .typeAssert x xT asserted true) (hx : ev E st.env x = .iface t dv)
  (hf : ∀ v w, (Instr.typeAssert (.iface t v) xT asserted true).run E.P w = .ok (.tuple #[.iface t v, .bool true]) w)
  (k : AOps E N ops g Q r { env := (d, .tup [.iface t dv, .val (.bool true)]) :: st.env, σ := st.σ }) : AOps E N ops g Q (o :: r) st := by
 refine aops_q (by rw [← wantL_eq hds]; exact hw) (QOp.of_yields fun w0 hA G w ρ _ hV _ => ?_ : QOp E g o (ev E st.env) (get st.σ) (.tup [.iface t dv, .val (.bool true)]) []) (by simpa [St.put, hd] using k)
 have hv := hV x (by simp [hop, Op.operands])
 rw [hx] at hv
 generalize hρ : ρ x = u at hv
 cases hv with
 | iface h1 =>
  rename_i v
  refine ⟨.tuple #[.iface t v, .bool true], by simp [execOp, hop, hρ, hf v w, Result.andThen], .tup (by simp) (fun i a b ha hb => ?_)⟩
  match i, ha, hb with
  | 0, ha, hb => cases ha; cases hb; exact .iface h1
  | 1, ha, hb => cases ha; cases hb; exact .val _
  | n + 2, ha, hb => simp at hb
theorem aops_lacks {o : Oper} {r : List Oper} {d : Nat} {x : Operand} {xT asserted t : TypeId} {dv : D} (hds : ops.map (·.dst) = ds) (hw : wantL ds st.env o.guard = some true) (hd : o.dst = some d) (hop : o.op = .typeAssert x xT asserted true) (hx : ev E st.env x = .iface t dv)
  (hf : ∀ v w, (Instr.typeAssert (.iface t v) xT asserted true).run E.P w = .ok (.tuple #[.nilIface, .bool false]) w)
  (k : AOps E N ops g Q r { env := (d, .tup [.val .nilIface, .val (.bool false)]) :: st.env, σ := st.σ }) : AOps E N ops g Q (o :: r) st := by
 refine aops_q (by rw [← wantL_eq hds]; exact hw) (QOp.of_yields fun w0 hA G w ρ _ hV _ => ?_ : QOp E g o (ev E st.env) (get st.σ) (.tup [.val .nilIface, .val (.bool false)]) []) (by simpa [St.put, hd] using k)
 have hv := hV x (by simp [hop, Op.operands])
 rw [hx] at hv
 generalize hρ : ρ x = u at hv
 cases hv with
 | iface h1 =>
  rename_i v
  refine ⟨.tuple #[.nilIface, .bool false], by simp [execOp, hop, hρ, hf v w, Result.andThen], .tup (by simp) (fun i a b ha hb => ?_)⟩
  match i, ha, hb with
  | 0, ha, hb => cases ha; cases hb; exact .val _
  | 1, ha, hb => cases ha; cases hb; exact .val _
  | n + 2, ha, hb => simp at hb
end
end Go.Ab
namespace Go.Ab
open Go Go.RowKit
section
variable {E : Ctx} {g : Nat} {o : Oper} {e : Operand → D}
theorem Recv.same {P : Program} {t : TypeId} {name : String} {f : FuncId} (h : ∀ v w, (method (P.types.size + Made.depth) t v name).run P w = .ok (f, v) w) (d : D) : Recv P t name d f d :=
 fun _ w v hv => ⟨v, h v w, hv⟩
end
section
variable {E : Ctx} {g : Nat} {st : St} {ops : List Oper} {ds : List (Option Tmp)} {σ0 : Sto} {K : St → Prop}
end
end Go.Ab
namespace Go.Ab
open Go Go.RowKit
section
variable {E : Ctx} {g d : Nat} {f : FuncId}
theorem V.agg3 {G : Gh} {w : World} {v x y : Value} {n : Nm} (h : V G w v (.agg [.val x, .ptr n 0, .val y])) : ∃ b, v = .agg #[x, .pointer (some ⟨b, 0, none⟩), y] ∧ G.ρ n = some (.pointer (some ⟨b, 0, none⟩)) := by
 cases h with
 | agg h1 h2 =>
  rename_i cs
  have hs : cs.size = 3 := h1
  have e0 := h2 0 cs[0] _ (by simp [hs]) rfl
  have e1 := h2 1 cs[1] _ (by simp [hs]) rfl
  have e2 := h2 2 cs[2] _ (by simp [hs]) rfl
  generalize hp : cs[1] = p at e1
  cases e1 with
  | ptr hρ =>
   rename_i b
   refine ⟨b, ?_, hρ⟩
   congr 1
   refine Array.ext (by simp [hs]) fun i hi h3 => ?_
   match i, hi with
   | 0, _ => exact V.of_val e0
   | 1, _ => exact hp
   | 2, _ => exact V.of_val e2
   | n + 3, hi => exact absurd hi (by omega)
theorem xcalls_read {args : List D} {r : D} {σ : Sto} {n : Nm} {t : TypeId} {cs : List D} (hn : get σ n = some (.box t cs))
  (h : ∀ w0, E.A w0 → ∀ G w vs, WF w0 G w → Vs G w vs args → ∀ b c, G.ρ n = some (.pointer (some ⟨b, 0, none⟩)) → w.heap[b]? = some (.cells c t (0, 0)) → Vs G w c cs → ∃ v, (callFunc f vs).run E.P w = .ok (.value v) w ∧ V G w v r) :
  XCalls E f args σ g d r σ := by
 intro w0 hA G w vs hw hvs ho _
 obtain ⟨u, hρ, ⟨b, c, rfl, hh, hsz, hcs⟩, _⟩ := ho.ob n _ hn
 obtain ⟨v, h1, h2⟩ := h w0 hA G w vs hw hvs b c hρ hh ⟨hsz, hcs⟩
 exact ⟨v, w, G, h1, hw, h2, ho, .refl _ _ _ _⟩
theorem xcalls_set {h1 fl1 h2 fl2 : Value} {m k : Nm} {t : TypeId} {old new : List D} (mk : Array Value → Value) (hmk : m ≠ k) (hl : old.length = new.length) (hs : szOf E.P t = some new.length) (hone : new.all D.one = true)
  (hcell : ∀ G w c, Vs G w c new → (mk c).cells = c)
  (hrun : ∀ (a b : Nat) (c : Array Value) w, w.heap[b]? = some (.cells c t (0, 0)) → c.size = new.length →
   (callFunc f #[.agg #[h1, .pointer (some ⟨a, 0, none⟩), fl1], .agg #[h2, .pointer (some ⟨b, 0, none⟩), fl2]]).run E.P w = ((storeVar t ⟨a, 0, none⟩ (mk c)).run E.P w).andThen fun _ w => .ok (.value (.tuple #[])) w) :
  XCalls E f [.agg [.val h1, .ptr m 0, .val fl1], .agg [.val h2, .ptr k 0, .val fl2]] [(m, .box t old), (k, .box t new)] g d (.tup []) [(m, .box t new), (k, .box t new)] := by
 intro w0 hA G w vs hw hvs ho _
 have hsz2 : vs.size = 2 := hvs.1
 obtain ⟨a, e1, hm⟩ := V.agg3 (hvs.2 0 vs[0] _ (by simp [hsz2]) rfl)
 obtain ⟨b, e2, hk⟩ := V.agg3 (hvs.2 1 vs[1] _ (by simp [hsz2]) rfl)
 have hv : vs = #[.agg #[h1, .pointer (some ⟨a, 0, none⟩), fl1], .agg #[h2, .pointer (some ⟨b, 0, none⟩), fl2]] := by
  refine Array.ext (by simp [hsz2]) fun i hi h3 => ?_
  match i, hi with
  | 0, _ => exact e1
  | 1, _ => exact e2
  | n + 2, hi => exact absurd hi (by omega)
 have gm : get [(m, Ob.box t old), (k, Ob.box t new)] m = some (.box t old) := by simp [get]
 have gk : get [(m, Ob.box t old), (k, Ob.box t new)] k = some (.box t new) := by simp [get, hmk]
 obtain ⟨u, hu, ⟨a', ca, rfl, hha, hsa, hca⟩, hFa⟩ := ho.ob m _ gm
 rw [hm] at hu
 cases hu
 obtain ⟨u, hu, ⟨b', cb, rfl, hhb, hsb, hcb⟩, hFb⟩ := ho.ob k _ gk
 rw [hk] at hu
 cases hu
 have hvs2 : Vs G w cb new := ⟨hsb, hcb⟩
 have h1' : ∀ x ∈ cb.toList, x.oneCell' = true := fun x hx => by
  obtain ⟨i, hi, rfl⟩ := List.mem_iff_getElem.1 hx
  have hi' : i < new.length := by simpa [hsb] using hi
  have hone' : D.one new[i] = true := List.all_eq_true.1 hone _ (List.getElem_mem hi')
  exact V.one (hcb i _ _ (by simp at hi ⊢) (List.getElem?_eq_getElem hi')) hone'
 have hc := hcell G w cb hvs2
 have hst : (storeVar t ⟨a, 0, none⟩ (mk cb)).run E.P w = .ok () (w.setRow a cb) := by
  have := run_storeCells_at E.P a 0 t cb.toList 0 ca w hha (by rw [Array.length_toList]; omega) h1'
  simp only [Nat.add_zero, Nat.zero_add, Array.length_toList, List.take_zero, List.nil_append] at this
  have hd : ca.toList.drop cb.size = [] := List.drop_eq_nil_of_le (by rw [Array.length_toList]; omega)
  rw [hd, List.append_nil, Array.toArray_toList] at this
  have h2 : (mk cb).cells.size = new.length := by rw [hc]; exact hsb
  have h3 : cb.size = new.length := hsb
  simp [storeVar, run_sizeOf hs, hc, this, h3]
 have hrun' := hrun a b cb w hhb hsb
 rw [hst] at hrun'
 simp only [Result.andThen] at hrun'
 have hgr : Gr w (w.setRow a cb) (blk (.pointer (some ⟨a, 0, none⟩))) :=
  Gr.of ⟨rfl, rfl, rfl, by simp, fun k _ hk => setRow_other w a k _ fun he => hk (by simp [blk, he])⟩
 have hnF : ¬ G.F a := hFa a rfl
 obtain ⟨g1, g2, g3⟩ := change_obj (ob' := .box t new) hw ho gm hm hgr ⟨a, cb, rfl, setRow_heap w a ca _ t (0, 0) hha, hsb, fun i y d' hy hd => (hcb i y d' hy hd).mono (fun _ h => h) (fun b' hF => setRow_other w a b' _ fun he => hnF (he ▸ hF)) (fun _ _ h => h)⟩
 have he : Kp.put (get [(m, Ob.box t old), (k, Ob.box t new)]) m (.box t new) = get [(m, Ob.box t new), (k, Ob.box t new)] := by
  funext x
  simp only [Kp.put, get]
  split <;> simp_all
 rw [he] at g2 g3
 refine ⟨.tuple #[], _, _, by rw [hv]; exact hrun', g1, .tup rfl (fun i c d hc hd => by simp at hd), g2, g3.weaken fun _ _ h => h.elim⟩
end
section
variable {E : Ctx} {N : Nat} {st : St} {ops : List Oper} {ds : List (Option Tmp)} {g : Nat} {Q : St → Prop}
end
theorem ends_keep {E : Ctx} {st : St} {fn : Func} {g d : Nat} {r : D} {σ' : Sto} {l : List ResultVar} (hl : fn.results = l.toArray) (hσ : ∀ p ∈ σ', get st.σ p.1 = some p.2) (h : SomeP (resD E.P st l) fun ds => Co (resV ds) r) : retQ E fn g d r σ' .ret st := by
 obtain ⟨ds, h1, h2⟩ := h.elim
 exact ends_plain hl h1 h2 hσ
end Go.Ab
namespace Go.Ab
open Go Go.RowKit
structure IC (E : Ctx) (f : FuncId) (args : List D) (Pre Post : Sto → Prop) (r : D) : Prop where
 call : ∀ xs w, (callFunc f xs).run E.P w = .ok (.enter f xs) w
 run : ∀ (g d : Nat) w0, E.A w0 → ∀ G w (vs : Array Value) τ, Pre τ → WF w0 G w → Vs G w vs args → Objs w0 G w (get τ) → (g < G.top ∧ ∀ j, G.ρ ⟨g, d, j⟩ = none) →
  Calls E.P f vs w fun e w' => ∃ v G' τ', e = .returned v ∧ Post τ' ∧ WF w0 G' w' ∧ V G' w' v r ∧ Objs w0 G' w' (get τ') ∧ Step (rsv g (some d)) G w (get τ) G' w' (get τ')
def YC (E : Ctx) (n : Nm) (x : D) (Pre Post : Sto → Prop) : Prop :=
 ∀ w0, E.A w0 → ∀ G w τ l v, Pre τ → WF w0 G w → Objs w0 G w (get τ) → V G w v x → G.ρ n = some (.pointer (some ⟨l, 0, none⟩)) → ∀ r,
  ∃ fn tmps assign body, (Instr.yield l #[v]).run E.P w = .ok (.round l fn tmps assign body) w ∧
   RoundIn (Fr r) 0 E.P l fn tmps assign body w fun e w' => e = .returned (.bool true) ∧ ∃ G' τ', Post τ' ∧ WF w0 G' w' ∧ Objs w0 G' w' (get τ') ∧ Step no G w (get τ) G' w' (get τ')
def TOpP (E : Ctx) (g : Nat) (o : Oper) (e : Operand → D) (κ : Kp) (v : D) (own : Sto) (Post : Sto → Prop) : Prop :=
 ∀ w0, E.A w0 → ∀ G w (a : Act), WF w0 G w → (∀ x ∈ o.op.operands, V G w (a.eval x) (e x)) → Objs w0 G w κ → (∀ d, o.dst = some d → g < G.top ∧ ∀ j, G.ρ ⟨g, d, j⟩ = none) →
  ∀ (K : Act → World → Prop) (Q' : Exit → Act → World → Prop),
   (∀ τ' G' w' x, Post τ' → (∀ p ∈ own, get τ' p.1 = none) → WF w0 G' w' → V G' w' x v → Objs w0 G' w' (get (own ++ τ')) → Step (rsv g o.dst) G w κ G' w' (get (own ++ τ')) → K (a.put o.dst x) w') → ∀ r, o.wpIn (Fr r) 0 E.P a w K Q'
theorem get_tail {own τ : Sto} (h : ∀ p ∈ own, get τ p.1 = none) (n : Nm) (o : Ob) (hn : get τ n = some o) : get (own ++ τ) n = some o := by
 rw [get_append]
 simp only [Kp.or]
 have : get own n = none := by
  cases ho : get own n with
  | none => rfl
  | some x =>
   have := h _ (mem_of_get ho)
   rw [hn] at this; cases this
 rw [this, hn]
 rfl
theorem or_tail {own τ : Sto} (h : ∀ p ∈ own, get τ p.1 = none) : Kp.or (get τ) (get own) = get (own ++ τ) := by
 rw [get_append]
 funext n
 simp only [Kp.or]
 cases ho : get own n with
 | none => cases get τ n <;> rfl
 | some x =>
  have := h _ (mem_of_get ho)
  rw [this]
  rfl
theorem tail_frame {w0 : World} {R : Nm → Prop} {G G' : Gh} {w w' : World} {own τ τ' : Sto} (hw : WF w0 G w) (ho : Objs w0 G w (get (own ++ τ))) (hown : ∀ p ∈ own, get τ p.1 = none)
  (hs : Step R G w (get τ) G' w' (get τ')) (ho' : Objs w0 G' w' (get τ')) : (∀ p ∈ own, get τ' p.1 = none) ∧ Objs w0 G' w' (get (own ++ τ')) ∧ Step R G w (get (own ++ τ)) G' w' (get (own ++ τ')) := by
 have hτ : ∀ n o, get own n = some o → get (own ++ τ) n = some o ∧ get τ n = none := fun n o hn => by
  refine ⟨?_, hown _ (mem_of_get hn)⟩
  rw [get_append]
  simp [Kp.or, hn]
 have hown' : ∀ p ∈ own, get τ' p.1 = none := fun p hp => by
  cases hk : get τ' p.1 with
  | none => rfl
  | some o =>
   exfalso
   have h1 : get own p.1 ≠ none := fun h => get_none_iff.1 h (List.mem_map_of_mem hp)
   obtain ⟨o', ho1⟩ := Option.ne_none_iff_exists'.1 h1
   obtain ⟨v, hv, _⟩ := ho.ob p.1 o' (hτ _ _ ho1).1
   rcases hs.dom p.1 (by rw [hk]; simp) with h | h
   ·exact h (hown p hp)
   ·rw [hv] at h; cases h
 obtain ⟨f1, f2⟩ := frame (κs := get τ) (τ := get own) hw ho (fun n o hn => get_tail hown n o hn) hτ hs ho'
 rw [or_tail hown'] at f1 f2
 exact ⟨hown', f1, f2⟩
section
variable {E : Ctx} {g : Nat} {o : Oper} {e : Operand → D}
theorem top_icall {own τ : Sto} {f : FuncId} {args args' : List D} {Pre Post : Sto → Prop} {d : Nat} {r : D} (hc : calleeD o e = some (f, args)) (hco : CoL args args') (hd : o.dst = some d) (h : IC E f args' Pre Post r) (hpre : Pre τ) (hown : ∀ p ∈ own, get τ p.1 = none) :
  TOpP E g o e (get (own ++ τ)) r own Post := by
 intro w0 hA G w a hw hV ho hf K Q' hK
 obtain ⟨vs, hrun, hvs⟩ := call_run hc hV h.call
 have hvs' := Vs.co hvs hco
 have hrun2 := h.run g d w0 hA G w vs τ hpre hw hvs' (ho.sub fun n o hn => get_tail hown n o hn) (hf d hd)
 refine op_enter hrun (Calls.mono hrun2 ?_)
 rintro en w' ⟨v, G', τ', rfl, hp, hw', hv, ho', hs⟩
 obtain ⟨h1, h2, h3⟩ := tail_frame hw ho hown hs ho'
 exact hK τ' G' w' v hp h1 hw' hv h2 (h3.weaken fun n _ hn => by rw [hd]; exact hn)
theorem op_round {P : Program} {a : Act} {w w' : World} {K : Act → World → Prop} {Q : Exit → Act → World → Prop} {l : Nat} {fn : FuncId} {tmps : Array Value} {assign body : Code} {r : Option Nat} {o : Oper}
  (h : (execOp a.eval o).run P w = .ok (.round l fn tmps assign body) w') (hK : RoundIn (Fr r) 0 P l fn tmps assign body w' fun
   | .returned v, w'' => K (a.put o.dst v) w''
   | .panicked chain, w'' => Q (.panic chain) a w''
   | .outgrown, _ => LetsOut Q) : o.wpIn (Fr r) 0 P a w K Q := by
 refine ⟨fun f _ => fr_fn r f, ?_⟩
 rw [Oper.semAt_eq _ _ _ (plainOp_spec (plain_of h (fun _ e => by cases e))), h]
 exact ⟨fr_depth r 0, hK⟩
theorem top_yield {own τ : Sto} {c : Call} {fo xo : Operand} {n : Nm} {x : D} {Pre Post : Sto → Prop} (hop : o.op = .call c) (hc : c.callee = .value fo) (ha : c.args = #[xo]) (hf : e fo = .yld n) (hco : Co (e xo) x) (h : YC E n x Pre Post) (hpre : Pre τ) (hown : ∀ p ∈ own, get τ p.1 = none) :
  TOpP E g o e (get (own ++ τ)) (.val (.bool true)) own Post := by
 intro w0 hA G w a hw hV ho hfr K Q' hK r
 have hv := hV fo (by simp [hop, Op.operands, Call.operands, hc])
 rw [hf] at hv
 have hx := hco G w _ (hV xo (by simp [hop, Op.operands, Call.operands, hc, ha]))
 generalize hρ : a.eval fo = u at hv
 cases hv with
 | yld hn =>
  rename_i l
  obtain ⟨fn, tmps, assign, body, hy, hR⟩ := h w0 hA G w τ l _ hpre hw (ho.sub fun n o hn => get_tail hown n o hn) hx hn r
  have hrun : (execOp a.eval o).run E.P w = .ok (.round l fn tmps assign body) w := by
   simp [execOp, hop, resolve, hc, ha, hρ, Deferred.ofValue, invoke, hy]
  refine op_round hrun (hR.mono ?_)
  rintro en w' ⟨rfl, G', τ', hp, hw', ho', hs⟩
  obtain ⟨h1, h2, h3⟩ := tail_frame hw ho hown hs ho'
  exact hK τ' G' w' (.bool true) hp h1 hw' (.val _) h2 (h3.weaken fun _ _ hn => hn.elim)
end
section
variable {E : Ctx} {N : Nat} {ops : List Oper} {g : Nat} {Q : St → Prop} {st : St} {o : Oper} {rest : List Oper}
theorem aops_tp {v : D} {own τ : Sto} {Post : Sto → Prop} (hw : wantD ops st.env o = some true) (hσ : st.σ = own ++ τ) (hq : TOpP E g o (ev E st.env) (get (own ++ τ)) v own Post)
  (h : ∀ τ', Post τ' → (∀ p ∈ own, get τ' p.1 = none) → AOps E N ops g Q rest (st.env' o.dst v (own ++ τ'))) : AOps E N ops g Q (o :: rest) st := by
 intro w0 hA G w a hN hr hg hnd hfr Q' hQ r
 simp only [wpListIn]
 rw [if_pos (wantD_sound hr hw)]
 refine hq w0 hA G w a hr.wf (fun x _ => hr.ev hA x) (hσ ▸ hr.objs) (fun d hd => ⟨hg, (hfr o (by simp) d hd).2⟩) _ _ (fun τ' G' w' x hp hown hw' hv ho hs => ?_) r
 rw [← hσ] at hs
 have hr' := hr.put' (v := v) (dst := o.dst) hs rfl hw' ho hv (fun d hd => by rw [hN]; exact (hfr o List.mem_cons_self d hd).1)
 have hσ' : (st.env' o.dst v (own ++ τ')).σ = own ++ τ' := by cases o.dst <;> rfl
 have hnd' : (rest.filterMap (·.dst)).Nodup ∧ ∀ d, o.dst = some d → d ∉ rest.filterMap (·.dst) := by
  cases hd : o.dst with
  | none => simp only [List.filterMap_cons, hd] at hnd; exact ⟨hnd, fun d h => by cases h⟩
  | some d => simp only [List.filterMap_cons, hd, List.nodup_cons] at hnd; exact ⟨hnd.2, fun d' h => by cases h; exact hnd.1⟩
 refine h τ' hp hown w0 hA G' w' _ (by rw [put_size, hN]) hr' (Nat.lt_of_lt_of_le hg hs.top) hnd'.1 (fun o' ho' d hd => ⟨(hfr o' (by simp [ho']) d hd).1, fun j => hs.fresh (by exact hg) ((hfr o' (by simp [ho']) d hd).2 j) fun ⟨_, he⟩ => ?_⟩) Q' (fun G2 st2 a2 w2 h1 h2 h3 h4 => hQ G2 st2 a2 w2 h1 h2 ?_ h4) r
 ·exact hnd'.2 d he (List.mem_filterMap.2 ⟨o', ho', hd⟩)
 ·rw [hσ'] at h3
  exact (hs.weaken fun n _ hn => hn.1).trans h3
variable {ds : List (Option Tmp)}
theorem aops_icall {f : FuncId} {args args' : List D} {own τ : Sto} {Pre Post : Sto → Prop} {d : Nat} {x : D} (hds : ops.map (·.dst) = ds) (hw : wantL ds st.env o.guard = some true) (hd : o.dst = some d) (hc : calleeD o (ev E st.env) = some (f, args)) (h : IC E f args' Pre Post x) (hco : CoL args args')
  (hσ : st.σ = own ++ τ) (hown : ∀ p ∈ own, get τ p.1 = none) (hpre : Pre τ) (k : ∀ τ', Post τ' → (∀ p ∈ own, get τ' p.1 = none) → AOps E N ops g Q rest { env := (d, x) :: st.env, σ := own ++ τ' }) : AOps E N ops g Q (o :: rest) st := by
 refine aops_tp (by rw [← wantL_eq hds]; exact hw) hσ (top_icall hc hco hd h hpre hown) fun τ' h1 h2 => ?_
 simp only [hd, St.env']
 exact k τ' h1 h2
theorem aops_yield {c : Call} {fo xo : Operand} {n : Nm} {own τ : Sto} {Pre Post : Sto → Prop} {d : Nat} {x : D} (hds : ops.map (·.dst) = ds) (hw : wantL ds st.env o.guard = some true) (hd : o.dst = some d) (hop : o.op = .call c) (hc : c.callee = .value fo) (ha : c.args = #[xo]) (hf : ev E st.env fo = .yld n) (h : YC E n x Pre Post) (hco : Co (ev E st.env xo) x)
  (hσ : st.σ = own ++ τ) (hown : ∀ p ∈ own, get τ p.1 = none) (hpre : Pre τ) (k : ∀ τ', Post τ' → (∀ p ∈ own, get τ' p.1 = none) → AOps E N ops g Q rest { env := (d, .val (.bool true)) :: st.env, σ := own ++ τ' }) : AOps E N ops g Q (o :: rest) st := by
 refine aops_tp (by rw [← wantL_eq hds]; exact hw) hσ (top_yield hop hc ha hf hco h hpre hown) fun τ' h1 h2 => ?_
 simp only [hd, St.env']
 exact k τ' h1 h2
end
end Go.Ab
namespace Go.Ab
open Go Go.RowKit
theorem V.rebase {G : Gh} {w : World} {v : Value} {d : D} (b : Nat) (h : V G w v d) : V { G with base := b } w v d := h.mono (fun _ h => h) (fun _ _ => rfl) (fun _ _ h => h)
theorem WF.rebase {w0 : World} {G : Gh} {w : World} (b : Nat) (h : WF w0 G w) : WF w0 { G with base := b } w := ⟨h.below, h.old, h.lt, h.nm⟩
theorem Objs.rebase {w0 : World} {G : Gh} {w : World} {κ : Kp} (b : Nat) (h : Objs w0 G w κ) : Objs w0 { G with base := b } w κ :=
 ⟨fun n o hn => let ⟨u, h1, h2, h3⟩ := h.ob n o hn; ⟨u, h1, h2.mono (fun _ _ h => h.rebase b) fun _ _ => rfl, h3⟩, h.ne⟩
theorem Step.rebase {R : Nm → Prop} {G G' : Gh} {w w' : World} {κ κ' : Kp} (b : Nat) (h : Step R { G with base := b } w κ G' w' κ') : Step R G w κ { G' with base := G.base } w' κ' :=
 ⟨h.size, h.heap, h.F, h.F', h.ρ, h.ρ', h.top, h.blk', h.dom, rfl⟩
theorem put_head (n : Nm) (o o' : Ob) (σ : Sto) : Kp.put (get ((n, o) :: σ)) n o' = get ((n, o') :: σ) := by
 funext m
 simp only [Kp.put, get]
 split <;> rfl
theorem grownBy_put (W : World) (l : Nat) (o : Obj) : Gr W (W.putObj l o) (blk (.pointer (some ⟨l, 0, none⟩))) := Gr.of (grownBy_putObj' W l o)
theorem turn_loop {w0 : World} {G : Gh} {w : World} {n : Nm} {rc rc' : Loop} {env : List (Nat × D)} {σ : Sto} {l : Nat} (hw : WF w0 G w) (ho : Objs w0 G w (get ((n, .loop rc env) :: σ))) (hρ : G.ρ n = some (.pointer (some ⟨l, 0, none⟩))) (ht : rc'.tmps = rc.tmps) :
  w.heap[l]? = some (.loop rc) ∧ WF w0 G (w.putObj l (.loop rc')) ∧ Objs w0 G (w.putObj l (.loop rc')) (get ((n, .loop rc' env) :: σ)) ∧ Step no G w (get ((n, .loop rc env) :: σ)) G (w.putObj l (.loop rc')) (get ((n, .loop rc' env) :: σ)) := by
 have hn : get ((n, Ob.loop rc env) :: σ) n = some (.loop rc env) := by simp [get]
 obtain ⟨u, hu, ⟨l', rfl, hl, henv⟩, hF⟩ := ho.ob n _ hn
 rw [hρ] at hu
 cases hu
 have hnF : ¬ G.F l := hF l rfl
 have hlt : l < w.heap.size := (Array.getElem?_eq_some_iff.1 hl).1
 obtain ⟨h1, h2, h3⟩ := change_obj (ob' := .loop rc' env) hw ho hn hρ (grownBy_put w l (.loop rc')) ⟨l, rfl, World.putObj_heap_same hlt, fun t d ht' => by
  obtain ⟨k1, k2⟩ := henv t d ht'
  rw [ht]
  exact ⟨k1, k2.mono (fun _ h => h) (fun b hb => World.putObj_heap_other (fun e => hnF (by first | exact e ▸ hb | exact e.symm ▸ hb))) (fun _ _ h => h)⟩⟩
 rw [put_head] at h2 h3
 exact ⟨hl, h1, h2, h3.weaken fun _ _ h => h.elim⟩
theorem env_set {G : Gh} {w : World} {tmps : Array Value} {env : List (Nat × D)} {p : Nat} {v : Value} {x : D} (h : ∀ t d, lk env t = some d → t < tmps.size ∧ V G w (tmps.getD t undef) d) (hp : p < tmps.size) (hv : V G w v x) :
  ∀ t d, lk ((p, x) :: env) t = some d → t < (tmps.setIfInBounds p v).size ∧ V G w ((tmps.setIfInBounds p v).getD t undef) d := by
 intro t d ht
 simp only [lk] at ht
 split at ht
 ·rename_i e
  subst e
  cases ht
  refine ⟨by simpa using hp, ?_⟩
  rw [Array.getD_eq_getD_getElem?, Array.getElem?_setIfInBounds_self_of_lt hp]
  exact hv
 ·rename_i e
  obtain ⟨h1, h2⟩ := h t d ht
  refine ⟨by simpa using h1, ?_⟩
  rw [Array.getD_eq_getD_getElem?, Array.getElem?_setIfInBounds_ne e, ← Array.getD_eq_getD_getElem?]
  exact h2
theorem yc_round {E : Ctx} {N p : Nat} {x : D} {n : Nm} {rc : Loop} {env : List (Nat × D)} {J J' : Sto → Prop} (hst : rc.state = .ready) (hpe : rc.pending = none) (hps : rc.params = #[p]) (hN : rc.tmps.size = N) (hp : p < N)
  (hround : ∀ σ, J σ → AWp E.rnd N rc.assign (thenQ (fun s => AWp E.rnd N rc.body (thenQ (fun s' => J' s'.σ) fun _ _ => False) s) fun _ _ => False) { env := (p, x) :: env, σ := σ }) :
  YC E n x (fun τ => ∃ σ, τ = (n, .loop rc env) :: σ ∧ J σ ∧ get σ n = none) (fun τ => ∃ σ, τ = (n, .loop rc env) :: σ ∧ J' σ ∧ get σ n = none) := by
 rintro w0 hA G w τ l v ⟨σ, rfl, hJ, hn⟩ hw ho hv hρ r
 have hn0 : get ((n, Ob.loop rc env) :: σ) n = some (.loop rc env) := by simp [get]
 obtain ⟨u, hu, ⟨l', rfl, hl, henv⟩, hF⟩ := ho.ob n _ hn0
 rw [hρ] at hu
 cases hu
 have hy := run_yield (P := E.P) (args := #[v]) hl (by rw [hps]; rfl)
 refine ⟨_, _, _, _, hy, roundIn_of_wpIn (fr_fn r _) ?_⟩
 clear hy
 have htm : (rc.params.zip #[v]).foldl (fun tmps (t, a) => tmps.setIfInBounds t a) rc.tmps = rc.tmps.setIfInBounds p v := by rw [hps]; simp
 rw [htm]
 have hw0 := hw.rebase 0
 have ho0 := ho.rebase 0
 have hown : ∀ q ∈ [(n, Ob.loop rc env)], get σ q.1 = none := fun q hq => by
  rw [List.mem_singleton.1 hq]
  exact hn
 have hrel : Rel w0 { G with base := 0 } w { tmps := rc.tmps.setIfInBounds p v, defers := [] } { env := (p, x) :: env, σ := σ } :=
  ⟨hw0, fun t d ht => (let ⟨k1, k2⟩ := env_set henv (by rw [hN]; exact hp) hv t d ht; ⟨k1, k2.rebase 0⟩), ho0.sub fun m o hm => get_tail hown m o hm, .nil (Nat.zero_le _)⟩
 have h1 := hround σ hJ w0 hA { G with base := 0 } w { tmps := rc.tmps.setIfInBounds p v, defers := [] } (by simp [hN]) hrel (some l) (fun h => by cases h)
 refine wpIn_mono (F := Fr (some l)) (P := E.P) h1 ?_
 rintro e a1 w1 ⟨G1, st1, hs1, hr1, hst1, hq1⟩
 cases e with
 | normal =>
  obtain ⟨hn1, ho1, hs1'⟩ := tail_frame (own := [(n, Ob.loop rc env)]) hw0 ho0 hown hst1 hr1.objs
  have hρ1 := hst1.ρ n _ hρ
  obtain ⟨hl1, hw2, ho2, hs2⟩ := turn_loop (rc' := { rc with state := .busy }) hr1.wf ho1 hρ1 rfl
  have hown1 : ∀ q ∈ [(n, Ob.loop { rc with state := .busy } env)], get st1.σ q.1 = none := fun q hq => by
   rw [List.mem_singleton.1 hq]
   exact hn1 (n, Ob.loop rc env) (List.mem_singleton.2 rfl)
  have hrel2 : Rel w0 G1 (w1.putObj l (.loop { rc with state := .busy })) a1 st1 :=
   ⟨hw2, fun t d ht => ⟨(hr1.env t d ht).1, (hr1.env t d ht).2.step hs2 hr1.wf ho1⟩, ho2.sub fun m o hm => get_tail hown1 m o hm, hr1.defers.step hs2 hr1.wf ho1⟩
  have h2 := hq1 w0 hA G1 _ a1 hs1 hrel2 (some l) (fun h => by cases h)
  refine ⟨_, run_beginRound hl1 hst, wpIn_mono (F := Fr (some l)) (P := E.P) h2 ?_⟩
  rintro e a3 w3 ⟨G3, st3, hs3, hr3, hst3, hq3⟩
  cases e with
  | normal =>
   obtain ⟨hn3, ho3, hs3'⟩ := tail_frame (own := [(n, Ob.loop { rc with state := .busy } env)]) hw2 ho2 hown1 hst3 hr3.objs
   have hρ3 := hst3.ρ n _ hρ1
   obtain ⟨hl3, hw4, ho4, hs4⟩ := turn_loop (rc' := rc) hr3.wf ho3 hρ3 rfl
   have hend := run_endRound (P := E.P) none hl3
   have hrc : ({ { rc with state := LoopState.busy } with state := (if (none : Option Code).isNone then .ready else .done), pending := none } : Loop) = rc := by
    cases rc
    simp_all
   rw [hrc] at hend
   refine ⟨_, _, hend, rfl, { G3 with base := G.base }, (n, .loop rc env) :: st3.σ, ⟨st3.σ, rfl, hq3, hn3 (n, Ob.loop { rc with state := .busy } env) (List.mem_singleton.2 rfl)⟩, hw4.rebase _, ho4.rebase _, Step.rebase 0 (((hs1'.trans hs2).trans hs3').trans hs4)⟩
  | _ => exact hq3.elim
 | _ => exact hq1.elim
end Go.Ab
namespace Go.Ab
open Go Go.RowKit
section
variable {E : Ctx}
theorem ends_fun {fn : Func} {g d : Nat} {r : D} {σ' : Sto} {st : St} {l : List ResultVar} (hl : fn.results = l.toArray) (hσ : ∀ n o, get σ' n = some o → get st.σ n = some o) (h : SomeP (resD E.P st l) fun ds => Co (resV ds) r) : Ends E fn g d r σ' st := by
 obtain ⟨ds, h1, hco⟩ := h.elim
 intro w0 _ G w a hr _
 obtain ⟨v, k1, k2⟩ := results_run (E := E) hr hl h1
 exact ⟨v, G, k1, hr.wf, hco G w v k2, hr.objs.sub hσ, .drop hσ⟩
theorem ends_tail {fn : Func} {g d : Nat} {r : D} {own τ : Sto} {st : St} {l : List ResultVar} {Post : Sto → Prop} (hl : fn.results = l.toArray) (hσ : st.σ = own ++ τ) (hown : ∀ p ∈ own, get τ p.1 = none) (hpost : Post τ) (h : SomeP (resD E.P st l) fun ds => Co (resV ds) r) :
  ∃ τ', Post τ' ∧ Ends E fn g d r τ' st :=
 ⟨τ, hpost, ends_fun hl (fun n o hn => hσ ▸ get_tail hown n o hn) h⟩
def retP (E : Ctx) (fn : Func) (g d : Nat) (r : D) (Post : Sto → Prop) : Exit → St → Prop
 | .normal, st => ∃ τ', Post τ' ∧ Ends E fn g d r τ' st
 | .ret, st => ∃ τ', Post τ' ∧ Ends E fn g d r τ' st
 | _, _ => False
theorem icalls_of_awp {f : FuncId} {fn : Func} {c : Code} {N : Nat} {args : List D} {Pre Post : Sto → Prop} {r : D} (hcall : ∀ xs w, (callFunc f xs).run E.P w = .ok (.enter f xs) w) (hf : E.P.funcs[f]? = some fn) (hb : fn.body = some c) (hN : fn.ntmps = N) (hargs : args.length ≤ N)
  (h : ∀ g d τ, Pre τ → AWp E N c (retP E fn g d r Post) ⟨argsEnv 0 args, τ⟩) : IC E f args Pre Post r := by
 refine ⟨hcall, fun g d w0 hA G w vs σ hpre hw hvs ho hfr => ?_⟩
 refine callsIn_wide.1 (callsIn_of_wp_marks (F := Fr none) (n := 0) hf hb (fr_fn _ _) ?_)
 have hwB : WF w0 { G with base := w.heap.size } w := hw.rebase _
 have hoB : Objs w0 { G with base := w.heap.size } w (get σ) := ho.rebase _
 have hsz : (vs ++ Array.replicate (fn.ntmps - vs.size) undef).size = N := by
  have := hvs.1
  simp
  omega
 refine wpIn_mono (h g d σ hpre w0 hA { G with base := w.heap.size } w _ hsz ⟨hwB, fun t x ht => ?_, hoB, .nil (Nat.le_refl _)⟩ none (fun _ => rfl)) ?_
 ·obtain ⟨_, h2⟩ := lk_argsEnv 0 args t x ht
  simp only [Nat.sub_zero] at h2
  have hlt : t < vs.size := by
   have := (List.getElem?_eq_some_iff.1 h2).1
   have := hvs.1
   omega
  refine ⟨by rw [hsz]; have := hvs.1; omega, ?_⟩
  rw [Array.getD_eq_getD_getElem?, Array.getElem?_append_left hlt]
  simp only [hlt, getElem?_pos, Option.getD_some]
  exact (hvs.2 t _ x (by simp [hlt]) h2).rebase _
 ·rintro en a' w' ⟨G', st', h1, h2, h3, h4⟩
  have key : (∃ τ', Post τ' ∧ Ends E fn g d r τ' st') → LeavesInM (Fr none) 0 E.P fn a'.tmps (fun e w'' => ∃ v G'' τ', e = .returned v ∧ Post τ' ∧ WF w0 G'' w'' ∧ V G'' w'' v r ∧ Objs w0 G'' w'' (get τ') ∧ Step (rsv g (some d)) G w (get σ) G'' w'' (get τ')) a'.defers .returning w' := by
   rintro ⟨τ', hpost, he⟩
   obtain ⟨hbs, Ds, hds, hnd, hD⟩ := h2.defers
   have hb3 := h3.base
   have hb4 : G'.base = w.heap.size := hb3
   have go : ∀ (Ds : List Nat) (w' : World) (a2 : Act), a2.tmps = a'.tmps → Ds.Nodup → (∀ b ∈ Ds, G'.F b ∧ G'.base ≤ b ∧ w'.heap[b]? = some (.deferred (some []))) → Rel w0 G' w' { a2 with defers := [] } st' → Step no { G with base := w.heap.size } w (get σ) G' w' (get st'.σ) →
     LeavesInM (Fr none) 0 E.P fn a'.tmps (fun e w'' => ∃ v G'' τ', e = .returned v ∧ Post τ' ∧ WF w0 G'' w'' ∧ V G'' w'' v r ∧ Objs w0 G'' w'' (get τ') ∧ Step (rsv g (some d)) G w (get σ) G'' w'' (get τ')) (Ds.map (fun b => { target := .collected b, args := #[] })) .returning w' := by
    intro Ds
    induction Ds with
    | nil =>
     intro w' a2 hat _ _ hr2 hs2
     obtain ⟨v, G'', k1, k2, k3, k4, k5⟩ := he w0 hA G' w' { a2 with defers := [] } hr2 ⟨Nat.lt_of_lt_of_le hfr.1 hs2.top, fun j => hs2.fresh hfr.1 (hfr.2 j) fun h => h⟩
     have hst := (hs2.weaken (R' := rsv g (some d)) fun _ _ h => h.elim).trans k5
     have k1' : (results fn a'.tmps).run E.P w' = .ok v w' := by rw [← hat]; exact k1
     exact ⟨v, k1', v, { G'' with base := G.base }, τ', rfl, hpost, k2.rebase _, k3.rebase _, k4.rebase _, Step.rebase w.heap.size hst⟩
    | cons D0 Ds ih =>
     intro w' a2 hat hnd hD hr2 hs2
     obtain ⟨m1, m2, m3⟩ := hD D0 List.mem_cons_self
     obtain ⟨n1, n2⟩ := List.nodup_cons.1 hnd
     have hsh : Shut w' (w'.putObj D0 (.deferred none)) D0 := ⟨m3, rfl⟩
     have hbase : w.heap.size ≤ D0 := hb4 ▸ m2
     obtain ⟨q1, q2⟩ := shut_all hsh (Nat.le_trans hw.below.size hbase) m1 hr2.wf hr2.objs
     refine ⟨by simp, .inl ⟨D0, _, rfl, run_takeDeferred m3, ?_⟩⟩
     refine ih _ a2 hat n2 (fun b hb' => ?_) ⟨q1, fun t x ht => ⟨(hr2.env t x ht).1, (hr2.env t x ht).2.shut hsh⟩, q2, .nil (by have := hr2.defers.1; simpa [World.putObj] using this)⟩ (shut_step hsh hs2 hbase)
     obtain ⟨x1, x2, x3⟩ := hD b (List.mem_cons_of_mem _ hb')
     exact ⟨x1, x2, (hsh.heap fun e => n1 (e ▸ hb')).trans x3⟩
   rw [hds]
   exact go Ds w' a' rfl hnd hD ⟨h2.wf, h2.env, h2.objs, .nil hbs⟩ h3
  cases en with
  | normal => exact key h4
  | ret => exact key h4
  | _ => exact h4.elim
end
theorem new_mark {w0 : World} {G : Gh} {w : World} {κ : Kp} (hw : WF w0 G w) (ho : Objs w0 G w κ) :
  WF w0 { G with F := fun b => G.F b ∨ b = w.heap.size, top := G.top + 1 } (w.alloc (.deferred (some []))) ∧ Objs w0 { G with F := fun b => G.F b ∨ b = w.heap.size, top := G.top + 1 } (w.alloc (.deferred (some []))) κ ∧
   Step no G w κ { G with F := fun b => G.F b ∨ b = w.heap.size, top := G.top + 1 } (w.alloc (.deferred (some []))) κ := by
 have hsz : (w.alloc (.deferred (some []))).heap.size = w.heap.size + 1 := World.size_alloc _ _
 have hold : ∀ b, b < w.heap.size → (w.alloc (.deferred (some []))).heap[b]? = w.heap[b]? := fun b hb => heap_alloc_o w _ b hb
 have hV : ∀ v d, V G w v d → V { G with F := fun b => G.F b ∨ b = w.heap.size, top := G.top + 1 } (w.alloc (.deferred (some []))) v d := fun v d h => h.mono (fun _ h => .inl h) (fun b hb => hold b (hw.lt b hb)) (fun _ _ h => h)
 refine ⟨⟨Bel.of_grown hw.below (gr_alloc w _) (fun b h => by cases h), fun b hb => .inl (hw.old b hb), fun b hb => ?_, fun n v hn => ?_⟩, ⟨fun n o hn => ?_, ho.ne⟩, ?_⟩
 ·rcases hb with hb | hb
  ·have := hw.lt b hb; omega
  ·omega
 ·obtain ⟨h1, h2⟩ := hw.nm n v hn
  exact ⟨Nat.lt_succ_of_lt h1, fun b hb => ⟨(h2 b hb).1, by have := (h2 b hb).2; omega⟩⟩
 ·obtain ⟨v, h1, h2, h3⟩ := ho.ob n o hn
  exact ⟨v, h1, h2.mono hV fun b hb => hold b (h2.lt b hb), fun b hb hF => by
   rcases hF with hF | hF
   ·exact h3 b hb hF
   ·have := h2.lt b hb; omega⟩
 ·exact ⟨by omega, fun b hb _ => hold b hb, fun _ h => .inl h, fun b h => by
   rcases h with h | h
   ·exact .inl h
   ·exact .inr (.inl (by omega)), fun _ _ h => h, fun _ _ h _ => h, Nat.le_succ _, fun b h => .inr h, fun n h => .inl h, rfl⟩
theorem awp_range {E : Ctx} {N : Nat} {Q : Exit → St → Prop} {st : St} {gop : Operand} {p : Tmp} {assign body : Code} {f : FuncId} {caps : List D} {rD : D} (hE : E.rd = false) (hg : ev E st.env gop = .func (.func f) [] caps) (hp : p < N) (L : List D) (J : Nat → Sto → Prop) (h0 : J 0 st.σ)
  (hit : ∀ n (I : Nat → Sto → Prop), (∀ k (hk : k < L.length), YC E n L[k] (I k) (I (k + 1))) → IC E f (.yld n :: caps) (I 0) (I L.length) rD)
  (hround : ∀ k (hk : k < L.length) σ, J k σ → AWp E.rnd N assign (thenQ (fun s => AWp E.rnd N body (thenQ (fun s' => J (k + 1) s'.σ) fun _ _ => False) s) fun _ _ => False) { env := (p, L[k]) :: st.env, σ := σ })
  (hdone : ∀ σ, J L.length σ → Q .normal { env := st.env, σ := σ }) : AWp E N (.rangeFunc gop #[p] assign body) Q st := by
 intro w0 hA G w a hN hr r hrd
 obtain rfl := hrd hE
 refine wpIn_rangeFunc fun fn _ => ?_
 have hv := hr.ev hA gop
 rw [hg] at hv
 generalize hgv : a.eval gop = u at hv
 cases hv with
 | func h1 h2 h3 h4 =>
  rename_i fv cv
  have e1 : fv = #[] := Array.size_eq_zero_iff.1 h1
  subst e1
  obtain ⟨m1, m2, m3⟩ := new_mark hr.wf hr.objs
  generalize hG1 : ({ G with F := fun b => G.F b ∨ b = w.heap.size, top := G.top + 1 } : Gh) = G1 at m1 m2 m3
  have hmark : (w.alloc (.deferred (some []))).heap[w.heap.size]? = some (.deferred (some [])) := heap_alloc_n w _
  have hsz1 : (w.alloc (.deferred (some []))).heap.size = w.heap.size + 1 := World.size_alloc _ _
  have hF1 : G1.F w.heap.size := by rw [← hG1]; exact .inr rfl
  generalize hw1 : w.alloc (.deferred (some [])) = w1 at m1 m2 m3 hmark hsz1
  let rc : Loop := { state := .ready, pending := none, fn, tmps := a.tmps, params := #[p], assign, body, defers := w.heap.size }
  let n : Nm := ⟨G.top, 0, 0⟩
  have hn1 : G1.ρ n = none := by
   cases hc : G.ρ n with
   | none => rw [← hG1]; exact hc
   | some v => exact absurd (hr.wf.nm n v hc).1 (Nat.lt_irrefl _)
  have hng : n.g < G1.top := by rw [← hG1]; exact Nat.lt_succ_self _
  have henv1 : ∀ t d, lk st.env t = some d → t < rc.tmps.size ∧ V G1 w1 (rc.tmps.getD t undef) d := fun t d ht => ⟨(hr.env t d ht).1, (hr.env t d ht).2.step m3 hr.wf hr.objs⟩
  obtain ⟨k1, k2, k3⟩ := new_obj (n := n) (v := .pointer (some ⟨w1.heap.size, 0, none⟩)) (ob := .loop rc st.env) m1 m2 hn1 hng (gr_alloc w1 (.loop rc)) (fun b hb => by simp [blk] at hb; subst hb; simp)
   ⟨w1.heap.size, rfl, heap_alloc_n w1 _, fun t d ht => ⟨(henv1 t d ht).1, (henv1 t d ht).2.upd hn1 (fun b hF => heap_alloc_o w1 _ b (m1.lt b hF))⟩⟩
  have hor : Kp.or (single n (.loop rc st.env)) (get st.σ) = get ((n, .loop rc st.env) :: st.σ) := by
   funext m
   simp only [Kp.or, single, get]
   split <;> simp
  rw [hor] at k2 k3
  generalize hG2 : G1.upd n (.pointer (some ⟨w1.heap.size, 0, none⟩)) = G2 at k1 k2 k3
  have hρ2 : G2.ρ n = some (.pointer (some ⟨w1.heap.size, 0, none⟩)) := by rw [← hG2]; simp [Gh.upd]
  have hfree : ∀ j, G2.ρ ⟨G.top, 1, j⟩ = none := fun j => by
   rw [← hG2]
   have : G.ρ ⟨G.top, 1, j⟩ = none := by
    cases hc : G.ρ ⟨G.top, 1, j⟩ with
    | none => rfl
    | some v => exact absurd (hr.wf.nm _ v hc).1 (Nat.lt_irrefl _)
   simp only [Gh.upd]
   rw [if_neg (by simp [n]), ← hG1]
   exact this
  have htop2 : G.top < G2.top := by rw [← hG2, ← hG1]; exact Nat.lt_succ_self _
  have hnσ : get st.σ n = none := by
   cases hc : get st.σ n with
   | none => rfl
   | some o =>
    obtain ⟨v, hv, _⟩ := m2.ob n o hc
    rw [hn1] at hv; cases hv
  generalize hw2 : w1.alloc (.loop rc) = w2 at k1 k2 k3
  have hD2 : w2.heap[w.heap.size]? = some (.deferred (some [])) := by
   rw [← hw2, heap_alloc_o w1 _ _ (by omega)]
   exact hmark
  have hstep : Step no G w (get st.σ) G2 w2 (get ((n, .loop rc st.env) :: st.σ)) := by
   have s := (m3.weaken (R' := fun m => m.g = G.top) fun _ _ h => h.elim).trans (k3.weaken (R' := fun m => m.g = G.top) fun m _ hm => by rw [hm])
   exact s.weaken fun m h1 h2 => by
    have h3 : m.g = G.top := h2
    omega
  have hic := hit n (fun k τ => ∃ σ, τ = (n, .loop rc st.env) :: σ ∧ J k σ ∧ get σ n = none) fun k hk => yc_round rfl rfl rfl hN hp (hround k hk)
  have hvs : Vs G2 w2 (#[.func (.yield w1.heap.size) #[] #[]] ++ cv) (.yld n :: caps) := by
   refine Vs.append (a := #[.func (.yield w1.heap.size) #[] #[]]) (x := [.yld n]) ⟨rfl, fun i x d hx hd => ?_⟩ ⟨h2, fun i x d hx hd => ?_⟩
   ·match i, hx, hd with
    | 0, hx, hd => cases hx; cases hd; exact .yld hρ2
    | i + 1, hx, hd => simp at hd
   ·exact (h4 i x d hx hd).step hstep hr.wf hr.objs
  refine ⟨w1.heap.size, [{ target := .collected w.heap.size, args := #[] }], w2, { target := .fn (.func f) cv, args := #[.func (.yield w1.heap.size) #[] #[]] }, w2, f, #[.func (.yield w1.heap.size) #[] #[]] ++ cv, w2, ?_, ?_, fun _ _ => fr_fn _ _, ?_, fr_depth none 0, callsIn_fr.2 (Calls.mono (hic.run G.top 1 w0 hA G2 w2 _ _ ⟨st.σ, rfl, h0, hnσ⟩ k1 hvs k2 ⟨htop2, hfree⟩) ?_)⟩
  ·have := run_enterLoop_outer (P := E.P) (w := w) fn a.tmps #[p] assign body
   rw [hsz1, ← hw2]
   subst hw1
   exact this
  ·simp only [resolve, hgv]
   simp [Deferred.ofValue]
   rfl
  ·simp [invoke, hic.call]
  ·rintro e w' ⟨v, G', τ', rfl, ⟨σ', rfl, hJ, hn'⟩, q1, q2, q3, q4⟩
   have hρ' := q4.ρ n _ hρ2
   obtain ⟨hl, t1, t2, t3⟩ := turn_loop (rc' := { rc with state := .exhausted }) q1 q3 hρ' rfl
   refine ⟨none, _, run_endLoop (P := E.P) hl (by simp [rc]), ?_⟩
   have hsub : ∀ m o, get σ' m = some o → get ((n, Ob.loop { rc with state := .exhausted } st.env) :: σ') m = some o := fun m o hm => get_tail (own := [(n, _)]) (fun q hq => by rw [List.mem_singleton.1 hq]; exact hn') m o hm
   have s2 : Step (fun m => m.g = G.top) G2 w2 (get ((n, .loop rc st.env) :: st.σ)) G' _ (get σ') := ((q4.weaken fun m _ hm => hm.1).trans (t3.weaken fun _ _ h => h.elim)).trans (Step.drop hsub)
   have s1 : Step no G w (get st.σ) G' _ (get σ') := ((hstep.weaken (R' := fun m => m.g = G.top) fun _ _ h => h.elim).trans s2).weaken fun m h1 h2 => by
    have h3 : m.g = G.top := h2
    omega
   refine ⟨G', { env := st.env, σ := σ' }, hN, ⟨t1, fun t d ht => ⟨(hr.env t d ht).1, (hr.env t d ht).2.step s1 hr.wf hr.objs⟩, t2.sub hsub, ?_⟩, s1, hdone σ' hJ⟩
   obtain ⟨hb, Ds, hds, hnd, hD⟩ := hr.defers
   have hF2 : G2.F w.heap.size := by rw [← hG2]; exact hF1
   refine ⟨?_, w.heap.size :: Ds, by simp [hds], List.nodup_cons.2 ⟨fun hm => Nat.lt_irrefl _ (hr.wf.lt _ (hD _ hm).1), hnd⟩, fun b hm => ?_⟩
   ·have := s1.base
    have := s1.size
    omega
   ·rcases List.mem_cons.1 hm with rfl | hm
    ·exact ⟨s2.F _ hF2, by rw [s1.base]; exact hb, (s2.keeps k1 k2 _ hF2).trans hD2⟩
    ·obtain ⟨x1, x2, x3⟩ := hD b hm
     exact ⟨s1.F _ x1, by rw [s1.base]; exact x2, (s1.keeps hr.wf hr.objs _ x1).trans x3⟩
theorem awp_range_k {E : Ctx} {N : Nat} {Q : Exit → St → Prop} {st : St} {gop : Operand} {p : Tmp} {assign body : Code} {f : FuncId} {caps : List D} {rD : D} (hE : E.rd = false) (hg : ev E st.env gop = .func (.func f) [] caps) (hp : p < N) (L : List D) (J : Nat → Sto → Prop) (h0 : J 0 st.σ)
  (hit : ∀ n (I : Nat → Sto → Prop), (∀ k (hk : k < L.length), YC E n L[k] (I k) (I (k + 1))) → IC E f (.yld n :: caps) (I 0) (I L.length) rD)
  (hround : ∀ k (hk : k < L.length) σ, J k σ → ∀ KA : St → Prop, (∀ s, (∀ KB : St → Prop, (∀ s', J (k + 1) s'.σ → KB s') → AWp E.rnd N body (thenQ KB fun _ _ => False) s) → KA s) → AWp E.rnd N assign (thenQ KA fun _ _ => False) { env := (p, L[k]) :: st.env, σ := σ })
  (hdone : ∀ σ, J L.length σ → Q .normal { env := st.env, σ := σ }) : AWp E N (.rangeFunc gop #[p] assign body) Q st :=
 awp_range hE hg hp L J h0 hit (fun k hk σ hJ => hround k hk σ hJ (fun s => AWp E.rnd N body (thenQ (fun s' => J (k + 1) s'.σ) fun _ _ => False) s) fun _ h => h _ fun _ h => h) hdone
theorem ACalls.rnd {E : Ctx} {f : FuncId} {args : List D} {σ σ' : Sto} {g d : Nat} {r : D} (h : ACalls E f args σ g d r σ') : ACalls E.rnd f args σ g d r σ' := ⟨h.call, h.run⟩
def LeT (st' st : St) : Prop := (∀ p ∈ st'.env, lk st.env p.1 = some p.2) ∧ (∀ n o, get st'.σ n = some o → get st.σ n = some o)
theorem Sees.keepT {E : Ctx} {K : St → Prop} {st st' : St} (h : LeT st' st) (hk : K st') : Sees E st K := by
 intro w0 _ G w a hr
 exact ⟨G, st', ⟨hr.wf, fun t d ht => hr.env t d (h.1 (t, d) (mem_of_lk ht)), hr.objs.sub h.2, hr.defers⟩, .drop h.2, hk⟩
theorem awp_keepT {E : Ctx} {N : Nat} {Q : Exit → St → Prop} {c : Code} {st st' : St} (hl : LeT st' st) (h : AWp E N c Q st') : AWp E N c Q st := Sees.awp (Sees.keepT hl h)
theorem let_of {st st' : St} (hσ : st'.σ = st.σ) (h : leE st'.env st.env) : LeT st' st := ⟨leE_spec h, fun _ _ hn => hσ ▸ hn⟩
end Go.Ab
