/- A part of the proof, under no conditions of its own: XG. -/
import Derived.Test.YtjhencaobpihnaaDoorXE
import Derived.Shelf.SlSortCmp.NoneTotal
namespace Go.Ab
open Go Go.RowKit Go.Proofs Go.Shelf
open Go.Sort (flatK get_flatK size_flatK blk_iff HoldsK)

/-- An element as it lies: its cells and what it is. -/
structure Cell (β : Type) (k : Nat) (ok : List Value → β → Prop) where
  vs : List Value
  tag : β
  len : vs.length = k
  one : ∀ v ∈ vs, v.oneCell' = true
  fit : ok vs tag

/-- What a compared pair answers, in whatever world. -/
def CmpAt (P : Program) (cmp : FuncId) (β : Type) (k : Nat) (ok : List Value → β → Prop) (cf : β → β → Int) : Prop :=
  ∀ x y : Cell β k ok, ∀ w, Calls P cmp #[.agg x.vs.toArray, .agg y.vs.toArray] w fun e w' => e = .returned (.int .i64 (cf x.tag y.tag)) ∧ ∃ q os', w' = Sort.grow (w.drewN q) os'

theorem grownBy_put {w : World} {g n : Nat} {os : Array Obj} (d : Array Value) : w.grownBy (Sort.grow (Sort.putRow id (Sort.ahead w n) g 0 d) os) (some g) := by
  refine ⟨rfl, rfl, rfl, by simp, fun k hk hne => ?_⟩
  rw [Sort.heap_grow_old _ _ (by simpa using hk)]
  have : g ≠ k := fun e => hne (by rw [e])
  simp [Sort.putRow, Sort.mapBlock, Sort.ahead, Array.getElem?_modify, this]

theorem heap_put {w : World} {g n : Nat} {os : Array Obj} {cur : Array Value} {e : TypeId} {fr : Nat × Nat} (d : Array Value) (hb : w.heap[g]? = some (.cells cur e fr)) :
    (Sort.grow (Sort.putRow id (Sort.ahead w n) g 0 d) os).heap[g]? = some (.cells (Sort.putCells id 0 d cur) e fr) := by
  have hg : g < w.heap.size := (Array.getElem?_eq_some_iff.1 hb).1
  rw [Sort.heap_grow_old _ _ (by simpa using hg)]
  simp [Sort.putRow, Sort.mapBlock, Sort.ahead, Array.getElem?_modify, hb, Sort.onCells]

theorem take_put (cur d : Array Value) (h : d.size ≤ cur.size) : (Sort.putCells id 0 d cur).toList.take d.size = d.toList := by
  apply List.ext_getElem?
  intro j
  by_cases hj : j < d.size
  · rw [List.getElem?_take_of_lt hj, Array.getElem?_toList]
    simp [Sort.putCells, hj, show j < cur.size by omega]
  · rw [List.getElem?_take_eq_none (by omega), List.getElem?_eq_none (by simp; omega)]

theorem swo_pull {α β : Type} [Inhabited α] [Inhabited β] {lt : β → β → Bool} (h : Sort.SWO lt) (f : α → β) : Sort.SWO fun x y => lt (f x) (f y) :=
  ⟨fun _ => h.irrefl _, fun _ _ _ => h.trans _ _ _, fun _ _ _ => h.ntrans _ _ _⟩

variable {β : Type} {k : Nat} {ok : List Value → β → Prop}

theorem get_flat {α : Type} [Inhabited α] {enc : α → List Value} (hk : ∀ x, (enc x).length = k) (d : Array α) (i j : Nat) (hi : i < d.size) (hj : j < k) :
    (flatK enc k d)[i * k + j]? = (enc d[i]!)[j]? := by
  have h1 : i * k + j < d.size * k := by
    have := Nat.mul_le_mul_right k (show i + 1 ≤ d.size from hi); rw [Nat.add_mul, Nat.one_mul] at this; omega
  have h2 := get_flatK enc k d _ h1
  have e1 : (i * k + j) / k = i := (blk_iff k i _ (by omega)).1 ⟨by omega, by omega⟩
  have e2 : (i * k + j) % k = j := by rw [Nat.mod_eq_sub_div_mul, e1]; omega
  rw [e1, e2] at h2
  rw [Array.getElem?_eq_getElem (by simpa using h1), List.getElem?_eq_getElem (by rw [hk]; exact hj)]
  rw [getElem!_pos (flatK enc k d) _ (by simpa using h1)] at h2
  rw [h2, getElem!_pos _ _ (by rw [hk]; exact hj)]

theorem Vs.pair {G : Gh} {w : World} {vs : Array Value} {a b : D} (h : Vs G w vs [a, b]) : ∃ x y, vs = #[x, y] ∧ V G w x a ∧ V G w y b := by
  obtain ⟨l⟩ := vs
  obtain ⟨h1, h2⟩ := h
  have h1' : l.length = 2 := h1
  match l, h1' with
  | [x, y], _ => exact ⟨x, y, rfl, h2 0 x a rfl rfl, h2 1 y b rfl rfl⟩

theorem acalls_sort {E : Ctx} {f cmp : FuncId} {encB : β → D} {t : TypeId} {ρ : Ren} (L : SlLaysF0.n6 E.P ρ) (hf : ρ.f 6 = f) (ht : ρ.t 24 = t) (hcall : ∀ xs w, (callFunc f xs).run E.P w = .ok (.enter f xs) w)
    (hag : aggOf E.P t = some true) (hsz : szOf E.P t = some k) (hk0 : 0 < k) (henc : ∀ b, (encB b).cells.length = k ∧ (encB b).cells.all D.one = true)
    (hok : ∀ G w vs b, Vs G w vs (encB b).cells → ok vs.toList b) {cf : β → β → Int} [Inhabited β] (hO : Sort.SWO (ltOf cf)) (hcmp : CmpAt E.P cmp β k ok cf) (ecmp : ∀ xs w, (callFunc cmp xs).run E.P w = .ok (.enter cmp xs) w)
    {l l' : List β} (hlen : l.length < 4611686018427387904) (huniq : ∀ l2 : List β, l2.Perm l → l2.Pairwise (fun a b => ltOf cf b a = false) → l2 = l') (n : Nm) (g d : Nat) :
    ACalls E f [.own n l.length, .func (.func cmp) [] []] [(n, .arr t k (l.map encB))] g d (.tup []) [(n, .arr t k (l'.map encB))] where
  call := hcall
  run w0 hA G w vs hw hvs ho hfr := by
    obtain ⟨v, hρ, ⟨xs, hown, hfl⟩, hnF⟩ := ho.ob n (.arr t k (l.map encB)) (by simp [get])
    -- the arguments
    have hv2 : ∃ cap a, vs = #[.slice a l.length cap, .func (.func cmp) #[] #[]] ∧ v = .slice a l.length cap := by
      obtain ⟨a0, a1, rfl, h0, h3⟩ := hvs.pair
      cases h0 with
      | own h0 =>
        rename_i a cap
        cases h3 with
        | @func _ fs cs _ _ e1 e2 =>
          have e3 : fs = #[] := by simpa using e1
          have e4 : cs = #[] := by simpa using e2
          subst e3 e4
          exact ⟨cap, a, rfl, by rw [hρ] at h0; exact Option.some.inj h0⟩
    obtain ⟨cap, a, rfl, rfl⟩ := hv2
    have fin0 : ∀ w', w' = w → l = l' → ∃ v G', Ending.returned (.tuple #[]) = .returned v ∧ WF w0 G' w' ∧ V G' w' v (.tup []) ∧ Objs w0 G' w' (get [(n, .arr t k (l'.map encB))]) ∧ Step (rsv g (some d)) G w (get [(n, .arr t k (l.map encB))]) G' w' (get [(n, .arr t k (l'.map encB))]) := by
      rintro w' rfl rfl
      exact ⟨_, G, rfl, hw, .tup rfl (fun i c d h => by simp at h), ho, .refl _ _ _ _⟩
    by_cases hl0 : l.length = 0
    · have hl : l = [] := List.length_eq_zero_iff.1 hl0
      subst hl
      have := huniq [] (List.Perm.refl _) .nil
      subst this
      refine ((AnyF.slices_SortFunc_none L a cap (.func (.func cmp) #[] #[]) w).mono ?_ : Calls E.P (ρ.f 6) _ w _) |> fun h => by rw [hf] at h; exact h
      rintro e w' ⟨rfl, rfl⟩
      exact fin0 _ rfl rfl
    · rcases hown.2 with ⟨_, hc⟩ | ⟨g0, cap', cur, hc, hb0, hh, hnc, hcm, hcs, htake⟩
      · exact absurd (by simpa using hc) hl0
      · have hll : (l.map encB).length = l.length := by simp
        rw [hll] at hnc htake hown hc
        cases hc
        have hk1 : l.length * k ≤ cap * k := Nat.mul_le_mul_right k hnc
        -- the elements
        have hel : ∀ i : Fin l.length, ∃ c : Cell β k ok, c.tag = l[i] ∧ c.vs = (cur.toList.drop (i * k)).take k ∧ Vs G w c.vs.toArray (encB l[i]).cells := by
          intro i
          have hi : (i : Nat) * k + k ≤ l.length * k := by
            have := Nat.mul_le_mul_right k (show (i : Nat) + 1 ≤ l.length from i.2); rw [Nat.add_mul, Nat.one_mul] at this; exact this
          obtain ⟨_, hrow⟩ := hfl i (encB l[i]) (by simp)
          have hvl : ((cur.toList.drop (i * k)).take k).length = k := by simp; omega
          have hget : ∀ j, j < k → ((cur.toList.drop (i * k)).take k)[j]? = xs[(i : Nat) * k + j]? := by
            intro j hj
            rw [← htake, List.getElem?_take_of_lt hj, List.getElem?_drop, List.getElem?_take_of_lt (by omega)]
          have hV : Vs G w ((cur.toList.drop (i * k)).take k).toArray (encB l[i]).cells := by
            refine ⟨by simp only [List.size_toArray, hvl, (henc _).1], fun j c d' hc' hd' => ?_⟩
            have hj : j < k := by
              have := (List.getElem?_eq_some_iff.1 hd').1
              rw [(henc _).1] at this; exact this
            obtain ⟨x, hx, hvx⟩ := hrow j d' hd'
            rw [List.getElem?_toArray, hget j hj, hx] at hc'
            cases hc'
            exact hvx
          refine ⟨⟨_, l[i], hvl, fun v hv => ?_, by simpa using hok G w _ _ hV⟩, rfl, rfl, hV⟩
          obtain ⟨j, hj, rfl⟩ := List.mem_iff_getElem.1 hv
          have hj' : j < (encB l[i]).cells.length := by rw [(henc _).1]; omega
          exact (hV.2 j _ _ (by rw [List.getElem?_toArray]; exact List.getElem?_eq_getElem hj) (List.getElem?_eq_getElem hj')).one (List.all_eq_true.1 (henc l[i]).2 _ (List.getElem_mem hj'))
        have hch := Classical.axiomOfChoice hel
        obtain ⟨F, hF⟩ := hch
        letI : Inhabited (Cell β k ok) := ⟨F ⟨0, by omega⟩⟩
        let d0 : Array (Cell β k ok) := Array.ofFn F
        have hd0 : d0.size = l.length := by simp [d0]
        have hd0g : ∀ i (h : i < l.length), d0[i]! = F ⟨i, h⟩ := fun i h => by
          rw [getElem!_pos d0 i (by rw [hd0]; exact h)]
          simp [d0]
        have hH : HoldsK Cell.vs k w g0 0 d0 := by
          intro j hj
          have hj' : j < d0.size * k := by simpa using hj
          have hjk : j % k < k := Nat.mod_lt _ hk0
          have hji : j / k < l.length := by rw [← hd0]; exact Nat.div_lt_of_lt_mul (by rw [Nat.mul_comm]; exact hj')
          refine ⟨?_, by simp [World.frozen?, hh]⟩
          have e : j / k * k + j % k = j := Nat.div_add_mod' j k
          have h1 := get_flat (k := k) (enc := Cell.vs) (fun x => x.len) d0 (j / k) (j % k) (by rw [hd0]; exact hji) hjk
          rw [e] at h1
          rw [getElem!_pos _ j (by simpa using hj')]
          simp only [World.cell?, hh, Nat.zero_add, Option.isSome_none, Bool.false_eq_true, if_false, id]
          rw [← Array.getElem?_eq_getElem, h1, hd0g _ hji, (hF ⟨j / k, hji⟩).2.1, List.getElem?_take_of_lt hjk, List.getElem?_drop]
          simp only [e, Array.getElem?_toList]
        have hOα : Sort.SWO (ltOf fun x y : Cell β k ok => cf x.tag y.tag) := swo_pull hO Cell.tag
        have hblk : g0 < w.heap.size := (Array.getElem?_eq_some_iff.1 hh).1
        have hc := AnyQ.slices_SortFunc L k (fun w => by rw [ht]; exact run_isAgg hag) (fun w => by rw [ht]; exact run_sizeOf hsz) Cell.vs (fun x => x.len) (fun x => x.one) (fun x y => cf x.tag y.tag) hOα cmp #[] g0 0 cap d0 w ecmp
          (fun m os dk hdk x y => by simpa using hcmp x y _) hH hblk (by rw [hd0]; exact hlen)
        rw [hf, hd0] at hc
        refine hc.mono ?_
        rintro e w' ⟨rfl, d', m, os, ⟨hps, _, hperm⟩, hsort, rfl⟩
        have hd's : d'.size = l.length := hps.trans hd0
        have htag : (d'.toList.map Cell.tag) = l' := by
          refine huniq _ ?_ ?_
          · have e1 : (d0.extract 0 l.length).toList = d0.toList := by simp [← hd0]
            have e2 : (d'.extract 0 l.length).toList = d'.toList := by simp [← hd's]
            rw [e1, e2] at hperm
            have := hperm.map Cell.tag
            refine this.trans (List.Perm.of_eq ?_)
            apply List.ext_getElem?
            intro i
            by_cases hi : i < l.length
            · simp [d0, hi, (hF ⟨i, hi⟩).1]
            · rw [List.getElem?_eq_none (by simp [d0]; omega), List.getElem?_eq_none (by omega)]
          · rw [List.pairwise_iff_getElem]
            intro i j hi hj hij
            have hi' : i < d'.size := by simpa using hi
            have hj' : j < d'.size := by simpa using hj
            have := hsort i j (Nat.zero_le _) hij (by omega)
            rw [getElem!_pos d' i hi', getElem!_pos d' j hj'] at this
            simpa [ltOf] using this
        have hmem : ∀ i, i < l.length → ∃ j : Fin l.length, d'[i]! = F j := by
          intro i hi
          have e1 : (d0.extract 0 l.length).toList = d0.toList := by simp [← hd0]
          have e2 : (d'.extract 0 l.length).toList = d'.toList := by simp [← hd's]
          rw [e1, e2] at hperm
          have h1 : d'[i]! ∈ d'.toList := by
            rw [getElem!_pos d' i (by omega)]
            simp
          have h2 := hperm.mem_iff.1 h1
          obtain ⟨j, hj⟩ := (List.mem_ofFn).1 (by simpa [d0] using h2)
          exact ⟨j, hj.symm⟩
        have hl' : l'.length = l.length := by rw [← htag]; simp [hd's]
        have hgr : w.grownBy (sortWorldK Cell.vs k w g0 0 m d' os) (blk (.slice (some ⟨g0, 0, none⟩) l.length cap)) := grownBy_put _
        have hflat : (flatK Cell.vs k d').size = l.length * k := by simp [hd's]
        have hnF0 : ¬ G.F g0 := hnF g0 rfl
        have hov : OV w0 G (sortWorldK Cell.vs k w g0 0 m d' os) (.slice (some ⟨g0, 0, none⟩) l.length cap) (.arr t k (l'.map encB)) := by
          refine ⟨(flatK Cell.vs k d').toList, ⟨by simp [hd's, hl'], .inr ⟨g0, cap, _, by simp [hl'], hb0, heap_put _ hh, by simpa [hl'] using hnc, hcm, by simp [Sort.putCells, hcs], ?_⟩⟩, ?_⟩
          · have := take_put cur (flatK Cell.vs k d') (by rw [hflat, hcs]; exact hk1)
            rw [hflat] at this
            simpa [hl'] using this
          · intro i r hr
            have hi : i < l.length := by
              have := (List.getElem?_eq_some_iff.1 hr).1
              simpa [hl'] using this
            have hr' : r = encB d'[i]!.tag := by
              rw [← htag] at hr
              have hi' : i < d'.size := by omega
              rw [getElem!_pos d' i hi']
              simpa [hi'] using hr.symm
            subst hr'
            refine ⟨(henc _).1, fun j dd hdd => ?_⟩
            have hj : j < k := by
              have := (List.getElem?_eq_some_iff.1 hdd).1
              rw [(henc _).1] at this; exact this
            obtain ⟨jj, hjj⟩ := hmem i hi
            have hVr := (hF jj).2.2
            rw [← (hF jj).1, ← hjj] at hVr
            have hjl : j < d'[i]!.vs.length := by rw [d'[i]!.len]; exact hj
            refine ⟨d'[i]!.vs[j], ?_, ?_⟩
            · rw [Array.getElem?_toList, get_flat (fun x => x.len) d' i j (by omega) hj, List.getElem?_eq_getElem hjl]
            · refine (hVr.2 j _ dd (by simp [hjl]) hdd).mono (fun _ h => h) (fun b hb => hgr.block b (hw.lt b hb) fun e => ?_) (fun _ _ h => h)
              simp only [blk, Option.some.injEq] at e
              exact hnF0 (e ▸ hb)
        obtain ⟨q1, q2, q3⟩ := change_obj hw ho (n := n) (ob := .arr t k (l.map encB)) (by simp [get]) hρ hgr hov
        have hput : Kp.put (get [(n, .arr t k (l.map encB))]) n (.arr t k (l'.map encB)) = get [(n, .arr t k (l'.map encB))] := by
          funext m
          simp only [Kp.put, get]
          split <;> simp
        rw [hput] at q2 q3
        exact ⟨_, G, rfl, q1, .tup rfl (fun i c d h => by simp at h), q2, q3.weaken fun _ _ h => h.elim⟩

end Go.Ab

namespace Go.Ab
open Go.Sort (SWO)

variable {β : Type}

/-- In order: no later one is less than an earlier one. -/
def Ord (lt : β → β → Bool) (l : List β) : Prop := l.Pairwise fun a b => lt b a = false

/-- The list in order (any one; where what is equal is one it is the only one). -/
noncomputable def srt (lt : β → β → Bool) (l : List β) : List β := l.mergeSort fun a b => !lt b a

theorem SWO.total {lt : β → β → Bool} (h : SWO lt) (a b : β) : (!lt b a || !lt a b) = true := by
  cases h1 : lt b a with
  | false => simp
  | true =>
    cases h2 : lt a b with
    | false => simp
    | true => have := h.trans _ _ _ h1 h2; rw [h.irrefl] at this; cases this

theorem srt_perm (lt : β → β → Bool) (l : List β) : (srt lt l).Perm l := List.mergeSort_perm _ _
theorem srt_ord {lt : β → β → Bool} (h : SWO lt) (l : List β) : Ord lt (srt lt l) := by
  have := List.pairwise_mergeSort (le := fun a b => !lt b a) (fun a b c h1 h2 => by
    simp only [Bool.not_eq_true'] at h1 h2 ⊢
    exact h.ntrans _ _ _ h2 h1) (fun a b => SWO.total h a b) l
  exact this.imp fun h => by simpa using h

theorem srt_uniq {lt : β → β → Bool} (h : SWO lt) {l l2 : List β} (hd : ∀ a ∈ l, ∀ b ∈ l, lt a b = false → lt b a = false → a = b) (hp : l2.Perm l) (ho : Ord lt l2) : l2 = srt lt l :=
  List.Perm.eq_of_pairwise (le := fun a b => lt b a = false) (fun a b ha hb h1 h2 => hd a (hp.subset ha) b ((srt_perm lt l).subset hb) h2 h1) ho (srt_ord h l) (hp.trans (srt_perm lt l).symm)

theorem srt_len (lt : β → β → Bool) (l : List β) : (srt lt l).length = l.length := (srt_perm lt l).length_eq
theorem srt_nil (lt : β → β → Bool) : srt lt ([] : List β) = [] := List.length_eq_zero_iff.1 (srt_len lt [])

/-! Insertion in place. -/
/-- The first k + 1 are in order, but for the one at n, which may be less than those in front of it. -/
def Mid (lt : β → β → Bool) (l : List β) (k n : Nat) : Prop := ∀ (i j : Nat) a b, i < j → j ≤ k → j ≠ n → l[i]? = some a → l[j]? = some b → lt b a = false
def Upto (lt : β → β → Bool) (l : List β) (k : Nat) : Prop := ∀ (i j : Nat) a b, i < j → j < k → l[i]? = some a → l[j]? = some b → lt b a = false

theorem upto_zero (lt : β → β → Bool) (l : List β) : Upto lt l 0 := fun i j a b _ h => by omega
theorem upto_mid {lt : β → β → Bool} {l : List β} {k : Nat} (h : Upto lt l k) : Mid lt l k k := fun i j a b h1 h2 h3 => h i j a b h1 (by omega)
theorem mid_zero {lt : β → β → Bool} {l : List β} {k : Nat} (h : Mid lt l k 0) : Upto lt l (k + 1) := fun i j a b h1 h2 h3 h4 => h i j a b h1 (by omega) (by omega) h3 h4
theorem mid_stop {lt : β → β → Bool} (hO : SWO lt) {l : List β} {k n : Nat} {x y : β} (h : Mid lt l k (n + 1)) (hk : n + 1 ≤ k) (hx : l[n]? = some x) (hy : l[n + 1]? = some y) (hlt : lt y x = false) : Upto lt l (k + 1) := by
  intro i j a b h1 h2 h3 h4
  by_cases hj : j = n + 1
  · subst hj
    rw [hy] at h4
    cases h4
    by_cases hi : i = n
    · subst hi
      rw [hx] at h3
      cases h3
      exact hlt
    · exact hO.ntrans _ _ _ hlt (h i n a x (by omega) (by omega) (by omega) h3 hx)
  · exact h i j a b h1 (by omega) hj h3 h4
theorem mid_swap {lt : β → β → Bool} (hO : SWO lt) {l : List β} {k n : Nat} {x y : β} (h : Mid lt l k (n + 1)) (hk : n + 1 ≤ k) (hx : l[n]? = some x) (hy : l[n + 1]? = some y) (hlt : lt y x = true) : Mid lt ((l.set (n + 1) x).set n y) k n := by
  have hl : n + 1 < l.length := (List.getElem?_eq_some_iff.1 hy).1
  have hget : ∀ m : Nat, ((l.set (n + 1) x).set n y)[m]? = if m = n then some y else if m = n + 1 then some x else l[m]? := by
    intro m
    rw [List.getElem?_set, List.getElem?_set]
    by_cases h1 : n = m
    · subst h1; simp; omega
    · rw [if_neg h1, if_neg (Ne.symm h1)]
      by_cases h2 : n + 1 = m
      · subst h2; simp; omega
      · rw [if_neg h2, if_neg (Ne.symm h2)]
  have hyx : lt x y = false := by
    cases h1 : lt x y with
    | false => rfl
    | true => have := hO.trans _ _ _ h1 hlt; rw [hO.irrefl] at this; cases this
  intro i j a b h1 h2 h3 h4 h5
  rw [hget] at h4 h5
  by_cases hj : j = n + 1
  · subst hj
    rw [if_neg (by omega), if_pos rfl] at h5
    cases h5
    by_cases hi : i = n
    · subst hi; rw [if_pos rfl] at h4; cases h4; exact hyx
    · rw [if_neg hi, if_neg (by omega)] at h4
      exact h i n a x (by omega) (by omega) (by omega) h4 hx
  · rw [if_neg h3, if_neg hj] at h5
    by_cases hi : i = n
    · subst hi; rw [if_pos rfl] at h4; cases h4
      exact h (i + 1) j y b (by omega) h2 hj hy h5
    · rw [if_neg hi] at h4
      by_cases hi2 : i = n + 1
      · subst hi2; rw [if_pos rfl] at h4; cases h4
        exact h n j x b (by omega) h2 hj hx h5
      · rw [if_neg hi2] at h4
        exact h i j a b h1 h2 hj h4 h5
theorem upto_ord {lt : β → β → Bool} {l : List β} (h : Upto lt l l.length) : Ord lt l := by
  unfold Ord
  rw [List.pairwise_iff_getElem]
  intro i j hi hj hij
  exact h i j _ _ hij hj (List.getElem?_eq_getElem hi) (List.getElem?_eq_getElem hj)
theorem swap_perm {l : List β} {n : Nat} {x y : β} (hx : l[n]? = some x) (hy : l[n + 1]? = some y) : ((l.set (n + 1) x).set n y).Perm l := by
  obtain ⟨h1, rfl⟩ := List.getElem?_eq_some_iff.1 hx
  obtain ⟨h2, rfl⟩ := List.getElem?_eq_some_iff.1 hy
  exact List.set_set_perm h2 h1

end Go.Ab
