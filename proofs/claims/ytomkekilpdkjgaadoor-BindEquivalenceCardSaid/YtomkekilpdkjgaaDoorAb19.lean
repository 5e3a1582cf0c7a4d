/- A part of the proof, under no conditions of its own: Ab19. -/
import Derived.Test.YtomkekilpdkjgaaDoorAb18
import Derived.ProofKit
import Derived.LaidMore
import Derived.OpenShut
import Derived.Carry
import Derived.Lib.LaidTab
import Derived.Stop.Joined
namespace Go.Ab
open Go Go.RowKit

/-! # What the arguments denote, off their reading -/

/-- What is known at the start: all that lies there is frozen. -/
def G0 (w : World) : Gh := ⟨fun b => b < w.heap.size, fun _ => none, 1⟩

theorem wf0 (w : World) : WF w (G0 w) w where
  below := Below.refl _ _
  old := fun _ h => h
  lt := fun _ h => h
  nm := fun n v h => by cases h

theorem objs0 (w : World) : Objs w (G0 w) w (get []) where
  ob := fun n o h => by cases h
  ne := fun n m o o' v v' b h => by cases h

/-- The cells from a place on denote these. -/
def Seg (w : World) (cs : List Value) (off : Nat) (ds : List D) : Prop := ∀ (i : Nat) d, ds[i]? = some d → ∃ c, cs[off + i]? = some c ∧ V (G0 w) w c d

theorem Seg.nil (w : World) (cs : List Value) (off : Nat) : Seg w cs off [] := fun i d h => by simp at h
theorem Seg.app {w : World} {cs : List Value} {off m : Nat} {ds ds' : List D} (h : Seg w cs off ds) (h' : Seg w cs m ds') (hm : m = off + ds.length) : Seg w cs off (ds ++ ds') := fun i d hd => by
  subst hm
  by_cases hi : i < ds.length
  · rw [List.getElem?_append_left hi] at hd
    exact h i d hd
  · rw [List.getElem?_append_right (by omega)] at hd
    obtain ⟨c, hc, hv⟩ := h' _ _ hd
    exact ⟨c, by rw [← hc]; congr 1; omega, hv⟩

variable {H : Type} {enc : TypeId × Value → H} {P : Program} {w : World}

/-- What reads as this type denotes one of these. -/
def Opens {α : Type} (enc : TypeId × Value → H) (P : Program) (w : World) (t : TypeId) (c : α → List D) (ok : α → Prop) (n : Nat) : Prop :=
  ∀ cs x, DataW.trod enc P w 0 (fun _ => true) true n t cs = some x → ∃ a, ok a ∧ cs.length = (c a).length ∧ Seg w cs 0 (c a)

theorem one_seg {v : Value} {d : D} (h : V (G0 w) w v d) : Seg w [v] 0 [d] := fun i d' hd => by
  cases i with
  | zero => cases hd; exact ⟨v, rfl, h⟩
  | succ i => simp at hd

theorem opens_str {t : TypeId} (ht : P.underlying t = some .string) (n : Nat) : Opens enc P w t (fun s : Str => [.val (.string s)]) (fun s => s.size ≤ 9223372036854775807) n := by
  intro cs x h
  obtain ⟨s, rfl, _, hs⟩ := DataW.trod_string ht h
  exact ⟨s, by unfold maxLen at hs; omega, rfl, one_seg (.val _)⟩

theorem opens_int {t : TypeId} (ht : P.underlying t = some (.int .i64)) (n : Nat) : Opens enc P w t (fun i : Int => [.val (.int .i64 i)]) (fun i => -9223372036854775808 ≤ i ∧ i ≤ 9223372036854775807) n := by
  intro cs x h
  obtain ⟨m, rfl, _, hw⟩ := DataW.trod_int ht h
  simp [Lit.wf, IntKind.min, IntKind.max, IntKind.signed, IntKind.bits] at hw
  exact ⟨m, ⟨by omega, by omega⟩, rfl, one_seg (.val _)⟩

theorem opens_bool {t : TypeId} (ht : P.underlying t = some .bool) (n : Nat) : Opens enc P w t (fun b : Bool => [.val (.bool b)]) (fun _ => True) n := by
  intro cs x h
  obtain ⟨b, rfl, _⟩ := DataW.trod_bool ht h
  exact ⟨b, trivial, rfl, one_seg (.val _)⟩

theorem exists_list {α : Type} {p : Nat → α → Prop} : ∀ n : Nat, (∀ i, i < n → ∃ a, p i a) → ∃ l : List α, l.length = n ∧ ∀ i (a : α), l[i]? = some a → p i a
  | 0, _ => ⟨[], rfl, fun i a h => by simp at h⟩
  | n + 1, h => by
    obtain ⟨l, hl, hp⟩ := exists_list n fun i hi => h i (by omega)
    obtain ⟨a, ha⟩ := h n (by omega)
    refine ⟨l ++ [a], by simp [hl], fun i b hb => ?_⟩
    by_cases hi : i < l.length
    · rw [List.getElem?_append_left hi] at hb
      exact hp i b hb
    · rw [List.getElem?_append_right (by omega)] at hb
      have : i - l.length = 0 := by
        have := (List.getElem?_eq_some_iff.1 hb).1
        simp at this
        omega
      rw [this] at hb
      cases hb
      have : i = n := by omega
      subst this
      exact ha

theorem cells?_some {base : Nat} {a : Addr} {n : Nat} {l : List Value} (h : w.cells? base a n = some l) : l.length = n ∧ ∀ j, j < n → w.cell? (a.add j) = l[j]? := by
  unfold World.cells? at h
  split at h
  · refine ⟨by simpa using Lib.mapM_length h, fun j hj => ?_⟩
    obtain ⟨b, hb, hf⟩ := Lib.mapM_at h j j (by simp [hj])
    rw [hf, hb]
  · cases h

theorem cell?_spot {a : Addr} {v : Value} (h : w.cell? a = some v) : a.spot = none ∧ a.block < w.heap.size := by
  unfold World.cell? at h
  split at h
  · rename_i c t f hh
    split at h
    · cases h
    · rename_i hs
      exact ⟨by cases he : a.spot with | none => rfl | some _ => rw [he] at hs; simp at hs, (Array.getElem?_eq_some_iff.1 hh).1⟩
  · cases h

theorem opens_sl {α : Type} {t e : TypeId} {k : Nat} {f : α → D} {ok : α → Prop} {n : Nat} (ht : P.underlying t = some (.slice e)) (hk : P.cellsOf e = k) (hk0 : 0 < k) (hlen : ∀ a, (f a).cells.length = k)
    (he : Opens enc P w e (fun a => (f a).cells) ok n) :
    Opens enc P w t (fun l : List α => [.sl false (l.map f)]) (fun l => l.length ≤ 9223372036854775807 ∧ ∀ a ∈ l, ok a) (n + 1) := by
  intro cs x h
  rcases DataW.trod_slice ht h with ⟨rfl, rfl⟩ | ⟨a, len, cap, elems, rest, m, hm, rfl, rfl, _, hlc, hcap, hel, hget, hrest, _⟩
  · exact ⟨[], ⟨by simp, by simp⟩, rfl, one_seg (.nilsl _)⟩
  · obtain rfl : n = m := by omega
    rw [hk] at hget hrest
    have row : ∀ i, i < len → ∃ b, ok b ∧ ∀ (j : Nat) d, (f b).cells[j]? = some d → ∃ c, w.cell? ((a.add (i * k)).add j) = some c ∧ V (G0 w) w c d := by
      intro i hi
      have h1 := hget i hi
      rw [List.getElem?_eq_getElem (by omega)] at h1
      obtain ⟨l, hl, hd⟩ := Option.bind_eq_some_iff.1 h1
      obtain ⟨hl1, hl2⟩ := cells?_some hl
      obtain ⟨b, hb, hlb, hseg⟩ := he l _ hd
      refine ⟨b, hb, fun j d hd => ?_⟩
      obtain ⟨c, hc, hv⟩ := hseg j d hd
      have hj : j < k := by rw [← hlen b]; exact (List.getElem?_eq_some_iff.1 hd).1
      exact ⟨c, by rw [hl2 j hj]; simpa using hc, hv⟩
    obtain ⟨l, hll, hlp⟩ := exists_list len row
    have hok : l.length ≤ 9223372036854775807 ∧ ∀ b ∈ l, ok b := by
      refine ⟨by unfold maxLen at hcap; omega, fun b hb => ?_⟩
      obtain ⟨i, hi, rfl⟩ := List.mem_iff_getElem.1 hb
      exact (hlp i _ (by simp [hi])).1
    refine ⟨l, hok, rfl, one_seg ?_⟩
    by_cases hc0 : cap = 0
    · obtain rfl : len = 0 := by omega
      subst hc0
      have : l = [] := List.eq_nil_of_length_eq_zero hll
      subst this
      exact .esl a false
    · -- the first cell is there
      have first : ∃ v, w.cell? a = some v := by
        have hcells : ∃ q, (w.cells? 0 (a.add (0 * k)) k) = some q := by
          by_cases hl0 : 0 < len
          · have h1 := hget 0 hl0
            rw [List.getElem?_eq_getElem (by omega)] at h1
            obtain ⟨q, hq, _⟩ := Option.bind_eq_some_iff.1 h1
            exact ⟨q, hq⟩
          · obtain ⟨hr1, hr2⟩ := hrest rfl
            have h1 := hr2 0 (by omega)
            rw [List.getElem?_eq_getElem (by omega)] at h1
            obtain ⟨q, hq, _⟩ := Option.bind_eq_some_iff.1 h1
            have : len + 0 = 0 := by omega
            rw [this] at hq
            exact ⟨q, hq⟩
        obtain ⟨q, hq⟩ := hcells
        obtain ⟨hl1, hl2⟩ := cells?_some hq
        have h0 := hl2 0 hk0
        rw [Nat.zero_mul, show (a.add 0).add 0 = a from rfl, List.getElem?_eq_getElem (by omega)] at h0
        exact ⟨_, h0⟩
      obtain ⟨v, hv⟩ := first
      obtain ⟨hs, hb⟩ := cell?_spot hv
      obtain ⟨b, off, spot⟩ := a
      simp only at hs hb
      subst hs
      have hadd : ∀ i j : Nat, ((⟨b, off, none⟩ : Addr).add (i * k)).add j = ⟨b, off + (i * k + j), none⟩ := fun i j => by
        rw [Addr.add_lit, Addr.add_lit, Nat.add_assoc]
      refine .sl (k := k) (fun i j => (w.cell? ⟨b, off + (i * k + j), none⟩).getD .nilFunc) (by simp [hll]) (fun h => by cases h) hlc hb (fun i r hr => ?_) (fun i r j d hr hd => ?_) (fun i r j d hr hd => ?_)
      · obtain ⟨y, _, rfl⟩ := Option.map_eq_some_iff.1 (by simpa using hr)
        exact hlen y
      · obtain ⟨y, hy, rfl⟩ := Option.map_eq_some_iff.1 (by simpa using hr)
        obtain ⟨c, hc, _⟩ := (hlp i y hy).2 j d hd
        rw [hadd] at hc
        simp [hc]
      · obtain ⟨y, hy, rfl⟩ := Option.map_eq_some_iff.1 (by simpa using hr)
        obtain ⟨c, hc, hV⟩ := (hlp i y hy).2 j d hd
        rw [hadd] at hc
        simpa [hc] using hV

/-- A field of a struct. -/
theorem open_field {α : Type} {t : TypeId} {fs : Array Field} {cs : List Value} {n : Nat} {x : DataW H × List MemPlace} (ht : P.underlying t = some (.struct fs)) (h : DataW.trod enc P w 0 (fun _ => true) true (n + 1) t cs = some x)
    {c : α → List D} {ok : α → Prop} (i : Nat) {f : Field} (hf : fs[i]? = some f) (ho : Opens enc P w f.type c ok n) : ∃ a, ok a ∧ Seg w cs f.offset (c a) := by
  obtain ⟨xs, m, hm, _, _, hl, hg⟩ := DataW.trod_struct ht h
  obtain rfl : n = m := by omega
  have hi : i < xs.length := by
    have := (Array.getElem?_eq_some_iff.1 hf).1
    omega
  have h1 := hg i f hf
  rw [List.getElem?_eq_getElem hi] at h1
  obtain ⟨a, ha, _, hs⟩ := ho _ _ h1
  refine ⟨a, ha, fun j d hd => ?_⟩
  obtain ⟨v, hv, hV⟩ := hs j d hd
  refine ⟨v, ?_, hV⟩
  rw [Nat.zero_add, List.getElem?_take] at hv
  split at hv
  · rwa [List.getElem?_drop] at hv
  · cases hv

theorem struct_len {t : TypeId} {fs : Array Field} {cs : List Value} {n : Nat} {x : DataW H × List MemPlace} (ht : P.underlying t = some (.struct fs)) (h : DataW.trod enc P w 0 (fun _ => true) true (n + 1) t cs = some x) : cs.length = P.cellsOf t := by
  obtain ⟨xs, m, hm, _, hl, _, hg⟩ := DataW.trod_struct ht h
  exact hl

theorem Opens.zero {α : Type} {t : TypeId} {c : α → List D} {ok : α → Prop} : Opens enc P w t c ok 0 := fun cs x h => by simp [DataW.trod] at h

theorem opens_slb {α : Type} {t e : TypeId} {k : Nat} {f : α → D} {ok : α → Prop} {n : Nat} (ht : P.underlying t = some (.slice e)) (hk : P.cellsOf e = k) (hk0 : 0 < k) (hlen : ∀ a, (f a).cells.length = k)
    (he : ∀ m, m < n → Opens enc P w e (fun a => (f a).cells) ok m) : Opens enc P w t (fun l : List α => [.sl false (l.map f)]) (fun l => l.length ≤ 9223372036854775807 ∧ ∀ a ∈ l, ok a) n := by
  cases n with
  | zero => exact Opens.zero
  | succ n => exact opens_sl ht hk hk0 hlen (he n (Nat.lt_succ_self n))

def isSt (P : Program) (t : TypeId) : Bool := match P.underlying t with
  | some (.struct _) => true
  | _ => false
def fieldAt (P : Program) (t : TypeId) (i : Nat) : Option (TypeId × Nat) := match P.underlying t with
  | some (.struct fs) => (fs[i]?).map fun f => (f.type, f.offset)
  | _ => none

theorem open_at {α : Type} {t ft : TypeId} {off : Nat} {cs : List Value} {n : Nat} {x : DataW H × List MemPlace} {c : α → List D} {ok : α → Prop} (i : Nat) (hf : fieldAt P t i = some (ft, off))
    (h : DataW.trod enc P w 0 (fun _ => true) true (n + 1) t cs = some x) (ho : Opens enc P w ft c ok n) : ∃ a, ok a ∧ Seg w cs off (c a) := by
  unfold fieldAt at hf
  split at hf
  · rename_i fs hs
    obtain ⟨f, h1, h2⟩ := Option.map_eq_some_iff.1 hf
    cases h2
    exact open_field hs h i h1 ho
  · cases hf

theorem open_len {t : TypeId} {cs : List Value} {n : Nat} {x : DataW H × List MemPlace} (hs : isSt P t = true) (h : DataW.trod enc P w 0 (fun _ => true) true (n + 1) t cs = some x) : cs.length = P.cellsOf t := by
  unfold isSt at hs
  split at hs
  · rename_i fs ht
    exact struct_len ht h
  · cases hs

/-! ## Whole values -/

theorem open_agg {α : Type} {t : TypeId} {c : α → List D} {ok : α → Prop} {b0 : Nat} {v : Value} {d : DataW H} {ps : List MemPlace} (hs : isSt P t = true) (ho : ∀ n, Opens enc P w t c ok n)
    (hval : Value.okWide P w .any b0 t v) (h : DataW.Trod enc P w 0 (fun _ => true) true t v d ps) : ∃ a, ok a ∧ V (G0 w) w v (.agg (c a)) := by
  obtain ⟨n, hn⟩ := h
  obtain ⟨fs, ht⟩ : ∃ fs, P.underlying t = some (.struct fs) := by
    unfold isSt at hs
    split at hs
    · rename_i fs h
      exact ⟨fs, h⟩
    · cases hs
  unfold Value.okWide at hval
  rw [ht] at hval
  obtain ⟨cs, rfl, _, _⟩ := hval
  obtain ⟨a, ha, hl, hs⟩ := ho n _ _ hn
  have hl' : cs.size = (c a).length := by simpa [Value.cells] using hl
  refine ⟨a, ha, .agg hl' fun i x d hx hd => ?_⟩
  obtain ⟨y, hy, hV⟩ := hs i d hd
  have : cs[i]? = some y := by simpa [Value.cells] using hy
  rw [hx] at this
  cases this
  exact hV

theorem open_cell {α : Type} {t : TypeId} {f : α → D} {ok : α → Prop} {b0 : Nat} {v : Value} {d : DataW H} {ps : List MemPlace} (ht : ∀ cs, ¬ Value.okWide P w .any b0 t (.agg cs)) (ho : ∀ n, Opens enc P w t (fun a => [f a]) ok n)
    (hval : Value.okWide P w .any b0 t v) (h : DataW.Trod enc P w 0 (fun _ => true) true t v d ps) : ∃ a, ok a ∧ V (G0 w) w v (f a) := by
  obtain ⟨n, hn⟩ := h
  have hc : v.cells = #[v] := by
    cases v with
    | agg cs => exact absurd hval (ht cs)
    | _ => rfl
  rw [hc] at hn
  obtain ⟨a, ha, _, hs⟩ := ho n _ _ hn
  obtain ⟨y, hy, hV⟩ := hs 0 (f a) rfl
  cases hy
  exact ⟨a, ha, hV⟩

theorem not_agg_slice {t e : TypeId} {b0 : Nat} (ht : P.underlying t = some (.slice e)) (cs : Array Value) : ¬ Value.okWide P w .any b0 t (.agg cs) := by
  unfold Value.okWide Cell.okWide Cell.ok
  simp [ht]
theorem not_agg_string {t : TypeId} {b0 : Nat} (ht : P.underlying t = some .string) (cs : Array Value) : ¬ Value.okWide P w .any b0 t (.agg cs) := by
  unfold Value.okWide Cell.okWide Cell.ok
  simp [ht]
theorem not_agg_int {t : TypeId} {k : IntKind} {b0 : Nat} (ht : P.underlying t = some (.int k)) (cs : Array Value) : ¬ Value.okWide P w .any b0 t (.agg cs) := by
  unfold Value.okWide Cell.okWide Cell.ok
  simp [ht]
theorem not_agg_bool {t : TypeId} {b0 : Nat} (ht : P.underlying t = some .bool) (cs : Array Value) : ¬ Value.okWide P w .any b0 t (.agg cs) := by
  unfold Value.okWide Cell.okWide Cell.ok
  simp [ht]

/-! ## From a contract to the form of the rows -/

/-- A law that answers true: what the rows ask of it. -/
theorem law_calls {E : Ctx} {f : FuncId} {l : List D} {W : World} (h : ∀ g d, ACalls E f l [] g d (dB true) []) (hA : E.A W) {vs : Array Value} (hv : Vs (G0 W) W vs l) :
    Calls E.P f vs W fun e W' => e = .returned (.bool true) ∧ Below W.heap.size W W' := by
  refine ((h 0 0).run W hA (G0 W) W vs (wf0 W) hv (objs0 W) ⟨Nat.zero_lt_one, fun _ => rfl⟩).mono ?_
  rintro e w' ⟨v, G', rfl, hw, hV, _, _⟩
  rw [V.of_val hV]
  exact ⟨rfl, hw.below⟩

end Go.Ab
