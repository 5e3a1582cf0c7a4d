/- A part of the proof, under no conditions of its own: ZAC. -/
import Derived.Laws.Strings2
import Derived.Test.YtkddeobmfhchfaaDoorZAB
namespace Go.Ab
open Go Go.RowKit

section
variable {P : Program} {G : Gh} {w : World}

/-- A value's cells denote its abstract cells. -/
def Vs (G : Gh) (w : World) (cs : Array Value) (ds : List D) : Prop := cs.size = ds.length ∧ ∀ (i : Nat) c d, cs[i]? = some c → ds[i]? = some d → V G w c d

theorem V.cells {v : Value} {d : D} (h : V G w v d) (h1 : d.cells.all D.one = true) : Vs G w v.cells d.cells ∧ ∀ c ∈ v.cells.toList, c.oneCell' = true := by
  have single : ∀ {v : Value} {d : D}, V G w v d → d.one = true → v.oneCell' = true → Vs G w #[v] [d] ∧ ∀ c ∈ (#[v] : Array Value).toList, c.oneCell' = true := by
    intro v d hv _ ho
    refine ⟨⟨rfl, fun i c d' hc hd => ?_⟩, fun c hc => ?_⟩
    · cases i with
      | zero => simp at hc hd; subst hc; subst hd; exact hv
      | succ i => simp at hd
    · simp at hc; subst hc; exact ho
  have plain : ∀ {v : Value} {d : D}, V G w v d → d.one = true → Vs G w v.cells [d] ∧ ∀ c ∈ v.cells.toList, c.oneCell' = true := by
    intro v d hv ho
    have h1 := hv.one ho
    have : v.cells = #[v] := by cases v <;> simp [Value.oneCell'] at h1 <;> rfl
    rw [this]
    exact single hv ho h1
  cases d with
  | agg cs =>
    cases h with
    | agg hs hV =>
      refine ⟨⟨hs, hV⟩, fun c hc => ?_⟩
      obtain ⟨i, hi⟩ := List.mem_iff_getElem?.1 hc
      simp only [Value.cells, Array.getElem?_toList] at hi
      have hlt := (Array.getElem?_eq_some_iff.1 hi).1
      have hd : cs[i]? = some cs[i] := List.getElem?_eq_getElem (by omega)
      exact (hV i c _ hi hd).one (by
        simp only [D.cells, List.all_eq_true] at h1
        exact h1 _ (List.getElem_mem _))
  | any => simp [D.cells, D.one] at h1
  | tup => simp [D.cells, D.one] at h1
  | _ => exact plain h (by simpa [D.cells] using h1)

theorem foldl_set (off : Nat) : ∀ (l : List Value) (j : Nat) (cs : Array Value), 
    ((l.zipIdx j).foldl (fun (cs : Array Value) (p : Value × Nat) => cs.setIfInBounds (off + p.2) p.1) cs).size = cs.size ∧
    ∀ i, ((l.zipIdx j).foldl (fun (cs : Array Value) (p : Value × Nat) => cs.setIfInBounds (off + p.2) p.1) cs)[i]? = if off + j ≤ i ∧ i < off + j + l.length ∧ i < cs.size then l[i - (off + j)]? else cs[i]?
  | [], j, cs => ⟨rfl, fun i => by simp; intro h1 h2; omega⟩
  | v :: r, j, cs => by
    obtain ⟨h1, h2⟩ := foldl_set off r (j + 1) (cs.setIfInBounds (off + j) v)
    simp only [List.zipIdx_cons, List.foldl_cons]
    refine ⟨by rw [h1]; simp, fun i => ?_⟩
    rw [h2 i, Array.getElem?_setIfInBounds]
    simp only [Array.size_setIfInBounds, List.length_cons]
    by_cases hi : off + j = i
    · subst hi
      by_cases hs : off + j < cs.size
      · rw [if_neg (by omega), if_pos rfl, if_pos hs, if_pos ⟨by omega, by omega, hs⟩]
        simp
      · rw [if_neg (by omega), if_pos rfl, if_neg hs, if_neg (by omega)]
        simp [Nat.le_of_not_lt hs]
    · rw [if_neg hi]
      by_cases hc : off + (j + 1) ≤ i ∧ i < off + (j + 1) + r.length ∧ i < cs.size
      · rw [if_pos hc, if_pos ⟨by omega, by omega, hc.2.2⟩]
        have : i - (off + j) = (i - (off + (j + 1))) + 1 := by omega
        rw [this, List.getElem?_cons_succ]
      · rw [if_neg hc, if_neg (by omega)]

theorem over_get (cs : List D) (o : Nat) (new : List D) (ho : o + new.length ≤ cs.length) (i : Nat) :
    (over cs o new)[i]? = if o ≤ i ∧ i < o + new.length then new[i - o]? else cs[i]? := by
  unfold over
  have hl : (cs.take o ++ new).length = o + new.length := by simp; omega
  by_cases h1 : i < o
  · rw [List.append_assoc, List.getElem?_append_left (by simp; omega), List.getElem?_take, if_pos h1, if_neg (by omega)]
  · by_cases h2 : i < o + new.length
    · rw [List.append_assoc, List.getElem?_append_right (by simp; omega), List.getElem?_append_left (by simp; omega), if_pos ⟨by omega, h2⟩]
      congr 1
      simp
      omega
    · rw [List.getElem?_append_right (by omega), if_neg (by omega), List.getElem?_drop, hl]
      congr 1
      omega

theorem over_length (cs : List D) (o : Nat) (new : List D) (ho : o + new.length ≤ cs.length) : (over cs o new).length = cs.length := by
  unfold over
  simp
  omega

theorem fill_run (place : Nat → Option (Nat × Nat)) : ∀ (ps : List (Nat × Value)) (qs : List (Nat × D)) (cs : Array Value) (ds ds' : List D),
    ps.length = qs.length → (∀ (j : Nat) p q, ps[j]? = some p → qs[j]? = some q → p.1 = q.1 ∧ V G w p.2 q.2) → Vs G w cs ds → fillD place ds qs = some ds' →
    ∃ cs', Instr.fill place cs ps = some cs' ∧ Vs G w cs' ds'
  | [], [], cs, ds, ds', _, _, hv, h => by
    simp only [fillD, Option.some.injEq] at h
    subst h
    exact ⟨cs, rfl, hv⟩
  | (i, v) :: ps, (i', d) :: qs, cs, ds, ds', hl, hp, hv, h => by
    obtain ⟨rfl, hvd⟩ : i = i' ∧ V G w v d := hp 0 _ _ rfl rfl
    simp only [fillD] at h
    split at h
    · cases h
    · rename_i o k hpl
      split at h
      · rename_i hc
        obtain ⟨rfl, hle, h1⟩ := hc
        obtain ⟨⟨hs, hV⟩, _⟩ := hvd.cells h1
        have hfold : v.cells.zipIdx.foldl (fun cs (x : Value × Nat) => match x with | (c, j) => cs.setIfInBounds (o + j) c) cs = (v.cells.toList.zipIdx 0).foldl (fun (cs : Array Value) (p : Value × Nat) => cs.setIfInBounds (o + p.2) p.1) cs := by
          rw [← Array.foldl_toList, Array.toList_zipIdx]
        obtain ⟨f1, f2⟩ := foldl_set o v.cells.toList 0 cs
        have hv' : Vs G w (v.cells.zipIdx.foldl (fun cs (x : Value × Nat) => match x with | (c, j) => cs.setIfInBounds (o + j) c) cs) (over ds o d.cells) := by
          rw [hfold]
          refine ⟨by rw [f1, over_length ds o _ hle, hv.1], fun j c d' hc hd => ?_⟩
          rw [f2 j] at hc
          rw [over_get ds o _ hle] at hd
          simp only [Nat.add_zero, Array.length_toList] at hc
          by_cases hj : o ≤ j ∧ j < o + d.cells.length
          · rw [if_pos hj] at hd
            rw [if_pos ⟨hj.1, by omega, by have := hv.1; omega⟩] at hc
            exact hV _ _ _ (by simpa using hc) hd
          · rw [if_neg hj] at hd
            rw [if_neg (by omega)] at hc
            exact hv.2 _ _ _ hc hd
        obtain ⟨cs', hf, hv''⟩ := fill_run place ps qs _ _ ds' (by simpa using hl) (fun j p q hpj hqj => hp (j + 1) p q hpj hqj) hv' h
        refine ⟨cs', ?_, hv''⟩
        simp only [Instr.fill, hpl]
        rw [if_neg (by have := hv.1; simp; omega)]
        exact hf
      · cases h
  | [], _ :: _, _, _, _, hl, _, _, _ => by simp at hl
  | _ :: _, [], _, _, _, hl, _, _, _ => by simp at hl

theorem Vs.vals (cs : Array Value) : Vs G w cs (cs.toList.map .val) :=
  ⟨by simp, fun i c d hc hd => by
    simp only [List.getElem?_map, Array.getElem?_toList, hc, Option.map_some, Option.some.injEq] at hd
    subst hd
    exact .val c⟩

theorem build_run {t : TypeId} {ps : Array (Nat × Value)} {qs : List (Nat × D)} (hl : ps.size = qs.length) (hp : ∀ (j : Nat) p q, ps[j]? = some p → qs[j]? = some q → p.1 = q.1 ∧ V G w p.2 q.2)
    {v : D} (h : buildD P t qs = some v) : ∃ x, (Instr.build t ps).run P w = .ok x w ∧ V G w x v := by
  unfold buildD at h
  split at h
  · rename_i z pl hz hpl
    cases hf : fillD (fun i => pl[i]?) (z.cells.toList.map .val) qs with
    | none => rw [hf] at h; cases h
    | some ds' =>
      rw [hf] at h
      cases h
      obtain ⟨cs', h1, h2⟩ := fill_run (G := G) (w := w) (fun i => pl[i]?) ps.toList qs z.cells _ ds' (by simpa using hl) (fun j p q h1 h2 => hp j p q (by simpa using h1) h2) (Vs.vals _) hf
      refine ⟨.agg cs', run_build w t ps cs' ?_, .agg h2.1 h2.2⟩
      unfold placesOf at hpl
      unfold zeroOf at hz
      split at hpl
      · rename_i fields hu
        cases hi : P.info? t with
        | none => rw [hi] at hz; cases hz
        | some it =>
          rw [hi] at hz
          simp only [Option.bind_some] at hz
          unfold Program.built
          simp only [hi, hu, hz, hpl]
          simpa using h1
      · cases hpl
  · cases h

theorem isIfc_spec {t : TypeId} (h : ¬ isIfc P t = true) : P.concrete t = true := by
  unfold isIfc at h
  unfold Program.concrete
  split <;> simp_all

theorem sub_run {P : Program} {G : Gh} {w : World} {t : TypeId} {x l h : Value} {dx dl dh v : D} (hx : V G w x dx) (hl : V G w l dl) (hh : V G w h dh) (hd : subD P t dx dl dh = some v) :
    ∃ z, (Instr.sliceAt t x (some l) (some h) none).run P w = .ok z w ∧ V G w z v := by
  unfold subD at hd
  split at hd
  · have e1 := V.of_val hx
    have e2 := V.of_val hl
    have e3 := V.of_val hh
    subst e1 e2 e3
    split at hd
    · rename_i hc
      obtain ⟨h0, h1, h2, h3⟩ := hc
      cases hd
      have hu : P.underlying t = some .string := by
        unfold isStr at h0
        split at h0
        · assumption
        · cases h0
      refine ⟨_, ?_, .val _⟩
      unfold Instr.sliceAt
      simp only [Sem.run_bind, run_underlying hu, Result.andThen_ok]
      exact run_slice_string w t _ _ _ _ _ hu h1 h2 h3
    · cases hd
  · cases hd
theorem capD_spec {P : Program} {t : TypeId} {d v : D} (h : capD P t d = some v) : ∃ b n c e, d = .val (.slice b n c) ∧ elemS P t = some e ∧ v = .val (.int .i64 c) := by
  unfold capD at h
  split at h
  · split at h
    · rename_i hs
      obtain ⟨e, he⟩ := Option.isSome_iff_exists.1 hs
      cases h
      exact ⟨_, _, _, e, rfl, he, rfl⟩
    · cases h
  · cases h
theorem mmD_spec {mx : Bool} {d d' v : D} (h : mmD mx d d' = some v) : ∃ k a b, d = .val (.int k a) ∧ d' = .val (.int k b) ∧ v = .val (.int k (if mx = true then (if b > a then b else a) else (if b < a then b else a))) := by
  unfold mmD at h
  split at h
  · split at h
    · rename_i k a k' b hk
      subst hk
      cases h
      exact ⟨k, a, b, rfl, rfl, rfl⟩
    · cases h
  · cases h
theorem isNilK_eq {y : Operand} (h : isNilK y = true) : y = .const .nilIface := by
  unfold isNilK at h
  split at h
  · rfl
  · cases h
theorem nilIfc_run {P : Program} {G : Gh} {w : World} {op : BinOp} {t : TypeId} {xo : Operand} {x : Value} {d v : D} (hx : V G w x d) (h : nilIfcD P t op d = some v) :
    ∃ z, (do eqGuard op t xo (.const .nilIface) x .nilIface; binOp op t x .nilIface : Sem Value).run P w = .ok z w ∧ V G w z v := by
  have hu : ∀ {b : Bool}, (if isIfc P t = true ∧ hasT P t = true then (eqR op b).map D.val else none) = some v → (∃ ms, P.underlying t = some (.interface ms)) ∧ (op = .eql ∧ v = .val (.bool b) ∨ op = .neq ∧ v = .val (.bool (!b))) := by
    intro b h
    split at h
    · rename_i ht
      refine ⟨?_, ?_⟩
      · obtain ⟨h1, h2⟩ := ht
        unfold isIfc at h1
        unfold hasT at h2
        split at h1
        · exact ⟨_, by assumption⟩
        · rename_i e; rw [e] at h2; cases h2
        · cases h1
      · cases op <;> simp [eqR] at h
        · exact .inl ⟨rfl, h.symm⟩
        · exact .inr ⟨rfl, h.symm⟩
    · cases h
  have run : ∀ {b : Bool}, (Op.equal t x .nilIface).run P w = .ok b w → eqGuard op t xo (.const .nilIface) x .nilIface = pure () → (op = .eql ∧ v = .val (.bool b) ∨ op = .neq ∧ v = .val (.bool (!b))) →
      ∃ z, (do eqGuard op t xo (.const .nilIface) x .nilIface; binOp op t x .nilIface : Sem Value).run P w = .ok z w ∧ V G w z v := by
    intro b he hg h
    rcases h with ⟨rfl, rfl⟩ | ⟨rfl, rfl⟩
    · exact ⟨.bool b, by rw [hg]; simp only [binOp, Sem.run_bind, he, Result.andThen_ok, Sem.run_pure], .val _⟩
    · exact ⟨.bool (!b), by rw [hg]; simp only [binOp, Sem.run_bind, he, Result.andThen_ok, Sem.run_pure], .val _⟩
  cases hx with
  | iface hv =>
    obtain ⟨⟨ms, hi⟩, h⟩ := hu h
    rename_i t' v' d' h'
    have h1 : ∀ d : Nat, (Op.equalIn (d + 1) t (.iface t' v') .nilIface).run P w = .ok false w := fun d => by simp [Op.equalIn, run_underlying hi]
    exact run (h1 9999) (eqGuard_at_iface _ _ _ _ _ _ _) h
  | val =>
    unfold nilIfcD at h
    split at h
    · rename_i e; cases e
    · rename_i e
      cases e
      obtain ⟨⟨ms, hi⟩, h⟩ := hu h
      have h1 : ∀ d : Nat, (Op.equalIn (d + 1) t .nilIface .nilIface).run P w = .ok true w := fun d => by simp [Op.equalIn, run_underlying hi]
      refine run (h1 9999) ?_ h
      unfold eqGuard
      rcases h with ⟨rfl, _⟩ | ⟨rfl, _⟩ <;> simp <;> rfl
    · cases h
  | _ => simp [nilIfcD] at h

theorem run_eqGuardType {t : TypeId} (h : egOf P t = false) (op : BinOp) (xo yo : Operand) (xs ys : Array Value) : (eqGuard op t xo yo (.agg xs) (.agg ys)).run P w = .ok () w := by
  unfold egOf at h
  unfold eqGuard
  cases op <;> simp [Sem.run_bind, run_program, h, Result.andThen, pure]
theorem aggEq_run {G : Gh} {op : BinOp} {t : TypeId} {xo yo : Operand} {x y : Value} {d i v : D} (hx : V G w x d) (hy : V G w y i) (h : aggEqD P t op d i = some v) :
    ∃ z, (do eqGuard op t xo yo x y; binOp op t x y : Sem Value).run P w = .ok z w ∧ V G w z v := by
  unfold aggEqD at h
  split at h
  · rename_i ds es
    split at h
    · rename_i cs vs us hks hvs hus
      split at h
      · rename_i hc
        obtain ⟨hg, f1, f2⟩ := hc
        have e1 : x = .agg vs.toArray := keyD_spec (k := .agg vs.toArray) hx (by simp [keyD, hvs])
        have e2 : y = .agg us.toArray := keyD_spec (k := .agg us.toArray) hy (by simp [keyD, hus])
        subst e1 e2
        have he := KS.eq_run (w := w) hks (a := .agg vs.toArray) (b := .agg us.toArray) (by simpa [KS.fits] using f1) (by simpa [KS.fits] using f2)
        have hgd := run_eqGuardType (P := P) (w := w) hg op xo yo vs.toArray us.toArray
        have hdec : (open Classical in decide (Value.agg vs.toArray = Value.agg us.toArray)) = (open Classical in decide (vs = us)) := by
          rw [Bool.eq_iff_iff]
          simp
        obtain ⟨r, hr, rfl⟩ := Option.map_eq_some_iff.1 h
        refine ⟨r, ?_, .val _⟩
        rw [Sem.run_bind, hgd]
        simp only [Result.andThen_ok]
        cases op <;> simp only [eqR, reduceCtorEq, Option.some.injEq] at hr
        · subst hr
          simp only [binOp, Sem.run_bind, he, Result.andThen_ok, Sem.run_pure, hdec]
        · subst hr
          simp only [binOp, Sem.run_bind, he, Result.andThen_ok, Sem.run_pure, hdec]
      · cases h
    · cases h
  · cases h

theorem run_sliceAt {t e : TypeId} (he : elemS P t = some e) {k : Nat} (hk : szOf P e = some k) {a : Option Addr} {n cap : Nat} (hn : n ≤ cap) {lo hi : Option Value} {l h : Nat} (hl : lo = none ∧ l = 0 ∨ ∃ q, lo = some (.int q l)) (hh : hi = none ∧ h = n ∨ ∃ q, hi = some (.int q h)) (h1 : l ≤ h) (h2 : h ≤ n) :
    (Instr.sliceAt t (.slice a n cap) lo hi none).run P w = .ok (.slice (if cap = l then a else a.map (·.add (l * k))) (h - l) (cap - l)) w := by
  have hu := elemS_spec he
  have hb : ∀ (q : IntKind) (i y : Nat) c, i ≤ y → (Instr.sliceBound (.int q i) y c).run P w = .ok i w := fun q i y c hi => by
    simp [Instr.sliceBound, asIntOf, hi]
  have hbs : (Instr.sliceBounds true n cap lo hi none).run P w = .ok (l, h, cap) w := by
    rcases hl with ⟨rfl, rfl⟩ | ⟨q, rfl⟩ <;> rcases hh with ⟨rfl, rfl⟩ | ⟨q', rfl⟩ <;>
      simp [Instr.sliceBounds, hb, h1, show h ≤ cap by omega, Sem.run_bind, Result.andThen]
  unfold Instr.sliceAt
  simp only [Sem.run_bind, run_underlying hu, Result.andThen_ok]
  simp [Instr.slice, run_underlying hu, hbs, run_sizeOf hk, Sem.run_bind, Result.andThen]

theorem sli_run {w0 : World} {κ : Kp} (ho : Objs w0 G w κ) {t : TypeId} {x : Value} {d v : D} (hx : V G w x d) {lo hi : Option Value} {l : Int} {h : Option Int} (hl : lo = none ∧ l = 0 ∨ ∃ q, lo = some (.int q l)) (hh : hi = none ∧ h = none ∨ ∃ q n, hi = some (.int q n) ∧ h = some n)
    (hs : sliD P κ t d l h = some v) : ∃ z, (Instr.sliceAt t x lo hi none).run P w = .ok z w ∧ V G w z v := by
  have nl : ∀ l' : Nat, (l' : Int) = l → (lo = none ∧ l' = 0 ∨ ∃ q, lo = some (.int q (l' : Int))) := fun l' he => by
    rcases hl with ⟨h1, h2⟩ | ⟨q, h1⟩
    · exact .inl ⟨h1, by omega⟩
    · exact .inr ⟨q, by rw [h1, he]⟩
  have nh : ∀ (n h' : Nat), (h' : Int) = h.getD n → (hi = none ∧ h' = n ∨ ∃ q, hi = some (.int q (h' : Int))) := fun n h' he => by
    rcases hh with ⟨h1, h2⟩ | ⟨q, m, h1, h2⟩
    · subst h2; exact .inl ⟨h1, by simp at he; omega⟩
    · subst h2; exact .inr ⟨q, by rw [h1]; simp at he; rw [he]⟩
  unfold sliD at hs
  split at hs
  · rename_i e he
    split at hs
    · rename_i k hk
      split at hs
      · rename_i xf rows
        split at hs
        · rename_i hc
          obtain ⟨h0, h1, h2, hrows⟩ := hc
          cases hs
          generalize hH : (h.getD (rows.length : Int)) = H at *
          obtain ⟨l', rfl⟩ : ∃ l' : Nat, l = (l' : Int) := ⟨l.toNat, by omega⟩
          obtain ⟨H', rfl⟩ : ∃ H' : Nat, H = (H' : Int) := ⟨H.toNat, by omega⟩
          have k1 : l' ≤ H' := by omega
          have k2 : H' ≤ rows.length := by omega
          simp only [Int.toNat_natCast]
          have hlen : ((rows.take H').drop l').length = H' - l' := by simp; omega
          cases hx with
          | nilsl =>
            obtain rfl : l' = 0 := by simp at k2; omega
            obtain rfl : H' = 0 := by simpa using k2
            exact ⟨_, run_sliceAt he hk (Nat.le_refl _) (nl 0 rfl) (nh 0 0 (by simpa using hH.symm)) k1 (Nat.le_refl _), by simpa using V.nilsl false⟩
          | esl a =>
            obtain rfl : l' = 0 := by simp at k2; omega
            obtain rfl : H' = 0 := by simpa using k2
            exact ⟨_, run_sliceAt he hk (Nat.le_refl _) (nl 0 rfl) (nh 0 0 (by simpa using hH.symm)) k1 (Nat.le_refl _), by simpa using V.esl a false⟩
          | sl X hn q2 q3 hF hkk hc hV =>
            rename_i b off n cap k'
            subst hn
            refine ⟨_, run_sliceAt he hk q3 (nl l' rfl) (nh _ H' hH.symm) k1 k2, ?_⟩
            by_cases hz : H' - l' = 0
            · have hnil : (rows.take H').drop l' = [] := List.eq_nil_of_length_eq_zero (by omega)
              rw [hnil, hz]
              by_cases hcl : cap = l'
              · subst hcl
                rw [if_pos rfl, Nat.sub_self]
                exact .esl _ _
              · rw [if_neg hcl]
                simp only [Option.map_some, Addr.add_lit]
                exact .sl (rows := []) (n := 0) (k := k') X rfl (fun h => by cases h) (Nat.zero_le _) hF (fun i r hr => by simp at hr) (fun i r j d hr => by simp at hr) (fun i r j d hr => by simp at hr)
            · have hcl : cap ≠ l' := by omega
              rw [if_neg hcl]
              have hkk' : k' = k := by
                have hlt : 0 < rows.length := by omega
                have a1 := hkk 0 _ (List.getElem?_eq_getElem hlt)
                have a2 := hrows _ (List.getElem_mem hlt)
                omega
              subst hkk'
              have hget : ∀ (i : Nat) r, ((rows.take H').drop l')[i]? = some r → rows[l' + i]? = some r := fun i r hr => by
                rw [List.getElem?_drop, List.getElem?_take] at hr
                split at hr
                · exact hr
                · cases hr
              simp only [Option.map_some, Addr.add_lit]
              refine .sl (rows := (rows.take H').drop l') (n := H' - l') (k := k') (fun i j => X (l' + i) j) hlen.symm (fun h => by cases h) (by omega) hF (fun i r hr => hkk _ _ (hget i r hr)) (fun i r j d hr hd => ?_) (fun i r j d hr hd => hV _ _ _ _ (hget i r hr) hd)
              have := hc _ _ _ _ (hget i r hr) hd
              rw [← this]
              have e1 : off + l' * k' + (i * k' + j) = off + ((l' + i) * k' + j) := by rw [Nat.add_mul]; omega
              rw [e1]
        · cases hs
      · rename_i nm len
        split at hs
        · rename_i t' k' rows hκ
          split at hs
          · rename_i hc
            obtain ⟨rfl, hpos, h0, h1, h2⟩ := hc
            cases hs
            obtain ⟨u, xs, hρ, hown, _⟩ := arr_shape ho hκ
            generalize hH : (h.getD (rows.length : Int)) = H at *
            obtain ⟨l', rfl⟩ : ∃ l' : Nat, l = (l' : Int) := ⟨l.toNat, by omega⟩
            obtain ⟨H', rfl⟩ : ∃ H' : Nat, H = (H' : Int) := ⟨H.toNat, by omega⟩
            have k1 : l' ≤ H' := by omega
            have k2 : H' ≤ rows.length := by omega
            cases hx with
            | own hρ' =>
              rw [hρ'] at hρ
              cases hρ
              rcases hown.2 with ⟨hnil, hz⟩ | ⟨g, cap, cur, hv, _, _, hnc, _⟩
              · omega
              · cases hv
                refine ⟨_, run_sliceAt he hk hnc (nl l' rfl) (nh _ H' hH.symm) k1 k2, ?_⟩
                simp only [Int.toNat_natCast, show ((H' : Int) - (l' : Int)).toNat = H' - l' by omega]
                split
                · exact .osl hρ' (by omega) (by omega) fun h => by omega
                · exact .osl hρ' (by omega) (by omega) fun h => by simp [Addr.add_lit]
          · cases hs
        · cases hs
      · rename_i nm k' off len
        split at hs
        · rename_i hc
          obtain ⟨rfl, h0, h1, h2⟩ := hc
          cases hs
          generalize hH : (h.getD (len : Int)) = H at *
          obtain ⟨l', rfl⟩ : ∃ l' : Nat, l = (l' : Int) := ⟨l.toNat, by omega⟩
          obtain ⟨H', rfl⟩ : ∃ H' : Nat, H = (H' : Int) := ⟨H.toNat, by omega⟩
          have k1 : l' ≤ H' := by omega
          have k2 : H' ≤ len := by omega
          cases hx with
          | osl hρ' hC hle ha =>
            rename_i b cap L C a
            refine ⟨_, run_sliceAt he hk hle (nl l' rfl) (nh _ H' hH.symm) k1 k2, ?_⟩
            simp only [Int.toNat_natCast, show ((H' : Int) - (l' : Int)).toNat = H' - l' by omega]
            by_cases hcl : cap = l'
            · rw [if_pos hcl]
              exact .osl hρ' (by omega) (by omega) fun h => by omega
            · rw [if_neg hcl]
              refine .osl hρ' (by omega) (by omega) fun h => ?_
              rw [ha (by omega)]
              simp [Addr.add_lit, Nat.add_mul]
        · cases hs
      · cases hs
    · cases hs
  · cases hs

theorem intOfD_spec {x : Value} {d : D} {n : Int} (hx : V G w x d) (h : intOfD d = some n) : ∃ q, x = .int q n := by
  unfold intOfD at h
  split at h
  · cases h; exact ⟨_, V.of_val hx⟩
  · cases h
theorem slice_run {w0 : World} {κ : Kp} (ho : Objs w0 G w κ) {t : TypeId} {x : Value} {d v : D} (hx : V G w x d) {lo hi : Option Value} {dl dh : Option D} (hl : lo = none ∧ dl = none ∨ ∃ a b, lo = some a ∧ dl = some b ∧ V G w a b) (hh : hi = none ∧ dh = none ∨ ∃ a b, hi = some a ∧ dh = some b ∧ V G w a b)
    (hs : sliceD P κ t d dl dh = some v) : ∃ z, (Instr.sliceAt t x lo hi none).run P w = .ok z w ∧ V G w z v := by
  rcases hl with ⟨rfl, rfl⟩ | ⟨a, b, rfl, rfl, hab⟩ <;> rcases hh with ⟨rfl, rfl⟩ | ⟨a', b', rfl, rfl, hab'⟩ <;> simp only [sliceD] at hs
  · exact sli_run ho hx (.inl ⟨rfl, rfl⟩) (.inl ⟨rfl, rfl⟩) hs
  · obtain ⟨n, hn, hs⟩ := Option.bind_eq_some_iff.1 hs
    obtain ⟨q, rfl⟩ := intOfD_spec hab' hn
    exact sli_run ho hx (.inl ⟨rfl, rfl⟩) (.inr ⟨q, n, rfl, rfl⟩) hs
  · obtain ⟨n, hn, hs⟩ := Option.bind_eq_some_iff.1 hs
    obtain ⟨q, rfl⟩ := intOfD_spec hab hn
    exact sli_run ho hx (.inr ⟨q, rfl⟩) (.inl ⟨rfl, rfl⟩) hs
  · split at hs
    · rename_i v' hsub
      cases hs
      exact sub_run hx hab hab' hsub
    · obtain ⟨n, hn, hs⟩ := Option.bind_eq_some_iff.1 hs
      obtain ⟨n', hn', hs⟩ := Option.bind_eq_some_iff.1 hs
      obtain ⟨q, rfl⟩ := intOfD_spec hab hn
      obtain ⟨q', rfl⟩ := intOfD_spec hab' hn'
      exact sli_run ho hx (.inr ⟨q, rfl⟩) (.inr ⟨q', n', rfl, rfl⟩) hs

theorem dopR_sound {E : Ctx} {o : Oper} {e : Operand → D} {κ : Kp} {v : D} (h : dopR E.P o e κ = some v) : Yields E o e κ v := by
  intro w0 hA G w ρ hw hV ho
  unfold dopR at h
  split at h
  · rename_i x hop
    cases h
    exact ⟨ρ x, by simp [execOp, hop], hV x (by simp [hop, Op.operands])⟩
  · rename_i x hop
    cases h
    exact ⟨ρ x, by simp [execOp, hop], hV x (by simp [hop, Op.operands])⟩
  · rename_i c a b hop
    have hc := hV c (by simp [hop, Op.operands])
    split at h
    · rename_i hb
      rw [hb] at hc
      cases h
      exact ⟨ρ a, by simp [execOp, hop, V.of_val hc, asBool], hV a (by simp [hop, Op.operands])⟩
    · rename_i hb
      rw [hb] at hc
      cases h
      exact ⟨ρ b, by simp [execOp, hop, V.of_val hc, asBool], hV b (by simp [hop, Op.operands])⟩
    · cases h
  · rename_i t x hop
    obtain ⟨y, hy, hv⟩ := load_run ho (hV x (by simp [hop, Op.operands])) h
    exact ⟨y, by simp [execOp, hop, hy], hv⟩
  · rename_i x hop
    exact nil_run hop (hV x (by simp [hop, Op.operands])) h
  · rename_i op t x y t2 hop
    split at h
    · rename_i hk hey
      obtain rfl := isNilK_eq hk
      obtain ⟨z, hz, hv⟩ := nilIfc_run (P := E.P) (op := op) (t := t) (xo := x) (hV x (by simp [hop, Op.operands])) h
      have hy := hV (.const .nilIface) (by simp [hop, Op.operands])
      rw [hey] at hy
      have hn : ρ (.const .nilIface) = .nilIface := V.of_val hy
      refine ⟨z, ?_, hv⟩
      simp only [execOp, hop, hn]
      rw [Sem.run_bind, hz]
      simp
    · have hxy : ∃ z, (do eqGuard op t x y (ρ x) (ρ y); binOp op t (ρ x) (ρ y) : Sem Value).run E.P w = .ok z w ∧ V G w z v := by
        split at h
        · rename_i v' hb
          cases h
          exact bin_run (P := E.P) (op := op) (t := t) (xo := x) (yo := y) (hV x (by simp [hop, Op.operands])) (hV y (by simp [hop, Op.operands])) hb
        · exact aggEq_run (P := E.P) (op := op) (t := t) (xo := x) (yo := y) (hV x (by simp [hop, Op.operands])) (hV y (by simp [hop, Op.operands])) h
      obtain ⟨z, hz, hv⟩ := hxy
      refine ⟨z, ?_, hv⟩
      simp only [execOp, hop]
      rw [Sem.run_bind, hz]
      simp
  · rename_i op t x hop
    obtain ⟨z, hz, hv⟩ := un_run (P := E.P) (hV x (by simp [hop, Op.operands])) h
    exact ⟨z, by simp [execOp, hop, hz], hv⟩
  · rename_i s d x hop
    obtain ⟨z, hz, hv⟩ := conv_run (P := E.P) (hV x (by simp [hop, Op.operands])) h
    exact ⟨z, by simp [execOp, hop, hz], hv⟩
  · rename_i t x hop
    split at h
    · cases h
    · rename_i hi
      cases h
      exact ⟨_, by simp [execOp, hop, run_makeInterface w t (ρ x) (isIfc_spec hi)], .iface (hV x (by simp [hop, Op.operands]))⟩
  · rename_i fn a c hop
    cases h
    refine ⟨.func fn (a.map ρ) (c.map ρ), by simp [execOp, hop, Instr.makeFunc], .func (by simp) (by simp) (fun i x d hx hd => ?_) (fun i x d hx hd => ?_)⟩
    · simp only [Array.getElem?_map, Option.map_eq_some_iff] at hx
      obtain ⟨y, hy, rfl⟩ := hx
      simp only [List.getElem?_map, Array.getElem?_toList, hy, Option.map_some, Option.some.injEq] at hd
      subst hd
      exact hV y (by simp only [hop, Op.operands]; exact Array.mem_append.2 (.inl (Array.mem_of_getElem? hy)))
    · simp only [Array.getElem?_map, Option.map_eq_some_iff] at hx
      obtain ⟨y, hy, rfl⟩ := hx
      simp only [List.getElem?_map, Array.getElem?_toList, hy, Option.map_some, Option.some.injEq] at hd
      subst hd
      exact hV y (by simp only [hop, Op.operands]; exact Array.mem_append.2 (.inr (Array.mem_of_getElem? hy)))
  · rename_i t x f hop
    obtain ⟨z, hz, hv⟩ := fieldAddr_run (P := E.P) (hV x (by simp [hop, Op.operands])) h
    exact ⟨z, by simp [execOp, hop, hz], hv⟩
  · rename_i t x f hop
    obtain ⟨z, hz, hv⟩ := field_run (P := E.P) (hV x (by simp [hop, Op.operands])) h
    exact ⟨z, by simp [execOp, hop, hz], hv⟩
  · rename_i t x i hop
    obtain ⟨z, hz, hv⟩ := indexAddr_run (P := E.P) ho (hV x (by simp [hop, Op.operands])) (hV i (by simp [hop, Op.operands])) h
    exact ⟨z, by simp [execOp, hop, hz], hv⟩
  · rename_i t x i hop
    obtain ⟨z, hz, hv⟩ := index_run (P := E.P) (hV x (by simp [hop, Op.operands])) (hV i (by simp [hop, Op.operands])) h
    exact ⟨z, by simp [execOp, hop, hz], hv⟩
  · rename_i t i hop
    have hx := hV t (by simp [hop, Op.operands])
    split at h
    · rename_i vs ht
      rw [ht] at hx
      generalize hρ : ρ t = u at hx
      cases hx with
      | tup hs hVs =>
        rename_i cs
        have hlt : i < cs.size := by
          have := (List.getElem?_eq_some_iff.1 h).1
          omega
        exact ⟨cs[i], by simp [execOp, hop, hρ, Instr.extract, hlt], hVs i _ _ (by simp [hlt]) h⟩
    · cases h
  · rename_i t x k ok hop
    obtain ⟨z, hz, hv⟩ := lookup_run (P := E.P) ho (hV x (by simp [hop, Op.operands])) (hV k (by simp [hop, Op.operands])) h
    exact ⟨z, by simp [execOp, hop, hz], hv⟩
  · rename_i t ps hop
    obtain ⟨z, hz, hv⟩ := build_run (P := E.P) (G := G) (w := w) (t := t) (ps := ps.map fun p => (p.1, ρ p.2)) (qs := ps.toList.map fun p => (p.1, e p.2)) (by simp) (fun j p q hp hq => by
      simp only [Array.getElem?_map, Option.map_eq_some_iff] at hp
      obtain ⟨y, hy, rfl⟩ := hp
      simp only [List.getElem?_map, Array.getElem?_toList, hy, Option.map_some, Option.some.injEq] at hq
      subst hq
      refine ⟨rfl, hV y.2 ?_⟩
      simp only [hop, Op.operands, List.mem_toArray, List.mem_map]
      exact ⟨y, by simpa using Array.mem_of_getElem? hy, rfl⟩) h
    exact ⟨z, by simp [execOp, hop, hz], hv⟩
  · rename_i t x l h' hop
    obtain ⟨z, hz, hv⟩ := slice_run (P := E.P) (lo := l.map ρ) (hi := h'.map ρ) ho (hV x (by simp [hop, Op.operands])) (by
        cases l with
        | none => exact .inl ⟨rfl, rfl⟩
        | some l => exact .inr ⟨_, _, rfl, rfl, hV l (by simp [hop, Op.operands])⟩) (by
        cases h' with
        | none => exact .inl ⟨rfl, rfl⟩
        | some l => exact .inr ⟨_, _, rfl, rfl, hV l (by simp [hop, Op.operands])⟩) h
    exact ⟨z, by simp [execOp, hop, hz], hv⟩
  · rename_i c hop
    split at h
    · rename_i x t hc ha ht
      have hx : x ∈ c.operands := by
        unfold Call.operands
        refine Array.mem_append.2 (.inr ?_)
        rw [← Array.mem_toList_iff, ha]
        simp
      obtain ⟨z, hz, hv⟩ := lenM_run (P := E.P) (ty := o.type) ho (hV x (by simpa [hop, Op.operands] using hx)) h
      have ha' : c.args = #[x] := by rw [← Array.toArray_toList (xs := c.args), ha]
      have ht' : c.argTypes = #[t] := by rw [← Array.toArray_toList (xs := c.argTypes), ht]
      exact ⟨z, by simp [execOp, hop, resolve, hc, invoke, builtin, ha', ht', hz], hv⟩
    · rename_i x t hc ha ht
      have hx : x ∈ c.operands := by
        unfold Call.operands
        refine Array.mem_append.2 (.inr ?_)
        rw [← Array.mem_toList_iff, ha]
        simp
      obtain ⟨b, n, k, e', hxv, he, rfl⟩ := capD_spec h
      have vx := hV x (by simpa [hop, Op.operands] using hx)
      rw [hxv] at vx
      have ha' : c.args = #[x] := by rw [← Array.toArray_toList (xs := c.args), ha]
      have ht' : c.argTypes = #[t] := by rw [← Array.toArray_toList (xs := c.argTypes), ht]
      exact ⟨.int .i64 k, by simp [execOp, hop, resolve, hc, invoke, builtin, ha', ht', V.of_val vx, Builtin.cap_, run_underlying (elemS_spec he), Result.andThen]; rfl, .val _⟩
    · rename_i x y t t' hc ha ht
      obtain ⟨hx, hy⟩ : x ∈ c.operands ∧ y ∈ c.operands := by
        unfold Call.operands
        refine ⟨Array.mem_append.2 (.inr ?_), Array.mem_append.2 (.inr ?_)⟩ <;> (rw [← Array.mem_toList_iff, ha]; simp)
      obtain ⟨k, a, b, hxv, hyv, rfl⟩ := mmD_spec h
      have vx := hV x (by simpa [hop, Op.operands] using hx)
      have vy := hV y (by simpa [hop, Op.operands] using hy)
      rw [hxv] at vx
      rw [hyv] at vy
      have ha' : c.args = #[x, y] := by rw [← Array.toArray_toList (xs := c.args), ha]
      exact ⟨_, by simp [execOp, hop, resolve, hc, invoke, builtin, ha', V.of_val vx, V.of_val vy, run_max_int2, Result.andThen], .val _⟩
    · rename_i x y t t' hc ha ht
      obtain ⟨hx, hy⟩ : x ∈ c.operands ∧ y ∈ c.operands := by
        unfold Call.operands
        refine ⟨Array.mem_append.2 (.inr ?_), Array.mem_append.2 (.inr ?_)⟩ <;> (rw [← Array.mem_toList_iff, ha]; simp)
      obtain ⟨k, a, b, hxv, hyv, rfl⟩ := mmD_spec h
      have vx := hV x (by simpa [hop, Op.operands] using hx)
      have vy := hV y (by simpa [hop, Op.operands] using hy)
      rw [hxv] at vx
      rw [hyv] at vy
      have ha' : c.args = #[x, y] := by rw [← Array.toArray_toList (xs := c.args), ha]
      exact ⟨_, by simp [execOp, hop, resolve, hc, invoke, builtin, ha', V.of_val vx, V.of_val vy, run_min_int2, Result.andThen], .val _⟩
    · cases h
  · cases h

end
end Go.Ab

namespace Go.Ab
open Go Go.RowKit

section
variable {w0 : World} {G : Gh} {w : World} {κ : Kp}

def Gh.upd (G : Gh) (n : Nm) (v : Value) : Gh := { G with ρ := fun m => if m = n then some v else G.ρ m }
def Gh.add (G : Gh) (b : Nat) : Gh := { G with F := fun x => G.F x ∨ x = b }
def single (n : Nm) (o : Ob) : Kp := fun m => if n = m then some o else none

theorem get_single (n : Nm) (o : Ob) : get [(n, o)] = single n o := by
  funext m
  simp [get, single]

theorem get_append (a b : Sto) : get (a ++ b) = Kp.or (get a) (get b) := by
  funext n
  induction a with
  | nil => simp [get, Kp.or]
  | cons p r ih =>
    obtain ⟨m, o⟩ := p
    simp only [List.cons_append, get, Kp.or] at *
    split
    · simp
    · exact ih

theorem or_nil (κ : Kp) : Kp.or (get []) κ = κ := by
  funext n
  simp [Kp.or, get]

theorem Bel.of_grown (hb : Bel w0.heap.size w0 w) {w' : World} {row : Option Nat} (hg : Gr w w' row) (hr : ∀ b, row = some b → w0.heap.size ≤ b) : Bel w0.heap.size w0 w' :=
  ⟨hb.toBelow.grown hg.togrownBy hb.size hr, Nat.le_trans hb.drawn hg.drawn⟩

theorem V.upd {n : Nm} {u : Value} (hn : G.ρ n = none) {w' : World} (hh : ∀ b, G.F b → w'.heap[b]? = w.heap[b]?) {v : Value} {d : D} (h : V G w v d) : V (G.upd n u) w' v d :=
  h.mono (fun _ h => h) hh fun m v hm => by
    unfold Gh.upd
    simp only
    split
    · rename_i he; subst he; rw [hn] at hm; cases hm
    · exact hm

/-- A new object, in blocks of its own. -/
theorem new_obj (hw : WF w0 G w) (ho : Objs w0 G w κ) {n : Nm} (hn : G.ρ n = none) (hg : n.g < G.top) {w' : World} (hgr : Gr w w' none) {v : Value} {ob : Ob}
    (hb : ∀ b, blk v = some b → w.heap.size ≤ b ∧ b < w'.heap.size) (hov : OV w0 (G.upd n v) w' v ob) :
    WF w0 (G.upd n v) w' ∧ Objs w0 (G.upd n v) w' (Kp.or (single n ob) κ) ∧ Step (fun m => m = n) G w κ (G.upd n v) w' (Kp.or (single n ob) κ) := by
  have hρn : (G.upd n v).ρ n = some v := by simp [Gh.upd]
  have hρo : ∀ m, m ≠ n → (G.upd n v).ρ m = G.ρ m := fun m hm => by simp [Gh.upd, hm]
  have hκn : κ n = none := by
    cases hk : κ n with
    | none => rfl
    | some o =>
      obtain ⟨u, hu, _⟩ := ho.ob n o hk
      rw [hn] at hu; cases hu
  have hold : ∀ b, b < w.heap.size → w'.heap[b]? = w.heap[b]? := fun b hb => hgr.block b hb (by simp)
  have split : ∀ m o, Kp.or (single n ob) κ m = some o → (m = n ∧ o = ob) ∨ (m ≠ n ∧ κ m = some o) := by
    intro m o h
    unfold Kp.or single at h
    by_cases hm : n = m
    · rw [if_pos hm] at h; exact .inl ⟨hm.symm, by simpa using h.symm⟩
    · rw [if_neg hm] at h; exact .inr ⟨fun e => hm e.symm, by simpa using h⟩
  refine ⟨⟨Bel.of_grown hw.below hgr (fun b h => by cases h), hw.old, fun b hF => Nat.lt_of_lt_of_le (hw.lt b hF) hgr.size, fun m u hm => ?_⟩, ⟨fun m o hm => ?_, fun m m' o o' u u' b h1 h2 hne h3 h4 h5 h6 => ?_⟩, ?_⟩
  · by_cases he : m = n
    · subst he
      rw [hρn] at hm; cases hm
      exact ⟨hg, fun b hb' => ⟨Nat.le_trans hw.below.size (hb b hb').1, (hb b hb').2⟩⟩
    · rw [hρo m he] at hm
      obtain ⟨h1, h2⟩ := hw.nm m u hm
      exact ⟨h1, fun b hb' => ⟨(h2 b hb').1, Nat.lt_of_lt_of_le (h2 b hb').2 hgr.size⟩⟩
  · rcases split m o hm with ⟨rfl, rfl⟩ | ⟨hne, hk⟩
    · exact ⟨v, hρn, hov, fun b hb' hF => by have := hw.lt b hF; have := (hb b hb').1; omega⟩
    · obtain ⟨u, hu, hov', hF⟩ := ho.ob m o hk
      refine ⟨u, by rw [hρo m hne]; exact hu, hov'.mono (fun x d hx => hx.upd hn fun b hF => hold b (hw.lt b hF)) (fun b hb' => hold b (hov'.lt b hb')), hF⟩
  · rcases split m o h1 with ⟨rfl, rfl⟩ | ⟨hm, k1⟩ <;> rcases split m' o' h2 with ⟨rfl, rfl⟩ | ⟨hm', k2⟩
    · exact hne rfl
    · rw [hρn] at h3; cases h3
      rw [hρo m' hm'] at h4
      obtain ⟨u2, hu2, hov2, _⟩ := ho.ob m' o' k2
      rw [h4] at hu2; cases hu2
      have := hov2.lt b h6
      have := (hb b h5).1
      omega
    · rw [hρn] at h4; cases h4
      rw [hρo m hm] at h3
      obtain ⟨u2, hu2, hov2, _⟩ := ho.ob m o k1
      rw [h3] at hu2; cases hu2
      have := hov2.lt b h5
      have := (hb b h6).1
      omega
    · rw [hρo m hm] at h3
      rw [hρo m' hm'] at h4
      exact ho.ne m m' o o' u u' b k1 k2 hne h3 h4 h5 h6
  · refine ⟨hgr.size, fun b hb' _ => hold b hb', fun _ h => h, fun b h => .inl h, fun m u hm => ?_, fun m h1 h2 h3 => ?_, Nat.le_refl _, fun b ⟨m, o, u, h1, h2, h3⟩ => ?_, fun m hm => ?_, rfl⟩
    · rw [hρo m (fun e => by subst e; rw [hn] at hm; cases hm)]; exact hm
    · rw [hρo m h3]; exact h2
    · rcases split m o h1 with ⟨rfl, rfl⟩ | ⟨hne, hk⟩
      · rw [hρn] at h2; cases h2; exact .inl (hb b h3).1
      · rw [hρo m hne] at h2; exact .inr ⟨m, o, u, hk, h2, h3⟩
    · by_cases he : m = n
      · subst he; exact .inr hn
      · refine .inl ?_
        unfold Kp.or single at hm
        rw [if_neg (fun e => he e.symm)] at hm
        simpa using hm

/-- A new block that is never written again. -/
theorem new_still (hw : WF w0 G w) (ho : Objs w0 G w κ) (o : Obj) :
    WF w0 (G.add w.heap.size) (w.alloc o) ∧ Objs w0 (G.add w.heap.size) (w.alloc o) κ ∧ Step (fun _ => False) G w κ (G.add w.heap.size) (w.alloc o) κ := by
  have hold : ∀ b, b < w.heap.size → (w.alloc o).heap[b]? = w.heap[b]? := fun b hb => heap_alloc_o w o b hb
  have hsz : (w.alloc o).heap.size = w.heap.size + 1 := World.size_alloc _ _
  have hV : ∀ v d, V G w v d → V (G.add w.heap.size) (w.alloc o) v d := fun v d h => h.mono (fun b h => .inl h) (fun b hF => hold b (hw.lt b hF)) (fun _ _ h => h)
  have hlt : ∀ n o v b, κ n = some o → G.ρ n = some v → blk v = some b → b < w.heap.size := fun n o v b h1 h2 h3 => ((hw.nm n v h2).2 b h3).2
  refine ⟨⟨hw.below.more hw.below.size o, fun b hb => .inl (hw.old b hb), fun b hF => ?_, fun n v hn => ⟨(hw.nm n v hn).1, fun b hb => ⟨((hw.nm n v hn).2 b hb).1, by have := ((hw.nm n v hn).2 b hb).2; omega⟩⟩⟩,
    ⟨fun n ob hn => ?_, ho.ne⟩, ⟨by omega, fun b hb _ => hold b hb, fun b h => .inl h, fun b h => ?_, fun _ _ h => h, fun _ _ h _ => h, Nat.le_refl _, fun b h => .inr h, fun _ h => .inl h, rfl⟩⟩
  · rcases hF with h | h
    · have := hw.lt b h; omega
    · omega
  · obtain ⟨v, hv, hov, hF⟩ := ho.ob n ob hn
    refine ⟨v, hv, hov.mono hV (fun b hb => hold b (hov.lt b hb)), fun b hb h => ?_⟩
    rcases h with h | h
    · exact hF b hb h
    · have := hov.lt b hb; omega
  · rcases h with h | h
    · exact .inl h
    · exact .inr (.inl (by omega))

end

def rsv (g : Nat) (dst : Option Tmp) : Nm → Prop := fun n => n.g = g ∧ dst = some n.i

/-- An operation that leaves all that may be written as it was, but for new objects. -/
def QOp (E : Ctx) (g : Nat) (o : Oper) (e : Operand → D) (κ : Kp) (v : D) (nw : Sto) : Prop :=
  ∀ w0, E.A w0 → ∀ G w (a : Act), WF w0 G w → (∀ x ∈ o.op.operands, V G w (a.eval x) (e x)) → Objs w0 G w κ → (∀ d, o.dst = some d → g < G.top ∧ ∀ j, G.ρ ⟨g, d, j⟩ = none) →
    ∀ (K : Act → World → Prop) (Q' : Exit → Act → World → Prop),
      (∀ G' w' x, WF w0 G' w' → V G' w' x v → Objs w0 G' w' (Kp.or (get nw) κ) → Step (rsv g o.dst) G w κ G' w' (Kp.or (get nw) κ) → K (a.put o.dst x) w') → ∀ r, o.wpIn (Fr r) 0 E.P a w K Q'

theorem QOp.of_yields {E : Ctx} {g : Nat} {o : Oper} {e : Operand → D} {κ : Kp} {v : D} (h : Yields E o e κ v) : QOp E g o e κ v [] := by
  intro w0 hA G w a hw hV ho _ K Q' hK
  obtain ⟨x, hx, hv⟩ := h w0 hA G w a.eval hw hV ho
  refine op_val hx ?_
  exact hK G w x hw hv (by rw [or_nil]; exact ho) (by rw [or_nil]; exact .refl _ _ _ _)

/-! ### alloc, box, buildSlice -/

theorem box_new {E : Ctx} {g d : Nat} {o : Oper} {e : Operand → D} {κ : Kp} {t : TypeId} {cs : List D} (hd : o.dst = some d)
    (hrun : ∀ w0, E.A w0 → ∀ G w (ρ : Operand → Value), WF w0 G w → (∀ x ∈ o.op.operands, V G w (ρ x) (e x)) → ∃ c, (execOp ρ o).run E.P w = .ok (.value (.pointer (some ⟨w.heap.size, 0, none⟩))) (w.alloc (.cells c t)) ∧ Vs G w c cs) :
    QOp E g o e κ (.ptr ⟨g, d, 0⟩ 0) [(⟨g, d, 0⟩, .box t cs)] := by
  intro w0 hA G w a hw hV ho hf K Q' hK
  obtain ⟨c, hc, hs⟩ := hrun w0 hA G w a.eval hw hV
  obtain ⟨hg, hfresh⟩ := hf d hd
  refine op_val hc ?_
  have hgr : Gr w (w.alloc (.cells c t)) none := gr_alloc w _
  have hnew : (w.alloc (.cells c t)).heap[w.heap.size]? = some (.cells c t (0, 0)) := heap_alloc_n w _
  have hsz : (w.alloc (.cells c t)).heap.size = w.heap.size + 1 := World.size_alloc _ _
  obtain ⟨h1, h2, h3⟩ := new_obj hw ho (hfresh 0) hg (v := .pointer (some ⟨w.heap.size, 0, none⟩)) (ob := .box t cs) hgr (fun b hb => by simp [blk] at hb; omega)
    ⟨w.heap.size, c, rfl, hnew, hs.1, fun i x d hx hd' => (hs.2 i x d hx hd').upd (hfresh 0) (fun b hF => heap_alloc_o w _ b (hw.lt b hF))⟩
  refine hK _ _ _ h1 (.ptr (by simp [Gh.upd])) (by rw [get_single]; exact h2) ?_
  rw [get_single]
  exact h3.weaken fun n _ hn => by subst hn; exact ⟨rfl, hd⟩

def Flat (G : Gh) (w : World) (k : Nat) (rows : List D) (xs : Nat → Option Value) : Prop :=
  ∀ (i : Nat) r, rows[i]? = some r → r.cells.length = k ∧ ∀ (j : Nat) d, r.cells[j]? = some d → ∃ x, xs (i * k + j) = some x ∧ V G w x d

/-- The rows with some replaced. -/
def setRows (k : Nat) : List D → List (Nat × D) → Option (List D)
  | rows, [] => some rows
  | rows, (i, d) :: r => if i < rows.length ∧ d.cells.length = k ∧ d.cells.all D.one = true then setRows k (rows.set i d) r else none

def buildSliceD (P : Program) (t : TypeId) (n : Nat) (ps : List (Nat × D)) : Option D :=
  match elemS P t with
  | some e => match szOf P e, zeroOf P e with
    | some k, some z => if z.cells.size = k ∧ n * k ≤ 16777216 ∧ 0 < k ∧ 0 < n then (setRows k (List.replicate n (ofV z)) ps).map (.sl true) else none
    | _, _ => none
  | none => none

theorem ofV_cells (z : Value) : (ofV z).cells = z.cells.toList.map .val := by
  cases z <;> simp [ofV, D.cells, Value.cells]

theorem row_idx {k i j i' j' : Nat} (hj : j < k) (hj' : j' < k) (h : i * k + j = i' * k + j') : i = i' ∧ j = j' := by
  have h1 : (i * k + j) / k = i := by rw [Nat.mul_comm, Nat.mul_add_div (by omega), Nat.div_eq_of_lt hj]; rfl
  have h2 : (i' * k + j') / k = i' := by rw [Nat.mul_comm, Nat.mul_add_div (by omega), Nat.div_eq_of_lt hj']; rfl
  have : i = i' := by rw [← h1, ← h2, h]
  subst this
  exact ⟨rfl, by omega⟩

theorem row_le {k i n : Nat} (h : i < n) : i * k + k ≤ n * k := by
  rw [← Nat.succ_mul]
  exact Nat.mul_le_mul_right k h

theorem fillRows_run {G : Gh} {w : World} {k : Nat} : ∀ (ps : List (Nat × Value)) (qs : List (Nat × D)) (cs : Array Value) (rows rows' : List D),
    ps.length = qs.length → (∀ (j : Nat) p q, ps[j]? = some p → qs[j]? = some q → p.1 = q.1 ∧ V G w p.2 q.2) → cs.size = rows.length * k → Flat G w k rows (cs[·]?) → setRows k rows qs = some rows' →
    ∃ cs' : Array Value, Instr.fill (fun i => some (i * k, k)) cs ps = some cs' ∧ cs'.size = rows'.length * k ∧ rows'.length = rows.length ∧ Flat G w k rows' (cs'[·]?)
  | [], [], cs, rows, rows', _, _, hs, hv, h => by
    simp only [setRows, Option.some.injEq] at h
    subst h
    exact ⟨cs, rfl, hs, rfl, hv⟩
  | (i, v) :: ps, (i', d) :: qs, cs, rows, rows', hl, hp, hsz, hv, h => by
    obtain ⟨rfl, hvd⟩ : i = i' ∧ V G w v d := hp 0 _ _ rfl rfl
    simp only [setRows] at h
    split at h
    · rename_i hc
      obtain ⟨hi, rfl, h1⟩ := hc
      obtain ⟨⟨hs, hV⟩, _⟩ := hvd.cells h1
      have hrow := row_le (k := d.cells.length) hi
      have hfold : v.cells.zipIdx.foldl (fun cs (x : Value × Nat) => match x with | (c, j) => cs.setIfInBounds (i * d.cells.length + j) c) cs = (v.cells.toList.zipIdx 0).foldl (fun (cs : Array Value) (p : Value × Nat) => cs.setIfInBounds (i * d.cells.length + p.2) p.1) cs := by
        rw [← Array.foldl_toList, Array.toList_zipIdx]
      obtain ⟨f1, f2⟩ := foldl_set (i * d.cells.length) v.cells.toList 0 cs
      have hv' : Flat G w d.cells.length (rows.set i d) ((v.cells.zipIdx.foldl (fun cs (x : Value × Nat) => match x with | (c, j) => cs.setIfInBounds (i * d.cells.length + j) c) cs)[·]?) := by
        intro i2 r hr
        rw [List.getElem?_set] at hr
        split at hr
        · rename_i he
          subst he
          cases hr
          refine ⟨rfl, fun j d' hd => ?_⟩
          have hj := (List.getElem?_eq_some_iff.1 hd).1
          refine ⟨v.cells[j]'(by omega), ?_, hV j _ _ (by simp [show j < v.cells.size by omega]) hd⟩
          simp only
          rw [hfold, f2, if_pos ⟨by omega, by simp; omega, by omega⟩]
          simp [show i * d.cells.length + j - i * d.cells.length = j by omega, show j < v.cells.size by omega]
        · rename_i he
          obtain ⟨g1, g2⟩ := hv i2 r hr
          refine ⟨g1, fun j d' hd => ?_⟩
          obtain ⟨x, hx, hxv⟩ := g2 j d' hd
          refine ⟨x, ?_, hxv⟩
          have hj := (List.getElem?_eq_some_iff.1 hd).1
          simp only at hx ⊢
          rw [hfold, f2, if_neg ?_]
          · exact hx
          · rintro ⟨k1, k2, k3⟩
            simp only [Array.length_toList] at k2
            have : i2 = i := (row_idx (k := d.cells.length) (i := i2) (j := j) (i' := i) (j' := i2 * d.cells.length + j - i * d.cells.length) (by omega) (by omega) (by omega)).1
            exact he this.symm
      obtain ⟨cs', hf, h2, h3, h4⟩ := fillRows_run ps qs _ _ rows' (by simpa using hl) (fun j p q hpj hqj => hp (j + 1) p q hpj hqj) (by rw [hfold, f1, List.length_set]; exact hsz) hv' h
      refine ⟨cs', ?_, h2, by rw [h3, List.length_set], h4⟩
      simp only [Instr.fill]
      rw [if_neg (by simp; omega)]
      exact hf
    · cases h
  | [], _ :: _, _, _, _, hl, _, _, _, _ => by simp at hl
  | _ :: _, [], _, _, _, hl, _, _, _, _ => by simp at hl

theorem zeros_flat {G : Gh} {w : World} {n k : Nat} {z : Value} (hz : z.cells.size = k) :
    ((Array.range (n * k)).map (z.cells[· % z.cells.size]!)).size = (List.replicate n (ofV z)).length * k ∧ Flat G w k (List.replicate n (ofV z)) (((Array.range (n * k)).map (z.cells[· % z.cells.size]!))[·]?) := by
  refine ⟨by simp, fun i r hr => ?_⟩
  have hi : i < n := by
    have := (List.getElem?_eq_some_iff.1 hr).1
    simpa using this
  rw [List.getElem?_replicate, if_pos hi] at hr
  cases hr
  rw [ofV_cells]
  refine ⟨by simp [hz], fun j d hd => ?_⟩
  have hj : j < k := by
    have := (List.getElem?_eq_some_iff.1 hd).1
    simpa [hz] using this
  have hlt : i * k + j < n * k := by have := row_le (k := k) hi; omega
  have hmod : (i * k + j) % k = j := by rw [Nat.mul_comm, Nat.mul_add_mod]; exact Nat.mod_eq_of_lt hj
  refine ⟨z.cells[j]'(by omega), ?_, ?_⟩
  · simp only [Array.getElem?_map, Array.getElem?_range, hlt, ↓reduceIte, Option.map_some, hz, hmod]
    simp [show j < z.cells.size by omega]
  · simp only [List.getElem?_map, Array.getElem?_toList, show j < z.cells.size by omega, Array.getElem?_eq_getElem, Option.map_some, Option.some.injEq] at hd
    subst hd
    exact .val _

theorem qop_buildSlice {E : Ctx} {g : Nat} {o : Oper} {e : Operand → D} {κ : Kp} {t : TypeId} {n : Nat} {ps : Array (Nat × Operand)} (hop : o.op = .buildSlice t n ps) {v : D} (h : buildSliceD E.P t n (ps.toList.map fun p => (p.1, e p.2)) = some v) :
    QOp E g o e κ v [] := by
  unfold buildSliceD at h
  split at h
  · rename_i el he
    split at h
    · rename_i k z hk hz
      split at h
      · rename_i hc
        obtain ⟨hzc, hle, hk0, hn0⟩ := hc
        cases hr : setRows k (List.replicate n (ofV z)) (ps.toList.map fun p => (p.1, e p.2)) with
        | none => rw [hr] at h; cases h
        | some rows' =>
          rw [hr] at h
          cases h
          intro w0 hA G w a hw hV ho _ K Q' hK
          obtain ⟨z1, z2⟩ := zeros_flat (G := G) (w := w) (n := n) hzc
          obtain ⟨cs', hf, hs', hl', hfl⟩ := fillRows_run (G := G) (w := w) (k := k) (ps.toList.map fun p => (p.1, a.eval p.2)) (ps.toList.map fun p => (p.1, e p.2)) _ _ rows' (by simp) (fun j p q hp hq => by
            simp only [List.getElem?_map, Option.map_eq_some_iff] at hp hq
            obtain ⟨y, hy, rfl⟩ := hp
            obtain ⟨y', hy', rfl⟩ := hq
            rw [hy] at hy'
            cases hy'
            refine ⟨rfl, hV y.2 ?_⟩
            simp only [hop, Op.operands, List.mem_toArray, List.mem_map]
            exact ⟨y, List.mem_of_getElem? hy, rfl⟩) z1 z2 hr
          have hrun : (execOp a.eval o).run E.P w = .ok (.value (.slice (some ⟨w.heap.size, 0, none⟩) n n)) (w.alloc (.cells cs' el)) := by
            have h24 : ¬ (n * k > 2 ^ 24) := by omega
            have h0 : ¬ (n * k = 0) := by
              have := Nat.mul_pos hn0 hk0
              omega
            have hf' : Instr.fill (fun i => some (i * k, k)) (Array.map (fun x => z.cells[x % z.cells.size]!) (Array.range (n * k))) (List.map (fun p => (p.1, a.eval p.2)) ps.toList) = some cs' := hf
            simp only [execOp, hop, Sem.run_bind, Instr.buildSlice, run_underlying (elemS_spec he), Result.andThen_ok, run_sizeOf hk, h24, h0, ↓reduceIte, run_zeroValue hz, Sem.run_pure, Array.toList_map, hf', newRow, run_newObj]
            rfl
          obtain ⟨g1, g2, g3⟩ := new_still hw ho (.cells cs' el)
          refine op_val hrun ?_
          have hnew : (w.alloc (.cells cs' el)).heap[w.heap.size]? = some (.cells cs' el (0, 0)) := heap_alloc_n w _
          have hln : rows'.length = n := by simpa using hl'
          refine hK _ _ _ g1 (.sl (k := k) (fun i j => (cs'[i * k + j]?).getD undef) hln.symm (fun _ => rfl) (Nat.le_refl _) (.inr rfl) (fun i r hi => (hfl i r hi).1) (fun i r j d hi hd => ?_) (fun i r j d hi hd => ?_)) (by rw [or_nil]; exact g2) (by rw [or_nil]; exact g3.weaken fun _ _ h => h.elim)
          · obtain ⟨x, hx, _⟩ := (hfl i r hi).2 j d hd
            simp only at hx
            rw [Nat.zero_add, cell_of_row _ _ _ _ _ _ hnew, hx]
            rfl
          · obtain ⟨x, hx, hxv⟩ := (hfl i r hi).2 j d hd
            simp only at hx
            rw [hx]
            exact hxv.mono g3.F (fun b hF => heap_alloc_o w _ b (hw.lt b hF)) g3.ρ
      · cases h
    · cases h
  · cases h

/-- A new array without an element. -/
theorem arr_new {E : Ctx} {g d : Nat} {o : Oper} {e : Operand → D} {κ : Kp} {t el : TypeId} {k : Nat} (hd : o.dst = some d) (hop : o.op = .buildSlice t 0 #[]) (he : elemS E.P t = some el) (hk : szOf E.P el = some k) :
    QOp E g o e κ (.own ⟨g, d, 0⟩ 0) [(⟨g, d, 0⟩, .arr el k [])] := by
  intro w0 hA G w a hw hV ho hf K Q' hK
  have hc : (execOp a.eval o).run E.P w = .ok (.value (.slice (some ⟨w.heap.size, 0, none⟩) 0 0)) (w.alloc (.cells #[] el)) := by
    have hfi : ∀ z : Array Value, Instr.fill (fun i => some (i * k, k)) ((Array.range 0).map fun x => z[x % z.size]!) [] = some #[] := fun z => by simp [Instr.fill]
    simp only [execOp, hop, Sem.run_bind, Instr.buildSlice, run_underlying (elemS_spec he), Result.andThen_ok, run_sizeOf hk, Nat.zero_mul, Nat.not_lt_zero, gt_iff_lt, ↓reduceIte, Sem.run_pure, Array.map_empty, Array.toList_empty, hfi, newRow, run_newObj]
    rfl
  obtain ⟨hg, hfresh⟩ := hf d hd
  refine op_val hc ?_
  have hgr : Gr w (w.alloc (.cells #[] el)) none := gr_alloc w _
  have hnew : (w.alloc (.cells #[] el)).heap[w.heap.size]? = some (.cells #[] el (0, 0)) := heap_alloc_n w _
  have hsz : (w.alloc (.cells #[] el)).heap.size = w.heap.size + 1 := World.size_alloc _ _
  obtain ⟨h1, h2, h3⟩ := new_obj hw ho (hfresh 0) hg (v := .slice (some ⟨w.heap.size, 0, none⟩) 0 0) (ob := .arr el k []) hgr (fun b hb => by simp [blk] at hb; omega)
    ⟨[], ⟨by simp, .inr ⟨w.heap.size, 0, #[], rfl, hw.below.size, hnew, by simp, by simp, by simp, by simp⟩⟩, fun i r h => by simp at h⟩
  refine hK _ _ _ h1 (.own (by simp [Gh.upd])) (by rw [get_single]; exact h2) ?_
  rw [get_single]
  exact h3.weaken fun n _ hn => by subst hn; exact ⟨rfl, hd⟩

/-- A new map. -/
theorem map_new {E : Ctx} {g d : Nat} {o : Oper} {e : Operand → D} {κ : Kp} {t : TypeId} (ks : KS) (hd : o.dst = some d) (hop : o.op = .makeMap t none) :
    QOp E g o e κ (.mref ⟨g, d, 0⟩) [(⟨g, d, 0⟩, .map ks [])] := by
  intro w0 hA G w a hw hV ho hf K Q' hK
  have hc : (execOp a.eval o).run E.P w = .ok (.value (.map (some w.heap.size))) (w.alloc (.map #[] 0)) := by
    simp only [execOp, hop, Option.map_none, Sem.run_bind]
    rfl
  obtain ⟨hg, hfresh⟩ := hf d hd
  refine op_val hc ?_
  have hgr : Gr w (w.alloc (.map #[] 0)) none := gr_alloc w _
  have hnew : (w.alloc (.map #[] 0)).heap[w.heap.size]? = some (.map #[] 0) := heap_alloc_n w _
  have hsz : (w.alloc (.map #[] 0)).heap.size = w.heap.size + 1 := World.size_alloc _ _
  obtain ⟨h1, h2, h3⟩ := new_obj hw ho (hfresh 0) hg (v := .map (some w.heap.size)) (ob := .map ks []) hgr (fun b hb => by simp [blk] at hb; omega)
    ⟨w.heap.size, #[], 0, rfl, hnew, ⟨by simp, fun m hm => by simp at hm⟩, rfl, fun i m hm => by simp at hm, fun i m e' hm => by simp at hm, fun i m e' hm => by simp at hm⟩
  refine hK _ _ _ h1 (.mref (by simp [Gh.upd])) (by rw [get_single]; exact h2) ?_
  rw [get_single]
  exact h3.weaken fun n _ hn => by subst hn; exact ⟨rfl, hd⟩

noncomputable def dop (P : Program) (g : Nat) (o : Oper) (e : Operand → D) (κ : Kp) : Option (D × Sto) :=
  match o.op with
  | .alloc t => match o.dst, zeroOf P t with
    | some d, some z => some (.ptr ⟨g, d, 0⟩ 0, [(⟨g, d, 0⟩, .box t (z.cells.toList.map .val))])
    | _, _ => none
  | .box t x => match o.dst with
    | some d => if (e x).cells.all D.one = true then some (.ptr ⟨g, d, 0⟩ 0, [(⟨g, d, 0⟩, .box t (e x).cells)]) else none
    | none => none
  | .makeMap t r => match o.dst, r, (mapT P t).bind fun k => KS.of P k.1 with
    | some d, none, some ks => some (.mref ⟨g, d, 0⟩, [(⟨g, d, 0⟩, .map ks [])])
    | _, _, _ => none
  | .buildSlice t n ps => if n = 0 ∧ ps = #[] then (match o.dst, elemS P t with
      | some d, some el => (szOf P el).map fun k => (.own ⟨g, d, 0⟩ 0, [(⟨g, d, 0⟩, .arr el k [])])
      | _, _ => none)
    else (buildSliceD P t n (ps.toList.map fun p => (p.1, e p.2))).map fun v => (v, [])
  | _ => (dopR P o e κ).map fun v => (v, [])

theorem dop_sound {E : Ctx} {g : Nat} {o : Oper} {e : Operand → D} {κ : Kp} {v : D} {nw : Sto} (h : dop E.P g o e κ = some (v, nw)) : QOp E g o e κ v nw := by
  unfold dop at h
  split at h
  · rename_i t hop
    split at h
    · rename_i d z hd hz
      cases h
      refine box_new hd fun w0 hA G w ρ hw hV => ⟨z.cells, ?_, Vs.vals _⟩
      simp only [execOp, hop, Sem.run_bind, Instr.alloc, run_zeroValue hz, Result.andThen_ok, newVar, newRow, run_newObj, Sem.run_pure]
      rfl
    · cases h
  · rename_i t x hop
    split at h
    · rename_i d hd
      split at h
      · rename_i h1
        cases h
        refine box_new hd fun w0 hA G w ρ hw hV => ⟨(ρ x).cells, ?_, ((hV x (by simp [hop, Op.operands])).cells h1).1⟩
        simp only [execOp, hop, Sem.run_bind, Instr.box, Result.andThen_ok, newVar, newRow, run_newObj, Sem.run_pure]
        rfl
      · cases h
    · cases h
  · rename_i t r hop
    split at h
    · rename_i d ks hd _
      cases h
      exact map_new ks hd hop
    · cases h
  · rename_i t n ps hop
    split at h
    · rename_i hn
      obtain ⟨rfl, rfl⟩ := hn
      split at h
      · rename_i d el hd hel
        obtain ⟨k, hk, he⟩ := Option.map_eq_some_iff.1 h
        cases he
        exact arr_new hd hop hel hk
      · cases h
    · simp only [Option.map_eq_some_iff] at h
      obtain ⟨v', hv, he⟩ := h
      cases he
      exact qop_buildSlice hop hv
  · simp only [Option.map_eq_some_iff] at h
    obtain ⟨v', hv, he⟩ := h
    cases he
    exact .of_yields (dopR_sound hv)

end Go.Ab

namespace Go.Ab
open Go Go.RowKit

def set : Sto → Nm → Ob → Sto
  | [], _, _ => []
  | (m, x) :: r, n, o => if m = n then (n, o) :: r else (m, x) :: set r n o

def del : Sto → Nm → Sto
  | [], _ => []
  | (m, x) :: r, n => if m = n then del r n else (m, x) :: del r n

theorem get_set (σ : Sto) (n : Nm) (o : Ob) (h : get σ n ≠ none) (m : Nm) : get (set σ n o) m = if n = m then some o else get σ m := by
  induction σ with
  | nil => exact absurd rfl h
  | cons p r ih =>
    obtain ⟨k, x⟩ := p
    simp only [set]
    by_cases hk : k = n
    · subst hk
      rw [if_pos rfl]
      simp only [get]
      split <;> simp_all
    · rw [if_neg hk]
      simp only [get, if_neg hk] at h
      simp only [get, ih h]
      by_cases hm : k = m
      · subst hm
        rw [if_pos rfl, if_neg (fun e => hk e.symm), if_pos rfl]
      · rw [if_neg hm, if_neg hm]

theorem get_del (σ : Sto) (n m : Nm) : get (del σ n) m = if n = m then none else get σ m := by
  induction σ with
  | nil => simp [get, del]
  | cons p r ih =>
    obtain ⟨k, x⟩ := p
    simp only [del]
    by_cases hk : k = n
    · subst hk
      rw [if_pos rfl, ih]
      simp only [get]
      split <;> simp_all
    · rw [if_neg hk]
      simp only [get, ih]
      by_cases hm : k = m
      · subst hm
        rw [if_pos rfl, if_neg (fun e => hk e.symm), if_pos rfl]
      · rw [if_neg hm, if_neg hm]

def St.put (st : St) (dst : Option Tmp) (v : D) (nw : Sto) : St :=
  match dst with
  | some d => { env := (d, v) :: st.env, σ := nw ++ st.σ }
  | none => { st with σ := nw ++ st.σ }

/-- Is the operation carried out? -/
def wantD (ops : List Oper) (env : List (Nat × D)) (o : Oper) : Option Bool :=
  match o.guard with
  | none => some true
  | some (j, b) => match (ops[j]?).bind (·.dst) with
    | some t => match lk env t with
      | some (.val (.bool c)) => some (c == b)
      | some (.val (.tuple _)) => some false
      | _ => none
    | none => some false

theorem wantD_sound {w0 : World} {G : Gh} {w : World} {a : Act} {st : St} (hr : Rel w0 G w a st) {ops : List Oper} {o : Oper} {b : Bool} (h : wantD ops st.env o = some b) : Region.wanted o (yielded ops.toArray a.tmps) = b := by
  unfold wantD at h
  unfold Region.wanted
  split at h
  · rename_i hg; cases h; simp [hg]
  · rename_i j want hg
    simp only [hg]
    unfold yielded
    simp only [List.getElem?_toArray]
    split at h
    · rename_i t ht
      simp only [ht, Option.bind_some]
      split at h
      · rename_i c hl
        cases h
        obtain ⟨hlt, hv⟩ := hr.env t _ hl
        have := V.of_val hv
        simp only [Array.getD_eq_getD_getElem?, hlt, getElem?_pos, Option.getD_some] at this
        simp only [hlt, getElem?_pos, this]
        cases c <;> cases want <;> rfl
      · rename_i vs hl
        cases h
        obtain ⟨hlt, hv⟩ := hr.env t _ hl
        have := V.of_val hv
        simp only [Array.getD_eq_getD_getElem?, hlt, getElem?_pos, Option.getD_some] at this
        simp only [hlt, getElem?_pos, this]
        cases want <;> rfl
      · cases h
    · rename_i ht
      cases h
      simp only [ht, Option.bind_none]
      cases want <;> rfl

/-- What is left of a region. -/
def AOps (E : Ctx) (N : Nat) (ops : List Oper) (g : Nat) (Q : St → Prop) (rest : List Oper) (st : St) : Prop :=
  ∀ w0, E.A w0 → ∀ G w a, a.tmps.size = N → Rel w0 G w a st → g < G.top → (rest.filterMap (·.dst)).Nodup → (∀ o ∈ rest, ∀ d, o.dst = some d → d < N ∧ ∀ j, G.ρ ⟨g, d, j⟩ = none) →
    ∀ (Q' : Exit → Act → World → Prop), (∀ G' st' a' w', a'.tmps.size = N → Rel w0 G' w' a' st' → Step (fun n => n.g = g) G w (get st.σ) G' w' (get st'.σ) → Q st' → Q' .normal a' w') →
      ∀ r, wpListIn (Fr r) 0 E.P ops.toArray Q' rest a w

section
variable {E : Ctx} {N : Nat} {ops : List Oper} {g : Nat} {Q : St → Prop} {st : St} {o : Oper} {rest : List Oper}

theorem aops_nil (h : Q st) : AOps E N ops g Q [] st :=
  fun _ _ G w a hN hr _ _ _ _ hQ _ => hQ G st a w hN hr (.refl _ _ _ _) h

theorem Rel.put {w0 : World} {G G' : Gh} {w w' : World} {a : Act} {nw : Sto} {dst : Option Tmp} {x : Value} {v : D} {R : Nm → Prop} {κ' : Kp} (hr : Rel w0 G w a st) (hs : Step R G w (get st.σ) G' w' κ') (hκ : κ' = get (nw ++ st.σ))
    (hw : WF w0 G' w') (ho : Objs w0 G' w' κ') (hv : V G' w' x v) (hd : ∀ d, dst = some d → d < a.tmps.size) : Rel w0 G' w' (a.put dst x) (st.put dst v nw) := by
  subst hκ
  cases dst with
  | none => exact ⟨hw, fun t d ht => let ⟨h1, h2⟩ := hr.env t d ht; ⟨h1, h2.step hs hr.wf hr.objs⟩, ho, hr.defers.step hs hr.wf hr.objs⟩
  | some d =>
    refine ⟨hw, fun t d' ht => ?_, ho, hr.defers.step hs hr.wf hr.objs⟩
    have hlt := hd d rfl
    simp only [St.put, lk] at ht
    simp only [Act.put, Array.size_setIfInBounds, Array.getD_eq_getD_getElem?, Array.getElem?_setIfInBounds]
    split at ht
    · rename_i he
      subst he
      cases ht
      refine ⟨hlt, ?_⟩
      rw [if_pos rfl, if_pos hlt]
      exact hv
    · rename_i he
      obtain ⟨h1, h2⟩ := hr.env t d' ht
      refine ⟨h1, ?_⟩
      rw [if_neg he]
      rw [Array.getD_eq_getD_getElem?] at h2
      exact h2.step hs hr.wf hr.objs

theorem put_size {a : Act} {dst : Option Tmp} {x : Value} : (a.put dst x).tmps.size = a.tmps.size := by
  cases dst <;> simp [Act.put]

theorem Step.fresh {R : Nm → Prop} {G G' : Gh} {w w' : World} {κ κ' : Kp} (hs : Step R G w κ G' w' κ') {n : Nm} (hg : n.g < G.top) (hn : G.ρ n = none) (hR : ¬ R n) : G'.ρ n = none := hs.ρ' n hg hn hR

theorem aops_q {v : D} {nw : Sto} (hw : wantD ops st.env o = some true) (hq : QOp E g o (ev E st.env) (get st.σ) v nw) (h : AOps E N ops g Q rest (st.put o.dst v nw)) : AOps E N ops g Q (o :: rest) st := by
  intro w0 hA G w a hN hr hg hnd hfr Q' hQ r
  simp only [wpListIn]
  rw [if_pos (wantD_sound hr hw)]
  refine hq w0 hA G w a hr.wf (fun x _ => hr.ev hA x) hr.objs (fun d hd => ⟨hg, (hfr o (by simp) d hd).2⟩) _ _ (fun G' w' x hw' hv ho hs => ?_) r
  have hκ : Kp.or (get nw) (get st.σ) = get (nw ++ st.σ) := (get_append _ _).symm
  have hr' := hr.put hs hκ hw' ho hv (fun d hd => by rw [hN]; exact (hfr o List.mem_cons_self d hd).1)
  have hσ : (st.put o.dst v nw).σ = nw ++ st.σ := by cases o.dst <;> rfl
  have hnd' : (rest.filterMap (·.dst)).Nodup ∧ ∀ d, o.dst = some d → d ∉ rest.filterMap (·.dst) := by
    cases hd : o.dst with
    | none => simp only [List.filterMap_cons, hd] at hnd; exact ⟨hnd, fun d h => by cases h⟩
    | some d => simp only [List.filterMap_cons, hd, List.nodup_cons] at hnd; exact ⟨hnd.2, fun d' h => by cases h; exact hnd.1⟩
  refine h w0 hA G' w' _ (by rw [put_size, hN]) hr' (Nat.lt_of_lt_of_le hg hs.top) hnd'.1 (fun o' ho' d hd => ⟨(hfr o' (by simp [ho']) d hd).1, fun j => hs.fresh (by exact hg) ((hfr o' (by simp [ho']) d hd).2 j) fun ⟨_, he⟩ => ?_⟩) Q' (fun G2 st2 a2 w2 h1 h2 h3 h4 => hQ G2 st2 a2 w2 h1 h2 ?_ h4) r
  · exact hnd'.2 d he (List.mem_filterMap.2 ⟨o', ho', hd⟩)
  · rw [hσ, ← hκ] at h3
    exact (hs.weaken fun n _ hn => hn.1).trans h3

theorem aops_skip (hw : wantD ops st.env o = some false) (h : AOps E N ops g Q rest (st.put o.dst (.val undef) [])) : AOps E N ops g Q (o :: rest) st := by
  intro w0 hA G w a hN hr hg hnd hfr Q' hQ r
  simp only [wpListIn]
  rw [wantD_sound hr hw, if_neg (by simp)]
  refine ⟨fun f _ => fr_fn r f, ?_⟩
  have hr' := hr.put (nw := []) (x := undef) (v := .val undef) (dst := o.dst) (.refl no G w (get st.σ)) rfl hr.wf hr.objs (.val _) (fun d hd => by rw [hN]; exact (hfr o List.mem_cons_self d hd).1)
  have hσ : (st.put o.dst (.val undef) []).σ = st.σ := by cases o.dst <;> rfl
  have hnd' : (rest.filterMap (·.dst)).Nodup := by
    cases hd : o.dst with
    | none => simpa only [List.filterMap_cons, hd] using hnd
    | some d => simp only [List.filterMap_cons, hd, List.nodup_cons] at hnd; exact hnd.2
  refine h w0 hA G w _ (by rw [put_size, hN]) hr' hg hnd' (fun o' ho' => hfr o' (by simp [ho'])) Q' (fun G2 st2 a2 w2 h1 h2 h3 h4 => hQ G2 st2 a2 w2 h1 h2 ?_ h4) r
  rw [hσ] at h3
  exact h3

/-- An operation that turns objects: 'κs' becomes 'κs''; all else stays. -/
def TOp (E : Ctx) (g : Nat) (o : Oper) (e : Operand → D) (κ : Kp) (v : D) (κ' : Kp) : Prop :=
  ∀ w0, E.A w0 → ∀ G w (a : Act), WF w0 G w → (∀ x ∈ o.op.operands, V G w (a.eval x) (e x)) → Objs w0 G w κ → (∀ d, o.dst = some d → g < G.top ∧ ∀ j, G.ρ ⟨g, d, j⟩ = none) →
    ∀ (K : Act → World → Prop) (Q' : Exit → Act → World → Prop),
      (∀ G' w' x, WF w0 G' w' → V G' w' x v → Objs w0 G' w' κ' → Step (rsv g o.dst) G w κ G' w' κ' → K (a.put o.dst x) w') → ∀ r, o.wpIn (Fr r) 0 E.P a w K Q'

def St.env' (st : St) (dst : Option Tmp) (v : D) (σ : Sto) : St :=
  match dst with
  | some d => { env := (d, v) :: st.env, σ := σ }
  | none => { env := st.env, σ := σ }

theorem Rel.put' {w0 : World} {G G' : Gh} {w w' : World} {a : Act} {σ : Sto} {dst : Option Tmp} {x : Value} {v : D} {R : Nm → Prop} {κ' : Kp} (hr : Rel w0 G w a st) (hs : Step R G w (get st.σ) G' w' κ') (hκ : κ' = get σ)
    (hw : WF w0 G' w') (ho : Objs w0 G' w' κ') (hv : V G' w' x v) (hd : ∀ d, dst = some d → d < a.tmps.size) : Rel w0 G' w' (a.put dst x) (st.env' dst v σ) := by
  subst hκ
  cases dst with
  | none => exact ⟨hw, fun t d ht => let ⟨h1, h2⟩ := hr.env t d ht; ⟨h1, h2.step hs hr.wf hr.objs⟩, ho, hr.defers.step hs hr.wf hr.objs⟩
  | some d =>
    refine ⟨hw, fun t d' ht => ?_, ho, hr.defers.step hs hr.wf hr.objs⟩
    have hlt := hd d rfl
    simp only [St.env', lk] at ht
    simp only [Act.put, Array.size_setIfInBounds, Array.getD_eq_getD_getElem?, Array.getElem?_setIfInBounds]
    split at ht
    · rename_i he
      subst he
      cases ht
      refine ⟨hlt, ?_⟩
      rw [if_pos rfl, if_pos hlt]
      exact hv
    · rename_i he
      obtain ⟨h1, h2⟩ := hr.env t d' ht
      refine ⟨h1, ?_⟩
      rw [if_neg he]
      rw [Array.getD_eq_getD_getElem?] at h2
      exact h2.step hs hr.wf hr.objs

theorem aops_t {v : D} {σ : Sto} (hw : wantD ops st.env o = some true) (hq : TOp E g o (ev E st.env) (get st.σ) v (get σ)) (h : AOps E N ops g Q rest (st.env' o.dst v σ)) : AOps E N ops g Q (o :: rest) st := by
  intro w0 hA G w a hN hr hg hnd hfr Q' hQ r
  simp only [wpListIn]
  rw [if_pos (wantD_sound hr hw)]
  refine hq w0 hA G w a hr.wf (fun x _ => hr.ev hA x) hr.objs (fun d hd => ⟨hg, (hfr o (by simp) d hd).2⟩) _ _ (fun G' w' x hw' hv ho hs => ?_) r
  have hr' := hr.put' (v := v) (dst := o.dst) hs rfl hw' ho hv (fun d hd => by rw [hN]; exact (hfr o List.mem_cons_self d hd).1)
  have hσ : (st.env' o.dst v σ).σ = σ := by cases o.dst <;> rfl
  have hnd' : (rest.filterMap (·.dst)).Nodup ∧ ∀ d, o.dst = some d → d ∉ rest.filterMap (·.dst) := by
    cases hd : o.dst with
    | none => simp only [List.filterMap_cons, hd] at hnd; exact ⟨hnd, fun d h => by cases h⟩
    | some d => simp only [List.filterMap_cons, hd, List.nodup_cons] at hnd; exact ⟨hnd.2, fun d' h => by cases h; exact hnd.1⟩
  refine h w0 hA G' w' _ (by rw [put_size, hN]) hr' (Nat.lt_of_lt_of_le hg hs.top) hnd'.1 (fun o' ho' d hd => ⟨(hfr o' (by simp [ho']) d hd).1, fun j => hs.fresh (by exact hg) ((hfr o' (by simp [ho']) d hd).2 j) fun ⟨_, he⟩ => ?_⟩) Q' (fun G2 st2 a2 w2 h1 h2 h3 h4 => hQ G2 st2 a2 w2 h1 h2 ?_ h4) r
  · exact hnd'.2 d he (List.mem_filterMap.2 ⟨o', ho', hd⟩)
  · rw [hσ] at h3
    exact (hs.weaken fun n _ hn => hn.1).trans h3

end
end Go.Ab
