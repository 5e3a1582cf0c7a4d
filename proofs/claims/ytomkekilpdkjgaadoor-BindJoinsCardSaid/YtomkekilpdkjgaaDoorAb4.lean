/- A part of the proof, under no conditions of its own: Ab4. -/
import Derived.Test.YtomkekilpdkjgaaDoorAb3
/-
  The reading operations do what the abstract ones say.
-/
namespace Go.Ab
open Go Go.RowKit

section
variable {P : Program} {G : Gh} {w : World}

theorem run_isAgg {t : TypeId} {b : Bool} (h : aggOf P t = some b) : (isAgg t).run P w = .ok b w := by
  unfold aggOf at h
  cases hu : P.underlying t with
  | none => rw [hu] at h; cases h
  | some d =>
    rw [hu] at h
    simp only [Option.map_some, Option.some.injEq] at h
    subst h
    cases d <;> simp [isAgg, run_underlying hu, descAgg]

theorem run_sizeOf {t : TypeId} {k : Nat} (h : szOf P t = some k) : (sizeOf t).run P w = .ok k w := by
  unfold szOf at h
  cases hi : P.info? t with
  | none => rw [hi] at h; cases h
  | some i =>
    rw [hi] at h
    simp only [Option.map_some, Option.some.injEq] at h
    subst h
    simp [sizeOf, typeInfo, hi]

theorem run_zeroValue {t : TypeId} {z : Value} (h : zeroOf P t = some z) : (zeroValue t).run P w = .ok z w := by
  unfold zeroOf at h
  cases hi : P.info? t with
  | none => rw [hi] at h; cases h
  | some i =>
    rw [hi] at h
    simp only [Option.bind_some] at h
    simp [zeroValue, typeInfo, hi, h]

theorem cut_run {b off : Nat} {cs : List D} {X : Nat → Value} (hc : ∀ (j : Nat) d, cs[j]? = some d → w.cell? ⟨b, off + j, none⟩ = some (X j))
    (hV : ∀ (j : Nat) d, cs[j]? = some d → V G w (X j) d) {t : TypeId} {v : D} (h : cut P t cs = some v) :
    ∃ x, (loadVar t ⟨b, off, none⟩).run P w = .ok x w ∧ V G w x v := by
  unfold cut at h
  split at h
  · rename_i ha
    split at h
    · rename_i k hk
      split at h
      · rename_i hle
        cases h
        have hl := run_loadCells (P := P) w ⟨b, off, none⟩ k X (fun j hj => by
          rw [Addr.add_lit]
          exact hc j _ (List.getElem?_eq_getElem (by omega)))
        refine ⟨.agg ((List.range k).map X).toArray, ?_, .agg (by simp; omega) fun i c d hc' hd => ?_⟩
        · simp [loadVar, run_isAgg ha, run_sizeOf hk, hl]
        · simp only [List.getElem?_toArray, List.getElem?_map] at hc'
          rw [List.getElem?_take] at hd
          split at hd
          · rename_i hik
            rw [List.getElem?_range hik] at hc'
            simp only [Option.map_some, Option.some.injEq] at hc'
            subst hc'
            exact hV i d hd
          · cases hd
      · cases h
    · cases h
  · rename_i ha
    cases cs with
    | nil => simp at h
    | cons d r =>
      simp only [List.head?_cons, Option.some.injEq] at h
      subst h
      have h0 := hc 0 d rfl
      simp only [Nat.add_zero] at h0
      exact ⟨X 0, by simp [loadVar, run_isAgg ha, h0], hV 0 d rfl⟩
  · cases h

/-- Out of an object, from a cell on. -/
theorem box_cells {w0 : World} {κ : Kp} (ho : Objs w0 G w κ) {n : Nm} {t : TypeId} {cs : List D} (h : κ n = some (.box t cs)) {b off : Nat} (hv : V G w (.pointer (some ⟨b, off, none⟩)) (.ptr n off)) :
    ∃ X : Nat → Value, (∀ (j : Nat) d, (cs.drop off)[j]? = some d → w.cell? ⟨b, off + j, none⟩ = some (X j)) ∧ (∀ (j : Nat) d, (cs.drop off)[j]? = some d → V G w (X j) d) := by
  obtain ⟨v, hρ, ⟨b', c, rfl, hh, hsz, hcs⟩, _⟩ := ho.ob n _ h
  cases hv with
  | ptr hρ' =>
    rw [hρ] at hρ'
    cases hρ'
    refine ⟨fun j => c.getD (off + j) undef, fun j d hd => ?_, fun j d hd => ?_⟩
    · rw [List.getElem?_drop] at hd
      have hlt : off + j < c.size := by
        have := (List.getElem?_eq_some_iff.1 hd).1
        omega
      rw [cell_of_row w b (off + j) c t (0, 0) hh]
      simp [hlt]
    · rw [List.getElem?_drop] at hd
      have hlt : off + j < c.size := by
        have := (List.getElem?_eq_some_iff.1 hd).1
        omega
      have := hcs (off + j) c[off + j] d (by simp [hlt]) hd
      simpa [hlt] using this

theorem arr_shape {w0 : World} {κ : Kp} (ho : Objs w0 G w κ) {n : Nm} {t : TypeId} {k : Nat} {rows : List D} (h : κ n = some (.arr t k rows)) :
    ∃ v xs, G.ρ n = some v ∧ w.ownsRow w0.heap.size t k v rows.length xs ∧ ∀ (i : Nat) r, rows[i]? = some r → r.cells.length = k ∧ ∀ (j : Nat) d, r.cells[j]? = some d → ∃ x, xs[i * k + j]? = some x ∧ V G w x d := by
  obtain ⟨v, hρ, ⟨xs, h1, h2⟩, _⟩ := ho.ob n _ h
  exact ⟨v, xs, hρ, h1, h2⟩

theorem arr_cells {w0 : World} {κ : Kp} (ho : Objs w0 G w κ) {n : Nm} {t : TypeId} {k i j : Nat} {rows : List D} {r : D} (h : κ n = some (.arr t k rows)) (hr : rows[i]? = some r) {b off : Nat}
    (hv : V G w (.pointer (some ⟨b, off, none⟩)) (.aptr n k i j)) :
    off = i * k + j ∧ ∃ X : Nat → Value, (∀ (l : Nat) d, (r.cells.drop j)[l]? = some d → w.cell? ⟨b, off + l, none⟩ = some (X l)) ∧ (∀ (l : Nat) d, (r.cells.drop j)[l]? = some d → V G w (X l) d) := by
  obtain ⟨v, xs, hρ, hown, hx⟩ := arr_shape ho h
  cases hv with
  | aptr hρ' =>
    rw [hρ] at hρ'
    cases hρ'
    refine ⟨rfl, fun l => xs.getD (i * k + (j + l)) undef, fun l d hd => ?_, fun l d hd => ?_⟩
    · rw [List.getElem?_drop] at hd
      obtain ⟨x, hx1, _⟩ := (hx i r hr).2 (j + l) d hd
      have := hown.cells (g := b) rfl (i * k + (j + l)) x hx1
      rw [Addr.add_lit, Nat.zero_add] at this
      rw [Nat.add_assoc, this]
      simp [hx1]
    · rw [List.getElem?_drop] at hd
      obtain ⟨x, hx1, hx2⟩ := (hx i r hr).2 (j + l) d hd
      simpa [hx1] using hx2

theorem load_run {w0 : World} {κ : Kp} (ho : Objs w0 G w κ) {t : TypeId} {x : Value} {d v : D} (hx : V G w x d) (h : loadD P κ t d = some v) : ∃ y, (Instr.loadAt t x).run P w = .ok y w ∧ V G w y v := by
  cases hx with
  | ptr hρ =>
    rename_i n b off
    simp only [loadD] at h
    split at h
    · rename_i cs hk
      obtain ⟨X, h1, h2⟩ := box_cells ho hk (V.ptr (off := off) hρ)
      obtain ⟨y, hy, hv⟩ := cut_run h1 h2 h
      exact ⟨y, by simp [Instr.loadAt, Instr.sureAddr, hy], hv⟩
    · cases h
  | aptr hρ =>
    rename_i n b len cap k i j
    simp only [loadD] at h
    split at h
    · rename_i t' k' rows hk
      split at h
      · rename_i hkk
        subst hkk
        cases hr : rows[i]? with
        | none => rw [hr] at h; cases h
        | some r =>
          rw [hr] at h
          obtain ⟨_, X, h1, h2⟩ := arr_cells ho hk hr (V.aptr (i := i) (j := j) hρ)
          obtain ⟨y, hy, hv⟩ := cut_run h1 h2 h
          exact ⟨y, by simp [Instr.loadAt, Instr.sureAddr, hy], hv⟩
      · cases h
    · cases h
  | eptr X h0 h1 h2 =>
    obtain ⟨y, hy, hv⟩ := cut_run h1 h2 h
    exact ⟨y, by simp [Instr.loadAt, Instr.sureAddr, hy], hv⟩
  | _ => simp [loadD] at h

theorem fld_spec {t : TypeId} {f o : Nat} {ft : TypeId} (h : fldOf P t f = some (o, ft)) : ∃ fs fd, P.underlying t = some (.struct fs) ∧ fs[f]? = some fd ∧ fd.offset = o ∧ fd.type = ft := by
  unfold fldOf at h
  split at h
  · rename_i fs hu
    cases hf : fs[f]? with
    | none => rw [hf] at h; cases h
    | some fd =>
      rw [hf] at h
      simp only [Option.map_some, Option.some.injEq, Prod.mk.injEq] at h
      exact ⟨fs, fd, hu, hf, h.1, h.2⟩
  · cases h

theorem fieldAddr_run {t : TypeId} {f : Nat} {x : Value} {d v : D} (hx : V G w x d) (h : fieldAddrD P t d f = some v) : ∃ y, (Instr.fieldAt t x f).run P w = .ok y w ∧ V G w y v := by
  unfold fieldAddrD at h
  split at h
  · rename_i o ft hf
    split at h
    · rename_i k hk
      obtain ⟨fs, fd, hu, hfs, rfl, rfl⟩ := fld_spec hf
      have run : ∀ (b off : Nat), (Instr.fieldAt t (.pointer (some ⟨b, off, none⟩)) f).run P w = .ok (.pointer (some ⟨b, off + fd.offset, none⟩)) w := fun b off => by
        simp [Instr.fieldAt, run_underlying hu, hfs, Instr.sureAddr, fieldPlace, run_sizeOf hk, Addr.add_lit]
      cases hx with
      | ptr hρ => cases h; exact ⟨_, run _ _, .ptr hρ⟩
      | aptr hρ =>
        cases h
        refine ⟨_, run _ _, ?_⟩
        rw [Nat.add_assoc]
        exact .aptr hρ
      | eptr X h0 h1 h2 =>
        cases h
        refine ⟨_, run _ _, .eptr (fun j => X (fd.offset + j)) h0 (fun j d hd => ?_) (fun j d hd => ?_)⟩
        · rw [List.getElem?_drop] at hd
          rw [Nat.add_assoc]
          exact h1 _ d hd
        · rw [List.getElem?_drop] at hd
          exact h2 _ d hd
      | _ => cases h
    · cases h
  · cases h

theorem part_run {cs : Array Value} {ds : List D} (hs : cs.size = ds.length) (hV : ∀ (i : Nat) c d, cs[i]? = some c → ds[i]? = some d → V G w c d) {o : Nat} {t : TypeId} {v : D} (h : cut P t (ds.drop o) = some v) :
    ∃ y, (part t cs o).run P w = .ok y w ∧ V G w y v := by
  unfold cut at h
  split at h
  · rename_i ha
    split at h
    · rename_i k hk
      split at h
      · rename_i hle
        cases h
        simp only [List.length_drop] at hle
        refine ⟨.agg (cs.extract o (o + k)), by simp [part, run_isAgg ha, run_sizeOf hk], .agg (by simp; omega) fun i c d hc hd => ?_⟩
        rw [List.getElem?_take] at hd
        split at hd
        · rw [List.getElem?_drop] at hd
          rw [Array.getElem?_extract] at hc
          split at hc
          · exact hV _ _ _ hc hd
          · cases hc
        · cases hd
      · cases h
    · cases h
  · rename_i ha
    rw [List.head?_drop] at h
    have hlt : o < cs.size := by
      have := (List.getElem?_eq_some_iff.1 h).1
      omega
    refine ⟨cs[o], by simp [part, run_isAgg ha, hlt], hV o _ _ (by simp [hlt]) h⟩
  · cases h

theorem field_run {t : TypeId} {f : Nat} {x : Value} {d v : D} (hx : V G w x d) (h : fieldD P t d f = some v) : ∃ y, (Instr.field t x f).run P w = .ok y w ∧ V G w y v := by
  unfold fieldD at h
  split at h
  · rename_i o ft hf
    obtain ⟨fs, fd, hu, hfs, rfl, rfl⟩ := fld_spec hf
    cases hx with
    | agg hs hV =>
      obtain ⟨y, hy, hv⟩ := part_run (P := P) hs hV h
      exact ⟨y, by simp [Instr.field, run_underlying hu, hfs, asAgg, hy], hv⟩
    | _ => cases h
  · cases h

theorem elemS_spec {t e : TypeId} (h : elemS P t = some e) : P.underlying t = some (.slice e) := by
  unfold elemS at h
  split at h
  · rename_i hu; cases h; exact hu
  · cases h

theorem elemA_spec {t e : TypeId} {n : Nat} (h : elemA P t = some (n, e)) : P.underlying t = some (.array n e) := by
  unfold elemA at h
  split at h
  · rename_i hu; cases h; exact hu
  · cases h

theorem indexAddr_run {w0 : World} {κ : Kp} (ho : Objs w0 G w κ) {t : TypeId} {x y : Value} {d i v : D} (hx : V G w x d) (hy : V G w y i) (h : indexAddrD P κ t d i = some v) :
    ∃ z, (Instr.indexAt t x y).run P w = .ok z w ∧ V G w z v := by
  unfold indexAddrD at h
  split at h
  · rename_i k n
    have := V.of_val hy
    subst this
    split at h
    · rename_i e he
      have hu := elemS_spec he
      split at h
      · rename_i xf rows
        cases hr : at? rows n with
        | none => rw [hr] at h; cases h
        | some r =>
          rw [hr] at h
          simp only [Option.bind_some] at h
          split at h
          · rename_i hsz
            cases h
            unfold at? at hr
            split at hr
            · rename_i h0
              have hlt := (List.getElem?_eq_some_iff.1 hr).1
              cases hx with
              | nilsl => simp at hr
              | esl => simp at hr
              | sl X hn h2 h3 hF hk hc hV =>
                rename_i b off m cap k'
                have hkk := hk _ _ hr
                rw [hkk] at hsz
                refine ⟨.pointer (some ⟨b, off + n.toNat * k', none⟩), ?_, .eptr (X n.toNat) hF (fun j d hd => ?_) (fun j d hd => hV _ _ _ _ hr hd)⟩
                · have : 0 ≤ n ∧ n < m := by omega
                  simp [Instr.indexAt, asIntOf, run_underlying hu, run_sizeOf hsz, this, Addr.add_lit]
                · rw [Nat.add_assoc]; exact hc _ _ _ _ hr hd
            · cases hr
          · cases h
      · rename_i nm len
        split at h
        · rename_i t' k' rows hκ
          split at h
          · rename_i hc
            cases h
            obtain ⟨hsz, h0, hlt⟩ := hc
            obtain ⟨u, xs, hρ, hown, _⟩ := arr_shape ho hκ
            cases hx with
            | own hρ' =>
              rw [hρ'] at hρ
              cases hρ
              rcases hown.2 with ⟨hnil, hz⟩ | ⟨g, cap, cur, hv, _⟩
              · omega
              · cases hv
                refine ⟨.pointer (some ⟨g, n.toNat * k' + 0, none⟩), ?_, .aptr hρ'⟩
                simp [Instr.indexAt, asIntOf, run_underlying hu, run_sizeOf hsz, h0, hlt, Addr.add_lit]
          · cases h
        · cases h
      · cases h
    · rename_i he
      split at h
      · rename_i m e hA
        have hu := elemA_spec hA
        split at h
        · rename_i k' hsz
          split at h
          · rename_i hc
            have run : ∀ (b off : Nat), (Instr.indexAt t (.pointer (some ⟨b, off, none⟩)) (.int k n)).run P w = .ok (.pointer (some ⟨b, off + n.toNat * k', none⟩)) w := fun b off => by
              simp [Instr.indexAt, Instr.sureAddr, asIntOf, run_underlying hu, run_sizeOf hsz, hc, Addr.add_lit]
            cases hx with
            | ptr hρ => cases h; exact ⟨_, run _ _, .ptr hρ⟩
            | eptr X h0 h1 h2 =>
              cases h
              refine ⟨_, run _ _, .eptr (fun j => X (n.toNat * k' + j)) h0 (fun j d hd => ?_) (fun j d hd => ?_)⟩
              · rw [List.getElem?_drop] at hd
                rw [Nat.add_assoc]
                exact h1 _ d hd
              · rw [List.getElem?_drop] at hd
                exact h2 _ d hd
            | _ => cases h
          · cases h
        · cases h
      · cases h
  · cases h

theorem isStr_spec {t : TypeId} (h : isStr P t = true) : P.underlying t = some .string := by
  unfold isStr at h
  split at h
  · assumption
  · cases h

theorem index_run {t : TypeId} {x y : Value} {d i v : D} (hx : V G w x d) (hy : V G w y i) (h : indexD P t d i = some v) : ∃ z, (Instr.index t x y).run P w = .ok z w ∧ V G w z v := by
  unfold indexD at h
  split at h
  · rename_i k n
    have := V.of_val hy
    subst this
    split at h
    · rename_i s
      have := V.of_val hx
      subst this
      split at h
      · rename_i hc
        have hu := isStr_spec hc.1
        cases hs : s[n.toNat]? with
        | none => rw [hs] at h; cases h
        | some b =>
          rw [hs] at h
          cases h
          exact ⟨_, by simp [Instr.index, asIntOf, run_underlying hu, hc.2, hs], .val _⟩
      · cases h
    · cases h
  · cases h

theorem len_run {t ty : TypeId} {x : Value} {d v : D} (hx : V G w x d) (h : lenD P t d = some v) : ∃ z, (Builtin.len_ #[t] ty #[x]).run P w = .ok z w ∧ V G w z v := by
  unfold lenD at h
  split at h
  · rename_i s
    have := V.of_val hx
    subst this
    split at h
    · rename_i hs
      cases h
      exact ⟨_, by simp [Builtin.len_, run_underlying (isStr_spec hs)]; rfl, .val _⟩
    · cases h
  · split at h
    · rename_i hs
      obtain ⟨e, he⟩ := Option.isSome_iff_exists.1 hs
      cases h
      cases hx with
      | nilsl => exact ⟨_, by simp [Builtin.len_, run_underlying (elemS_spec he)]; rfl, .val _⟩
      | esl => exact ⟨_, by simp [Builtin.len_, run_underlying (elemS_spec he)]; rfl, .val _⟩
      | sl X hn => subst hn; exact ⟨_, by simp [Builtin.len_, run_underlying (elemS_spec he)]; rfl, .val _⟩
    · cases h
  · split at h
    · rename_i hs
      obtain ⟨e, he⟩ := Option.isSome_iff_exists.1 hs
      cases h
      cases hx with
      | own => exact ⟨_, by simp [Builtin.len_, run_underlying (elemS_spec he)]; rfl, .val _⟩
    · cases h
  · split at h
    · rename_i hs
      obtain ⟨e, he⟩ := Option.isSome_iff_exists.1 hs
      cases h
      have := V.of_val hx
      subst this
      exact ⟨_, by simp [Builtin.len_, run_underlying (elemS_spec he)]; rfl, .val _⟩
    · cases h
  · cases h

end
end Go.Ab
