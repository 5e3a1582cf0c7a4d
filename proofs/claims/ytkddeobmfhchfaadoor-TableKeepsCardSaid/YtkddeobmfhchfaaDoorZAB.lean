/- A part of the proof, under no conditions of its own: ZAB. -/
import Derived.Test.YtkddeobmfhchfaaDoorZAA
import Derived.Laws.StructEq
import Derived.MapKept
import Derived.Laws.Cover3
import Derived.Laws.Strings
import Derived.Laws.Build
import Derived.Laws.Pointers
import Derived.Laws.Small
namespace Go.Ab
open Go Go.RowKit

section
variable {P : Program} {G : Gh} {w : World}

theorem run_isAgg {t : TypeId} {b : Bool} (h : aggOf P t = some b) : (isAgg t).run P w = .ok b w := by
  unfold aggOf at h
  cases hu : P.underlying t with
  | none => rw [hu] at h; cases h
  | some d =>
    rw [hu] at h
    simp only [Option.map_some, Option.some.injEq] at h
    subst h
    cases d <;> simp [isAgg, run_underlying hu, descAgg]

theorem run_sizeOf {t : TypeId} {k : Nat} (h : szOf P t = some k) : (sizeOf t).run P w = .ok k w := by
  unfold szOf at h
  cases hi : P.info? t with
  | none => rw [hi] at h; cases h
  | some i =>
    rw [hi] at h
    simp only [Option.map_some, Option.some.injEq] at h
    subst h
    simp [sizeOf, typeInfo, hi]

theorem run_zeroValue {t : TypeId} {z : Value} (h : zeroOf P t = some z) : (zeroValue t).run P w = .ok z w := by
  unfold zeroOf at h
  cases hi : P.info? t with
  | none => rw [hi] at h; cases h
  | some i =>
    rw [hi] at h
    simp only [Option.bind_some] at h
    simp [zeroValue, typeInfo, hi, h]

theorem cut_run {b off : Nat} {cs : List D} {X : Nat → Value} (hc : ∀ (j : Nat) d, cs[j]? = some d → w.cell? ⟨b, off + j, none⟩ = some (X j))
    (hV : ∀ (j : Nat) d, cs[j]? = some d → V G w (X j) d) {t : TypeId} {v : D} (h : cut P t cs = some v) :
    ∃ x, (loadVar t ⟨b, off, none⟩).run P w = .ok x w ∧ V G w x v := by
  unfold cut at h
  split at h
  · rename_i ha
    split at h
    · rename_i k hk
      split at h
      · rename_i hle
        cases h
        have hl := run_loadCells (P := P) w ⟨b, off, none⟩ k X (fun j hj => by
          rw [Addr.add_lit]
          exact hc j _ (List.getElem?_eq_getElem (by omega)))
        refine ⟨.agg ((List.range k).map X).toArray, ?_, .agg (by simp; omega) fun i c d hc' hd => ?_⟩
        · simp [loadVar, run_isAgg ha, run_sizeOf hk, hl]
        · simp only [List.getElem?_toArray, List.getElem?_map] at hc'
          rw [List.getElem?_take] at hd
          split at hd
          · rename_i hik
            rw [List.getElem?_range hik] at hc'
            simp only [Option.map_some, Option.some.injEq] at hc'
            subst hc'
            exact hV i d hd
          · cases hd
      · cases h
    · cases h
  · rename_i ha
    cases cs with
    | nil => simp at h
    | cons d r =>
      simp only [List.head?_cons, Option.some.injEq] at h
      subst h
      have h0 := hc 0 d rfl
      simp only [Nat.add_zero] at h0
      exact ⟨X 0, by simp [loadVar, run_isAgg ha, h0], hV 0 d rfl⟩
  · cases h

/-- Out of an object, from a cell on. -/
theorem box_cells {w0 : World} {κ : Kp} (ho : Objs w0 G w κ) {n : Nm} {t : TypeId} {cs : List D} (h : κ n = some (.box t cs)) {b off : Nat} (hv : V G w (.pointer (some ⟨b, off, none⟩)) (.ptr n off)) :
    ∃ X : Nat → Value, (∀ (j : Nat) d, (cs.drop off)[j]? = some d → w.cell? ⟨b, off + j, none⟩ = some (X j)) ∧ (∀ (j : Nat) d, (cs.drop off)[j]? = some d → V G w (X j) d) := by
  obtain ⟨v, hρ, ⟨b', c, rfl, hh, hsz, hcs⟩, _⟩ := ho.ob n _ h
  cases hv with
  | ptr hρ' =>
    rw [hρ] at hρ'
    cases hρ'
    refine ⟨fun j => c.getD (off + j) undef, fun j d hd => ?_, fun j d hd => ?_⟩
    · rw [List.getElem?_drop] at hd
      have hlt : off + j < c.size := by
        have := (List.getElem?_eq_some_iff.1 hd).1
        omega
      rw [cell_of_row w b (off + j) c t (0, 0) hh]
      simp [hlt]
    · rw [List.getElem?_drop] at hd
      have hlt : off + j < c.size := by
        have := (List.getElem?_eq_some_iff.1 hd).1
        omega
      have := hcs (off + j) c[off + j] d (by simp [hlt]) hd
      simpa [hlt] using this

theorem arr_shape {w0 : World} {κ : Kp} (ho : Objs w0 G w κ) {n : Nm} {t : TypeId} {k : Nat} {rows : List D} (h : κ n = some (.arr t k rows)) :
    ∃ v xs, G.ρ n = some v ∧ w.ownsRow w0.heap.size t k v rows.length xs ∧ ∀ (i : Nat) r, rows[i]? = some r → r.cells.length = k ∧ ∀ (j : Nat) d, r.cells[j]? = some d → ∃ x, xs[i * k + j]? = some x ∧ V G w x d := by
  obtain ⟨v, hρ, ⟨xs, h1, h2⟩, _⟩ := ho.ob n _ h
  exact ⟨v, xs, hρ, h1, h2⟩

theorem arr_cells {w0 : World} {κ : Kp} (ho : Objs w0 G w κ) {n : Nm} {t : TypeId} {k i j : Nat} {rows : List D} {r : D} (h : κ n = some (.arr t k rows)) (hr : rows[i]? = some r) {b off : Nat}
    (hv : V G w (.pointer (some ⟨b, off, none⟩)) (.aptr n k i j)) :
    off = i * k + j ∧ ∃ X : Nat → Value, (∀ (l : Nat) d, (r.cells.drop j)[l]? = some d → w.cell? ⟨b, off + l, none⟩ = some (X l)) ∧ (∀ (l : Nat) d, (r.cells.drop j)[l]? = some d → V G w (X l) d) := by
  obtain ⟨v, xs, hρ, hown, hx⟩ := arr_shape ho h
  cases hv with
  | aptr hρ' =>
    rw [hρ] at hρ'
    cases hρ'
    refine ⟨rfl, fun l => xs.getD (i * k + (j + l)) undef, fun l d hd => ?_, fun l d hd => ?_⟩
    · rw [List.getElem?_drop] at hd
      obtain ⟨x, hx1, _⟩ := (hx i r hr).2 (j + l) d hd
      have := hown.cells (g := b) rfl (i * k + (j + l)) x hx1
      rw [Addr.add_lit, Nat.zero_add] at this
      rw [Nat.add_assoc, this]
      simp [hx1]
    · rw [List.getElem?_drop] at hd
      obtain ⟨x, hx1, hx2⟩ := (hx i r hr).2 (j + l) d hd
      simpa [hx1] using hx2

theorem load_run {w0 : World} {κ : Kp} (ho : Objs w0 G w κ) {t : TypeId} {x : Value} {d v : D} (hx : V G w x d) (h : loadD P κ t d = some v) : ∃ y, (Instr.loadAt t x).run P w = .ok y w ∧ V G w y v := by
  cases hx with
  | ptr hρ =>
    rename_i n b off
    simp only [loadD] at h
    split at h
    · rename_i cs hk
      obtain ⟨X, h1, h2⟩ := box_cells ho hk (V.ptr (off := off) hρ)
      obtain ⟨y, hy, hv⟩ := cut_run h1 h2 h
      exact ⟨y, by simp [Instr.loadAt, Instr.sureAddr, hy], hv⟩
    · cases h
  | aptr hρ =>
    rename_i n b len cap k i j
    simp only [loadD] at h
    split at h
    · rename_i t' k' rows hk
      split at h
      · rename_i hkk
        subst hkk
        cases hr : rows[i]? with
        | none => rw [hr] at h; cases h
        | some r =>
          rw [hr] at h
          obtain ⟨_, X, h1, h2⟩ := arr_cells ho hk hr (V.aptr (i := i) (j := j) hρ)
          obtain ⟨y, hy, hv⟩ := cut_run h1 h2 h
          exact ⟨y, by simp [Instr.loadAt, Instr.sureAddr, hy], hv⟩
      · cases h
    · cases h
  | eptr X h0 h1 h2 =>
    obtain ⟨y, hy, hv⟩ := cut_run h1 h2 h
    exact ⟨y, by simp [Instr.loadAt, Instr.sureAddr, hy], hv⟩
  | _ => simp [loadD] at h

theorem fld_spec {t : TypeId} {f o : Nat} {ft : TypeId} (h : fldOf P t f = some (o, ft)) : ∃ fs fd, P.underlying t = some (.struct fs) ∧ fs[f]? = some fd ∧ fd.offset = o ∧ fd.type = ft := by
  unfold fldOf at h
  split at h
  · rename_i fs hu
    cases hf : fs[f]? with
    | none => rw [hf] at h; cases h
    | some fd =>
      rw [hf] at h
      simp only [Option.map_some, Option.some.injEq, Prod.mk.injEq] at h
      exact ⟨fs, fd, hu, hf, h.1, h.2⟩
  · cases h

theorem fieldAddr_run {t : TypeId} {f : Nat} {x : Value} {d v : D} (hx : V G w x d) (h : fieldAddrD P t d f = some v) : ∃ y, (Instr.fieldAt t x f).run P w = .ok y w ∧ V G w y v := by
  unfold fieldAddrD at h
  split at h
  · rename_i o ft hf
    split at h
    · rename_i k hk
      obtain ⟨fs, fd, hu, hfs, rfl, rfl⟩ := fld_spec hf
      have run : ∀ (b off : Nat), (Instr.fieldAt t (.pointer (some ⟨b, off, none⟩)) f).run P w = .ok (.pointer (some ⟨b, off + fd.offset, none⟩)) w := fun b off => by
        simp [Instr.fieldAt, run_underlying hu, hfs, Instr.sureAddr, fieldPlace, run_sizeOf hk, Addr.add_lit]
      cases hx with
      | ptr hρ => cases h; exact ⟨_, run _ _, .ptr hρ⟩
      | aptr hρ =>
        cases h
        refine ⟨_, run _ _, ?_⟩
        rw [Nat.add_assoc]
        exact .aptr hρ
      | eptr X h0 h1 h2 =>
        cases h
        refine ⟨_, run _ _, .eptr (fun j => X (fd.offset + j)) h0 (fun j d hd => ?_) (fun j d hd => ?_)⟩
        · rw [List.getElem?_drop] at hd
          rw [Nat.add_assoc]
          exact h1 _ d hd
        · rw [List.getElem?_drop] at hd
          exact h2 _ d hd
      | _ => cases h
    · cases h
  · cases h

theorem part_run {cs : Array Value} {ds : List D} (hs : cs.size = ds.length) (hV : ∀ (i : Nat) c d, cs[i]? = some c → ds[i]? = some d → V G w c d) {o : Nat} {t : TypeId} {v : D} (h : cut P t (ds.drop o) = some v) :
    ∃ y, (part t cs o).run P w = .ok y w ∧ V G w y v := by
  unfold cut at h
  split at h
  · rename_i ha
    split at h
    · rename_i k hk
      split at h
      · rename_i hle
        cases h
        simp only [List.length_drop] at hle
        refine ⟨.agg (cs.extract o (o + k)), by simp [part, run_isAgg ha, run_sizeOf hk], .agg (by simp; omega) fun i c d hc hd => ?_⟩
        rw [List.getElem?_take] at hd
        split at hd
        · rw [List.getElem?_drop] at hd
          rw [Array.getElem?_extract] at hc
          split at hc
          · exact hV _ _ _ hc hd
          · cases hc
        · cases hd
      · cases h
    · cases h
  · rename_i ha
    rw [List.head?_drop] at h
    have hlt : o < cs.size := by
      have := (List.getElem?_eq_some_iff.1 h).1
      omega
    refine ⟨cs[o], by simp [part, run_isAgg ha, hlt], hV o _ _ (by simp [hlt]) h⟩
  · cases h

theorem field_run {t : TypeId} {f : Nat} {x : Value} {d v : D} (hx : V G w x d) (h : fieldD P t d f = some v) : ∃ y, (Instr.field t x f).run P w = .ok y w ∧ V G w y v := by
  unfold fieldD at h
  split at h
  · rename_i o ft hf
    obtain ⟨fs, fd, hu, hfs, rfl, rfl⟩ := fld_spec hf
    cases hx with
    | agg hs hV =>
      obtain ⟨y, hy, hv⟩ := part_run (P := P) hs hV h
      exact ⟨y, by simp [Instr.field, run_underlying hu, hfs, asAgg, hy], hv⟩
    | _ => cases h
  · cases h

theorem elemS_spec {t e : TypeId} (h : elemS P t = some e) : P.underlying t = some (.slice e) := by
  unfold elemS at h
  split at h
  · rename_i hu; cases h; exact hu
  · cases h

theorem elemA_spec {t e : TypeId} {n : Nat} (h : elemA P t = some (n, e)) : P.underlying t = some (.array n e) := by
  unfold elemA at h
  split at h
  · rename_i hu; cases h; exact hu
  · cases h

theorem indexAddr_run {w0 : World} {κ : Kp} (ho : Objs w0 G w κ) {t : TypeId} {x y : Value} {d i v : D} (hx : V G w x d) (hy : V G w y i) (h : indexAddrD P κ t d i = some v) :
    ∃ z, (Instr.indexAt t x y).run P w = .ok z w ∧ V G w z v := by
  unfold indexAddrD at h
  split at h
  · rename_i k n
    have := V.of_val hy
    subst this
    split at h
    · rename_i e he
      have hu := elemS_spec he
      split at h
      · rename_i xf rows
        cases hr : at? rows n with
        | none => rw [hr] at h; cases h
        | some r =>
          rw [hr] at h
          simp only [Option.bind_some] at h
          split at h
          · rename_i hsz
            cases h
            unfold at? at hr
            split at hr
            · rename_i h0
              have hlt := (List.getElem?_eq_some_iff.1 hr).1
              cases hx with
              | nilsl => simp at hr
              | esl => simp at hr
              | sl X hn h2 h3 hF hk hc hV =>
                rename_i b off m cap k'
                have hkk := hk _ _ hr
                rw [hkk] at hsz
                refine ⟨.pointer (some ⟨b, off + n.toNat * k', none⟩), ?_, .eptr (X n.toNat) hF (fun j d hd => ?_) (fun j d hd => hV _ _ _ _ hr hd)⟩
                · have : 0 ≤ n ∧ n < m := by omega
                  simp [Instr.indexAt, asIntOf, run_underlying hu, run_sizeOf hsz, this, Addr.add_lit]
                · rw [Nat.add_assoc]; exact hc _ _ _ _ hr hd
            · cases hr
          · cases h
      · rename_i nm len
        split at h
        · rename_i t' k' rows hκ
          split at h
          · rename_i hc
            cases h
            obtain ⟨hsz, h0, hlt⟩ := hc
            obtain ⟨u, xs, hρ, hown, _⟩ := arr_shape ho hκ
            cases hx with
            | own hρ' =>
              rw [hρ'] at hρ
              cases hρ
              rcases hown.2 with ⟨hnil, hz⟩ | ⟨g, cap, cur, hv, _⟩
              · omega
              · cases hv
                refine ⟨.pointer (some ⟨g, n.toNat * k' + 0, none⟩), ?_, .aptr hρ'⟩
                simp [Instr.indexAt, asIntOf, run_underlying hu, run_sizeOf hsz, h0, hlt, Addr.add_lit]
          · cases h
        · cases h
      · rename_i nm k off len
        split at h
        · rename_i t' k' rows hκ
          split at h
          · rename_i hc
            cases h
            obtain ⟨hsz, rfl, h0, hlt, _⟩ := hc
            cases hx with
            | osl hρ' hC hle ha =>
              rename_i b cap L C a
              have hcp : 0 < cap := by omega
              rw [ha hcp]
              refine ⟨.pointer (some ⟨b, (off + n.toNat) * k' + 0, none⟩), ?_, .aptr hρ'⟩
              simp [Instr.indexAt, asIntOf, run_underlying hu, run_sizeOf hsz, h0, hlt, Addr.add_lit, Nat.add_mul]
          · cases h
        · cases h
      · cases h
    · rename_i he
      split at h
      · rename_i m e hA
        have hu := elemA_spec hA
        split at h
        · rename_i k' hsz
          split at h
          · rename_i hc
            have run : ∀ (b off : Nat), (Instr.indexAt t (.pointer (some ⟨b, off, none⟩)) (.int k n)).run P w = .ok (.pointer (some ⟨b, off + n.toNat * k', none⟩)) w := fun b off => by
              simp [Instr.indexAt, Instr.sureAddr, asIntOf, run_underlying hu, run_sizeOf hsz, hc, Addr.add_lit]
            cases hx with
            | ptr hρ => cases h; exact ⟨_, run _ _, .ptr hρ⟩
            | eptr X h0 h1 h2 =>
              cases h
              refine ⟨_, run _ _, .eptr (fun j => X (n.toNat * k' + j)) h0 (fun j d hd => ?_) (fun j d hd => ?_)⟩
              · rw [List.getElem?_drop] at hd
                rw [Nat.add_assoc]
                exact h1 _ d hd
              · rw [List.getElem?_drop] at hd
                exact h2 _ d hd
            | _ => cases h
          · cases h
        · cases h
      · cases h
  · cases h

theorem isStr_spec {t : TypeId} (h : isStr P t = true) : P.underlying t = some .string := by
  unfold isStr at h
  split at h
  · assumption
  · cases h

theorem index_run {t : TypeId} {x y : Value} {d i v : D} (hx : V G w x d) (hy : V G w y i) (h : indexD P t d i = some v) : ∃ z, (Instr.index t x y).run P w = .ok z w ∧ V G w z v := by
  unfold indexD at h
  split at h
  · rename_i k n
    have := V.of_val hy
    subst this
    split at h
    · rename_i s
      have := V.of_val hx
      subst this
      split at h
      · rename_i hc
        have hu := isStr_spec hc.1
        cases hs : s[n.toNat]? with
        | none => rw [hs] at h; cases h
        | some b =>
          rw [hs] at h
          cases h
          exact ⟨_, by simp [Instr.index, asIntOf, run_underlying hu, hc.2, hs], .val _⟩
      · cases h
    · cases h
  · cases h

theorem len_run {t ty : TypeId} {x : Value} {d v : D} (hx : V G w x d) (h : lenD P t d = some v) : ∃ z, (Builtin.len_ #[t] ty #[x]).run P w = .ok z w ∧ V G w z v := by
  unfold lenD at h
  split at h
  · rename_i s
    have := V.of_val hx
    subst this
    split at h
    · rename_i hs
      cases h
      exact ⟨_, by simp [Builtin.len_, run_underlying (isStr_spec hs)]; rfl, .val _⟩
    · cases h
  · split at h
    · rename_i hs
      obtain ⟨e, he⟩ := Option.isSome_iff_exists.1 hs
      cases h
      cases hx with
      | nilsl => exact ⟨_, by simp [Builtin.len_, run_underlying (elemS_spec he)]; rfl, .val _⟩
      | esl => exact ⟨_, by simp [Builtin.len_, run_underlying (elemS_spec he)]; rfl, .val _⟩
      | sl X hn => subst hn; exact ⟨_, by simp [Builtin.len_, run_underlying (elemS_spec he)]; rfl, .val _⟩
    · cases h
  · split at h
    · rename_i hs
      obtain ⟨e, he⟩ := Option.isSome_iff_exists.1 hs
      cases h
      cases hx with
      | own => exact ⟨_, by simp [Builtin.len_, run_underlying (elemS_spec he)]; rfl, .val _⟩
    · cases h
  · split at h
    · rename_i hs
      obtain ⟨e, he⟩ := Option.isSome_iff_exists.1 hs
      cases h
      cases hx with
      | osl => exact ⟨_, by simp [Builtin.len_, run_underlying (elemS_spec he)]; rfl, .val _⟩
    · cases h
  · split at h
    · rename_i hs
      obtain ⟨e, he⟩ := Option.isSome_iff_exists.1 hs
      cases h
      have := V.of_val hx
      subst this
      exact ⟨_, by simp [Builtin.len_, run_underlying (elemS_spec he)]; rfl, .val _⟩
    · cases h
  · cases h

end
end Go.Ab

namespace Go.Ab
open Go Go.RowKit

section
variable {P : Program} {w : World}

theorem mapT_spec {t kt et : TypeId} (h : mapT P t = some (kt, et)) : P.underlying t = some (.map kt et) := by
  unfold mapT at h
  split at h
  · rename_i k e hu; cases h; exact hu
  · cases h

def KC.desc : KC → TypeDesc
  | .str => .string
  | .num k => .int k
  | .boo => .bool
theorem beq_bytes (a b : ByteArray) : (a == b) = true ↔ a = b := by
  rw [beq_toListBytes, ByteArray.toList_eq, ByteArray.toList_eq]
  obtain ⟨⟨x⟩⟩ := a
  obtain ⟨⟨y⟩⟩ := b
  simp
theorem KC.of_spec {t : TypeId} {c : KC} (h : KC.of P t = some c) : P.underlying t = some c.desc := by
  unfold KC.of at h
  split at h <;> cases h <;> assumption

theorem KC.fits_cases {c : KC} {v : Value} (h : c.fits v = true) : (c = .str ∧ ∃ s, v = .string s) ∨ (∃ k n, c = .num k ∧ v = .int k n) ∨ (c = .boo ∧ ∃ b, v = .bool b) := by
  cases c <;> cases v <;> simp [KC.fits] at h
  · exact .inl ⟨rfl, _, rfl⟩
  · subst h; exact .inr (.inl ⟨_, _, rfl, rfl⟩)
  · exact .inr (.inr ⟨rfl, _, rfl⟩)

open Classical in
theorem KC.eq_run {t : TypeId} {c : KC} (hc : KC.of P t = some c) (d : Nat) {a b : Value} (ha : c.fits a = true) (hb : c.fits b = true) : (Op.equalIn (d + 1) t a b).run P w = .ok (decide (a = b)) w := by
  have hu := KC.of_spec hc
  rcases KC.fits_cases ha with ⟨rfl, s, rfl⟩ | ⟨k, n, rfl, rfl⟩ | ⟨rfl, x, rfl⟩ <;> rcases KC.fits_cases hb with ⟨h, s', rfl⟩ | ⟨k', n', h, rfl⟩ | ⟨h, x', rfl⟩ <;> cases h
  · simp [Op.equalIn, run_underlying hu, KC.desc]
    rw [Bool.eq_iff_iff]; simp [beq_bytes]
  · simp [Op.equalIn, run_underlying hu, KC.desc]
    rw [Bool.eq_iff_iff]; simp
  · simp [Op.equalIn, run_underlying hu, KC.desc]
    rw [Bool.eq_iff_iff]; simp

theorem KC.agg_not {t : TypeId} {c : KC} (hc : KC.of P t = some c) : aggOf P t = some false := by
  have hu := KC.of_spec hc
  unfold aggOf
  rw [hu]
  cases c <;> rfl

theorem run_partC {t : TypeId} {c : KC} (hc : KC.of P t = some c) {xs : Array Value} {off : Nat} {v : Value} (hx : xs[off]? = some v) : (part t xs off).run P w = .ok v w := by
  simp [part, run_isAgg (KC.agg_not hc), hx]

theorem KC.fitsL_len : ∀ {cs : List KC} {vs : List Value}, KC.fitsL cs vs = true → vs.length = cs.length
  | [], [], _ => rfl
  | _ :: cs, _ :: vs, h => by
    simp only [KC.fitsL, Bool.and_eq_true] at h
    simp [KC.fitsL_len h.2]
  | [], _ :: _, h => by simp [KC.fitsL] at h
  | _ :: _, [], h => by simp [KC.fitsL] at h
theorem KC.fitsL_app : ∀ {cs cs' : List KC} {vs : List Value}, KC.fitsL (cs ++ cs') vs = true → KC.fitsL cs (vs.take cs.length) = true ∧ KC.fitsL cs' (vs.drop cs.length) = true
  | [], cs', vs, h => by simpa [KC.fitsL] using h
  | c :: cs, cs', [], h => by simp [KC.fitsL] at h
  | c :: cs, cs', v :: vs, h => by
    simp only [List.cons_append, KC.fitsL, Bool.and_eq_true] at h
    have := KC.fitsL_app h.2
    simp only [List.length_cons, List.take_succ_cons, List.drop_succ_cons, KC.fitsL, Bool.and_eq_true]
    exact ⟨⟨h.1, this.1⟩, this.2⟩

theorem ofFs_name {sub : TypeId → Option (List KC)} {f : Field} {fs : List Field} {i : Nat} {l : List KC} (h : KC.ofFs P sub (f :: fs) i = some l) :
    f.name ≠ "_" ∧ f.offset = i ∧ ∃ cs cs', sub f.type = some cs ∧ szOf P f.type = some cs.length ∧ KC.ofFs P sub fs (i + cs.length) = some cs' ∧ l = cs ++ cs' := by
  simp only [KC.ofFs] at h
  split at h
  · rename_i hc
    split at h
    · rename_i cs h1
      split at h
      · rename_i hs
        obtain ⟨cs', h2, rfl⟩ := Option.map_eq_some_iff.1 h
        exact ⟨hc.1, hc.2, cs, cs', h1, hs, h2, rfl⟩
      · cases h
    · cases h
  · cases h

open Classical in
/-- Parts of structs are compared as their plain ones. -/
def Eqs (P : Program) (w : World) (d : Nat) (t : TypeId) (cs : List KC) : Prop :=
  ∀ (xs : Array Value) (off : Nat), KC.fitsL cs ((xs.toList.drop off).take cs.length) = true → ∃ v, (part t xs off).run P w = .ok v w ∧ (∀ em, (Instr.checkKey em (d + 1) t v).run P w = .ok () w) ∧
    ∀ (ys : Array Value) (off' : Nat) u, KC.fitsL cs ((ys.toList.drop off').take cs.length) = true → (part t ys off').run P w = .ok u w →
      (Op.equalIn (d + 1) t v u).run P w = .ok (decide ((xs.toList.drop off).take cs.length = (ys.toList.drop off').take cs.length)) w

theorem take_one {xs : List Value} {i : Nat} {c : KC} (h : KC.fitsL [c] ((xs.drop i).take 1) = true) : ∃ v, xs[i]? = some v ∧ c.fits v = true ∧ (xs.drop i).take 1 = [v] := by
  cases hd : xs.drop i with
  | nil => rw [hd] at h; simp [KC.fitsL] at h
  | cons v r =>
    rw [hd] at h
    simp only [List.take_succ_cons, List.take_zero, KC.fitsL, Bool.and_true] at h
    have h0 : xs[i]? = some v := by
      have := congrArg (·[0]?) hd
      simpa using this
    exact ⟨v, h0, h, rfl⟩
theorem checkKey_one {t : TypeId} {c : KC} (hc : KC.of P t = some c) (em : Bool) (d : Nat) (v : Value) : (Instr.checkKey em (d + 1) t v).run P w = .ok () w := by
  have hu := KC.of_spec hc
  simp only [Instr.checkKey, Sem.run_bind, run_underlying hu, Result.andThen_ok]
  cases c <;> rfl

theorem eqs_one {t : TypeId} {c : KC} (hc : KC.of P t = some c) (d : Nat) : Eqs P w d t [c] := by
  intro xs off hx
  obtain ⟨v, hv, fv, ex⟩ := take_one hx
  refine ⟨v, run_partC hc (by simpa using hv), fun em => checkKey_one hc em d v, fun ys off' u hy hu => ?_⟩
  obtain ⟨u', hu', fu, ey⟩ := take_one hy
  have := run_partC (w := w) hc (xs := ys) (off := off') (v := u') (by simpa using hu')
  rw [hu] at this
  cases this
  rw [KC.eq_run hc d fv fu]
  have e1 : (xs.toList.drop off).take [c].length = [v] := ex
  have e2 : (ys.toList.drop off').take [c].length = [u] := ey
  rw [e1, e2]
  simp

theorem part_of {t : TypeId} {cs : List KC} {d : Nat} (h : Eqs P w d t cs) {xs : Array Value} {off : Nat} (hx : KC.fitsL cs ((xs.toList.drop off).take cs.length) = true) : ∃ v, (part t xs off).run P w = .ok v w := let ⟨v, h1, _⟩ := h xs off hx; ⟨v, h1⟩

theorem fits_step {cs cs' : List KC} {l : List Value} {i : Nat} (h : KC.fitsL (cs ++ cs') (l.drop i) = true) : KC.fitsL cs ((l.drop i).take cs.length) = true ∧ KC.fitsL cs' (l.drop (i + cs.length)) = true := by
  have := KC.fitsL_app h
  rw [List.drop_drop] at this
  exact this

open Classical in
theorem eqFields_run {sub : TypeId → Option (List KC)} (d : Nat) (hsub : ∀ t cs, sub t = some cs → Eqs P w d t cs) {xs ys : Array Value} : ∀ (fs : List Field) (i : Nat) (cs : List KC), KC.ofFs P sub fs i = some cs → KC.fitsL cs (xs.toList.drop i) = true → KC.fitsL cs (ys.toList.drop i) = true →
    (Op.eqFields (d + 1) xs ys fs).run P w = .ok (decide (xs.toList.drop i = ys.toList.drop i)) w
  | [], i, cs, h, hx, hy => by
    simp only [KC.ofFs, Option.some.injEq] at h
    subst h
    have : ∀ l : List Value, KC.fitsL [] l = true → l = [] := fun l h => by cases l with | nil => rfl | cons _ _ => simp [KC.fitsL] at h
    rw [this _ hx, this _ hy]
    simp [Op.eqFields]
  | f :: fs, i, cs, h, hx, hy => by
    obtain ⟨hn, ho, c, cs', h1, _, h2, rfl⟩ := ofFs_name h
    obtain ⟨fx, hx'⟩ := fits_step hx
    obtain ⟨fy, hy'⟩ := fits_step hy
    obtain ⟨v, pv, _, hv⟩ := hsub _ _ h1 xs i fx
    obtain ⟨u, pu⟩ := part_of (hsub _ _ h1) fy
    have he := hv ys i u fy pu
    have ih := eqFields_run d hsub fs (i + c.length) cs' h2 hx' hy'
    have sx : xs.toList.drop i = (xs.toList.drop i).take c.length ++ xs.toList.drop (i + c.length) := by rw [← List.drop_drop, List.take_append_drop]
    have sy : ys.toList.drop i = (ys.toList.drop i).take c.length ++ ys.toList.drop (i + c.length) := by rw [← List.drop_drop, List.take_append_drop]
    have lx := KC.fitsL_len fx
    have ly := KC.fitsL_len fy
    simp only [Op.eqFields, hn, ne_eq, not_false_eq_true, if_true, Sem.run_bind, ho, pv, pu, Result.andThen_ok, he]
    by_cases hq : (xs.toList.drop i).take c.length = (ys.toList.drop i).take c.length
    · simp only [hq, decide_true, Bool.not_true, Bool.false_eq_true, if_false, ih]
      congr 1
      rw [Bool.eq_iff_iff, decide_eq_true_iff, decide_eq_true_iff]
      constructor
      · intro h; rw [sx, sy, hq, h]
      · intro h
        rw [sx, sy, hq] at h
        exact List.append_cancel_left h
    · simp only [hq, decide_false, Bool.not_false, if_true, Sem.run_pure]
      congr 1
      symm
      rw [decide_eq_false_iff_not]
      intro h
      exact hq (by rw [h])

theorem checkFields_run {sub : TypeId → Option (List KC)} {em : Bool} {d : Nat} (hsub : ∀ t cs, sub t = some cs → Eqs P w d t cs) {xs : Array Value} : ∀ (fs : List Field) (i : Nat) (cs : List KC), KC.ofFs P sub fs i = some cs → KC.fitsL cs (xs.toList.drop i) = true →
    (forIn fs PUnit.unit (fun f _ => do
      if f.name ≠ "_" then
        Instr.checkKey em (d + 1) f.type (← part f.type xs f.offset)
        pure (ForInStep.yield PUnit.unit)
      else pure (ForInStep.yield PUnit.unit)) : Sem PUnit).run P w = .ok PUnit.unit w
  | [], _, _, _, _ => rfl
  | f :: fs, i, cs, h, hx => by
    obtain ⟨hn, ho, c, cs', h1, _, h2, rfl⟩ := ofFs_name h
    obtain ⟨fx, hx'⟩ := fits_step hx
    obtain ⟨v, pv, hk, _⟩ := hsub _ _ h1 xs i fx
    simp only [List.forIn_cons, hn, ne_eq, not_false_eq_true, if_true, Sem.run_bind, ho, pv, Result.andThen_ok, hk, Sem.run_pure]
    exact checkFields_run hsub fs (i + c.length) cs' h2 hx'

theorem checkStruct_run {sub : TypeId → Option (List KC)} {em : Bool} {d : Nat} (hsub : ∀ t cs, sub t = some cs → Eqs P w d t cs) {t : TypeId} {fs : Array Field} (hu : P.underlying t = some (.struct fs)) {xs : Array Value} {cs : List KC} (h : KC.ofFs P sub fs.toList 0 = some cs) (hx : KC.fitsL cs xs.toList = true) :
    (Instr.checkKey em (d + 2) t (.agg xs)).run P w = .ok () w := by
  have := checkFields_run (em := em) hsub fs.toList 0 cs h (by simpa using hx)
  rw [Instr.checkKey]
  simp only [Sem.run_bind, run_underlying hu, Result.andThen_ok]
  rw [← Array.forIn_toList]
  simp only [ne_eq, ite_not, bind_pure_comp] at this ⊢
  simp at this ⊢
  rw [this]
  rfl

theorem fieldsOf_eq {t : TypeId} {fs : Array Field} (h : P.underlying t = some (.struct fs)) : P.fieldsOf t = fs := by
  unfold Program.fieldsOf; rw [h]

theorem ext_list (xs : Array Value) (off n : Nat) : (xs.extract off (off + n)).toList = (xs.toList.drop off).take n := by
  rw [Array.toList_extract, List.extract_eq_take_drop]
  congr 1
  omega

open Classical in
theorem eqs_of : ∀ (n d : Nat) (t : TypeId) (cs : List KC), KC.ofT P n t = some cs → szOf P t = some cs.length → Eqs P w (d + n) t cs
  | 0, d, t, cs, h, _ => by
    obtain ⟨c, hc, rfl⟩ := Option.map_eq_some_iff.1 h
    exact eqs_one hc _
  | n + 1, d, t, cs, h, hsz => by
    simp only [KC.ofT] at h
    split at h
    · rename_i fs hu
      split at h
      · cases h
      · rename_i hst
        intro xs off hx
        have hag : aggOf P t = some true := by unfold aggOf; rw [hu]; rfl
        have hsub : ∀ (t : TypeId) (cs : List KC), (fun t => (KC.ofT P n t).bind fun cs => if szOf P t = some cs.length then some cs else none) t = some cs → Eqs P w (d + n) t cs := fun t cs h => by
          obtain ⟨cs', h1, h2⟩ := Option.bind_eq_some_iff.1 h
          split at h2
          · rename_i hs; cases h2; exact eqs_of n d t _ h1 hs
          · cases h2
        have hof : KC.ofFs P (fun t => (KC.ofT P n t).bind fun cs => if szOf P t = some cs.length then some cs else none) fs.toList 0 = some cs := by
          have key : ∀ (l : List Field) (i : Nat) (cs : List KC), KC.ofFs P (KC.ofT P n) l i = some cs → KC.ofFs P (fun t => (KC.ofT P n t).bind fun cs => if szOf P t = some cs.length then some cs else none) l i = some cs := by
            intro l
            induction l with
            | nil => intro i cs h; exact h
            | cons f l ih =>
              intro i cs h
              obtain ⟨k1, k2, c, c', k3, k4, k5, rfl⟩ := ofFs_name h
              simp only [KC.ofFs, k1, k2, ne_eq, not_false_eq_true, and_self, if_true, k3, k4, Option.bind_some, ih _ _ k5, Option.map_some]
          exact key _ _ _ h
        refine ⟨.agg (xs.extract off (off + cs.length)), by simp [part, run_isAgg hag, run_sizeOf hsz], fun em => ?_, fun ys off' u hy hu' => ?_⟩
        · exact checkStruct_run hsub hu hof (by rw [ext_list]; exact hx)
        · have hpu : (part t ys off').run P w = .ok (.agg (ys.extract off' (off' + cs.length))) w := by simp [part, run_isAgg hag, run_sizeOf hsz]
          rw [hpu] at hu'
          cases hu'
          have h1 := run_equalIn_struct (P := P) w (d + n + 1) t (xs.extract off (off + cs.length)) (ys.extract off' (off' + cs.length)) (by rw [fieldsOf_eq hu]; exact hu) (by simpa using hst)
          have h2 := eqFields_run (d + n) hsub (xs := xs.extract off (off + cs.length)) (ys := ys.extract off' (off' + cs.length)) fs.toList 0 cs hof (by rw [List.drop_zero, ext_list]; exact hx) (by rw [List.drop_zero, ext_list]; exact hy)
          rw [fieldsOf_eq hu] at h1
          show (Op.equalIn (d + n + 1 + 1) t _ _).run P w = _
          rw [h1, h2]
          simp only [List.drop_zero, ext_list]
    · obtain ⟨c, hc, rfl⟩ := Option.map_eq_some_iff.1 h
      exact eqs_one hc _

theorem ofFs_sized {n : Nat} : ∀ {l : List Field} {i : Nat} {cs : List KC}, KC.ofFs P (KC.ofT P n) l i = some cs → KC.ofFs P (fun t => (KC.ofT P n t).bind fun cs => if szOf P t = some cs.length then some cs else none) l i = some cs := by
  intro l
  induction l with
  | nil => intro i cs h; exact h
  | cons f l ih =>
    intro i cs h
    obtain ⟨k1, k2, c, c', k3, k4, k5, rfl⟩ := ofFs_name h
    simp only [KC.ofFs, k1, k2, ne_eq, not_false_eq_true, and_self, if_true, k3, k4, Option.bind_some, ih k5, Option.map_some]
theorem sub_sized (n d : Nat) : ∀ (t : TypeId) (cs : List KC), (fun t => (KC.ofT P n t).bind fun cs => if szOf P t = some cs.length then some cs else none) t = some cs → Eqs P w (d + n) t cs := fun t cs h => by
  obtain ⟨cs', h1, h2⟩ := Option.bind_eq_some_iff.1 h
  split at h2
  · rename_i hs; cases h2; exact eqs_of n d t _ h1 hs
  · cases h2

open Classical in
theorem KS.eq_run {t : TypeId} {ks : KS} (hk : KS.of P t = some ks) {a b : Value} (ha : ks.fits a = true) (hb : ks.fits b = true) : (Op.equal t a b).run P w = .ok (decide (a = b)) w := by
  unfold KS.of at hk
  split at hk
  · rename_i fs hu
    split at hk
    · cases hk
    · rename_i hst
      obtain ⟨cs, hcs, rfl⟩ := Option.map_eq_some_iff.1 hk
      cases a with
      | agg xs =>
        cases b with
        | agg ys =>
          have := run_equalIn_struct (P := P) w 9999 t xs ys (by rw [fieldsOf_eq hu]; exact hu) (by simpa using hst)
          have h2 := eqFields_run (P := P) (w := w) 9998 (sub_sized 1 9997) (xs := xs) (ys := ys) fs.toList 0 cs (ofFs_sized hcs) (by simpa [KS.fits] using ha) (by simpa [KS.fits] using hb)
          rw [fieldsOf_eq hu] at this
          unfold Op.equal Op.maxDepth
          rw [this, h2]
          congr 1
          rw [Bool.eq_iff_iff]
          simp
        | _ => simp [KS.fits] at hb
      | _ => simp [KS.fits] at ha
  · obtain ⟨c, hc, rfl⟩ := Option.map_eq_some_iff.1 hk
    exact KC.eq_run hc 9999 ha hb

open Classical in
noncomputable def firstAt (k : Value) : List MapEntry → Nat → Option (Nat × Value)
  | [], _ => none
  | e :: es, i => if k = e.key then some (i, e.val) else firstAt k es (i + 1)

theorem findAsking_run {t : TypeId} {ks : KS} (hk : KS.of P t = some ks) {k : Value} (ha : ks.fits k = true) : ∀ (es : List MapEntry) (i : Nat), (∀ e ∈ es, ks.fits e.key = true) → (Instr.findAsking t k es i).run P w = .ok (firstAt k es i) w
  | [], i, _ => by simp [Instr.findAsking, firstAt]
  | e :: es, i, h => by
    simp only [Instr.findAsking, Sem.run_bind, KS.eq_run hk ha (h e List.mem_cons_self), Result.andThen_ok, firstAt]
    by_cases he : k = e.key
    · simp [he]
    · simp only [he, decide_false, Bool.false_eq_true, if_false]
      exact findAsking_run hk ha es (i + 1) fun x hx => h x (List.mem_cons_of_mem _ hx)

theorem sameNow_one {c : KC} {t : TypeId} (hc : KC.of P t = some c) {u : TypeDesc} (hu : P.underlying t = some u) {a b : Value} (ha : c.fits a = true) (hb : c.fits b = true) : ∃ r, Instr.sameNow u a b = some r ∧ (r = true ↔ a = b) := by
  have := KC.of_spec hc
  rw [hu] at this
  cases this
  rcases KC.fits_cases ha with ⟨rfl, s, rfl⟩ | ⟨k, n, rfl, rfl⟩ | ⟨rfl, x, rfl⟩ <;> rcases KC.fits_cases hb with ⟨h, s', rfl⟩ | ⟨k', n', h, rfl⟩ | ⟨h, x', rfl⟩ <;> cases h
  · exact ⟨s == s', rfl, by simp [beq_bytes]⟩
  · exact ⟨n == n', by simp [Instr.sameNow, KC.desc], by simp⟩
  · exact ⟨x == x', rfl, by simp⟩

theorem findNow_one {c : KC} {t : TypeId} (hc : KC.of P t = some c) {u : TypeDesc} (hu : P.underlying t = some u) {k : Value} (ha : c.fits k = true) : ∀ (es : List MapEntry) (i : Nat), (∀ e ∈ es, c.fits e.key = true) → Instr.findNow u k es i = some (firstAt k es i)
  | [], i, _ => rfl
  | e :: es, i, h => by
    obtain ⟨r, h1, h2⟩ := sameNow_one hc hu ha (h e List.mem_cons_self)
    simp only [Instr.findNow, h1, firstAt]
    cases r with
    | true => rw [if_pos (h2.1 rfl)]
    | false => rw [if_neg fun e => by simpa using h2.2 e]; exact findNow_one hc hu ha es (i + 1) fun x hx => h x (List.mem_cons_of_mem _ hx)

theorem findKey_run {t : TypeId} {ks : KS} (hk : KS.of P t = some ks) {k : Value} (ha : ks.fits k = true) (es : List MapEntry) (h : ∀ e ∈ es, ks.fits e.key = true) : (Instr.findKey t k es).run P w = .ok (firstAt k es 0) w := by
  have hask := findAsking_run (w := w) hk ha es 0 h
  obtain ⟨u, hu⟩ : ∃ u, P.underlying t = some u := by
    cases hu : P.underlying t with
    | none => simp [KS.of, KC.of, hu] at hk
    | some u => exact ⟨u, rfl⟩
  simp only [Instr.findKey, Sem.run_bind, run_underlying hu, Result.andThen_ok]
  cases hn : Instr.findNow u k es 0 with
  | none => exact hask
  | some r =>
    simp only [Sem.run_pure]
    congr 1
    unfold KS.of at hk
    split at hk
    · rename_i fs hus
      rw [hus] at hu
      cases hu
      cases es with
      | nil => simpa [Instr.findNow, firstAt] using hn.symm
      | cons e es => simp [Instr.findNow, Instr.sameNow] at hn
    · obtain ⟨c, hc, rfl⟩ := Option.map_eq_some_iff.1 hk
      have := findNow_one hc hu (k := k) ha es 0 h
      rw [hn] at this
      exact Option.some.inj this

theorem checkKey_any {t : TypeId} {ks : KS} (hk : KS.of P t = some ks) {k : Value} (ha : ks.fits k = true) (em : Bool) (d : Nat) : (Instr.checkKey em (d + 3) t k).run P w = .ok () w := by
  unfold KS.of at hk
  split at hk
  · rename_i fs hu
    split at hk
    · cases hk
    · obtain ⟨cs, hcs, rfl⟩ := Option.map_eq_some_iff.1 hk
      cases k with
      | agg xs => exact checkStruct_run (sub_sized 1 d) hu (ofFs_sized hcs) (by simpa [KS.fits] using ha)
      | _ => simp [KS.fits] at ha
  · obtain ⟨c, hc, rfl⟩ := Option.map_eq_some_iff.1 hk
    exact checkKey_one hc em (d + 2) k
theorem checkKey_run {t : TypeId} {ks : KS} (hk : KS.of P t = some ks) {k : Value} (ha : ks.fits k = true) (em : Bool) : (Instr.checkKey em 10000 t k).run P w = .ok () w := checkKey_any hk ha em 9997

end
end Go.Ab

namespace Go.Ab
open Go Go.RowKit
section
variable {P : Program} {G : Gh} {w : World}

theorem valsD_spec : ∀ {ds : List D} {vs : List Value}, valsD ds = some vs → ds = vs.map .val
  | [], vs, h => by simp only [valsD, Option.some.injEq] at h; subst h; rfl
  | d :: r, vs, h => by
    cases d with
    | val v =>
      simp only [valsD, Option.map_eq_some_iff] at h
      obtain ⟨l, hl, rfl⟩ := h
      rw [valsD_spec hl]; rfl
    | _ => cases h

theorem keyD_spec {y k : Value} {i : D} (hy : V G w y i) (h : keyD i = some k) : y = k := by
  cases i with
  | val v => cases h; exact V.of_val hy
  | agg ds =>
    simp only [keyD, Option.map_eq_some_iff] at h
    obtain ⟨vs, hvs, rfl⟩ := h
    have := valsD_spec hvs
    subst this
    cases hy with
    | agg hsz hV =>
      congr 1
      apply Array.ext
      · simpa using hsz
      · intro i h1 h2
        have := V.of_val (hV i _ (.val vs[i]) (Array.getElem?_eq_getElem h1) (by simp at h2; simp [h2]))
        simpa using this
  | _ => cases h

open Classical in
theorem first_some {k : Value} : ∀ {l : List MapEntry} {j p : Nat} {v : Value}, firstAt k l j = some (p, v) → ∃ i m, p = j + i ∧ l[i]? = some m ∧ m.val = v ∧ m.key = k ∧ ∀ i' m', i' < i → l[i']? = some m' → m'.key ≠ k
  | [], _, _, _, h => by simp [firstAt] at h
  | e :: es, j, p, v, h => by
    simp only [firstAt] at h
    split at h
    · rename_i he
      cases h
      exact ⟨0, e, rfl, rfl, rfl, he.symm, fun i' _ hi => absurd hi (Nat.not_lt_zero _)⟩
    · rename_i he
      obtain ⟨i, m, h1, h2, h3, h4, h5⟩ := first_some h
      refine ⟨i + 1, m, by omega, by simpa using h2, h3, h4, fun i' m' hi hm => ?_⟩
      cases i' with
      | zero => simp only [List.getElem?_cons_zero, Option.some.injEq] at hm; subst hm; exact fun e => he e.symm
      | succ i' => exact h5 i' m' (by omega) (by simpa using hm)

open Classical in
theorem first_none {k : Value} : ∀ {l : List MapEntry} {j : Nat}, firstAt k l j = none → ∀ m ∈ l, m.key ≠ k
  | [], _, _, m, hm => by cases hm
  | e :: es, j, h, m, hm => by
    simp only [firstAt] at h
    split at h
    · cases h
    · rename_i he
      rcases List.mem_cons.1 hm with rfl | hm
      · exact fun e => he e.symm
      · exact first_none h m hm

open Classical in
theorem mget_at {k : Value} {d : D} : ∀ {es : List (Value × D)} {i : Nat}, es[i]? = some (k, d) → (∀ i' e, i' < i → es[i']? = some e → e.1 ≠ k) → mget es k = some d
  | [], i, h, _ => by simp at h
  | (k', d') :: r, i, h, hn => by
    simp only [mget]
    cases i with
    | zero => cases h; rw [if_pos rfl]
    | succ i =>
      rw [if_neg (hn 0 _ (Nat.succ_pos _) rfl)]
      exact mget_at (by simpa using h) fun i' e hi he => hn (i' + 1) e (by omega) (by simpa using he)
open Classical in
theorem mget_none {k : Value} : ∀ {es : List (Value × D)}, (∀ e ∈ es, e.1 ≠ k) → mget es k = none
  | [], _ => rfl
  | (k', d') :: r, hn => by
    simp only [mget]
    rw [if_neg (hn (k', d') List.mem_cons_self)]
    exact mget_none fun e he => hn e (List.mem_cons_of_mem _ he)
open Classical in
theorem mput_at {k : Value} {d d' : D} : ∀ {es : List (Value × D)} {i : Nat}, es[i]? = some (k, d') → (∀ i' e, i' < i → es[i']? = some e → e.1 ≠ k) → mput es k d = es.set i (k, d)
  | [], i, h, _ => by simp at h
  | (k', d0) :: r, i, h, hn => by
    simp only [mput]
    cases i with
    | zero => cases h; rw [if_pos rfl]; rfl
    | succ i =>
      rw [if_neg (hn 0 _ (Nat.succ_pos _) rfl)]
      rw [mput_at (d' := d') (by simpa using h) fun i' e hi he => hn (i' + 1) e (by omega) (by simpa using he)]
      rfl
open Classical in
theorem mput_new {k : Value} {d : D} : ∀ {es : List (Value × D)}, (∀ e ∈ es, e.1 ≠ k) → mput es k d = es ++ [(k, d)]
  | [], _ => rfl
  | (k', d') :: r, hn => by
    simp only [mput]
    rw [if_neg (hn (k', d') List.mem_cons_self), mput_new fun e he => hn e (List.mem_cons_of_mem _ he)]
    rfl

/-- The entries of a map block, and what they denote. -/
def MV (G : Gh) (w : World) (ks : KS) (ms : Array MapEntry) (es : List (Value × D)) : Prop :=
  ms.size = es.length ∧ (∀ (i : Nat) m, ms[i]? = some m → ks.fits m.key = true) ∧ (∀ (i : Nat) m e, ms[i]? = some m → es[i]? = some e → m.key = e.1) ∧ ∀ (i : Nat) m e, ms[i]? = some m → es[i]? = some e → V G w m.val e.2

theorem MV.fits {ks : KS} {ms : Array MapEntry} {es : List (Value × D)} (h : MV G w ks ms es) : ∀ e ∈ ms.toList, ks.fits e.key = true := fun e he => by
  obtain ⟨i, hi, rfl⟩ := List.mem_iff_getElem.1 he
  exact h.2.1 i _ (by simp at hi; simp [hi])

theorem MV.key {ks : KS} {ms : Array MapEntry} {es : List (Value × D)} (h : MV G w ks ms es) {i : Nat} {m : MapEntry} (hm : ms.toList[i]? = some m) : ∃ e, es[i]? = some e ∧ m.key = e.1 ∧ V G w m.val e.2 := by
  have hm' : ms[i]? = some m := by simpa using hm
  have hi : i < es.length := by rw [← h.1]; exact (Array.getElem?_eq_some_iff.1 hm').1
  exact ⟨es[i], List.getElem?_eq_getElem hi, h.2.2.1 i m _ hm' (List.getElem?_eq_getElem hi), h.2.2.2 i m _ hm' (List.getElem?_eq_getElem hi)⟩
theorem MV.ent {ks : KS} {ms : Array MapEntry} {es : List (Value × D)} (h : MV G w ks ms es) {i : Nat} {e : Value × D} (he : es[i]? = some e) : ∃ m, ms.toList[i]? = some m ∧ m.key = e.1 ∧ V G w m.val e.2 := by
  have hi : i < ms.size := by rw [h.1]; exact (List.getElem?_eq_some_iff.1 he).1
  exact ⟨ms[i], by simp [hi], h.2.2.1 i _ e (by simp [hi]) he, h.2.2.2 i _ e (by simp [hi]) he⟩

theorem MV.find {ks : KS} {ms : Array MapEntry} {es : List (Value × D)} (h : MV G w ks ms es) (k : Value) :
    (firstAt k ms.toList 0 = none ∧ mget es k = none ∧ ∀ e ∈ es, e.1 ≠ k) ∨ ∃ i m d, firstAt k ms.toList 0 = some (i, m.val) ∧ ms[i]? = some m ∧ m.key = k ∧ es[i]? = some (k, d) ∧ mget es k = some d ∧ V G w m.val d ∧ ∀ i' e, i' < i → es[i']? = some e → e.1 ≠ k := by
  cases hf : firstAt k ms.toList 0 with
  | none =>
    have hn : ∀ e ∈ es, e.1 ≠ k := fun e he => by
      obtain ⟨i, hi, rfl⟩ := List.mem_iff_getElem.1 he
      obtain ⟨m, hm, hk, _⟩ := h.ent (List.getElem?_eq_getElem hi)
      rw [← hk]
      exact first_none hf m (List.mem_of_getElem? hm)
    exact .inl ⟨rfl, mget_none hn, hn⟩
  | some p =>
    obtain ⟨p, v⟩ := p
    obtain ⟨i, m, h1, h2, rfl, h4, h5⟩ := first_some hf
    obtain rfl : p = i := by omega
    obtain ⟨⟨k', d⟩, he, hk, hV⟩ := h.key h2
    simp only at hk hV
    obtain rfl : k' = k := hk.symm.trans h4
    have hlt : ∀ i' e, i' < p → es[i']? = some e → e.1 ≠ k' := fun i' e hi he' => by
      obtain ⟨m', hm', hk', _⟩ := h.ent he'
      rw [← hk']
      exact h5 i' m' hi hm'
    exact .inr ⟨p, m, d, rfl, by simpa using h2, h4, he, mget_at he hlt, hV, hlt⟩

theorem lookD_run {t kt et : TypeId} {ks : KS} {ms : Array MapEntry} {clock r : Nat} {es : List (Value × D)} {k : Value} {ok : Bool} {v : D} (ht : P.underlying t = some (.map kt et)) (hks : KS.of P kt = some ks) (hk : ks.fits k = true)
    (hh : w.heap[r]? = some (.map ms clock)) (hm : MV G w ks ms es) (h : lookD P et ok (mget es k) = some v) : ∃ z, (Instr.lookup t (.map (some r)) k ok).run P w = .ok z w ∧ V G w z v := by
  have hc := checkKey_run (P := P) (w := w) hks hk ms.isEmpty
  have hf := findKey_run (P := P) (w := w) hks hk ms.toList hm.fits
  have pair : ∀ (x : Value) (d : D) (b : Bool), V G w x d → V G w (if ok then .tuple #[x, .bool b] else x) (okD ok d b) := fun x d b hV => by
    unfold okD
    cases ok with
    | false => exact hV
    | true =>
      refine .tup rfl fun i c d' hc hd => ?_
      match i, hc, hd with
      | 0, hc, hd => cases hc; cases hd; exact hV
      | 1, hc, hd => cases hc; cases hd; exact .val _
      | i + 2, hc, hd => simp at hd
  rcases hm.find k with ⟨h1, h2, _⟩ | ⟨i, m, d, h1, h2, h3, h4, h5, h6, _⟩
  · rw [h2] at h
    obtain ⟨z, hz, rfl⟩ := Option.map_eq_some_iff.1 h
    refine ⟨_, ?_, pair z (ofV z) false (V.ofV G w z)⟩
    simp only [Instr.lookup, Sem.run_bind, run_underlying ht, Result.andThen_ok, MapKept.run_getObj_map hh, Sem.run_pure, hc, hf, h1, run_zeroValue hz]
  · rw [h5] at h
    cases h
    refine ⟨_, ?_, pair m.val d true h6⟩
    simp only [Instr.lookup, Sem.run_bind, run_underlying ht, Result.andThen_ok, MapKept.run_getObj_map hh, Sem.run_pure, hc, hf, h1]

theorem lookup_run {w0 : World} {κ : Kp} (ho : Objs w0 G w κ) {t : TypeId} {x y : Value} {d i v : D} {ok : Bool} (hx : V G w x d) (hy : V G w y i) (h : lookupD P κ t d i ok = some v) : ∃ z, (Instr.lookup t x y ok).run P w = .ok z w ∧ V G w z v := by
  unfold lookupD at h
  split at h
  · rename_i kt et hmt
    have ht := mapT_spec hmt
    split at h
    · rename_i ks k hks hkd
      obtain rfl := keyD_spec hy hkd
      split at h
      · rename_i hfit
        split at h
        · rename_i ks' es hmo
          split at h
          · rename_i hke
            subst hke
            unfold mapOf at hmo
            split at hmo
            · rename_i n
              split at hmo
              · rename_i ks2 es2 hκ
                cases hmo
                obtain ⟨u, hρ, ⟨r, ms, clock, rfl, hh, hborn, hmv⟩, _⟩ := ho.ob n _ hκ
                cases hx with
                | mref hρ' =>
                  rw [hρ] at hρ'
                  cases hρ'
                  exact lookD_run ht hks hfit hh hmv h
              · cases hmo
            · cases hmo
              cases hx with
              | fmap ms clock hF hh hborn h1 h2 h3 h4 => exact lookD_run ht hks hfit hh ⟨h1, h2, h3, h4⟩ h
            · cases hmo
          · cases h
        · split at h
          · have := V.of_val hx
            subst this
            obtain ⟨z, hz, rfl⟩ := Option.map_eq_some_iff.1 h
            have hc := checkKey_run (P := P) (w := w) hks hfit true
            have hf := findKey_run (P := P) (w := w) hks hfit [] (by simp)
            refine ⟨if ok then .tuple #[z, .bool false] else z, ?_, ?_⟩
            · simp only [Instr.lookup, Sem.run_bind, run_underlying ht, Result.andThen_ok, Sem.run_pure, Array.isEmpty_empty, hc, hf, firstAt, run_zeroValue hz]
            · unfold okD
              cases ok with
              | false => exact V.ofV G w z
              | true =>
                refine .tup rfl fun i c d' hc hd => ?_
                match i, hc, hd with
                | 0, hc, hd => cases hc; cases hd; exact V.ofV G w z
                | 1, hc, hd => cases hc; cases hd; exact .val _
                | i + 2, hc, hd => simp at hd
          · cases h
      · cases h
    · cases h
  · cases h

theorem lenM_run {w0 : World} {κ : Kp} (ho : Objs w0 G w κ) {t ty : TypeId} {x : Value} {d v : D} (hx : V G w x d) (h : lenM P κ t d = some v) : ∃ z, (Builtin.len_ #[t] ty #[x]).run P w = .ok z w ∧ V G w z v := by
  unfold lenM at h
  split at h
  · rename_i ks es hmo
    split at h
    · rename_i hmt
      obtain ⟨⟨kt, et⟩, hmt⟩ := Option.isSome_iff_exists.1 hmt
      have ht := mapT_spec hmt
      cases h
      have fin : ∀ r (ms : Array MapEntry) clock, w.heap[r]? = some (.map ms clock) → ms.size = es.length → ∃ z, (Builtin.len_ #[t] ty #[.map (some r)]).run P w = .ok z w ∧ V G w z (.val (.int .i64 es.length)) := fun r ms clock hh hs => by
        refine ⟨.int .i64 es.length, ?_, .val _⟩
        rw [← hs]
        simp [Builtin.len_, run_underlying ht, MapKept.run_getObj_map hh]
        rfl
      unfold mapOf at hmo
      split at hmo
      · rename_i n
        split at hmo
        · rename_i ks2 es2 hκ
          cases hmo
          obtain ⟨u, hρ, ⟨r, ms, clock, rfl, hh, hborn, hmv⟩, _⟩ := ho.ob n _ hκ
          cases hx with
          | mref hρ' =>
            rw [hρ] at hρ'
            cases hρ'
            exact fin r ms clock hh hmv.1
        · cases hmo
      · cases hmo
        cases hx with
        | fmap ms clock hF hh hborn h1 h2 h3 h4 => exact fin _ ms clock hh h1
      · cases hmo
    · cases h
  · exact len_run hx h

end
end Go.Ab

namespace Go.Ab
open Go Go.RowKit

theorem bytes_eq_iff (a b : ByteArray) : (a.toList == b.toList) = decide (a = b) := by
  rw [Bool.eq_iff_iff]
  simp only [beq_iff_eq, decide_eq_true_eq, ByteArray.toList_eq]
  constructor
  · intro h
    cases a; cases b
    simp only at h
    congr
    exact Array.toList_inj.1 h
  · intro h; rw [h]

section
variable {P : Program} {G : Gh} {w : World}

theorem bool_run {op : BinOp} {t : TypeId} {a b : Bool} {v : Value} (h : boolD P t op a b = some v) : (binOp op t (.bool a) (.bool b)).run P w = .ok v w := by
  unfold boolD at h
  split at h
  · rename_i ht
    have ht' : P.underlying t = some .bool := by
      unfold isBoolT at ht; split at ht
      · assumption
      · cases ht
    have he := run_equal_bool w t a b ht'
    cases op <;> simp only [eqR, Option.some.injEq] at h
    all_goals first
      | (cases h; done)
      | (subst h; simp only [binOp, Sem.run_bind, he, Result.andThen_ok, Sem.run_pure]; cases a <;> cases b <;> rfl)
  · cases h

theorem ptr_run {op : BinOp} {t : TypeId} {a b : Option Addr} {v : Value} (h : ptrD P t op a b = some v) : (binOp op t (.pointer a) (.pointer b)).run P w = .ok v w := by
  unfold ptrD at h
  split at h
  · split at h
    · rename_i ht
      have ht' : P.underlying t = some (.pointer (P.pointee t)) := by
        unfold isPtrT at ht; split at ht
        · rename_i e he; rw [he]; simp [Program.pointee, he]
        · cases ht
      have he := run_equal_pointer_nil w t a ht'
      cases op <;> simp only [eqR, Option.some.injEq] at h
      all_goals first
        | (cases h; done)
        | (subst h; simp only [binOp, Sem.run_bind, he, Result.andThen_ok, Sem.run_pure])
    · cases h
  · cases h

theorem guard_ptr {op : BinOp} {t : TypeId} {xo yo : Operand} {a b : Option Addr} : eqGuard op t xo yo (.pointer a) (.pointer b) = pure () := by
  unfold eqGuard
  split <;> rfl

theorem ptr_nil {op : BinOp} {t : TypeId} {xo yo : Operand} {a : Addr} {v : D} (h : (if isPtrT P t then (eqR op false).map D.val else none) = some v) :
    ∃ z, (do eqGuard op t xo yo (.pointer (some a)) (.pointer none); binOp op t (.pointer (some a)) (.pointer none) : Sem Value).run P w = .ok z w ∧ V G w z v := by
  split at h
  · rename_i ht
    cases hr : eqR op false with
    | none => rw [hr] at h; cases h
    | some u =>
      rw [hr] at h; cases h
      refine ⟨u, ?_, .val _⟩
      rw [guard_ptr]
      simp only [Sem.run_bind, Sem.run_pure, Result.andThen_ok]
      refine ptr_run ?_
      simp only [ptrD]
      rw [if_pos ht]; exact hr
  · cases h

theorem map_nil {op : BinOp} {t : TypeId} {xo yo : Operand} {r : Option Nat} {v : D} (h : (if isMapT P t then (eqR op r.isNone).map D.val else none) = some v) :
    ∃ z, (do eqGuard op t xo yo (.map r) (.map none); binOp op t (.map r) (.map none) : Sem Value).run P w = .ok z w ∧ V G w z v := by
  split at h
  · rename_i ht
    obtain ⟨kt, et, hu⟩ : ∃ kt et, P.underlying t = some (.map kt et) := by
      unfold isMapT at ht
      split at ht
      · exact ⟨_, _, by assumption⟩
      · cases ht
    have hg : eqGuard op t xo yo (.map r) (.map none) = pure () := by
      unfold eqGuard
      split <;> cases r <;> rfl
    have he : ∀ d : Nat, (Op.equalIn (d + 1) t (.map r) (.map none)).run P w = .ok r.isNone w := fun d => by
      cases r <;> simp [Op.equalIn, run_underlying hu]
    have he' : (Op.equal t (.map r) (.map none)).run P w = .ok r.isNone w := he 9999
    simp only [Option.map_eq_some_iff] at h
    obtain ⟨u, hr, rfl⟩ := h
    refine ⟨u, ?_, .val _⟩
    rw [hg]
    cases op <;> simp only [eqR, Option.some.injEq] at hr
    all_goals first
      | (cases hr; done)
      | (subst hr; simp only [Sem.run_bind, Sem.run_pure, Result.andThen_ok, binOp, he'])
  · cases h
theorem bin_run {op : BinOp} {t : TypeId} {xo yo : Operand} {x y : Value} {d i v : D} (hx : V G w x d) (hy : V G w y i) (h : binD P t op d i = some v) :
    ∃ z, (do eqGuard op t xo yo x y; binOp op t x y : Sem Value).run P w = .ok z w ∧ V G w z v := by
  unfold binD at h
  split at h
  · rename_i k a k' b
    have := V.of_val hx
    have := V.of_val hy
    subst_vars
    split at h
    · rename_i hk
      subst hk
      have hg : eqGuard op t xo yo (.int k a) (.int k b) = pure () := by
        unfold eqGuard
        split <;> rfl
      cases op <;> simp only [intD] at h
      all_goals first
        | (simp at h; done)
        | (simp only [Option.map_some, Option.some.injEq] at h
           subst h
           refine ⟨_, ?_, .val _⟩
           simp [hg, binOp, Op.intArith, Op.intCmp]
           done)
        | skip
      · split at h
        · simp at h
        · rename_i hb
          simp only [Option.map_some, Option.some.injEq] at h
          subst h
          exact ⟨_, by simp [hg, binOp, Op.intDiv, hb], .val _⟩
      · split at h
        · simp at h
        · rename_i hb
          simp only [Option.map_some, Option.some.injEq] at h
          subst h
          exact ⟨_, by simp [hg, binOp, Op.intDiv, hb], .val _⟩
      · simp only [Option.map_some, Option.some.injEq] at h
        subst h
        exact ⟨_, by simp [hg, binOp, Op.intCmp]; rfl, by rw [show (a == b) = decide (a = b) from by rw [Bool.eq_iff_iff]; simp]; exact .val _⟩
      · simp only [Option.map_some, Option.some.injEq] at h
        subst h
        exact ⟨_, by simp [hg, binOp, Op.intCmp]; rfl, by rw [show (a != b) = !decide (a = b) from by rw [Bool.eq_iff_iff]; simp]; exact .val _⟩
    · cases h
  · rename_i a b
    have := V.of_val hx
    have := V.of_val hy
    subst_vars
    have hg : eqGuard op t xo yo (.string a) (.string b) = pure () := by
      unfold eqGuard
      split <;> rfl
    cases op <;> simp only [strD] at h
    all_goals first
      | (simp at h; done)
      | (simp only [Option.map_some, Option.some.injEq] at h
         subst h
         refine ⟨_, ?_, .val _⟩
         simp [hg, binOp, Op.stringOp, bytes_eq_iff]
         done)
      | skip
    · split at h
      · rename_i hs
        simp only [Option.map_some, Option.some.injEq] at h
        subst h
        refine ⟨_, ?_, .val _⟩
        have : ¬ (((a.size + b.size : Nat) : Int) > IntKind.i64.max) := by simp [IntKind.max, IntKind.signed, IntKind.bits]; omega
        simp only [hg, binOp, Op.stringOp]
        rw [if_neg this]
        simp
      · simp at h
  · rename_i a b
    have := V.of_val hx
    have := V.of_val hy
    subst_vars
    have hg : eqGuard op t xo yo (.bool a) (.bool b) = pure () := by
      unfold eqGuard
      split <;> rfl
    cases hr : boolD P t op a b with
    | none => rw [hr] at h; cases h
    | some u =>
      rw [hr] at h; cases h
      exact ⟨u, by rw [hg]; simp only [Sem.run_bind, Sem.run_pure, Result.andThen_ok]; exact bool_run hr, .val _⟩
  · rename_i a b
    have := V.of_val hx
    have := V.of_val hy
    subst_vars
    cases hr : ptrD P t op a b with
    | none => rw [hr] at h; cases h
    | some u =>
      rw [hr] at h; cases h
      exact ⟨u, by rw [guard_ptr]; simp only [Sem.run_bind, Sem.run_pure, Result.andThen_ok]; exact ptr_run hr, .val _⟩
  · have := V.of_val hy
    subst this
    split at h
    · rename_i e r he hr
      have ht := elemS_spec he
      have hg : ∀ a l c, eqGuard op t xo yo (.slice a l c) (.slice none 0 0) = pure () := fun a l c => by
        unfold eqGuard
        split <;> rfl
      have hrun : ∀ a l c, ∃ b, (do eqGuard op t xo yo (.slice a l c) (.slice none 0 0); binOp op t (.slice a l c) (.slice none 0 0) : Sem Value).run P w = .ok (.bool b) w ∧ (a.isNone = false → r = .bool b) := fun a l c => by
        have he := run_equal_slice_nil w t e a l c ht
        rw [hg]
        cases op <;> simp only [eqR, Option.some.injEq] at hr
        all_goals first
          | (cases hr; done)
          | (subst hr; refine ⟨_, by simp only [Sem.run_bind, Sem.run_pure, Result.andThen_ok, binOp, he]; rfl, fun h => by rw [h]⟩)
      split at h
      · cases h
        cases hx with
        | nilsl => obtain ⟨b, hb, _⟩ := hrun none 0 0; exact ⟨_, hb, .unk b⟩
        | esl a => obtain ⟨b, hb, _⟩ := hrun (some a) 0 0; exact ⟨_, hb, .unk b⟩
        | sl X h1 h2 h3 h4 h5 h6 h7 => obtain ⟨b, hb, _⟩ := hrun _ _ _; exact ⟨_, hb, .unk b⟩
      · cases h
        cases hx with
        | sl X h1 h2 h3 h4 h5 h6 h7 => obtain ⟨b, hb, hb2⟩ := hrun _ _ _; exact ⟨_, hb, by rw [hb2 rfl]; exact .val _⟩
    · cases h
  · rename_i l c
    have := V.of_val hx
    have := V.of_val hy
    subst_vars
    split at h
    · rename_i e he
      have ht := elemS_spec he
      have hg : eqGuard op t xo yo (.slice none l c) (.slice none 0 0) = pure () := by
        unfold eqGuard
        split <;> rfl
      have he := run_equal_slice_nil w t e none l c ht
      simp only [Option.map_eq_some_iff] at h
      obtain ⟨r, hr, rfl⟩ := h
      refine ⟨r, ?_, .val _⟩
      rw [hg]
      cases op <;> simp only [eqR, Option.some.injEq] at hr
      all_goals first
        | (cases hr; done)
        | (subst hr; simp only [Sem.run_bind, Sem.run_pure, Result.andThen_ok, binOp, he]; rfl)
    · cases h
  · have := V.of_val hy
    subst this
    cases hx
    exact ptr_nil h
  · have := V.of_val hy
    subst this
    cases hx
    exact ptr_nil h
  · have := V.of_val hy
    subst this
    cases hx
    exact ptr_nil h
  · have := V.of_val hy
    subst this
    cases hx
    exact map_nil h
  · have := V.of_val hy
    subst this
    cases hx
    exact map_nil h
  · have := V.of_val hy
    have := V.of_val hx
    subst_vars
    exact map_nil h
  · cases h

theorem un_run {op : UnOp} {x : Value} {d v : D} (hx : V G w x d) (h : unD op d = some v) : ∃ z, (Op.unary op x).run P w = .ok z w ∧ V G w z v := by
  unfold unD at h
  split at h
  · split at h
    · cases h
      cases hx with
      | unk b => exact ⟨.bool (!b), by simp [Op.unary], .unk _⟩
    · cases h
  · have := V.of_val hx
    subst this
    split at h
    · cases h; exact ⟨_, by simp [Op.unary], .val _⟩
    · cases h
  · have := V.of_val hx
    subst this
    split at h
    · cases h; exact ⟨_, by simp [Op.unary, Op.intArith], .val _⟩
    · cases h
  · cases h

theorem numsOf_spec : ∀ {rows : List D} {ns : List Int}, numsOf rows = some ns → rows = ns.map fun n => D.val (.int .u8 n)
  | [], ns, h => by simp only [numsOf, Option.some.injEq] at h; subst h; rfl
  | .val (.int .u8 n) :: r, ns, h => by
    simp only [numsOf] at h
    cases hr : numsOf r with
    | none => rw [hr] at h; cases h
    | some l => rw [hr] at h; cases h; rw [numsOf_spec hr]; rfl

theorem isBytesT_spec {t : TypeId} (h : isBytesT P t = true) : ∃ e, P.underlying t = some (.slice e) ∧ P.underlying e = some (.int .u8) := by
  unfold isBytesT at h
  split at h
  · rename_i e he
    split at h
    · exact ⟨e, he, by assumption⟩
    · cases h
  · cases h

theorem conv_bytes {s t : TypeId} {x : Value} {b : Bool} {rows : List D} {v : D} (hx : V G w x (.sl b rows)) (h : (if isBytesT P s = true ∧ isStr P t = true then (numsOf rows).map fun ns => D.val (.string (strOfNums ns)) else none) = some v) : ∃ z, (convert s t x).run P w = .ok z w ∧ V G w z v := by
  split at h
  · rename_i ht
    obtain ⟨e, he1, he2⟩ := isBytesT_spec ht.1
    cases hn : numsOf rows with
    | none => rw [hn] at h; cases h
    | some ns =>
      rw [hn] at h
      cases h
      have hrows := numsOf_spec hn
      refine ⟨_, ?_, .val _⟩
      cases hx with
      | nilsl =>
        have : ns = [] := by simpa using hrows.symm
        subst this
        rw [run_convert_bytes_nil w s e he1 he2 0 0 t (isStr_spec ht.2)]
        rfl
      | esl a =>
        have : ns = [] := by simpa using hrows.symm
        subst this
        have hl : (loadCells a 0).run P w = .ok #[] w := run_loadCells_list (P := P) w a [] (fun j v hj => by simp at hj)
        rw [run_convert_bytes_string w s t e _ 0 0 he1 he2 (isStr_spec ht.2)]
        simp [Conv.bytesToString, hl]
        rfl
      | sl X h1 h2 h3 h4 h5 h6 h7 =>
        subst hrows
        refine run_convert_bytes_arg w s e he1 he2 _ _ _ _ ns (by rw [h1]; simp) (fun i hi => ?_) t (isStr_spec ht.2)
        have hil : i < ns.length := by rw [h1] at hi; simpa using hi
        have hr : (ns.map fun n => D.val (.int .u8 n))[i]? = some (.val (.int .u8 ns[i])) := by simp [hil]
        have hk := h5 i _ hr
        have hk : 1 = _ := hk
        have c := h6 i _ 0 (.val (.int .u8 ns[i])) hr rfl
        have v := V.of_val (h7 i _ 0 (.val (.int .u8 ns[i])) hr rfl)
        rw [← hk, Nat.mul_one, Nat.add_zero, v] at c
        rw [c]
        simp [List.getD, hil]
  · cases h

theorem conv_run {s t : TypeId} {x : Value} {d v : D} (hx : V G w x d) (h : convD P s t d = some v) : ∃ z, (convert s t x).run P w = .ok z w ∧ V G w z v := by
  unfold convD at h
  split at h
  · exact conv_bytes hx h
  · have := V.of_val hx
    subst this
    split at h
    · rename_i k hs' hk
      cases h
      obtain ⟨u, hs⟩ := Option.isSome_iff_exists.1 hs'
      unfold intOfT at hk
      split at hk
      · rename_i k' hu
        cases hk
        refine ⟨_, ?_, .val _⟩
        simp [convert, run_underlying hs, run_underlying hu, Conv.intToInt]
      · cases hk
    · cases h
  · have := V.of_val hx
    subst this
    split at h
    · rename_i hs' hk
      cases h
      obtain ⟨u, hs⟩ := Option.isSome_iff_exists.1 hs'
      refine ⟨_, ?_, .val _⟩
      simp [convert, run_underlying hs, run_underlying (isStr_spec hk)]
    · cases h
  · cases h

theorem nil_run {o : Oper} {xo : Operand} {ρ : Operand → Value} (hop : o.op = .nilCheck xo) {d v : D} (hx : V G w (ρ xo) d) (h : nilD d = some v) : ∃ z, (execOp ρ o).run P w = .ok (.value z) w ∧ V G w z v := by
  refine ⟨ρ xo, ?_, ?_⟩
  · generalize hv : ρ xo = x at hx
    cases hx with
    | ptr => simp [execOp, hop, hv]
    | aptr => simp [execOp, hop, hv]
    | eptr => simp [execOp, hop, hv]
    | func h1 h2 h3 h4 =>
      rename_i fn _ _ _ _
      cases fn <;> simp [nilD] at h
      simp [execOp, hop, hv]
    | _ => simp [nilD] at h
  · cases d <;> simp [nilD] at h
    case func fn a b => cases fn <;> simp at h; subst h; exact hx
    all_goals (subst h; exact hx)

end
end Go.Ab
