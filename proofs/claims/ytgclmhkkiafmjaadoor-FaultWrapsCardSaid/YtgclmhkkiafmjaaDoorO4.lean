/- A part of the proof, under no conditions of its own: O4. -/
import Derived.Test.YtgclmhkkiafmjaaDoorD1
import Derived.Test.YtgclmhkkiafmjaaDoorXE
import Derived.OpenShut
import Derived.LaidSub
import Derived.LaidHandle
import Derived.Lib.LaidTab
namespace Go.Proofs.T
open Go Go.Ab Go.RowKit

/-! # What the package-level variables hold, off the row's condition -/

theorem ba_of_list {s : ByteArray} {l : List UInt8} (h : s.data.toList = l) : s = ⟨l.toArray⟩ := by
  subst h
  apply ByteArray.ext
  simp
theorem strs_cells {W : World} {g : Nat} {t e : TypeId} {n : Nat} {name : String} {ss : List ByteArray} (hg : Tryd.prog.globalNamed name = some g) (hty : (Tryd.prog.globals[g]?).map (·.type) = some t)
    (ht : Tryd.prog.underlying t = some (.array n e)) (he : Tryd.prog.underlying e = some .string) (hce : Tryd.prog.cellsOf e = 1)
    (h : laidMet Tryd.prog [(name, .agg (ss.map fun s => .lit (.string s.data.toList)))] W) (i : Nat) (s : ByteArray) (hs : ss[i]? = some s) : W.cell? ⟨g, i, none⟩ = some (.string s) := by
  obtain ⟨ps, ⟨g', t', cs, fuel, p, q, hg', ht', hvar, hd, _, _⟩, _⟩ := h
  obtain rfl := Option.some.inj (hg.symm.trans hg')
  obtain rfl := Option.some.inj (hty.symm.trans ht')
  rw [World.var?_cell hg hvar i]
  obtain ⟨xs, m, rfl, hx, hl, hxl, hf⟩ := DataW.trod_array ht hd
  have hxs : xs.map (·.1) = ss.map fun s => (DataW.lit (.string s.data.toList) : DataW Unit) := by
    have := congrArg Prod.fst hx
    simpa using this.symm
  have hin : i < n := by
    have h1 : ss.length = xs.length := by
      have := congrArg List.length hxs
      simpa using this.symm
    have := (List.getElem?_eq_some_iff.1 hs).1
    omega
  have h1 := hf i hin
  rw [hce, Nat.mul_one, List.getElem?_eq_getElem (by omega)] at h1
  obtain ⟨s', hc, hy, _⟩ := DataW.trod_string he h1
  have h2 : (xs.map (·.1))[i]? = some (DataW.lit (.string s'.data.toList) : DataW Unit) := by
    rw [List.getElem?_map, List.getElem?_eq_getElem (by omega), hy]
    rfl
  rw [hxs, List.getElem?_map, hs] at h2
  have h3 : s.data.toList = s'.data.toList := by simpa using h2
  have h4 : s = s' := (ba_of_list h3).trans (ba_of_list rfl).symm
  have h5 := congrArg (·[0]?) hc
  have h6 : cs.toList[i]? = some (.string s') := by simpa [List.getElem?_take, List.getElem?_drop] using h5
  rw [h4]
  simpa using h6

theorem oneRow : ((List.range Tryd.prog.types.size).filter fun t => Tryd.prog.rowNamed t [101, 114, 114, 111, 114]) = [28] := by kernel_rfl
theorem rtRow : (Tryd.prog.cutTypes.find? (·.1 == "internal/reflectlite.rtype")).map (·.2) = some 78 := by kernel_rfl
theorem laid2_of {W : World} {l : List (String × DataW Unit)} (hm : laidMet Tryd.prog l W) (hp : (l.filter fun x => x.1 == "internal/strconv.uint64pow10") = [("internal/strconv.uint64pow10", Lib.tabData .u64 Lib.pow10Tab)])
    (hn : (l.filter fun x => x.1 == "castings/fault.names") = [("castings/fault.names", .agg (nameS.map fun s => .lit (.string s.data.toList)))])
    (hh : handlesMet Tryd.prog [("errors.errorType", .iface "internal/reflectlite.rtype" (.agg [.ptr (.lit (.string [101, 114, 114, 111, 114]))]))] W) : Laid2 W where
  tab := by
    have h2 := hm.filter (fun x => x.1 == "internal/strconv.uint64pow10")
    rw [hp] at h2
    exact Lib.tabIs_of_head (g := 2) (t := 101) (e := 93) (n := 20) (by kernel_rfl) (by kernel_rfl) (by kernel_rfl) (by kernel_rfl) (by kernel_rfl) (by kernel_rfl) h2
  err := by
    obtain ⟨name, u, ty, e1, e2, e3, e4, e5⟩ := hh _ (List.mem_singleton.2 rfl)
    have en : name = [101, 114, 114, 111, 114] := (Option.some.inj e1).symm
    subst en
    obtain rfl := Option.some.inj (rtRow.symm.trans e2)
    have hm : ty ∈ (List.range Tryd.prog.types.size).filter fun t => Tryd.prog.rowNamed t [101, 114, 114, 111, 114] := List.mem_filter.2 ⟨List.mem_range.2 e3, e4⟩
    rw [oneRow] at hm
    obtain rfl := List.mem_singleton.1 hm
    have hx : typeHandle Tryd.prog 28 = errT := by kernel_rfl
    rw [hx] at e5
    exact World.var?_cell (by kernel_rfl) e5 0
  names := by
    have h2 := hm.filter (fun x => x.1 == "castings/fault.names")
    rw [hn] at h2
    exact strs_cells (t := 54) (e := 9) (n := 7) (by kernel_rfl) (by kernel_rfl) (by kernel_rfl) (by kernel_rfl) (by kernel_rfl) h2

/-! # What the arguments denote -/

variable {H : Type} {enc : TypeId × Value → H} {w : World}

theorem opStr (n : Nat) : Opens enc Tryd.prog w 9 (fun s : Str => [.val (.string s)]) (fun s => s.size ≤ 9223372036854775807) n := opens_str (by kernel_rfl) n
theorem opInt (n : Nat) : Opens enc Tryd.prog w 3 (fun i : Int => [.val (.int .i64 i)]) (fun i => -9223372036854775808 ≤ i ∧ i ≤ 9223372036854775807) n := opens_int (by kernel_rfl) n
theorem opBool (n : Nat) : Opens enc Tryd.prog w 4 (fun b : Bool => [.val (.bool b)]) (fun _ => True) n := opens_bool (by kernel_rfl) n
theorem opI32 (n : Nat) : Opens enc Tryd.prog w 21 (fun i : Int => [.val (.int .i32 i)]) (fun i => -2147483648 ≤ i ∧ i ≤ 2147483647) n := by
  intro cs x h
  obtain ⟨m, rfl, _, hw⟩ := DataW.trod_int (k := .i32) (show Tryd.prog.underlying 21 = some (.int .i32) by kernel_rfl) h
  simp [Lit.wf, IntKind.min, IntKind.max, IntKind.signed, IntKind.bits] at hw
  exact ⟨m, ⟨by omega, by omega⟩, rfl, one_seg (.val _)⟩
theorem opStrs (n : Nat) : Opens enc Tryd.prog w 22 (fun l : List Str => [slS l]) (fun l => l.length ≤ 9223372036854775807 ∧ ∀ a ∈ l, a.size ≤ 9223372036854775807) n :=
  opens_slb (e := 9) (k := 1) (f := encS) (by kernel_rfl) (by kernel_rfl) (by decide) (fun a => rfl) (fun m _ => opStr m)
theorem opEr (n : Nat) : Opens enc Tryd.prog w 24 erC okEr n := by
  cases n with
  | zero => exact Opens.zero
  | succ n =>
    intro cs x h
    obtain ⟨b, _, s1⟩ := open_at 0 (show fieldAt Tryd.prog 24 0 = some (4, 0) by kernel_rfl) h (opBool n)
    obtain ⟨ps, k2, s2⟩ := open_at 1 (show fieldAt Tryd.prog 24 1 = some (22, 1) by kernel_rfl) h (opStrs n)
    obtain ⟨c, k3, s3⟩ := open_at 2 (show fieldAt Tryd.prog 24 2 = some (3, 2) by kernel_rfl) h (opInt n)
    obtain ⟨a, k4, s4⟩ := open_at 3 (show fieldAt Tryd.prog 24 3 = some (3, 3) by kernel_rfl) h (opInt n)
    obtain ⟨f, _, s5⟩ := open_at 4 (show fieldAt Tryd.prog 24 4 = some (4, 4) by kernel_rfl) h (opBool n)
    exact ⟨⟨b, ps, c, a, f⟩, ⟨k2, k3, k4⟩, (open_len (by kernel_rfl) h).trans (by kernel_rfl), (((s1.app s2 rfl).app s3 rfl).app s4 rfl).app s5 rfl⟩

set_option maxRecDepth 100000
variable {b0 : Nat} {v : Value} {d : DataW H} {ps : List MemPlace}
theorem argEr (hval : Value.okWide Tryd.prog w .any b0 24 v) (h : DataW.Trod enc Tryd.prog w 0 (fun _ => true) true 24 v d ps) : ∃ s, okEr s ∧ V (G0 w) w v (encEr s) := open_agg (by kernel_rfl) opEr hval h
theorem argStr (hval : Value.okWide Tryd.prog w .any b0 9 v) (h : DataW.Trod enc Tryd.prog w 0 (fun _ => true) true 9 v d ps) : ∃ s : Str, s.size ≤ 9223372036854775807 ∧ V (G0 w) w v (encS s) :=
  open_cell (not_agg_string (by kernel_rfl)) opStr hval h
theorem argInt (hval : Value.okWide Tryd.prog w .any b0 3 v) (h : DataW.Trod enc Tryd.prog w 0 (fun _ => true) true 3 v d ps) : ∃ s : Int, (-9223372036854775808 ≤ s ∧ s ≤ 9223372036854775807) ∧ V (G0 w) w v (dI s) :=
  open_cell (f := fun s : Int => D.val (.int .i64 s)) (not_agg_int (k := .i64) (by kernel_rfl)) opInt hval h
theorem argI32 (hval : Value.okWide Tryd.prog w .any b0 21 v) (h : DataW.Trod enc Tryd.prog w 0 (fun _ => true) true 21 v d ps) : ∃ s : Int, (-2147483648 ≤ s ∧ s ≤ 2147483647) ∧ V (G0 w) w v (.val (.int .i32 s)) :=
  open_cell (f := fun s : Int => D.val (.int .i32 s)) (not_agg_int (k := .i32) (by kernel_rfl)) opI32 hval h
def zEr : Value := .agg #[.bool false, .slice none 0 0, .int .i64 0, .int .i64 0, .bool false]
end Go.Proofs.T

