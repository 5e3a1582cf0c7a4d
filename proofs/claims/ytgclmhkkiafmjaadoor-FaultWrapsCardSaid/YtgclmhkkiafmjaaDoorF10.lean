/- A part of the proof, under no conditions of its own: F10. -/
import Derived.Test.YtgclmhkkiafmjaaDoorXE
import Derived.Lib.ItoaNum
import Derived.Test.YtgclmhkkiafmjaaDoorProg
namespace Go.Proofs.T
open Go Go.Ab Go.RowKit

/-! ## What the package-level variables hold -/

def errT : Value := .pointer (some ⟨5, 28, none⟩)
def nameS : List ByteArray := [⟨#[]⟩, ⟨#[108, 101, 120]⟩, ⟨#[112, 97, 114, 115, 101]⟩, ⟨#[100, 101, 101, 112]⟩, ⟨#[116, 121, 112, 101]⟩, ⟨#[110, 111, 109, 111, 110, 111]⟩, ⟨#[98, 117, 100, 103, 101, 116]⟩]
def nameD : List D := nameS.map fun s => .val (.string s)
structure Laid2 (w : World) : Prop where
  tab : Lib.TabIs Tryd.prog w "internal/strconv.uint64pow10" .u64 Lib.pow10Tab
  err : w.cell? ⟨1, 0, none⟩ = some (.iface 78 (.agg #[errT]))
  names : ∀ (i : Nat) s, nameS[i]? = some s → w.cell? ⟨0, i, none⟩ = some (.string s)
def globD : Nat → D
  | 0 => .eptr nameD
  | 1 => .eptr [.iface 78 (.agg [.val errT])]
  | _ => .any
theorem lt_of_cell {w : World} {a : Addr} {v : Value} (h : w.cell? a = some v) : a.block < w.heap.size := by
  rcases Nat.lt_or_ge a.block w.heap.size with h' | h'
  · exact h'
  · simp [World.cell?, Array.getElem?_eq_none h'] at h
theorem globD_ok (w0 : World) (hA : Laid2 w0) (G : Gh) (w : World) (hw : WF w0 G w) : ∀ g, V G w (.pointer (some ⟨g, 0, none⟩)) (globD g)
  | 0 => by
    have h0 : (0 : Nat) < w0.heap.size := lt_of_cell (hA.names 0 _ rfl)
    refine .eptr (fun j => .string (nameS.getD j default)) (hw.old _ h0) (fun j d hj => ?_) (fun j d hj => ?_) <;>
      (unfold nameD at hj; rw [List.getElem?_map] at hj; obtain ⟨s, hs, rfl⟩ := Option.map_eq_some_iff.1 hj)
    · rw [World.cell?_of_block (hw.below.block _ h0)]
      have := hA.names j s hs
      simpa [List.getD_eq_getElem?_getD, hs] using this
    · simp only [List.getD_eq_getElem?_getD, hs, Option.getD_some]
      exact .val _
  | 1 => by
    have h0 : (1 : Nat) < w0.heap.size := lt_of_cell hA.err
    refine .eptr (fun _ => .iface 78 (.agg #[errT])) (hw.old _ h0) (fun j d hj => ?_) (fun j d hj => ?_)
    · rw [World.cell?_of_block (hw.below.block _ h0)]
      match j, hj with
      | 0, _ => exact hA.err
      | n + 1, hj => simp at hj
    · match j, hj with
      | 0, hj =>
        cases hj
        exact .iface (.agg rfl fun i c d hc hd => by
          match i, hc, hd with
          | 0, hc, hd => cases hc; cases hd; exact .val _
          | n + 1, hc, hd => simp at hd)
      | n + 1, hj => simp at hj
  | n + 2 => .any _

noncomputable def E : Ctx := { P := Tryd.prog, A := Laid2, glob := globD, hglob := globD_ok, mixed := by kernel_rfl }
@[go_sem] theorem E_P : E.P = Tryd.prog := rfl
@[go_sem] theorem E_glob0 : E.glob 0 = .eptr nameD := rfl
@[go_sem] theorem E_glob1 : E.glob 1 = .eptr [.iface 78 (.agg [.val errT])] := rfl
@[go_sem] theorem sz0 : szOf Tryd.prog 0 = some 1 := by kernel_rfl
@[go_sem] theorem ag0 : aggOf Tryd.prog 0 = some false := by kernel_rfl
@[go_sem] theorem es0 : elemS Tryd.prog 0 = none := by kernel_rfl
@[go_sem] theorem ha0 : hasT Tryd.prog 0 = true := by kernel_rfl
@[go_sem] theorem ic0 : isIfc Tryd.prog 0 = false := by kernel_rfl
@[go_sem] theorem by0 : bytesOf Tryd.prog 0 = some 0 := by kernel_rfl
@[go_sem] theorem sz1 : szOf Tryd.prog 1 = some 1 := by kernel_rfl
@[go_sem] theorem ag1 : aggOf Tryd.prog 1 = some false := by kernel_rfl
@[go_sem] theorem es1 : elemS Tryd.prog 1 = none := by kernel_rfl
@[go_sem] theorem ha1 : hasT Tryd.prog 1 = true := by kernel_rfl
@[go_sem] theorem ic1 : isIfc Tryd.prog 1 = false := by kernel_rfl
@[go_sem] theorem by1 : bytesOf Tryd.prog 1 = some 8 := by kernel_rfl
@[go_sem] theorem ze1 : zeroOf Tryd.prog 1 = some .nilFunc := by kernel_rfl
@[go_sem] theorem sz2 : szOf Tryd.prog 2 = some 1 := by kernel_rfl
@[go_sem] theorem ag2 : aggOf Tryd.prog 2 = some false := by kernel_rfl
@[go_sem] theorem es2 : elemS Tryd.prog 2 = none := by kernel_rfl
@[go_sem] theorem ha2 : hasT Tryd.prog 2 = true := by kernel_rfl
@[go_sem] theorem ic2 : isIfc Tryd.prog 2 = false := by kernel_rfl
@[go_sem] theorem io2 : intOfT Tryd.prog 2 = some .i64 := by kernel_rfl
@[go_sem] theorem by2 : bytesOf Tryd.prog 2 = some 8 := by kernel_rfl
@[go_sem] theorem ze2 : zeroOf Tryd.prog 2 = some (.int .i64 0) := by kernel_rfl
@[go_sem] theorem sz3 : szOf Tryd.prog 3 = some 1 := by kernel_rfl
@[go_sem] theorem ag3 : aggOf Tryd.prog 3 = some false := by kernel_rfl
@[go_sem] theorem es3 : elemS Tryd.prog 3 = none := by kernel_rfl
@[go_sem] theorem ha3 : hasT Tryd.prog 3 = true := by kernel_rfl
@[go_sem] theorem ic3 : isIfc Tryd.prog 3 = false := by kernel_rfl
@[go_sem] theorem io3 : intOfT Tryd.prog 3 = some .i64 := by kernel_rfl
@[go_sem] theorem by3 : bytesOf Tryd.prog 3 = some 8 := by kernel_rfl
@[go_sem] theorem ze3 : zeroOf Tryd.prog 3 = some (.int .i64 0) := by kernel_rfl
@[go_sem] theorem sz4 : szOf Tryd.prog 4 = some 1 := by kernel_rfl
@[go_sem] theorem ag4 : aggOf Tryd.prog 4 = some false := by kernel_rfl
@[go_sem] theorem es4 : elemS Tryd.prog 4 = none := by kernel_rfl
@[go_sem] theorem ha4 : hasT Tryd.prog 4 = true := by kernel_rfl
@[go_sem] theorem ic4 : isIfc Tryd.prog 4 = false := by kernel_rfl
@[go_sem] theorem by4 : bytesOf Tryd.prog 4 = some 1 := by kernel_rfl
@[go_sem] theorem ib4 : isBoolT Tryd.prog 4 = true := by kernel_rfl
@[go_sem] theorem ze4 : zeroOf Tryd.prog 4 = some (.bool false) := by kernel_rfl
@[go_sem] theorem sz5 : szOf Tryd.prog 5 = some 1 := by kernel_rfl
@[go_sem] theorem ag5 : aggOf Tryd.prog 5 = some false := by kernel_rfl
@[go_sem] theorem es5 : elemS Tryd.prog 5 = none := by kernel_rfl
@[go_sem] theorem ha5 : hasT Tryd.prog 5 = true := by kernel_rfl
@[go_sem] theorem ic5 : isIfc Tryd.prog 5 = false := by kernel_rfl
@[go_sem] theorem io5 : intOfT Tryd.prog 5 = some .u8 := by kernel_rfl
@[go_sem] theorem by5 : bytesOf Tryd.prog 5 = some 1 := by kernel_rfl
@[go_sem] theorem ze5 : zeroOf Tryd.prog 5 = some (.int .u8 0) := by kernel_rfl
@[go_sem] theorem sz6 : szOf Tryd.prog 6 = some 1 := by kernel_rfl
@[go_sem] theorem ag6 : aggOf Tryd.prog 6 = some false := by kernel_rfl
@[go_sem] theorem es6 : elemS Tryd.prog 6 = none := by kernel_rfl
@[go_sem] theorem ha6 : hasT Tryd.prog 6 = true := by kernel_rfl
@[go_sem] theorem ic6 : isIfc Tryd.prog 6 = false := by kernel_rfl
@[go_sem] theorem io6 : intOfT Tryd.prog 6 = some .u8 := by kernel_rfl
@[go_sem] theorem by6 : bytesOf Tryd.prog 6 = some 1 := by kernel_rfl
@[go_sem] theorem ze6 : zeroOf Tryd.prog 6 = some (.int .u8 0) := by kernel_rfl
@[go_sem] theorem sz7 : szOf Tryd.prog 7 = some 4 := by kernel_rfl
@[go_sem] theorem ag7 : aggOf Tryd.prog 7 = some true := by kernel_rfl
@[go_sem] theorem fl7_0 : fldOf Tryd.prog 7 0 = some (0, 2) := by kernel_rfl
@[go_sem] theorem fl7_1 : fldOf Tryd.prog 7 1 = some (1, 3) := by kernel_rfl
@[go_sem] theorem fl7_2 : fldOf Tryd.prog 7 2 = some (2, 4) := by kernel_rfl
@[go_sem] theorem fl7_3 : fldOf Tryd.prog 7 3 = some (3, 6) := by kernel_rfl
@[go_sem] theorem es7 : elemS Tryd.prog 7 = none := by kernel_rfl
@[go_sem] theorem ha7 : hasT Tryd.prog 7 = true := by kernel_rfl
@[go_sem] theorem ic7 : isIfc Tryd.prog 7 = false := by kernel_rfl
@[go_sem] theorem pl7 : placesOf Tryd.prog 7 = some [(0, 1), (1, 1), (2, 1), (3, 1)] := by kernel_rfl
@[go_sem] theorem by7 : bytesOf Tryd.prog 7 = some 24 := by kernel_rfl
@[go_sem] theorem ze7 : zeroOf Tryd.prog 7 = some (.agg #[(.int .i64 0), (.int .i64 0), (.bool false), (.int .u8 0)]) := by kernel_rfl
@[go_sem] theorem sz8 : szOf Tryd.prog 8 = some 4 := by kernel_rfl
@[go_sem] theorem ag8 : aggOf Tryd.prog 8 = some true := by kernel_rfl
@[go_sem] theorem fl8_0 : fldOf Tryd.prog 8 0 = some (0, 2) := by kernel_rfl
@[go_sem] theorem fl8_1 : fldOf Tryd.prog 8 1 = some (1, 3) := by kernel_rfl
@[go_sem] theorem fl8_2 : fldOf Tryd.prog 8 2 = some (2, 4) := by kernel_rfl
@[go_sem] theorem fl8_3 : fldOf Tryd.prog 8 3 = some (3, 6) := by kernel_rfl
@[go_sem] theorem es8 : elemS Tryd.prog 8 = none := by kernel_rfl
@[go_sem] theorem ha8 : hasT Tryd.prog 8 = true := by kernel_rfl
@[go_sem] theorem ic8 : isIfc Tryd.prog 8 = false := by kernel_rfl
@[go_sem] theorem pl8 : placesOf Tryd.prog 8 = some [(0, 1), (1, 1), (2, 1), (3, 1)] := by kernel_rfl
@[go_sem] theorem by8 : bytesOf Tryd.prog 8 = some 24 := by kernel_rfl
@[go_sem] theorem ze8 : zeroOf Tryd.prog 8 = some (.agg #[(.int .i64 0), (.int .i64 0), (.bool false), (.int .u8 0)]) := by kernel_rfl
@[go_sem] theorem sz9 : szOf Tryd.prog 9 = some 1 := by kernel_rfl
@[go_sem] theorem ag9 : aggOf Tryd.prog 9 = some false := by kernel_rfl
@[go_sem] theorem es9 : elemS Tryd.prog 9 = none := by kernel_rfl
@[go_sem] theorem ha9 : hasT Tryd.prog 9 = true := by kernel_rfl
@[go_sem] theorem st9 : isStr Tryd.prog 9 = true := by kernel_rfl
@[go_sem] theorem ic9 : isIfc Tryd.prog 9 = false := by kernel_rfl
@[go_sem] theorem by9 : bytesOf Tryd.prog 9 = some 16 := by kernel_rfl
@[go_sem] theorem ze9 : zeroOf Tryd.prog 9 = some (.string ByteArray.empty) := by kernel_rfl
@[go_sem] theorem sz10 : szOf Tryd.prog 10 = some 1 := by kernel_rfl
@[go_sem] theorem ag10 : aggOf Tryd.prog 10 = some false := by kernel_rfl
@[go_sem] theorem es10 : elemS Tryd.prog 10 = none := by kernel_rfl
@[go_sem] theorem ha10 : hasT Tryd.prog 10 = true := by kernel_rfl
@[go_sem] theorem st10 : isStr Tryd.prog 10 = true := by kernel_rfl
@[go_sem] theorem ic10 : isIfc Tryd.prog 10 = false := by kernel_rfl
@[go_sem] theorem by10 : bytesOf Tryd.prog 10 = some 16 := by kernel_rfl
@[go_sem] theorem ze10 : zeroOf Tryd.prog 10 = some (.string ByteArray.empty) := by kernel_rfl
@[go_sem] theorem sz11 : szOf Tryd.prog 11 = some 1 := by kernel_rfl
@[go_sem] theorem ag11 : aggOf Tryd.prog 11 = some false := by kernel_rfl
@[go_sem] theorem es11 : elemS Tryd.prog 11 = none := by kernel_rfl
@[go_sem] theorem ha11 : hasT Tryd.prog 11 = true := by kernel_rfl
@[go_sem] theorem st11 : isStr Tryd.prog 11 = true := by kernel_rfl
@[go_sem] theorem ic11 : isIfc Tryd.prog 11 = false := by kernel_rfl
@[go_sem] theorem by11 : bytesOf Tryd.prog 11 = some 16 := by kernel_rfl
@[go_sem] theorem ze11 : zeroOf Tryd.prog 11 = some (.string ByteArray.empty) := by kernel_rfl
@[go_sem] theorem sz12 : szOf Tryd.prog 12 = some 1 := by kernel_rfl
@[go_sem] theorem ag12 : aggOf Tryd.prog 12 = some false := by kernel_rfl
@[go_sem] theorem es12 : elemS Tryd.prog 12 = none := by kernel_rfl
@[go_sem] theorem ha12 : hasT Tryd.prog 12 = true := by kernel_rfl
@[go_sem] theorem ic12 : isIfc Tryd.prog 12 = false := by kernel_rfl
@[go_sem] theorem io12 : intOfT Tryd.prog 12 = some .u64 := by kernel_rfl
@[go_sem] theorem by12 : bytesOf Tryd.prog 12 = some 8 := by kernel_rfl
@[go_sem] theorem ze12 : zeroOf Tryd.prog 12 = some (.int .u64 0) := by kernel_rfl
@[go_sem] theorem sz13 : szOf Tryd.prog 13 = some 2 := by kernel_rfl
@[go_sem] theorem ag13 : aggOf Tryd.prog 13 = some true := by kernel_rfl
@[go_sem] theorem fl13_0 : fldOf Tryd.prog 13 0 = some (0, 9) := by kernel_rfl
@[go_sem] theorem fl13_1 : fldOf Tryd.prog 13 1 = some (1, 12) := by kernel_rfl
@[go_sem] theorem es13 : elemS Tryd.prog 13 = none := by kernel_rfl
@[go_sem] theorem ha13 : hasT Tryd.prog 13 = true := by kernel_rfl
@[go_sem] theorem ic13 : isIfc Tryd.prog 13 = false := by kernel_rfl
@[go_sem] theorem pl13 : placesOf Tryd.prog 13 = some [(0, 1), (1, 1)] := by kernel_rfl
@[go_sem] theorem by13 : bytesOf Tryd.prog 13 = some 24 := by kernel_rfl
@[go_sem] theorem ze13 : zeroOf Tryd.prog 13 = some (.agg #[(.string ByteArray.empty), (.int .u64 0)]) := by kernel_rfl
@[go_sem] theorem sz14 : szOf Tryd.prog 14 = some 2 := by kernel_rfl
@[go_sem] theorem ag14 : aggOf Tryd.prog 14 = some true := by kernel_rfl
@[go_sem] theorem fl14_0 : fldOf Tryd.prog 14 0 = some (0, 9) := by kernel_rfl
@[go_sem] theorem fl14_1 : fldOf Tryd.prog 14 1 = some (1, 12) := by kernel_rfl
@[go_sem] theorem es14 : elemS Tryd.prog 14 = none := by kernel_rfl
@[go_sem] theorem ha14 : hasT Tryd.prog 14 = true := by kernel_rfl
@[go_sem] theorem ic14 : isIfc Tryd.prog 14 = false := by kernel_rfl
@[go_sem] theorem pl14 : placesOf Tryd.prog 14 = some [(0, 1), (1, 1)] := by kernel_rfl
@[go_sem] theorem by14 : bytesOf Tryd.prog 14 = some 24 := by kernel_rfl
@[go_sem] theorem ze14 : zeroOf Tryd.prog 14 = some (.agg #[(.string ByteArray.empty), (.int .u64 0)]) := by kernel_rfl
@[go_sem] theorem sz15 : szOf Tryd.prog 15 = some 1 := by kernel_rfl
@[go_sem] theorem ag15 : aggOf Tryd.prog 15 = some false := by kernel_rfl
@[go_sem] theorem es15 : elemS Tryd.prog 15 = none := by kernel_rfl
@[go_sem] theorem ha15 : hasT Tryd.prog 15 = true := by kernel_rfl
@[go_sem] theorem ic15 : isIfc Tryd.prog 15 = false := by kernel_rfl
@[go_sem] theorem by15 : bytesOf Tryd.prog 15 = some 8 := by kernel_rfl
@[go_sem] theorem ip15 : isPtrT Tryd.prog 15 = true := by kernel_rfl
@[go_sem] theorem ze15 : zeroOf Tryd.prog 15 = some (.pointer none) := by kernel_rfl
@[go_sem] theorem sz16 : szOf Tryd.prog 16 = some 1 := by kernel_rfl
@[go_sem] theorem ag16 : aggOf Tryd.prog 16 = some false := by kernel_rfl
@[go_sem] theorem es16 : elemS Tryd.prog 16 = none := by kernel_rfl
@[go_sem] theorem ha16 : hasT Tryd.prog 16 = true := by kernel_rfl
@[go_sem] theorem ic16 : isIfc Tryd.prog 16 = false := by kernel_rfl
@[go_sem] theorem by16 : bytesOf Tryd.prog 16 = some 8 := by kernel_rfl
@[go_sem] theorem ip16 : isPtrT Tryd.prog 16 = true := by kernel_rfl
@[go_sem] theorem ze16 : zeroOf Tryd.prog 16 = some (.pointer none) := by kernel_rfl
@[go_sem] theorem sz17 : szOf Tryd.prog 17 = some 1 := by kernel_rfl
@[go_sem] theorem ag17 : aggOf Tryd.prog 17 = some false := by kernel_rfl
@[go_sem] theorem es17 : elemS Tryd.prog 17 = none := by kernel_rfl
@[go_sem] theorem ha17 : hasT Tryd.prog 17 = true := by kernel_rfl
@[go_sem] theorem ic17 : isIfc Tryd.prog 17 = false := by kernel_rfl
@[go_sem] theorem by17 : bytesOf Tryd.prog 17 = some 8 := by kernel_rfl
@[go_sem] theorem ip17 : isPtrT Tryd.prog 17 = true := by kernel_rfl
@[go_sem] theorem ze17 : zeroOf Tryd.prog 17 = some (.pointer none) := by kernel_rfl
@[go_sem] theorem sz18 : szOf Tryd.prog 18 = some 1 := by kernel_rfl
@[go_sem] theorem ag18 : aggOf Tryd.prog 18 = some true := by kernel_rfl
@[go_sem] theorem fl18_0 : fldOf Tryd.prog 18 0 = some (0, 17) := by kernel_rfl
@[go_sem] theorem es18 : elemS Tryd.prog 18 = none := by kernel_rfl
@[go_sem] theorem ha18 : hasT Tryd.prog 18 = true := by kernel_rfl
@[go_sem] theorem ic18 : isIfc Tryd.prog 18 = false := by kernel_rfl
@[go_sem] theorem pl18 : placesOf Tryd.prog 18 = some [(0, 1)] := by kernel_rfl
@[go_sem] theorem by18 : bytesOf Tryd.prog 18 = some 8 := by kernel_rfl
@[go_sem] theorem ze18 : zeroOf Tryd.prog 18 = some (.agg #[(.pointer none)]) := by kernel_rfl
@[go_sem] theorem sz19 : szOf Tryd.prog 19 = some 1 := by kernel_rfl
@[go_sem] theorem ag19 : aggOf Tryd.prog 19 = some true := by kernel_rfl
@[go_sem] theorem fl19_0 : fldOf Tryd.prog 19 0 = some (0, 17) := by kernel_rfl
@[go_sem] theorem es19 : elemS Tryd.prog 19 = none := by kernel_rfl
@[go_sem] theorem ha19 : hasT Tryd.prog 19 = true := by kernel_rfl
@[go_sem] theorem ic19 : isIfc Tryd.prog 19 = false := by kernel_rfl
@[go_sem] theorem pl19 : placesOf Tryd.prog 19 = some [(0, 1)] := by kernel_rfl
@[go_sem] theorem by19 : bytesOf Tryd.prog 19 = some 8 := by kernel_rfl
@[go_sem] theorem ze19 : zeroOf Tryd.prog 19 = some (.agg #[(.pointer none)]) := by kernel_rfl
@[go_sem] theorem sz20 : szOf Tryd.prog 20 = some 1 := by kernel_rfl
@[go_sem] theorem ag20 : aggOf Tryd.prog 20 = some false := by kernel_rfl
@[go_sem] theorem es20 : elemS Tryd.prog 20 = none := by kernel_rfl
@[go_sem] theorem ha20 : hasT Tryd.prog 20 = true := by kernel_rfl
@[go_sem] theorem ic20 : isIfc Tryd.prog 20 = true := by kernel_rfl
@[go_sem] theorem by20 : bytesOf Tryd.prog 20 = some 16 := by kernel_rfl
@[go_sem] theorem ze20 : zeroOf Tryd.prog 20 = some .nilIface := by kernel_rfl
@[go_sem] theorem sz21 : szOf Tryd.prog 21 = some 1 := by kernel_rfl
@[go_sem] theorem ag21 : aggOf Tryd.prog 21 = some false := by kernel_rfl
@[go_sem] theorem es21 : elemS Tryd.prog 21 = none := by kernel_rfl
@[go_sem] theorem ha21 : hasT Tryd.prog 21 = true := by kernel_rfl
@[go_sem] theorem ic21 : isIfc Tryd.prog 21 = false := by kernel_rfl
@[go_sem] theorem io21 : intOfT Tryd.prog 21 = some .i32 := by kernel_rfl
@[go_sem] theorem by21 : bytesOf Tryd.prog 21 = some 4 := by kernel_rfl
@[go_sem] theorem ze21 : zeroOf Tryd.prog 21 = some (.int .i32 0) := by kernel_rfl
@[go_sem] theorem sz22 : szOf Tryd.prog 22 = some 1 := by kernel_rfl
@[go_sem] theorem ag22 : aggOf Tryd.prog 22 = some false := by kernel_rfl
@[go_sem] theorem es22 : elemS Tryd.prog 22 = some 9 := by kernel_rfl
@[go_sem] theorem ha22 : hasT Tryd.prog 22 = true := by kernel_rfl
@[go_sem] theorem ic22 : isIfc Tryd.prog 22 = false := by kernel_rfl
@[go_sem] theorem by22 : bytesOf Tryd.prog 22 = some 24 := by kernel_rfl
@[go_sem] theorem ze22 : zeroOf Tryd.prog 22 = some (.slice none 0 0) := by kernel_rfl
@[go_sem] theorem sz23 : szOf Tryd.prog 23 = some 5 := by kernel_rfl
@[go_sem] theorem ag23 : aggOf Tryd.prog 23 = some true := by kernel_rfl
@[go_sem] theorem fl23_0 : fldOf Tryd.prog 23 0 = some (0, 4) := by kernel_rfl
@[go_sem] theorem fl23_1 : fldOf Tryd.prog 23 1 = some (1, 22) := by kernel_rfl
@[go_sem] theorem fl23_2 : fldOf Tryd.prog 23 2 = some (2, 3) := by kernel_rfl
@[go_sem] theorem fl23_3 : fldOf Tryd.prog 23 3 = some (3, 3) := by kernel_rfl
@[go_sem] theorem fl23_4 : fldOf Tryd.prog 23 4 = some (4, 4) := by kernel_rfl
@[go_sem] theorem es23 : elemS Tryd.prog 23 = none := by kernel_rfl
@[go_sem] theorem ha23 : hasT Tryd.prog 23 = true := by kernel_rfl
@[go_sem] theorem ic23 : isIfc Tryd.prog 23 = false := by kernel_rfl
@[go_sem] theorem pl23 : placesOf Tryd.prog 23 = some [(0, 1), (1, 1), (2, 1), (3, 1), (4, 1)] := by kernel_rfl
@[go_sem] theorem by23 : bytesOf Tryd.prog 23 = some 56 := by kernel_rfl
@[go_sem] theorem ze23 : zeroOf Tryd.prog 23 = some (.agg #[(.bool false), (.slice none 0 0), (.int .i64 0), (.int .i64 0), (.bool false)]) := by kernel_rfl
@[go_sem] theorem sz24 : szOf Tryd.prog 24 = some 5 := by kernel_rfl
@[go_sem] theorem ag24 : aggOf Tryd.prog 24 = some true := by kernel_rfl
@[go_sem] theorem fl24_0 : fldOf Tryd.prog 24 0 = some (0, 4) := by kernel_rfl
@[go_sem] theorem fl24_1 : fldOf Tryd.prog 24 1 = some (1, 22) := by kernel_rfl
@[go_sem] theorem fl24_2 : fldOf Tryd.prog 24 2 = some (2, 3) := by kernel_rfl
@[go_sem] theorem fl24_3 : fldOf Tryd.prog 24 3 = some (3, 3) := by kernel_rfl
@[go_sem] theorem fl24_4 : fldOf Tryd.prog 24 4 = some (4, 4) := by kernel_rfl
@[go_sem] theorem es24 : elemS Tryd.prog 24 = none := by kernel_rfl
@[go_sem] theorem ha24 : hasT Tryd.prog 24 = true := by kernel_rfl
@[go_sem] theorem ic24 : isIfc Tryd.prog 24 = false := by kernel_rfl
@[go_sem] theorem pl24 : placesOf Tryd.prog 24 = some [(0, 1), (1, 1), (2, 1), (3, 1), (4, 1)] := by kernel_rfl
@[go_sem] theorem by24 : bytesOf Tryd.prog 24 = some 56 := by kernel_rfl
@[go_sem] theorem ze24 : zeroOf Tryd.prog 24 = some (.agg #[(.bool false), (.slice none 0 0), (.int .i64 0), (.int .i64 0), (.bool false)]) := by kernel_rfl
@[go_sem] theorem sz25 : szOf Tryd.prog 25 = some 1 := by kernel_rfl
@[go_sem] theorem ag25 : aggOf Tryd.prog 25 = some false := by kernel_rfl
@[go_sem] theorem es25 : elemS Tryd.prog 25 = none := by kernel_rfl
@[go_sem] theorem ha25 : hasT Tryd.prog 25 = true := by kernel_rfl
@[go_sem] theorem ic25 : isIfc Tryd.prog 25 = false := by kernel_rfl
@[go_sem] theorem by25 : bytesOf Tryd.prog 25 = some 8 := by kernel_rfl
@[go_sem] theorem ze25 : zeroOf Tryd.prog 25 = some .nilFunc := by kernel_rfl
@[go_sem] theorem sz26 : szOf Tryd.prog 26 = some 1 := by kernel_rfl
@[go_sem] theorem ag26 : aggOf Tryd.prog 26 = some false := by kernel_rfl
@[go_sem] theorem es26 : elemS Tryd.prog 26 = none := by kernel_rfl
@[go_sem] theorem ha26 : hasT Tryd.prog 26 = true := by kernel_rfl
@[go_sem] theorem ic26 : isIfc Tryd.prog 26 = false := by kernel_rfl
@[go_sem] theorem by26 : bytesOf Tryd.prog 26 = some 8 := by kernel_rfl
@[go_sem] theorem ze26 : zeroOf Tryd.prog 26 = some .nilFunc := by kernel_rfl
@[go_sem] theorem sz27 : szOf Tryd.prog 27 = some 1 := by kernel_rfl
@[go_sem] theorem ag27 : aggOf Tryd.prog 27 = some false := by kernel_rfl
@[go_sem] theorem es27 : elemS Tryd.prog 27 = none := by kernel_rfl
@[go_sem] theorem ha27 : hasT Tryd.prog 27 = true := by kernel_rfl
@[go_sem] theorem ic27 : isIfc Tryd.prog 27 = true := by kernel_rfl
@[go_sem] theorem by27 : bytesOf Tryd.prog 27 = some 16 := by kernel_rfl
@[go_sem] theorem ze27 : zeroOf Tryd.prog 27 = some .nilIface := by kernel_rfl
@[go_sem] theorem sz28 : szOf Tryd.prog 28 = some 1 := by kernel_rfl
@[go_sem] theorem ag28 : aggOf Tryd.prog 28 = some false := by kernel_rfl
@[go_sem] theorem es28 : elemS Tryd.prog 28 = none := by kernel_rfl
@[go_sem] theorem ha28 : hasT Tryd.prog 28 = true := by kernel_rfl
@[go_sem] theorem ic28 : isIfc Tryd.prog 28 = true := by kernel_rfl
@[go_sem] theorem by28 : bytesOf Tryd.prog 28 = some 16 := by kernel_rfl
@[go_sem] theorem ze28 : zeroOf Tryd.prog 28 = some .nilIface := by kernel_rfl
@[go_sem] theorem sz29 : szOf Tryd.prog 29 = some 1 := by kernel_rfl
@[go_sem] theorem ag29 : aggOf Tryd.prog 29 = some false := by kernel_rfl
@[go_sem] theorem es29 : elemS Tryd.prog 29 = none := by kernel_rfl
@[go_sem] theorem ha29 : hasT Tryd.prog 29 = true := by kernel_rfl
@[go_sem] theorem ic29 : isIfc Tryd.prog 29 = false := by kernel_rfl
@[go_sem] theorem by29 : bytesOf Tryd.prog 29 = some 8 := by kernel_rfl
@[go_sem] theorem ze29 : zeroOf Tryd.prog 29 = some .nilFunc := by kernel_rfl
@[go_sem] theorem sz30 : szOf Tryd.prog 30 = some 1 := by kernel_rfl
@[go_sem] theorem ag30 : aggOf Tryd.prog 30 = some false := by kernel_rfl
@[go_sem] theorem es30 : elemS Tryd.prog 30 = none := by kernel_rfl
@[go_sem] theorem ha30 : hasT Tryd.prog 30 = true := by kernel_rfl
@[go_sem] theorem ic30 : isIfc Tryd.prog 30 = false := by kernel_rfl
@[go_sem] theorem io30 : intOfT Tryd.prog 30 = some .i64 := by kernel_rfl
@[go_sem] theorem by30 : bytesOf Tryd.prog 30 = some 8 := by kernel_rfl
@[go_sem] theorem ze30 : zeroOf Tryd.prog 30 = some (.int .i64 0) := by kernel_rfl
@[go_sem] theorem sz31 : szOf Tryd.prog 31 = some 1 := by kernel_rfl
@[go_sem] theorem ag31 : aggOf Tryd.prog 31 = some false := by kernel_rfl
@[go_sem] theorem es31 : elemS Tryd.prog 31 = none := by kernel_rfl
@[go_sem] theorem ha31 : hasT Tryd.prog 31 = true := by kernel_rfl
@[go_sem] theorem ic31 : isIfc Tryd.prog 31 = false := by kernel_rfl
@[go_sem] theorem by31 : bytesOf Tryd.prog 31 = some 0 := by kernel_rfl
@[go_sem] theorem sz32 : szOf Tryd.prog 32 = some 1 := by kernel_rfl
@[go_sem] theorem ag32 : aggOf Tryd.prog 32 = some false := by kernel_rfl
@[go_sem] theorem es32 : elemS Tryd.prog 32 = none := by kernel_rfl
@[go_sem] theorem ha32 : hasT Tryd.prog 32 = true := by kernel_rfl
@[go_sem] theorem ic32 : isIfc Tryd.prog 32 = false := by kernel_rfl
@[go_sem] theorem by32 : bytesOf Tryd.prog 32 = some 8 := by kernel_rfl
@[go_sem] theorem ze32 : zeroOf Tryd.prog 32 = some .nilFunc := by kernel_rfl
@[go_sem] theorem sz33 : szOf Tryd.prog 33 = some 1 := by kernel_rfl
@[go_sem] theorem ag33 : aggOf Tryd.prog 33 = some false := by kernel_rfl
@[go_sem] theorem es33 : elemS Tryd.prog 33 = none := by kernel_rfl
@[go_sem] theorem ha33 : hasT Tryd.prog 33 = true := by kernel_rfl
@[go_sem] theorem ic33 : isIfc Tryd.prog 33 = false := by kernel_rfl
@[go_sem] theorem by33 : bytesOf Tryd.prog 33 = some 0 := by kernel_rfl
@[go_sem] theorem sz34 : szOf Tryd.prog 34 = some 1 := by kernel_rfl
@[go_sem] theorem ag34 : aggOf Tryd.prog 34 = some false := by kernel_rfl
@[go_sem] theorem es34 : elemS Tryd.prog 34 = none := by kernel_rfl
@[go_sem] theorem ha34 : hasT Tryd.prog 34 = true := by kernel_rfl
@[go_sem] theorem ic34 : isIfc Tryd.prog 34 = false := by kernel_rfl
@[go_sem] theorem by34 : bytesOf Tryd.prog 34 = some 8 := by kernel_rfl
@[go_sem] theorem ze34 : zeroOf Tryd.prog 34 = some .nilFunc := by kernel_rfl
@[go_sem] theorem sz35 : szOf Tryd.prog 35 = some 1 := by kernel_rfl
@[go_sem] theorem ag35 : aggOf Tryd.prog 35 = some false := by kernel_rfl
@[go_sem] theorem es35 : elemS Tryd.prog 35 = none := by kernel_rfl
@[go_sem] theorem ha35 : hasT Tryd.prog 35 = true := by kernel_rfl
@[go_sem] theorem ic35 : isIfc Tryd.prog 35 = false := by kernel_rfl
@[go_sem] theorem by35 : bytesOf Tryd.prog 35 = some 8 := by kernel_rfl
@[go_sem] theorem ze35 : zeroOf Tryd.prog 35 = some .nilFunc := by kernel_rfl
@[go_sem] theorem sz36 : szOf Tryd.prog 36 = some 1 := by kernel_rfl
@[go_sem] theorem ag36 : aggOf Tryd.prog 36 = some false := by kernel_rfl
@[go_sem] theorem es36 : elemS Tryd.prog 36 = none := by kernel_rfl
@[go_sem] theorem ha36 : hasT Tryd.prog 36 = true := by kernel_rfl
@[go_sem] theorem ic36 : isIfc Tryd.prog 36 = false := by kernel_rfl
@[go_sem] theorem by36 : bytesOf Tryd.prog 36 = some 8 := by kernel_rfl
@[go_sem] theorem ze36 : zeroOf Tryd.prog 36 = some .nilFunc := by kernel_rfl
@[go_sem] theorem sz37 : szOf Tryd.prog 37 = some 1 := by kernel_rfl
@[go_sem] theorem ag37 : aggOf Tryd.prog 37 = some false := by kernel_rfl
@[go_sem] theorem es37 : elemS Tryd.prog 37 = none := by kernel_rfl
@[go_sem] theorem ha37 : hasT Tryd.prog 37 = true := by kernel_rfl
@[go_sem] theorem ic37 : isIfc Tryd.prog 37 = false := by kernel_rfl
@[go_sem] theorem by37 : bytesOf Tryd.prog 37 = some 8 := by kernel_rfl
@[go_sem] theorem ze37 : zeroOf Tryd.prog 37 = some .nilFunc := by kernel_rfl
@[go_sem] theorem sz38 : szOf Tryd.prog 38 = some 1 := by kernel_rfl
@[go_sem] theorem ag38 : aggOf Tryd.prog 38 = some false := by kernel_rfl
@[go_sem] theorem es38 : elemS Tryd.prog 38 = none := by kernel_rfl
@[go_sem] theorem ha38 : hasT Tryd.prog 38 = true := by kernel_rfl
@[go_sem] theorem ic38 : isIfc Tryd.prog 38 = false := by kernel_rfl
@[go_sem] theorem by38 : bytesOf Tryd.prog 38 = some 8 := by kernel_rfl
@[go_sem] theorem ze38 : zeroOf Tryd.prog 38 = some .nilFunc := by kernel_rfl
@[go_sem] theorem sz39 : szOf Tryd.prog 39 = some 1 := by kernel_rfl
@[go_sem] theorem ag39 : aggOf Tryd.prog 39 = some false := by kernel_rfl
@[go_sem] theorem es39 : elemS Tryd.prog 39 = none := by kernel_rfl
@[go_sem] theorem ha39 : hasT Tryd.prog 39 = true := by kernel_rfl
@[go_sem] theorem ic39 : isIfc Tryd.prog 39 = false := by kernel_rfl
@[go_sem] theorem by39 : bytesOf Tryd.prog 39 = some 8 := by kernel_rfl
@[go_sem] theorem ze39 : zeroOf Tryd.prog 39 = some .nilFunc := by kernel_rfl
@[go_sem] theorem sz40 : szOf Tryd.prog 40 = some 1 := by kernel_rfl
@[go_sem] theorem ag40 : aggOf Tryd.prog 40 = some false := by kernel_rfl
@[go_sem] theorem es40 : elemS Tryd.prog 40 = none := by kernel_rfl
@[go_sem] theorem ha40 : hasT Tryd.prog 40 = true := by kernel_rfl
@[go_sem] theorem ic40 : isIfc Tryd.prog 40 = false := by kernel_rfl
@[go_sem] theorem by40 : bytesOf Tryd.prog 40 = some 8 := by kernel_rfl
@[go_sem] theorem ze40 : zeroOf Tryd.prog 40 = some .nilFunc := by kernel_rfl
@[go_sem] theorem sz41 : szOf Tryd.prog 41 = some 1 := by kernel_rfl
@[go_sem] theorem ag41 : aggOf Tryd.prog 41 = some false := by kernel_rfl
@[go_sem] theorem es41 : elemS Tryd.prog 41 = none := by kernel_rfl
@[go_sem] theorem ha41 : hasT Tryd.prog 41 = true := by kernel_rfl
@[go_sem] theorem ic41 : isIfc Tryd.prog 41 = false := by kernel_rfl
@[go_sem] theorem by41 : bytesOf Tryd.prog 41 = some 8 := by kernel_rfl
@[go_sem] theorem ze41 : zeroOf Tryd.prog 41 = some .nilFunc := by kernel_rfl
@[go_sem] theorem sz42 : szOf Tryd.prog 42 = some 1 := by kernel_rfl
@[go_sem] theorem ag42 : aggOf Tryd.prog 42 = some false := by kernel_rfl
@[go_sem] theorem es42 : elemS Tryd.prog 42 = none := by kernel_rfl
@[go_sem] theorem ha42 : hasT Tryd.prog 42 = true := by kernel_rfl
@[go_sem] theorem ic42 : isIfc Tryd.prog 42 = false := by kernel_rfl
@[go_sem] theorem by42 : bytesOf Tryd.prog 42 = some 8 := by kernel_rfl
@[go_sem] theorem ze42 : zeroOf Tryd.prog 42 = some .nilFunc := by kernel_rfl
@[go_sem] theorem sz43 : szOf Tryd.prog 43 = some 1 := by kernel_rfl
@[go_sem] theorem ag43 : aggOf Tryd.prog 43 = some false := by kernel_rfl
@[go_sem] theorem es43 : elemS Tryd.prog 43 = none := by kernel_rfl
@[go_sem] theorem ha43 : hasT Tryd.prog 43 = true := by kernel_rfl
@[go_sem] theorem ic43 : isIfc Tryd.prog 43 = false := by kernel_rfl
@[go_sem] theorem by43 : bytesOf Tryd.prog 43 = some 8 := by kernel_rfl
@[go_sem] theorem ze43 : zeroOf Tryd.prog 43 = some .nilFunc := by kernel_rfl
@[go_sem] theorem sz44 : szOf Tryd.prog 44 = some 1 := by kernel_rfl
@[go_sem] theorem ag44 : aggOf Tryd.prog 44 = some false := by kernel_rfl
@[go_sem] theorem es44 : elemS Tryd.prog 44 = none := by kernel_rfl
@[go_sem] theorem ha44 : hasT Tryd.prog 44 = true := by kernel_rfl
@[go_sem] theorem ic44 : isIfc Tryd.prog 44 = false := by kernel_rfl
@[go_sem] theorem by44 : bytesOf Tryd.prog 44 = some 8 := by kernel_rfl
@[go_sem] theorem ze44 : zeroOf Tryd.prog 44 = some .nilFunc := by kernel_rfl
@[go_sem] theorem sz45 : szOf Tryd.prog 45 = some 1 := by kernel_rfl
@[go_sem] theorem ag45 : aggOf Tryd.prog 45 = some false := by kernel_rfl
@[go_sem] theorem es45 : elemS Tryd.prog 45 = none := by kernel_rfl
@[go_sem] theorem ha45 : hasT Tryd.prog 45 = true := by kernel_rfl
@[go_sem] theorem ic45 : isIfc Tryd.prog 45 = false := by kernel_rfl
@[go_sem] theorem by45 : bytesOf Tryd.prog 45 = some 8 := by kernel_rfl
@[go_sem] theorem ze45 : zeroOf Tryd.prog 45 = some .nilFunc := by kernel_rfl
@[go_sem] theorem sz46 : szOf Tryd.prog 46 = some 1 := by kernel_rfl
@[go_sem] theorem ag46 : aggOf Tryd.prog 46 = some false := by kernel_rfl
@[go_sem] theorem es46 : elemS Tryd.prog 46 = none := by kernel_rfl
@[go_sem] theorem ha46 : hasT Tryd.prog 46 = true := by kernel_rfl
@[go_sem] theorem ic46 : isIfc Tryd.prog 46 = false := by kernel_rfl
@[go_sem] theorem by46 : bytesOf Tryd.prog 46 = some 8 := by kernel_rfl
@[go_sem] theorem ze46 : zeroOf Tryd.prog 46 = some .nilFunc := by kernel_rfl
@[go_sem] theorem sz47 : szOf Tryd.prog 47 = some 1 := by kernel_rfl
@[go_sem] theorem ag47 : aggOf Tryd.prog 47 = some false := by kernel_rfl
@[go_sem] theorem es47 : elemS Tryd.prog 47 = none := by kernel_rfl
@[go_sem] theorem ha47 : hasT Tryd.prog 47 = true := by kernel_rfl
@[go_sem] theorem ic47 : isIfc Tryd.prog 47 = false := by kernel_rfl
@[go_sem] theorem by47 : bytesOf Tryd.prog 47 = some 8 := by kernel_rfl
@[go_sem] theorem ze47 : zeroOf Tryd.prog 47 = some .nilFunc := by kernel_rfl
@[go_sem] theorem sz48 : szOf Tryd.prog 48 = some 1 := by kernel_rfl
@[go_sem] theorem ag48 : aggOf Tryd.prog 48 = some false := by kernel_rfl
@[go_sem] theorem es48 : elemS Tryd.prog 48 = none := by kernel_rfl
@[go_sem] theorem ha48 : hasT Tryd.prog 48 = true := by kernel_rfl
@[go_sem] theorem ic48 : isIfc Tryd.prog 48 = false := by kernel_rfl
@[go_sem] theorem by48 : bytesOf Tryd.prog 48 = some 8 := by kernel_rfl
@[go_sem] theorem ze48 : zeroOf Tryd.prog 48 = some .nilFunc := by kernel_rfl
@[go_sem] theorem sz49 : szOf Tryd.prog 49 = some 2 := by kernel_rfl
@[go_sem] theorem ag49 : aggOf Tryd.prog 49 = some true := by kernel_rfl
@[go_sem] theorem fl49_0 : fldOf Tryd.prog 49 0 = some (0, 30) := by kernel_rfl
@[go_sem] theorem fl49_1 : fldOf Tryd.prog 49 1 = some (1, 3) := by kernel_rfl
@[go_sem] theorem es49 : elemS Tryd.prog 49 = none := by kernel_rfl
@[go_sem] theorem ha49 : hasT Tryd.prog 49 = true := by kernel_rfl
@[go_sem] theorem ic49 : isIfc Tryd.prog 49 = false := by kernel_rfl
@[go_sem] theorem pl49 : placesOf Tryd.prog 49 = some [(0, 1), (1, 1)] := by kernel_rfl
@[go_sem] theorem by49 : bytesOf Tryd.prog 49 = some 16 := by kernel_rfl
@[go_sem] theorem ze49 : zeroOf Tryd.prog 49 = some (.agg #[(.int .i64 0), (.int .i64 0)]) := by kernel_rfl
@[go_sem] theorem sz50 : szOf Tryd.prog 50 = some 2 := by kernel_rfl
@[go_sem] theorem ag50 : aggOf Tryd.prog 50 = some true := by kernel_rfl
@[go_sem] theorem fl50_0 : fldOf Tryd.prog 50 0 = some (0, 30) := by kernel_rfl
@[go_sem] theorem fl50_1 : fldOf Tryd.prog 50 1 = some (1, 3) := by kernel_rfl
@[go_sem] theorem es50 : elemS Tryd.prog 50 = none := by kernel_rfl
@[go_sem] theorem ha50 : hasT Tryd.prog 50 = true := by kernel_rfl
@[go_sem] theorem ic50 : isIfc Tryd.prog 50 = false := by kernel_rfl
@[go_sem] theorem pl50 : placesOf Tryd.prog 50 = some [(0, 1), (1, 1)] := by kernel_rfl
@[go_sem] theorem by50 : bytesOf Tryd.prog 50 = some 16 := by kernel_rfl
@[go_sem] theorem ze50 : zeroOf Tryd.prog 50 = some (.agg #[(.int .i64 0), (.int .i64 0)]) := by kernel_rfl
@[go_sem] theorem sz51 : szOf Tryd.prog 51 = some 1 := by kernel_rfl
@[go_sem] theorem ag51 : aggOf Tryd.prog 51 = some false := by kernel_rfl
@[go_sem] theorem es51 : elemS Tryd.prog 51 = none := by kernel_rfl
@[go_sem] theorem ha51 : hasT Tryd.prog 51 = true := by kernel_rfl
@[go_sem] theorem ic51 : isIfc Tryd.prog 51 = false := by kernel_rfl
@[go_sem] theorem by51 : bytesOf Tryd.prog 51 = some 8 := by kernel_rfl
@[go_sem] theorem ze51 : zeroOf Tryd.prog 51 = some .nilFunc := by kernel_rfl
@[go_sem] theorem sz52 : szOf Tryd.prog 52 = some 1 := by kernel_rfl
@[go_sem] theorem ag52 : aggOf Tryd.prog 52 = some false := by kernel_rfl
@[go_sem] theorem es52 : elemS Tryd.prog 52 = none := by kernel_rfl
@[go_sem] theorem ha52 : hasT Tryd.prog 52 = true := by kernel_rfl
@[go_sem] theorem ic52 : isIfc Tryd.prog 52 = false := by kernel_rfl
@[go_sem] theorem by52 : bytesOf Tryd.prog 52 = some 8 := by kernel_rfl
@[go_sem] theorem ip52 : isPtrT Tryd.prog 52 = true := by kernel_rfl
@[go_sem] theorem ze52 : zeroOf Tryd.prog 52 = some (.pointer none) := by kernel_rfl
@[go_sem] theorem sz53 : szOf Tryd.prog 53 = some 1 := by kernel_rfl
@[go_sem] theorem ag53 : aggOf Tryd.prog 53 = some false := by kernel_rfl
@[go_sem] theorem es53 : elemS Tryd.prog 53 = none := by kernel_rfl
@[go_sem] theorem ha53 : hasT Tryd.prog 53 = true := by kernel_rfl
@[go_sem] theorem ic53 : isIfc Tryd.prog 53 = false := by kernel_rfl
@[go_sem] theorem by53 : bytesOf Tryd.prog 53 = some 8 := by kernel_rfl
@[go_sem] theorem ip53 : isPtrT Tryd.prog 53 = true := by kernel_rfl
@[go_sem] theorem ze53 : zeroOf Tryd.prog 53 = some (.pointer none) := by kernel_rfl
@[go_sem] theorem sz54 : szOf Tryd.prog 54 = some 7 := by kernel_rfl
@[go_sem] theorem ag54 : aggOf Tryd.prog 54 = some true := by kernel_rfl
@[go_sem] theorem es54 : elemS Tryd.prog 54 = none := by kernel_rfl
@[go_sem] theorem ea54 : elemA Tryd.prog 54 = some (7, 9) := by kernel_rfl
@[go_sem] theorem ha54 : hasT Tryd.prog 54 = true := by kernel_rfl
@[go_sem] theorem ic54 : isIfc Tryd.prog 54 = false := by kernel_rfl
@[go_sem] theorem by54 : bytesOf Tryd.prog 54 = some 112 := by kernel_rfl
@[go_sem] theorem ze54 : zeroOf Tryd.prog 54 = some (.agg #[(.string ByteArray.empty), (.string ByteArray.empty), (.string ByteArray.empty), (.string ByteArray.empty), (.string ByteArray.empty), (.string ByteArray.empty), (.string ByteArray.empty)]) := by kernel_rfl
@[go_sem] theorem sz55 : szOf Tryd.prog 55 = some 1 := by kernel_rfl
@[go_sem] theorem ag55 : aggOf Tryd.prog 55 = some false := by kernel_rfl
@[go_sem] theorem es55 : elemS Tryd.prog 55 = none := by kernel_rfl
@[go_sem] theorem ha55 : hasT Tryd.prog 55 = true := by kernel_rfl
@[go_sem] theorem ic55 : isIfc Tryd.prog 55 = false := by kernel_rfl
@[go_sem] theorem by55 : bytesOf Tryd.prog 55 = some 8 := by kernel_rfl
@[go_sem] theorem ip55 : isPtrT Tryd.prog 55 = true := by kernel_rfl
@[go_sem] theorem ze55 : zeroOf Tryd.prog 55 = some (.pointer none) := by kernel_rfl
@[go_sem] theorem sz56 : szOf Tryd.prog 56 = some 1 := by kernel_rfl
@[go_sem] theorem ag56 : aggOf Tryd.prog 56 = some true := by kernel_rfl
@[go_sem] theorem fl56_0 : fldOf Tryd.prog 56 0 = some (0, 9) := by kernel_rfl
@[go_sem] theorem es56 : elemS Tryd.prog 56 = none := by kernel_rfl
@[go_sem] theorem ha56 : hasT Tryd.prog 56 = true := by kernel_rfl
@[go_sem] theorem ic56 : isIfc Tryd.prog 56 = false := by kernel_rfl
@[go_sem] theorem pl56 : placesOf Tryd.prog 56 = some [(0, 1)] := by kernel_rfl
@[go_sem] theorem by56 : bytesOf Tryd.prog 56 = some 16 := by kernel_rfl
@[go_sem] theorem ze56 : zeroOf Tryd.prog 56 = some (.agg #[(.string ByteArray.empty)]) := by kernel_rfl
@[go_sem] theorem sz57 : szOf Tryd.prog 57 = some 1 := by kernel_rfl
@[go_sem] theorem ag57 : aggOf Tryd.prog 57 = some true := by kernel_rfl
@[go_sem] theorem fl57_0 : fldOf Tryd.prog 57 0 = some (0, 9) := by kernel_rfl
@[go_sem] theorem es57 : elemS Tryd.prog 57 = none := by kernel_rfl
@[go_sem] theorem ha57 : hasT Tryd.prog 57 = true := by kernel_rfl
@[go_sem] theorem ic57 : isIfc Tryd.prog 57 = false := by kernel_rfl
@[go_sem] theorem pl57 : placesOf Tryd.prog 57 = some [(0, 1)] := by kernel_rfl
@[go_sem] theorem by57 : bytesOf Tryd.prog 57 = some 16 := by kernel_rfl
@[go_sem] theorem ze57 : zeroOf Tryd.prog 57 = some (.agg #[(.string ByteArray.empty)]) := by kernel_rfl
@[go_sem] theorem sz58 : szOf Tryd.prog 58 = some 2 := by kernel_rfl
@[go_sem] theorem ag58 : aggOf Tryd.prog 58 = some true := by kernel_rfl
@[go_sem] theorem fl58_0 : fldOf Tryd.prog 58 0 = some (0, 9) := by kernel_rfl
@[go_sem] theorem fl58_1 : fldOf Tryd.prog 58 1 = some (1, 28) := by kernel_rfl
@[go_sem] theorem es58 : elemS Tryd.prog 58 = none := by kernel_rfl
@[go_sem] theorem ha58 : hasT Tryd.prog 58 = true := by kernel_rfl
@[go_sem] theorem ic58 : isIfc Tryd.prog 58 = false := by kernel_rfl
@[go_sem] theorem pl58 : placesOf Tryd.prog 58 = some [(0, 1), (1, 1)] := by kernel_rfl
@[go_sem] theorem by58 : bytesOf Tryd.prog 58 = some 32 := by kernel_rfl
@[go_sem] theorem ze58 : zeroOf Tryd.prog 58 = some (.agg #[(.string ByteArray.empty), .nilIface]) := by kernel_rfl
@[go_sem] theorem sz59 : szOf Tryd.prog 59 = some 2 := by kernel_rfl
@[go_sem] theorem ag59 : aggOf Tryd.prog 59 = some true := by kernel_rfl
@[go_sem] theorem fl59_0 : fldOf Tryd.prog 59 0 = some (0, 9) := by kernel_rfl
@[go_sem] theorem fl59_1 : fldOf Tryd.prog 59 1 = some (1, 28) := by kernel_rfl
@[go_sem] theorem es59 : elemS Tryd.prog 59 = none := by kernel_rfl
@[go_sem] theorem ha59 : hasT Tryd.prog 59 = true := by kernel_rfl
@[go_sem] theorem ic59 : isIfc Tryd.prog 59 = false := by kernel_rfl
@[go_sem] theorem pl59 : placesOf Tryd.prog 59 = some [(0, 1), (1, 1)] := by kernel_rfl
@[go_sem] theorem by59 : bytesOf Tryd.prog 59 = some 32 := by kernel_rfl
@[go_sem] theorem ze59 : zeroOf Tryd.prog 59 = some (.agg #[(.string ByteArray.empty), .nilIface]) := by kernel_rfl
@[go_sem] theorem sz60 : szOf Tryd.prog 60 = some 1 := by kernel_rfl
@[go_sem] theorem ag60 : aggOf Tryd.prog 60 = some false := by kernel_rfl
@[go_sem] theorem es60 : elemS Tryd.prog 60 = none := by kernel_rfl
@[go_sem] theorem ha60 : hasT Tryd.prog 60 = true := by kernel_rfl
@[go_sem] theorem ic60 : isIfc Tryd.prog 60 = true := by kernel_rfl
@[go_sem] theorem by60 : bytesOf Tryd.prog 60 = some 16 := by kernel_rfl
@[go_sem] theorem ze60 : zeroOf Tryd.prog 60 = some .nilIface := by kernel_rfl
@[go_sem] theorem sz61 : szOf Tryd.prog 61 = some 1 := by kernel_rfl
@[go_sem] theorem ag61 : aggOf Tryd.prog 61 = some false := by kernel_rfl
@[go_sem] theorem es61 : elemS Tryd.prog 61 = none := by kernel_rfl
@[go_sem] theorem ha61 : hasT Tryd.prog 61 = true := by kernel_rfl
@[go_sem] theorem ic61 : isIfc Tryd.prog 61 = false := by kernel_rfl
@[go_sem] theorem by61 : bytesOf Tryd.prog 61 = some 0 := by kernel_rfl
@[go_sem] theorem sz62 : szOf Tryd.prog 62 = some 1 := by kernel_rfl
@[go_sem] theorem ag62 : aggOf Tryd.prog 62 = some false := by kernel_rfl
@[go_sem] theorem es62 : elemS Tryd.prog 62 = none := by kernel_rfl
@[go_sem] theorem ha62 : hasT Tryd.prog 62 = true := by kernel_rfl
@[go_sem] theorem ic62 : isIfc Tryd.prog 62 = false := by kernel_rfl
@[go_sem] theorem by62 : bytesOf Tryd.prog 62 = some 8 := by kernel_rfl
@[go_sem] theorem ze62 : zeroOf Tryd.prog 62 = some .nilFunc := by kernel_rfl
@[go_sem] theorem sz63 : szOf Tryd.prog 63 = some 1 := by kernel_rfl
@[go_sem] theorem ag63 : aggOf Tryd.prog 63 = some false := by kernel_rfl
@[go_sem] theorem es63 : elemS Tryd.prog 63 = none := by kernel_rfl
@[go_sem] theorem ha63 : hasT Tryd.prog 63 = true := by kernel_rfl
@[go_sem] theorem ic63 : isIfc Tryd.prog 63 = true := by kernel_rfl
@[go_sem] theorem by63 : bytesOf Tryd.prog 63 = some 16 := by kernel_rfl
@[go_sem] theorem ze63 : zeroOf Tryd.prog 63 = some .nilIface := by kernel_rfl
@[go_sem] theorem sz64 : szOf Tryd.prog 64 = some 1 := by kernel_rfl
@[go_sem] theorem ag64 : aggOf Tryd.prog 64 = some false := by kernel_rfl
@[go_sem] theorem es64 : elemS Tryd.prog 64 = none := by kernel_rfl
@[go_sem] theorem ha64 : hasT Tryd.prog 64 = true := by kernel_rfl
@[go_sem] theorem ic64 : isIfc Tryd.prog 64 = true := by kernel_rfl
@[go_sem] theorem by64 : bytesOf Tryd.prog 64 = some 16 := by kernel_rfl
@[go_sem] theorem ze64 : zeroOf Tryd.prog 64 = some .nilIface := by kernel_rfl
@[go_sem] theorem sz65 : szOf Tryd.prog 65 = some 1 := by kernel_rfl
@[go_sem] theorem ag65 : aggOf Tryd.prog 65 = some false := by kernel_rfl
@[go_sem] theorem es65 : elemS Tryd.prog 65 = none := by kernel_rfl
@[go_sem] theorem ha65 : hasT Tryd.prog 65 = true := by kernel_rfl
@[go_sem] theorem ic65 : isIfc Tryd.prog 65 = false := by kernel_rfl
@[go_sem] theorem by65 : bytesOf Tryd.prog 65 = some 8 := by kernel_rfl
@[go_sem] theorem ze65 : zeroOf Tryd.prog 65 = some .nilFunc := by kernel_rfl
@[go_sem] theorem sz66 : szOf Tryd.prog 66 = some 1 := by kernel_rfl
@[go_sem] theorem ag66 : aggOf Tryd.prog 66 = some false := by kernel_rfl
@[go_sem] theorem es66 : elemS Tryd.prog 66 = none := by kernel_rfl
@[go_sem] theorem ha66 : hasT Tryd.prog 66 = true := by kernel_rfl
@[go_sem] theorem ic66 : isIfc Tryd.prog 66 = false := by kernel_rfl
@[go_sem] theorem by66 : bytesOf Tryd.prog 66 = some 8 := by kernel_rfl
@[go_sem] theorem ze66 : zeroOf Tryd.prog 66 = some .nilFunc := by kernel_rfl
@[go_sem] theorem sz67 : szOf Tryd.prog 67 = some 1 := by kernel_rfl
@[go_sem] theorem ag67 : aggOf Tryd.prog 67 = some false := by kernel_rfl
@[go_sem] theorem es67 : elemS Tryd.prog 67 = none := by kernel_rfl
@[go_sem] theorem ha67 : hasT Tryd.prog 67 = true := by kernel_rfl
@[go_sem] theorem ic67 : isIfc Tryd.prog 67 = false := by kernel_rfl
@[go_sem] theorem by67 : bytesOf Tryd.prog 67 = some 8 := by kernel_rfl
@[go_sem] theorem ze67 : zeroOf Tryd.prog 67 = some (.pointer none) := by kernel_rfl
@[go_sem] theorem sz68 : szOf Tryd.prog 68 = some 1 := by kernel_rfl
@[go_sem] theorem ag68 : aggOf Tryd.prog 68 = some false := by kernel_rfl
@[go_sem] theorem es68 : elemS Tryd.prog 68 = none := by kernel_rfl
@[go_sem] theorem ha68 : hasT Tryd.prog 68 = true := by kernel_rfl
@[go_sem] theorem ic68 : isIfc Tryd.prog 68 = false := by kernel_rfl
@[go_sem] theorem io68 : intOfT Tryd.prog 68 = some .u64 := by kernel_rfl
@[go_sem] theorem by68 : bytesOf Tryd.prog 68 = some 8 := by kernel_rfl
@[go_sem] theorem ze68 : zeroOf Tryd.prog 68 = some (.int .u64 0) := by kernel_rfl
@[go_sem] theorem sz69 : szOf Tryd.prog 69 = some 3 := by kernel_rfl
@[go_sem] theorem ag69 : aggOf Tryd.prog 69 = some true := by kernel_rfl
@[go_sem] theorem fl69_0 : fldOf Tryd.prog 69 0 = some (0, 17) := by kernel_rfl
@[go_sem] theorem fl69_1 : fldOf Tryd.prog 69 1 = some (1, 67) := by kernel_rfl
@[go_sem] theorem fl69_2 : fldOf Tryd.prog 69 2 = some (2, 68) := by kernel_rfl
@[go_sem] theorem es69 : elemS Tryd.prog 69 = none := by kernel_rfl
@[go_sem] theorem ha69 : hasT Tryd.prog 69 = true := by kernel_rfl
@[go_sem] theorem ic69 : isIfc Tryd.prog 69 = false := by kernel_rfl
@[go_sem] theorem pl69 : placesOf Tryd.prog 69 = some [(0, 1), (1, 1), (2, 1)] := by kernel_rfl
@[go_sem] theorem by69 : bytesOf Tryd.prog 69 = some 24 := by kernel_rfl
@[go_sem] theorem ze69 : zeroOf Tryd.prog 69 = some (.agg #[(.pointer none), (.pointer none), (.int .u64 0)]) := by kernel_rfl
@[go_sem] theorem sz70 : szOf Tryd.prog 70 = some 3 := by kernel_rfl
@[go_sem] theorem ag70 : aggOf Tryd.prog 70 = some true := by kernel_rfl
@[go_sem] theorem fl70_0 : fldOf Tryd.prog 70 0 = some (0, 17) := by kernel_rfl
@[go_sem] theorem fl70_1 : fldOf Tryd.prog 70 1 = some (1, 67) := by kernel_rfl
@[go_sem] theorem fl70_2 : fldOf Tryd.prog 70 2 = some (2, 68) := by kernel_rfl
@[go_sem] theorem es70 : elemS Tryd.prog 70 = none := by kernel_rfl
@[go_sem] theorem ha70 : hasT Tryd.prog 70 = true := by kernel_rfl
@[go_sem] theorem ic70 : isIfc Tryd.prog 70 = false := by kernel_rfl
@[go_sem] theorem pl70 : placesOf Tryd.prog 70 = some [(0, 1), (1, 1), (2, 1)] := by kernel_rfl
@[go_sem] theorem by70 : bytesOf Tryd.prog 70 = some 24 := by kernel_rfl
@[go_sem] theorem ze70 : zeroOf Tryd.prog 70 = some (.agg #[(.pointer none), (.pointer none), (.int .u64 0)]) := by kernel_rfl
@[go_sem] theorem sz71 : szOf Tryd.prog 71 = some 1 := by kernel_rfl
@[go_sem] theorem ag71 : aggOf Tryd.prog 71 = some false := by kernel_rfl
@[go_sem] theorem es71 : elemS Tryd.prog 71 = none := by kernel_rfl
@[go_sem] theorem ha71 : hasT Tryd.prog 71 = true := by kernel_rfl
@[go_sem] theorem ic71 : isIfc Tryd.prog 71 = false := by kernel_rfl
@[go_sem] theorem by71 : bytesOf Tryd.prog 71 = some 8 := by kernel_rfl
@[go_sem] theorem ze71 : zeroOf Tryd.prog 71 = some .nilFunc := by kernel_rfl
@[go_sem] theorem sz72 : szOf Tryd.prog 72 = some 1 := by kernel_rfl
@[go_sem] theorem ag72 : aggOf Tryd.prog 72 = some false := by kernel_rfl
@[go_sem] theorem es72 : elemS Tryd.prog 72 = none := by kernel_rfl
@[go_sem] theorem ha72 : hasT Tryd.prog 72 = true := by kernel_rfl
@[go_sem] theorem ic72 : isIfc Tryd.prog 72 = false := by kernel_rfl
@[go_sem] theorem by72 : bytesOf Tryd.prog 72 = some 8 := by kernel_rfl
@[go_sem] theorem ze72 : zeroOf Tryd.prog 72 = some .nilFunc := by kernel_rfl
@[go_sem] theorem sz73 : szOf Tryd.prog 73 = some 1 := by kernel_rfl
@[go_sem] theorem ag73 : aggOf Tryd.prog 73 = some false := by kernel_rfl
@[go_sem] theorem es73 : elemS Tryd.prog 73 = none := by kernel_rfl
@[go_sem] theorem ha73 : hasT Tryd.prog 73 = true := by kernel_rfl
@[go_sem] theorem ic73 : isIfc Tryd.prog 73 = false := by kernel_rfl
@[go_sem] theorem io73 : intOfT Tryd.prog 73 = some .u8 := by kernel_rfl
@[go_sem] theorem by73 : bytesOf Tryd.prog 73 = some 1 := by kernel_rfl
@[go_sem] theorem ze73 : zeroOf Tryd.prog 73 = some (.int .u8 0) := by kernel_rfl
@[go_sem] theorem sz74 : szOf Tryd.prog 74 = some 1 := by kernel_rfl
@[go_sem] theorem ag74 : aggOf Tryd.prog 74 = some false := by kernel_rfl
@[go_sem] theorem es74 : elemS Tryd.prog 74 = none := by kernel_rfl
@[go_sem] theorem ha74 : hasT Tryd.prog 74 = true := by kernel_rfl
@[go_sem] theorem ic74 : isIfc Tryd.prog 74 = false := by kernel_rfl
@[go_sem] theorem by74 : bytesOf Tryd.prog 74 = some 8 := by kernel_rfl
@[go_sem] theorem ze74 : zeroOf Tryd.prog 74 = some .nilFunc := by kernel_rfl
@[go_sem] theorem sz75 : szOf Tryd.prog 75 = some 1 := by kernel_rfl
@[go_sem] theorem ag75 : aggOf Tryd.prog 75 = some false := by kernel_rfl
@[go_sem] theorem es75 : elemS Tryd.prog 75 = none := by kernel_rfl
@[go_sem] theorem ha75 : hasT Tryd.prog 75 = true := by kernel_rfl
@[go_sem] theorem ic75 : isIfc Tryd.prog 75 = false := by kernel_rfl
@[go_sem] theorem by75 : bytesOf Tryd.prog 75 = some 8 := by kernel_rfl
@[go_sem] theorem ze75 : zeroOf Tryd.prog 75 = some .nilFunc := by kernel_rfl
@[go_sem] theorem sz76 : szOf Tryd.prog 76 = some 1 := by kernel_rfl
@[go_sem] theorem ag76 : aggOf Tryd.prog 76 = some false := by kernel_rfl
@[go_sem] theorem es76 : elemS Tryd.prog 76 = none := by kernel_rfl
@[go_sem] theorem ha76 : hasT Tryd.prog 76 = true := by kernel_rfl
@[go_sem] theorem ic76 : isIfc Tryd.prog 76 = false := by kernel_rfl
@[go_sem] theorem by76 : bytesOf Tryd.prog 76 = some 8 := by kernel_rfl
@[go_sem] theorem ze76 : zeroOf Tryd.prog 76 = some .nilFunc := by kernel_rfl
@[go_sem] theorem sz77 : szOf Tryd.prog 77 = some 1 := by kernel_rfl
@[go_sem] theorem ag77 : aggOf Tryd.prog 77 = some true := by kernel_rfl
@[go_sem] theorem fl77_0 : fldOf Tryd.prog 77 0 = some (0, 17) := by kernel_rfl
@[go_sem] theorem es77 : elemS Tryd.prog 77 = none := by kernel_rfl
@[go_sem] theorem ha77 : hasT Tryd.prog 77 = true := by kernel_rfl
@[go_sem] theorem ic77 : isIfc Tryd.prog 77 = false := by kernel_rfl
@[go_sem] theorem pl77 : placesOf Tryd.prog 77 = some [(0, 1)] := by kernel_rfl
@[go_sem] theorem by77 : bytesOf Tryd.prog 77 = some 8 := by kernel_rfl
@[go_sem] theorem ze77 : zeroOf Tryd.prog 77 = some (.agg #[(.pointer none)]) := by kernel_rfl
@[go_sem] theorem sz78 : szOf Tryd.prog 78 = some 1 := by kernel_rfl
@[go_sem] theorem ag78 : aggOf Tryd.prog 78 = some true := by kernel_rfl
@[go_sem] theorem fl78_0 : fldOf Tryd.prog 78 0 = some (0, 17) := by kernel_rfl
@[go_sem] theorem es78 : elemS Tryd.prog 78 = none := by kernel_rfl
@[go_sem] theorem ha78 : hasT Tryd.prog 78 = true := by kernel_rfl
@[go_sem] theorem ic78 : isIfc Tryd.prog 78 = false := by kernel_rfl
@[go_sem] theorem pl78 : placesOf Tryd.prog 78 = some [(0, 1)] := by kernel_rfl
@[go_sem] theorem by78 : bytesOf Tryd.prog 78 = some 8 := by kernel_rfl
@[go_sem] theorem ze78 : zeroOf Tryd.prog 78 = some (.agg #[(.pointer none)]) := by kernel_rfl
@[go_sem] theorem sz79 : szOf Tryd.prog 79 = some 1 := by kernel_rfl
@[go_sem] theorem ag79 : aggOf Tryd.prog 79 = some false := by kernel_rfl
@[go_sem] theorem es79 : elemS Tryd.prog 79 = none := by kernel_rfl
@[go_sem] theorem ha79 : hasT Tryd.prog 79 = true := by kernel_rfl
@[go_sem] theorem ic79 : isIfc Tryd.prog 79 = false := by kernel_rfl
@[go_sem] theorem by79 : bytesOf Tryd.prog 79 = some 8 := by kernel_rfl
@[go_sem] theorem ip79 : isPtrT Tryd.prog 79 = true := by kernel_rfl
@[go_sem] theorem ze79 : zeroOf Tryd.prog 79 = some (.pointer none) := by kernel_rfl
@[go_sem] theorem sz80 : szOf Tryd.prog 80 = some 1 := by kernel_rfl
@[go_sem] theorem ag80 : aggOf Tryd.prog 80 = some false := by kernel_rfl
@[go_sem] theorem es80 : elemS Tryd.prog 80 = none := by kernel_rfl
@[go_sem] theorem ha80 : hasT Tryd.prog 80 = true := by kernel_rfl
@[go_sem] theorem ic80 : isIfc Tryd.prog 80 = true := by kernel_rfl
@[go_sem] theorem by80 : bytesOf Tryd.prog 80 = some 16 := by kernel_rfl
@[go_sem] theorem ze80 : zeroOf Tryd.prog 80 = some .nilIface := by kernel_rfl
@[go_sem] theorem sz81 : szOf Tryd.prog 81 = some 1 := by kernel_rfl
@[go_sem] theorem ag81 : aggOf Tryd.prog 81 = some false := by kernel_rfl
@[go_sem] theorem es81 : elemS Tryd.prog 81 = none := by kernel_rfl
@[go_sem] theorem ha81 : hasT Tryd.prog 81 = true := by kernel_rfl
@[go_sem] theorem ic81 : isIfc Tryd.prog 81 = false := by kernel_rfl
@[go_sem] theorem by81 : bytesOf Tryd.prog 81 = some 0 := by kernel_rfl
@[go_sem] theorem sz82 : szOf Tryd.prog 82 = some 1 := by kernel_rfl
@[go_sem] theorem ag82 : aggOf Tryd.prog 82 = some false := by kernel_rfl
@[go_sem] theorem es82 : elemS Tryd.prog 82 = none := by kernel_rfl
@[go_sem] theorem ha82 : hasT Tryd.prog 82 = true := by kernel_rfl
@[go_sem] theorem ic82 : isIfc Tryd.prog 82 = false := by kernel_rfl
@[go_sem] theorem by82 : bytesOf Tryd.prog 82 = some 8 := by kernel_rfl
@[go_sem] theorem ze82 : zeroOf Tryd.prog 82 = some .nilFunc := by kernel_rfl
@[go_sem] theorem sz83 : szOf Tryd.prog 83 = some 1 := by kernel_rfl
@[go_sem] theorem ag83 : aggOf Tryd.prog 83 = some false := by kernel_rfl
@[go_sem] theorem es83 : elemS Tryd.prog 83 = none := by kernel_rfl
@[go_sem] theorem ha83 : hasT Tryd.prog 83 = true := by kernel_rfl
@[go_sem] theorem ic83 : isIfc Tryd.prog 83 = true := by kernel_rfl
@[go_sem] theorem by83 : bytesOf Tryd.prog 83 = some 16 := by kernel_rfl
@[go_sem] theorem ze83 : zeroOf Tryd.prog 83 = some .nilIface := by kernel_rfl
@[go_sem] theorem sz84 : szOf Tryd.prog 84 = some 1 := by kernel_rfl
@[go_sem] theorem ag84 : aggOf Tryd.prog 84 = some false := by kernel_rfl
@[go_sem] theorem es84 : elemS Tryd.prog 84 = some 28 := by kernel_rfl
@[go_sem] theorem ha84 : hasT Tryd.prog 84 = true := by kernel_rfl
@[go_sem] theorem ic84 : isIfc Tryd.prog 84 = false := by kernel_rfl
@[go_sem] theorem by84 : bytesOf Tryd.prog 84 = some 24 := by kernel_rfl
@[go_sem] theorem ze84 : zeroOf Tryd.prog 84 = some (.slice none 0 0) := by kernel_rfl
@[go_sem] theorem sz85 : szOf Tryd.prog 85 = some 1 := by kernel_rfl
@[go_sem] theorem ag85 : aggOf Tryd.prog 85 = some false := by kernel_rfl
@[go_sem] theorem es85 : elemS Tryd.prog 85 = none := by kernel_rfl
@[go_sem] theorem ha85 : hasT Tryd.prog 85 = true := by kernel_rfl
@[go_sem] theorem ic85 : isIfc Tryd.prog 85 = false := by kernel_rfl
@[go_sem] theorem by85 : bytesOf Tryd.prog 85 = some 8 := by kernel_rfl
@[go_sem] theorem ze85 : zeroOf Tryd.prog 85 = some .nilFunc := by kernel_rfl
@[go_sem] theorem sz86 : szOf Tryd.prog 86 = some 1 := by kernel_rfl
@[go_sem] theorem ag86 : aggOf Tryd.prog 86 = some false := by kernel_rfl
@[go_sem] theorem es86 : elemS Tryd.prog 86 = none := by kernel_rfl
@[go_sem] theorem ha86 : hasT Tryd.prog 86 = true := by kernel_rfl
@[go_sem] theorem ic86 : isIfc Tryd.prog 86 = false := by kernel_rfl
@[go_sem] theorem by86 : bytesOf Tryd.prog 86 = some 8 := by kernel_rfl
@[go_sem] theorem ze86 : zeroOf Tryd.prog 86 = some .nilFunc := by kernel_rfl
@[go_sem] theorem sz87 : szOf Tryd.prog 87 = some 1 := by kernel_rfl
@[go_sem] theorem ag87 : aggOf Tryd.prog 87 = some false := by kernel_rfl
@[go_sem] theorem es87 : elemS Tryd.prog 87 = none := by kernel_rfl
@[go_sem] theorem ha87 : hasT Tryd.prog 87 = true := by kernel_rfl
@[go_sem] theorem ic87 : isIfc Tryd.prog 87 = false := by kernel_rfl
@[go_sem] theorem by87 : bytesOf Tryd.prog 87 = some 8 := by kernel_rfl
@[go_sem] theorem ze87 : zeroOf Tryd.prog 87 = some .nilFunc := by kernel_rfl
@[go_sem] theorem sz88 : szOf Tryd.prog 88 = some 1 := by kernel_rfl
@[go_sem] theorem ag88 : aggOf Tryd.prog 88 = some false := by kernel_rfl
@[go_sem] theorem es88 : elemS Tryd.prog 88 = none := by kernel_rfl
@[go_sem] theorem ha88 : hasT Tryd.prog 88 = true := by kernel_rfl
@[go_sem] theorem ic88 : isIfc Tryd.prog 88 = true := by kernel_rfl
@[go_sem] theorem by88 : bytesOf Tryd.prog 88 = some 16 := by kernel_rfl
@[go_sem] theorem ze88 : zeroOf Tryd.prog 88 = some .nilIface := by kernel_rfl
@[go_sem] theorem sz89 : szOf Tryd.prog 89 = some 1 := by kernel_rfl
@[go_sem] theorem ag89 : aggOf Tryd.prog 89 = some false := by kernel_rfl
@[go_sem] theorem es89 : elemS Tryd.prog 89 = none := by kernel_rfl
@[go_sem] theorem ha89 : hasT Tryd.prog 89 = true := by kernel_rfl
@[go_sem] theorem ic89 : isIfc Tryd.prog 89 = false := by kernel_rfl
@[go_sem] theorem by89 : bytesOf Tryd.prog 89 = some 0 := by kernel_rfl
@[go_sem] theorem sz90 : szOf Tryd.prog 90 = some 1 := by kernel_rfl
@[go_sem] theorem ag90 : aggOf Tryd.prog 90 = some false := by kernel_rfl
@[go_sem] theorem es90 : elemS Tryd.prog 90 = none := by kernel_rfl
@[go_sem] theorem ha90 : hasT Tryd.prog 90 = true := by kernel_rfl
@[go_sem] theorem ic90 : isIfc Tryd.prog 90 = false := by kernel_rfl
@[go_sem] theorem by90 : bytesOf Tryd.prog 90 = some 8 := by kernel_rfl
@[go_sem] theorem ze90 : zeroOf Tryd.prog 90 = some .nilFunc := by kernel_rfl
@[go_sem] theorem sz91 : szOf Tryd.prog 91 = some 1 := by kernel_rfl
@[go_sem] theorem ag91 : aggOf Tryd.prog 91 = some false := by kernel_rfl
@[go_sem] theorem es91 : elemS Tryd.prog 91 = none := by kernel_rfl
@[go_sem] theorem ha91 : hasT Tryd.prog 91 = true := by kernel_rfl
@[go_sem] theorem ic91 : isIfc Tryd.prog 91 = false := by kernel_rfl
@[go_sem] theorem by91 : bytesOf Tryd.prog 91 = some 8 := by kernel_rfl
@[go_sem] theorem ze91 : zeroOf Tryd.prog 91 = some .nilFunc := by kernel_rfl
@[go_sem] theorem sz92 : szOf Tryd.prog 92 = some 24 := by kernel_rfl
@[go_sem] theorem ag92 : aggOf Tryd.prog 92 = some true := by kernel_rfl
@[go_sem] theorem es92 : elemS Tryd.prog 92 = none := by kernel_rfl
@[go_sem] theorem ea92 : elemA Tryd.prog 92 = some (24, 5) := by kernel_rfl
@[go_sem] theorem ha92 : hasT Tryd.prog 92 = true := by kernel_rfl
@[go_sem] theorem ic92 : isIfc Tryd.prog 92 = false := by kernel_rfl
@[go_sem] theorem by92 : bytesOf Tryd.prog 92 = some 24 := by kernel_rfl
@[go_sem] theorem ze92 : zeroOf Tryd.prog 92 = some (.agg #[(.int .u8 0), (.int .u8 0), (.int .u8 0), (.int .u8 0), (.int .u8 0), (.int .u8 0), (.int .u8 0), (.int .u8 0), (.int .u8 0), (.int .u8 0), (.int .u8 0), (.int .u8 0), (.int .u8 0), (.int .u8 0), (.int .u8 0), (.int .u8 0), (.int .u8 0), (.int .u8 0), (.int .u8 0), (.int .u8 0), (.int .u8 0), (.int .u8 0), (.int .u8 0), (.int .u8 0)]) := by kernel_rfl
@[go_sem] theorem sz93 : szOf Tryd.prog 93 = some 1 := by kernel_rfl
@[go_sem] theorem ag93 : aggOf Tryd.prog 93 = some false := by kernel_rfl
@[go_sem] theorem es93 : elemS Tryd.prog 93 = none := by kernel_rfl
@[go_sem] theorem ha93 : hasT Tryd.prog 93 = true := by kernel_rfl
@[go_sem] theorem ic93 : isIfc Tryd.prog 93 = false := by kernel_rfl
@[go_sem] theorem io93 : intOfT Tryd.prog 93 = some .u64 := by kernel_rfl
@[go_sem] theorem by93 : bytesOf Tryd.prog 93 = some 8 := by kernel_rfl
@[go_sem] theorem ze93 : zeroOf Tryd.prog 93 = some (.int .u64 0) := by kernel_rfl
@[go_sem] theorem sz94 : szOf Tryd.prog 94 = some 1 := by kernel_rfl
@[go_sem] theorem ag94 : aggOf Tryd.prog 94 = some false := by kernel_rfl
@[go_sem] theorem es94 : elemS Tryd.prog 94 = none := by kernel_rfl
@[go_sem] theorem ha94 : hasT Tryd.prog 94 = true := by kernel_rfl
@[go_sem] theorem ic94 : isIfc Tryd.prog 94 = false := by kernel_rfl
@[go_sem] theorem by94 : bytesOf Tryd.prog 94 = some 8 := by kernel_rfl
@[go_sem] theorem ze94 : zeroOf Tryd.prog 94 = some .nilFunc := by kernel_rfl
@[go_sem] theorem sz95 : szOf Tryd.prog 95 = some 1 := by kernel_rfl
@[go_sem] theorem ag95 : aggOf Tryd.prog 95 = some false := by kernel_rfl
@[go_sem] theorem es95 : elemS Tryd.prog 95 = none := by kernel_rfl
@[go_sem] theorem ha95 : hasT Tryd.prog 95 = true := by kernel_rfl
@[go_sem] theorem ic95 : isIfc Tryd.prog 95 = false := by kernel_rfl
@[go_sem] theorem by95 : bytesOf Tryd.prog 95 = some 8 := by kernel_rfl
@[go_sem] theorem ze95 : zeroOf Tryd.prog 95 = some .nilFunc := by kernel_rfl
@[go_sem] theorem sz96 : szOf Tryd.prog 96 = some 1 := by kernel_rfl
@[go_sem] theorem ag96 : aggOf Tryd.prog 96 = some false := by kernel_rfl
@[go_sem] theorem es96 : elemS Tryd.prog 96 = some 5 := by kernel_rfl
@[go_sem] theorem ha96 : hasT Tryd.prog 96 = true := by kernel_rfl
@[go_sem] theorem ic96 : isIfc Tryd.prog 96 = false := by kernel_rfl
@[go_sem] theorem by96 : bytesOf Tryd.prog 96 = some 24 := by kernel_rfl
@[go_sem] theorem bt96 : isBytesT Tryd.prog 96 = true := by kernel_rfl
@[go_sem] theorem ze96 : zeroOf Tryd.prog 96 = some (.slice none 0 0) := by kernel_rfl
@[go_sem] theorem sz97 : szOf Tryd.prog 97 = some 1 := by kernel_rfl
@[go_sem] theorem ag97 : aggOf Tryd.prog 97 = some false := by kernel_rfl
@[go_sem] theorem es97 : elemS Tryd.prog 97 = none := by kernel_rfl
@[go_sem] theorem ha97 : hasT Tryd.prog 97 = true := by kernel_rfl
@[go_sem] theorem ic97 : isIfc Tryd.prog 97 = false := by kernel_rfl
@[go_sem] theorem by97 : bytesOf Tryd.prog 97 = some 0 := by kernel_rfl
@[go_sem] theorem sz98 : szOf Tryd.prog 98 = some 1 := by kernel_rfl
@[go_sem] theorem ag98 : aggOf Tryd.prog 98 = some false := by kernel_rfl
@[go_sem] theorem es98 : elemS Tryd.prog 98 = none := by kernel_rfl
@[go_sem] theorem ha98 : hasT Tryd.prog 98 = true := by kernel_rfl
@[go_sem] theorem ic98 : isIfc Tryd.prog 98 = false := by kernel_rfl
@[go_sem] theorem by98 : bytesOf Tryd.prog 98 = some 8 := by kernel_rfl
@[go_sem] theorem ze98 : zeroOf Tryd.prog 98 = some .nilFunc := by kernel_rfl
@[go_sem] theorem sz99 : szOf Tryd.prog 99 = some 1 := by kernel_rfl
@[go_sem] theorem ag99 : aggOf Tryd.prog 99 = some false := by kernel_rfl
@[go_sem] theorem es99 : elemS Tryd.prog 99 = none := by kernel_rfl
@[go_sem] theorem ha99 : hasT Tryd.prog 99 = true := by kernel_rfl
@[go_sem] theorem ic99 : isIfc Tryd.prog 99 = false := by kernel_rfl
@[go_sem] theorem by99 : bytesOf Tryd.prog 99 = some 8 := by kernel_rfl
@[go_sem] theorem ze99 : zeroOf Tryd.prog 99 = some .nilFunc := by kernel_rfl
@[go_sem] theorem sz100 : szOf Tryd.prog 100 = some 1 := by kernel_rfl
@[go_sem] theorem ag100 : aggOf Tryd.prog 100 = some false := by kernel_rfl
@[go_sem] theorem es100 : elemS Tryd.prog 100 = none := by kernel_rfl
@[go_sem] theorem ha100 : hasT Tryd.prog 100 = true := by kernel_rfl
@[go_sem] theorem ic100 : isIfc Tryd.prog 100 = false := by kernel_rfl
@[go_sem] theorem by100 : bytesOf Tryd.prog 100 = some 8 := by kernel_rfl
@[go_sem] theorem ze100 : zeroOf Tryd.prog 100 = some .nilFunc := by kernel_rfl
@[go_sem] theorem sz101 : szOf Tryd.prog 101 = some 20 := by kernel_rfl
@[go_sem] theorem ag101 : aggOf Tryd.prog 101 = some true := by kernel_rfl
@[go_sem] theorem es101 : elemS Tryd.prog 101 = none := by kernel_rfl
@[go_sem] theorem ea101 : elemA Tryd.prog 101 = some (20, 93) := by kernel_rfl
@[go_sem] theorem ha101 : hasT Tryd.prog 101 = true := by kernel_rfl
@[go_sem] theorem ic101 : isIfc Tryd.prog 101 = false := by kernel_rfl
@[go_sem] theorem by101 : bytesOf Tryd.prog 101 = some 160 := by kernel_rfl
@[go_sem] theorem ze101 : zeroOf Tryd.prog 101 = some (.agg #[(.int .u64 0), (.int .u64 0), (.int .u64 0), (.int .u64 0), (.int .u64 0), (.int .u64 0), (.int .u64 0), (.int .u64 0), (.int .u64 0), (.int .u64 0), (.int .u64 0), (.int .u64 0), (.int .u64 0), (.int .u64 0), (.int .u64 0), (.int .u64 0), (.int .u64 0), (.int .u64 0), (.int .u64 0), (.int .u64 0)]) := by kernel_rfl
@[go_sem] theorem sz102 : szOf Tryd.prog 102 = some 1 := by kernel_rfl
@[go_sem] theorem ag102 : aggOf Tryd.prog 102 = some false := by kernel_rfl
@[go_sem] theorem es102 : elemS Tryd.prog 102 = none := by kernel_rfl
@[go_sem] theorem ha102 : hasT Tryd.prog 102 = true := by kernel_rfl
@[go_sem] theorem ic102 : isIfc Tryd.prog 102 = false := by kernel_rfl
@[go_sem] theorem io102 : intOfT Tryd.prog 102 = some .u32 := by kernel_rfl
@[go_sem] theorem by102 : bytesOf Tryd.prog 102 = some 4 := by kernel_rfl
@[go_sem] theorem ze102 : zeroOf Tryd.prog 102 = some (.int .u32 0) := by kernel_rfl
@[go_sem] theorem sz103 : szOf Tryd.prog 103 = some 65 := by kernel_rfl
@[go_sem] theorem ag103 : aggOf Tryd.prog 103 = some true := by kernel_rfl
@[go_sem] theorem es103 : elemS Tryd.prog 103 = none := by kernel_rfl
@[go_sem] theorem ea103 : elemA Tryd.prog 103 = some (65, 5) := by kernel_rfl
@[go_sem] theorem ha103 : hasT Tryd.prog 103 = true := by kernel_rfl
@[go_sem] theorem ic103 : isIfc Tryd.prog 103 = false := by kernel_rfl
@[go_sem] theorem by103 : bytesOf Tryd.prog 103 = some 65 := by kernel_rfl
@[go_sem] theorem ze103 : zeroOf Tryd.prog 103 = some (.agg #[(.int .u8 0), (.int .u8 0), (.int .u8 0), (.int .u8 0), (.int .u8 0), (.int .u8 0), (.int .u8 0), (.int .u8 0), (.int .u8 0), (.int .u8 0), (.int .u8 0), (.int .u8 0), (.int .u8 0), (.int .u8 0), (.int .u8 0), (.int .u8 0), (.int .u8 0), (.int .u8 0), (.int .u8 0), (.int .u8 0), (.int .u8 0), (.int .u8 0), (.int .u8 0), (.int .u8 0), (.int .u8 0), (.int .u8 0), (.int .u8 0), (.int .u8 0), (.int .u8 0), (.int .u8 0), (.int .u8 0), (.int .u8 0), (.int .u8 0), (.int .u8 0), (.int .u8 0), (.int .u8 0), (.int .u8 0), (.int .u8 0), (.int .u8 0), (.int .u8 0), (.int .u8 0), (.int .u8 0), (.int .u8 0), (.int .u8 0), (.int .u8 0), (.int .u8 0), (.int .u8 0), (.int .u8 0), (.int .u8 0), (.int .u8 0), (.int .u8 0), (.int .u8 0), (.int .u8 0), (.int .u8 0), (.int .u8 0), (.int .u8 0), (.int .u8 0), (.int .u8 0), (.int .u8 0), (.int .u8 0), (.int .u8 0), (.int .u8 0), (.int .u8 0), (.int .u8 0), (.int .u8 0)]) := by kernel_rfl
@[go_sem] theorem sz104 : szOf Tryd.prog 104 = some 1 := by kernel_rfl
@[go_sem] theorem ag104 : aggOf Tryd.prog 104 = some false := by kernel_rfl
@[go_sem] theorem es104 : elemS Tryd.prog 104 = none := by kernel_rfl
@[go_sem] theorem ha104 : hasT Tryd.prog 104 = true := by kernel_rfl
@[go_sem] theorem ic104 : isIfc Tryd.prog 104 = false := by kernel_rfl
@[go_sem] theorem by104 : bytesOf Tryd.prog 104 = some 8 := by kernel_rfl
@[go_sem] theorem ze104 : zeroOf Tryd.prog 104 = some .nilFunc := by kernel_rfl
@[go_sem] theorem sz105 : szOf Tryd.prog 105 = some 1 := by kernel_rfl
@[go_sem] theorem ag105 : aggOf Tryd.prog 105 = some false := by kernel_rfl
@[go_sem] theorem es105 : elemS Tryd.prog 105 = none := by kernel_rfl
@[go_sem] theorem ha105 : hasT Tryd.prog 105 = true := by kernel_rfl
@[go_sem] theorem ic105 : isIfc Tryd.prog 105 = false := by kernel_rfl
@[go_sem] theorem io105 : intOfT Tryd.prog 105 = some .u64 := by kernel_rfl
@[go_sem] theorem by105 : bytesOf Tryd.prog 105 = some 8 := by kernel_rfl
@[go_sem] theorem ze105 : zeroOf Tryd.prog 105 = some (.int .u64 0) := by kernel_rfl
@[go_sem] theorem sz106 : szOf Tryd.prog 106 = some 1 := by kernel_rfl
@[go_sem] theorem ag106 : aggOf Tryd.prog 106 = some false := by kernel_rfl
@[go_sem] theorem es106 : elemS Tryd.prog 106 = none := by kernel_rfl
@[go_sem] theorem ha106 : hasT Tryd.prog 106 = true := by kernel_rfl
@[go_sem] theorem ic106 : isIfc Tryd.prog 106 = false := by kernel_rfl
@[go_sem] theorem by106 : bytesOf Tryd.prog 106 = some 8 := by kernel_rfl
@[go_sem] theorem ze106 : zeroOf Tryd.prog 106 = some .nilFunc := by kernel_rfl
@[go_sem] theorem sz107 : szOf Tryd.prog 107 = some 1 := by kernel_rfl
@[go_sem] theorem ag107 : aggOf Tryd.prog 107 = some false := by kernel_rfl
@[go_sem] theorem es107 : elemS Tryd.prog 107 = none := by kernel_rfl
@[go_sem] theorem ha107 : hasT Tryd.prog 107 = true := by kernel_rfl
@[go_sem] theorem ic107 : isIfc Tryd.prog 107 = false := by kernel_rfl
@[go_sem] theorem by107 : bytesOf Tryd.prog 107 = some 8 := by kernel_rfl
@[go_sem] theorem ze107 : zeroOf Tryd.prog 107 = some .nilFunc := by kernel_rfl
@[go_sem] theorem sz108 : szOf Tryd.prog 108 = some 32 := by kernel_rfl
@[go_sem] theorem ag108 : aggOf Tryd.prog 108 = some true := by kernel_rfl
@[go_sem] theorem es108 : elemS Tryd.prog 108 = none := by kernel_rfl
@[go_sem] theorem ea108 : elemA Tryd.prog 108 = some (32, 5) := by kernel_rfl
@[go_sem] theorem ha108 : hasT Tryd.prog 108 = true := by kernel_rfl
@[go_sem] theorem ic108 : isIfc Tryd.prog 108 = false := by kernel_rfl
@[go_sem] theorem by108 : bytesOf Tryd.prog 108 = some 32 := by kernel_rfl
@[go_sem] theorem ze108 : zeroOf Tryd.prog 108 = some (.agg #[(.int .u8 0), (.int .u8 0), (.int .u8 0), (.int .u8 0), (.int .u8 0), (.int .u8 0), (.int .u8 0), (.int .u8 0), (.int .u8 0), (.int .u8 0), (.int .u8 0), (.int .u8 0), (.int .u8 0), (.int .u8 0), (.int .u8 0), (.int .u8 0), (.int .u8 0), (.int .u8 0), (.int .u8 0), (.int .u8 0), (.int .u8 0), (.int .u8 0), (.int .u8 0), (.int .u8 0), (.int .u8 0), (.int .u8 0), (.int .u8 0), (.int .u8 0), (.int .u8 0), (.int .u8 0), (.int .u8 0), (.int .u8 0)]) := by kernel_rfl
@[go_sem] theorem sz109 : szOf Tryd.prog 109 = some 64 := by kernel_rfl
@[go_sem] theorem ag109 : aggOf Tryd.prog 109 = some true := by kernel_rfl
@[go_sem] theorem es109 : elemS Tryd.prog 109 = none := by kernel_rfl
@[go_sem] theorem ea109 : elemA Tryd.prog 109 = some (64, 5) := by kernel_rfl
@[go_sem] theorem ha109 : hasT Tryd.prog 109 = true := by kernel_rfl
@[go_sem] theorem ic109 : isIfc Tryd.prog 109 = false := by kernel_rfl
@[go_sem] theorem by109 : bytesOf Tryd.prog 109 = some 64 := by kernel_rfl
@[go_sem] theorem ze109 : zeroOf Tryd.prog 109 = some (.agg #[(.int .u8 0), (.int .u8 0), (.int .u8 0), (.int .u8 0), (.int .u8 0), (.int .u8 0), (.int .u8 0), (.int .u8 0), (.int .u8 0), (.int .u8 0), (.int .u8 0), (.int .u8 0), (.int .u8 0), (.int .u8 0), (.int .u8 0), (.int .u8 0), (.int .u8 0), (.int .u8 0), (.int .u8 0), (.int .u8 0), (.int .u8 0), (.int .u8 0), (.int .u8 0), (.int .u8 0), (.int .u8 0), (.int .u8 0), (.int .u8 0), (.int .u8 0), (.int .u8 0), (.int .u8 0), (.int .u8 0), (.int .u8 0), (.int .u8 0), (.int .u8 0), (.int .u8 0), (.int .u8 0), (.int .u8 0), (.int .u8 0), (.int .u8 0), (.int .u8 0), (.int .u8 0), (.int .u8 0), (.int .u8 0), (.int .u8 0), (.int .u8 0), (.int .u8 0), (.int .u8 0), (.int .u8 0), (.int .u8 0), (.int .u8 0), (.int .u8 0), (.int .u8 0), (.int .u8 0), (.int .u8 0), (.int .u8 0), (.int .u8 0), (.int .u8 0), (.int .u8 0), (.int .u8 0), (.int .u8 0), (.int .u8 0), (.int .u8 0), (.int .u8 0), (.int .u8 0)]) := by kernel_rfl
@[go_sem] theorem sz110 : szOf Tryd.prog 110 = some 4 := by kernel_rfl
@[go_sem] theorem ag110 : aggOf Tryd.prog 110 = some true := by kernel_rfl
@[go_sem] theorem fl110_0 : fldOf Tryd.prog 110 0 = some (0, 17) := by kernel_rfl
@[go_sem] theorem fl110_1 : fldOf Tryd.prog 110 1 = some (1, 17) := by kernel_rfl
@[go_sem] theorem fl110_2 : fldOf Tryd.prog 110 2 = some (2, 17) := by kernel_rfl
@[go_sem] theorem fl110_3 : fldOf Tryd.prog 110 3 = some (3, 9) := by kernel_rfl
@[go_sem] theorem es110 : elemS Tryd.prog 110 = none := by kernel_rfl
@[go_sem] theorem ha110 : hasT Tryd.prog 110 = true := by kernel_rfl
@[go_sem] theorem ic110 : isIfc Tryd.prog 110 = false := by kernel_rfl
@[go_sem] theorem pl110 : placesOf Tryd.prog 110 = some [(0, 1), (1, 1), (2, 1), (3, 1)] := by kernel_rfl
@[go_sem] theorem by110 : bytesOf Tryd.prog 110 = some 40 := by kernel_rfl
@[go_sem] theorem ze110 : zeroOf Tryd.prog 110 = some (.agg #[(.pointer none), (.pointer none), (.pointer none), (.string ByteArray.empty)]) := by kernel_rfl
@[go_sem] theorem sz111 : szOf Tryd.prog 111 = some 4 := by kernel_rfl
@[go_sem] theorem ag111 : aggOf Tryd.prog 111 = some true := by kernel_rfl
@[go_sem] theorem fl111_0 : fldOf Tryd.prog 111 0 = some (0, 17) := by kernel_rfl
@[go_sem] theorem fl111_1 : fldOf Tryd.prog 111 1 = some (1, 17) := by kernel_rfl
@[go_sem] theorem fl111_2 : fldOf Tryd.prog 111 2 = some (2, 17) := by kernel_rfl
@[go_sem] theorem fl111_3 : fldOf Tryd.prog 111 3 = some (3, 9) := by kernel_rfl
@[go_sem] theorem es111 : elemS Tryd.prog 111 = none := by kernel_rfl
@[go_sem] theorem ha111 : hasT Tryd.prog 111 = true := by kernel_rfl
@[go_sem] theorem ic111 : isIfc Tryd.prog 111 = false := by kernel_rfl
@[go_sem] theorem pl111 : placesOf Tryd.prog 111 = some [(0, 1), (1, 1), (2, 1), (3, 1)] := by kernel_rfl
@[go_sem] theorem by111 : bytesOf Tryd.prog 111 = some 40 := by kernel_rfl
@[go_sem] theorem ze111 : zeroOf Tryd.prog 111 = some (.agg #[(.pointer none), (.pointer none), (.pointer none), (.string ByteArray.empty)]) := by kernel_rfl
@[go_sem] theorem sz112 : szOf Tryd.prog 112 = some 0 := by kernel_rfl
@[go_sem] theorem ag112 : aggOf Tryd.prog 112 = some true := by kernel_rfl
@[go_sem] theorem es112 : elemS Tryd.prog 112 = none := by kernel_rfl
@[go_sem] theorem ea112 : elemA Tryd.prog 112 = some (0, 16) := by kernel_rfl
@[go_sem] theorem ha112 : hasT Tryd.prog 112 = true := by kernel_rfl
@[go_sem] theorem ic112 : isIfc Tryd.prog 112 = false := by kernel_rfl
@[go_sem] theorem by112 : bytesOf Tryd.prog 112 = some 0 := by kernel_rfl
@[go_sem] theorem sz113 : szOf Tryd.prog 113 = some 0 := by kernel_rfl
@[go_sem] theorem ag113 : aggOf Tryd.prog 113 = some true := by kernel_rfl
@[go_sem] theorem fl113_0 : fldOf Tryd.prog 113 0 = some (0, 112) := by kernel_rfl
@[go_sem] theorem es113 : elemS Tryd.prog 113 = none := by kernel_rfl
@[go_sem] theorem ha113 : hasT Tryd.prog 113 = true := by kernel_rfl
@[go_sem] theorem ic113 : isIfc Tryd.prog 113 = false := by kernel_rfl
@[go_sem] theorem pl113 : placesOf Tryd.prog 113 = some [(0, 0)] := by kernel_rfl
@[go_sem] theorem by113 : bytesOf Tryd.prog 113 = some 0 := by kernel_rfl
@[go_sem] theorem sz114 : szOf Tryd.prog 114 = some 0 := by kernel_rfl
@[go_sem] theorem ag114 : aggOf Tryd.prog 114 = some true := by kernel_rfl
@[go_sem] theorem fl114_0 : fldOf Tryd.prog 114 0 = some (0, 112) := by kernel_rfl
@[go_sem] theorem es114 : elemS Tryd.prog 114 = none := by kernel_rfl
@[go_sem] theorem ha114 : hasT Tryd.prog 114 = true := by kernel_rfl
@[go_sem] theorem ic114 : isIfc Tryd.prog 114 = false := by kernel_rfl
@[go_sem] theorem pl114 : placesOf Tryd.prog 114 = some [(0, 0)] := by kernel_rfl
@[go_sem] theorem by114 : bytesOf Tryd.prog 114 = some 0 := by kernel_rfl
@[go_sem] theorem sz115 : szOf Tryd.prog 115 = some 1 := by kernel_rfl
@[go_sem] theorem ag115 : aggOf Tryd.prog 115 = some false := by kernel_rfl
@[go_sem] theorem es115 : elemS Tryd.prog 115 = none := by kernel_rfl
@[go_sem] theorem ha115 : hasT Tryd.prog 115 = true := by kernel_rfl
@[go_sem] theorem ic115 : isIfc Tryd.prog 115 = false := by kernel_rfl
@[go_sem] theorem by115 : bytesOf Tryd.prog 115 = some 8 := by kernel_rfl
@[go_sem] theorem ze115 : zeroOf Tryd.prog 115 = some .nilFunc := by kernel_rfl
@[go_sem] theorem sz116 : szOf Tryd.prog 116 = some 1 := by kernel_rfl
@[go_sem] theorem ag116 : aggOf Tryd.prog 116 = some false := by kernel_rfl
@[go_sem] theorem es116 : elemS Tryd.prog 116 = none := by kernel_rfl
@[go_sem] theorem ha116 : hasT Tryd.prog 116 = true := by kernel_rfl
@[go_sem] theorem ic116 : isIfc Tryd.prog 116 = false := by kernel_rfl
@[go_sem] theorem by116 : bytesOf Tryd.prog 116 = some 8 := by kernel_rfl
@[go_sem] theorem ze116 : zeroOf Tryd.prog 116 = some .nilFunc := by kernel_rfl
@[go_sem] theorem sz117 : szOf Tryd.prog 117 = some 1 := by kernel_rfl
@[go_sem] theorem ag117 : aggOf Tryd.prog 117 = some false := by kernel_rfl
@[go_sem] theorem es117 : elemS Tryd.prog 117 = none := by kernel_rfl
@[go_sem] theorem ha117 : hasT Tryd.prog 117 = true := by kernel_rfl
@[go_sem] theorem ic117 : isIfc Tryd.prog 117 = false := by kernel_rfl
@[go_sem] theorem io117 : intOfT Tryd.prog 117 = some .u8 := by kernel_rfl
@[go_sem] theorem by117 : bytesOf Tryd.prog 117 = some 1 := by kernel_rfl
@[go_sem] theorem ze117 : zeroOf Tryd.prog 117 = some (.int .u8 0) := by kernel_rfl
@[go_sem] theorem sz118 : szOf Tryd.prog 118 = some 1 := by kernel_rfl
@[go_sem] theorem ag118 : aggOf Tryd.prog 118 = some false := by kernel_rfl
@[go_sem] theorem es118 : elemS Tryd.prog 118 = none := by kernel_rfl
@[go_sem] theorem ha118 : hasT Tryd.prog 118 = true := by kernel_rfl
@[go_sem] theorem ic118 : isIfc Tryd.prog 118 = false := by kernel_rfl
@[go_sem] theorem by118 : bytesOf Tryd.prog 118 = some 8 := by kernel_rfl
@[go_sem] theorem ze118 : zeroOf Tryd.prog 118 = some .nilFunc := by kernel_rfl
@[go_sem] theorem sz119 : szOf Tryd.prog 119 = some 1 := by kernel_rfl
@[go_sem] theorem ag119 : aggOf Tryd.prog 119 = some false := by kernel_rfl
@[go_sem] theorem es119 : elemS Tryd.prog 119 = none := by kernel_rfl
@[go_sem] theorem ha119 : hasT Tryd.prog 119 = true := by kernel_rfl
@[go_sem] theorem ic119 : isIfc Tryd.prog 119 = false := by kernel_rfl
@[go_sem] theorem by119 : bytesOf Tryd.prog 119 = some 8 := by kernel_rfl
@[go_sem] theorem ip119 : isPtrT Tryd.prog 119 = true := by kernel_rfl
@[go_sem] theorem ze119 : zeroOf Tryd.prog 119 = some (.pointer none) := by kernel_rfl
@[go_sem] theorem sz120 : szOf Tryd.prog 120 = some 1 := by kernel_rfl
@[go_sem] theorem ag120 : aggOf Tryd.prog 120 = some false := by kernel_rfl
@[go_sem] theorem es120 : elemS Tryd.prog 120 = none := by kernel_rfl
@[go_sem] theorem ha120 : hasT Tryd.prog 120 = true := by kernel_rfl
@[go_sem] theorem ic120 : isIfc Tryd.prog 120 = false := by kernel_rfl
@[go_sem] theorem io120 : intOfT Tryd.prog 120 = some .i32 := by kernel_rfl
@[go_sem] theorem by120 : bytesOf Tryd.prog 120 = some 4 := by kernel_rfl
@[go_sem] theorem ze120 : zeroOf Tryd.prog 120 = some (.int .i32 0) := by kernel_rfl
@[go_sem] theorem sz121 : szOf Tryd.prog 121 = some 1 := by kernel_rfl
@[go_sem] theorem ag121 : aggOf Tryd.prog 121 = some false := by kernel_rfl
@[go_sem] theorem es121 : elemS Tryd.prog 121 = none := by kernel_rfl
@[go_sem] theorem ha121 : hasT Tryd.prog 121 = true := by kernel_rfl
@[go_sem] theorem ic121 : isIfc Tryd.prog 121 = false := by kernel_rfl
@[go_sem] theorem io121 : intOfT Tryd.prog 121 = some .i32 := by kernel_rfl
@[go_sem] theorem by121 : bytesOf Tryd.prog 121 = some 4 := by kernel_rfl
@[go_sem] theorem ze121 : zeroOf Tryd.prog 121 = some (.int .i32 0) := by kernel_rfl
@[go_sem] theorem sz122 : szOf Tryd.prog 122 = some 11 := by kernel_rfl
@[go_sem] theorem ag122 : aggOf Tryd.prog 122 = some true := by kernel_rfl
@[go_sem] theorem fl122_0 : fldOf Tryd.prog 122 0 = some (0, 12) := by kernel_rfl
@[go_sem] theorem fl122_1 : fldOf Tryd.prog 122 1 = some (1, 12) := by kernel_rfl
@[go_sem] theorem fl122_2 : fldOf Tryd.prog 122 2 = some (2, 102) := by kernel_rfl
@[go_sem] theorem fl122_3 : fldOf Tryd.prog 122 3 = some (3, 117) := by kernel_rfl
@[go_sem] theorem fl122_4 : fldOf Tryd.prog 122 4 = some (4, 5) := by kernel_rfl
@[go_sem] theorem fl122_5 : fldOf Tryd.prog 122 5 = some (5, 5) := by kernel_rfl
@[go_sem] theorem fl122_6 : fldOf Tryd.prog 122 6 = some (6, 73) := by kernel_rfl
@[go_sem] theorem fl122_7 : fldOf Tryd.prog 122 7 = some (7, 118) := by kernel_rfl
@[go_sem] theorem fl122_8 : fldOf Tryd.prog 122 8 = some (8, 119) := by kernel_rfl
@[go_sem] theorem fl122_9 : fldOf Tryd.prog 122 9 = some (9, 120) := by kernel_rfl
@[go_sem] theorem fl122_10 : fldOf Tryd.prog 122 10 = some (10, 121) := by kernel_rfl
@[go_sem] theorem es122 : elemS Tryd.prog 122 = none := by kernel_rfl
@[go_sem] theorem ha122 : hasT Tryd.prog 122 = true := by kernel_rfl
@[go_sem] theorem ic122 : isIfc Tryd.prog 122 = false := by kernel_rfl
@[go_sem] theorem pl122 : placesOf Tryd.prog 122 = some [(0, 1), (1, 1), (2, 1), (3, 1), (4, 1), (5, 1), (6, 1), (7, 1), (8, 1), (9, 1), (10, 1)] := by kernel_rfl
@[go_sem] theorem by122 : bytesOf Tryd.prog 122 = some 48 := by kernel_rfl
@[go_sem] theorem ze122 : zeroOf Tryd.prog 122 = some (.agg #[(.int .u64 0), (.int .u64 0), (.int .u32 0), (.int .u8 0), (.int .u8 0), (.int .u8 0), (.int .u8 0), .nilFunc, (.pointer none), (.int .i32 0), (.int .i32 0)]) := by kernel_rfl
@[go_sem] theorem sz123 : szOf Tryd.prog 123 = some 11 := by kernel_rfl
@[go_sem] theorem ag123 : aggOf Tryd.prog 123 = some true := by kernel_rfl
@[go_sem] theorem fl123_0 : fldOf Tryd.prog 123 0 = some (0, 12) := by kernel_rfl
@[go_sem] theorem fl123_1 : fldOf Tryd.prog 123 1 = some (1, 12) := by kernel_rfl
@[go_sem] theorem fl123_2 : fldOf Tryd.prog 123 2 = some (2, 102) := by kernel_rfl
@[go_sem] theorem fl123_3 : fldOf Tryd.prog 123 3 = some (3, 117) := by kernel_rfl
@[go_sem] theorem fl123_4 : fldOf Tryd.prog 123 4 = some (4, 5) := by kernel_rfl
@[go_sem] theorem fl123_5 : fldOf Tryd.prog 123 5 = some (5, 5) := by kernel_rfl
@[go_sem] theorem fl123_6 : fldOf Tryd.prog 123 6 = some (6, 73) := by kernel_rfl
@[go_sem] theorem fl123_7 : fldOf Tryd.prog 123 7 = some (7, 118) := by kernel_rfl
@[go_sem] theorem fl123_8 : fldOf Tryd.prog 123 8 = some (8, 119) := by kernel_rfl
@[go_sem] theorem fl123_9 : fldOf Tryd.prog 123 9 = some (9, 120) := by kernel_rfl
@[go_sem] theorem fl123_10 : fldOf Tryd.prog 123 10 = some (10, 121) := by kernel_rfl
@[go_sem] theorem es123 : elemS Tryd.prog 123 = none := by kernel_rfl
@[go_sem] theorem ha123 : hasT Tryd.prog 123 = true := by kernel_rfl
@[go_sem] theorem ic123 : isIfc Tryd.prog 123 = false := by kernel_rfl
@[go_sem] theorem pl123 : placesOf Tryd.prog 123 = some [(0, 1), (1, 1), (2, 1), (3, 1), (4, 1), (5, 1), (6, 1), (7, 1), (8, 1), (9, 1), (10, 1)] := by kernel_rfl
@[go_sem] theorem by123 : bytesOf Tryd.prog 123 = some 48 := by kernel_rfl
@[go_sem] theorem ze123 : zeroOf Tryd.prog 123 = some (.agg #[(.int .u64 0), (.int .u64 0), (.int .u32 0), (.int .u8 0), (.int .u8 0), (.int .u8 0), (.int .u8 0), .nilFunc, (.pointer none), (.int .i32 0), (.int .i32 0)]) := by kernel_rfl
@[go_sem] theorem sz124 : szOf Tryd.prog 124 = some 1 := by kernel_rfl
@[go_sem] theorem ag124 : aggOf Tryd.prog 124 = some false := by kernel_rfl
@[go_sem] theorem es124 : elemS Tryd.prog 124 = none := by kernel_rfl
@[go_sem] theorem ha124 : hasT Tryd.prog 124 = true := by kernel_rfl
@[go_sem] theorem ic124 : isIfc Tryd.prog 124 = false := by kernel_rfl
@[go_sem] theorem by124 : bytesOf Tryd.prog 124 = some 8 := by kernel_rfl
@[go_sem] theorem ze124 : zeroOf Tryd.prog 124 = some .nilFunc := by kernel_rfl
@[go_sem] theorem sz125 : szOf Tryd.prog 125 = some 1 := by kernel_rfl
@[go_sem] theorem ag125 : aggOf Tryd.prog 125 = some false := by kernel_rfl
@[go_sem] theorem es125 : elemS Tryd.prog 125 = none := by kernel_rfl
@[go_sem] theorem ha125 : hasT Tryd.prog 125 = true := by kernel_rfl
@[go_sem] theorem ic125 : isIfc Tryd.prog 125 = false := by kernel_rfl
@[go_sem] theorem by125 : bytesOf Tryd.prog 125 = some 8 := by kernel_rfl
@[go_sem] theorem ze125 : zeroOf Tryd.prog 125 = some .nilFunc := by kernel_rfl
@[go_sem] theorem sz126 : szOf Tryd.prog 126 = some 2 := by kernel_rfl
@[go_sem] theorem ag126 : aggOf Tryd.prog 126 = some true := by kernel_rfl
@[go_sem] theorem fl126_0 : fldOf Tryd.prog 126 0 = some (0, 9) := by kernel_rfl
@[go_sem] theorem fl126_1 : fldOf Tryd.prog 126 1 = some (1, 73) := by kernel_rfl
@[go_sem] theorem es126 : elemS Tryd.prog 126 = none := by kernel_rfl
@[go_sem] theorem ha126 : hasT Tryd.prog 126 = true := by kernel_rfl
@[go_sem] theorem ic126 : isIfc Tryd.prog 126 = false := by kernel_rfl
@[go_sem] theorem pl126 : placesOf Tryd.prog 126 = some [(0, 1), (1, 1)] := by kernel_rfl
@[go_sem] theorem by126 : bytesOf Tryd.prog 126 = some 24 := by kernel_rfl
@[go_sem] theorem ze126 : zeroOf Tryd.prog 126 = some (.agg #[(.string ByteArray.empty), (.int .u8 0)]) := by kernel_rfl
@[go_sem] theorem sz127 : szOf Tryd.prog 127 = some 2 := by kernel_rfl
@[go_sem] theorem ag127 : aggOf Tryd.prog 127 = some true := by kernel_rfl
@[go_sem] theorem fl127_0 : fldOf Tryd.prog 127 0 = some (0, 9) := by kernel_rfl
@[go_sem] theorem fl127_1 : fldOf Tryd.prog 127 1 = some (1, 73) := by kernel_rfl
@[go_sem] theorem es127 : elemS Tryd.prog 127 = none := by kernel_rfl
@[go_sem] theorem ha127 : hasT Tryd.prog 127 = true := by kernel_rfl
@[go_sem] theorem ic127 : isIfc Tryd.prog 127 = false := by kernel_rfl
@[go_sem] theorem pl127 : placesOf Tryd.prog 127 = some [(0, 1), (1, 1)] := by kernel_rfl
@[go_sem] theorem by127 : bytesOf Tryd.prog 127 = some 24 := by kernel_rfl
@[go_sem] theorem ze127 : zeroOf Tryd.prog 127 = some (.agg #[(.string ByteArray.empty), (.int .u8 0)]) := by kernel_rfl
@[go_sem] theorem sz128 : szOf Tryd.prog 128 = some 1 := by kernel_rfl
@[go_sem] theorem ag128 : aggOf Tryd.prog 128 = some false := by kernel_rfl
@[go_sem] theorem es128 : elemS Tryd.prog 128 = none := by kernel_rfl
@[go_sem] theorem ha128 : hasT Tryd.prog 128 = true := by kernel_rfl
@[go_sem] theorem ic128 : isIfc Tryd.prog 128 = false := by kernel_rfl
@[go_sem] theorem by128 : bytesOf Tryd.prog 128 = some 8 := by kernel_rfl
@[go_sem] theorem ip128 : isPtrT Tryd.prog 128 = true := by kernel_rfl
@[go_sem] theorem ze128 : zeroOf Tryd.prog 128 = some (.pointer none) := by kernel_rfl
@[go_sem] theorem sz129 : szOf Tryd.prog 129 = some 1 := by kernel_rfl
@[go_sem] theorem ag129 : aggOf Tryd.prog 129 = some false := by kernel_rfl
@[go_sem] theorem es129 : elemS Tryd.prog 129 = none := by kernel_rfl
@[go_sem] theorem ha129 : hasT Tryd.prog 129 = true := by kernel_rfl
@[go_sem] theorem ic129 : isIfc Tryd.prog 129 = false := by kernel_rfl
@[go_sem] theorem by129 : bytesOf Tryd.prog 129 = some 8 := by kernel_rfl
@[go_sem] theorem ze129 : zeroOf Tryd.prog 129 = some .nilFunc := by kernel_rfl
@[go_sem] theorem sz130 : szOf Tryd.prog 130 = some 1 := by kernel_rfl
@[go_sem] theorem ag130 : aggOf Tryd.prog 130 = some false := by kernel_rfl
@[go_sem] theorem es130 : elemS Tryd.prog 130 = none := by kernel_rfl
@[go_sem] theorem ha130 : hasT Tryd.prog 130 = true := by kernel_rfl
@[go_sem] theorem ic130 : isIfc Tryd.prog 130 = false := by kernel_rfl
@[go_sem] theorem io130 : intOfT Tryd.prog 130 = some .u16 := by kernel_rfl
@[go_sem] theorem by130 : bytesOf Tryd.prog 130 = some 2 := by kernel_rfl
@[go_sem] theorem ze130 : zeroOf Tryd.prog 130 = some (.int .u16 0) := by kernel_rfl
@[go_sem] theorem sz131 : szOf Tryd.prog 131 = some 5 := by kernel_rfl
@[go_sem] theorem ag131 : aggOf Tryd.prog 131 = some true := by kernel_rfl
@[go_sem] theorem fl131_0 : fldOf Tryd.prog 131 0 = some (0, 120) := by kernel_rfl
@[go_sem] theorem fl131_1 : fldOf Tryd.prog 131 1 = some (1, 130) := by kernel_rfl
@[go_sem] theorem fl131_2 : fldOf Tryd.prog 131 2 = some (2, 130) := by kernel_rfl
@[go_sem] theorem fl131_3 : fldOf Tryd.prog 131 3 = some (3, 102) := by kernel_rfl
@[go_sem] theorem fl131_4 : fldOf Tryd.prog 131 4 = some (4, 102) := by kernel_rfl
@[go_sem] theorem es131 : elemS Tryd.prog 131 = none := by kernel_rfl
@[go_sem] theorem ha131 : hasT Tryd.prog 131 = true := by kernel_rfl
@[go_sem] theorem ic131 : isIfc Tryd.prog 131 = false := by kernel_rfl
@[go_sem] theorem pl131 : placesOf Tryd.prog 131 = some [(0, 1), (1, 1), (2, 1), (3, 1), (4, 1)] := by kernel_rfl
@[go_sem] theorem by131 : bytesOf Tryd.prog 131 = some 16 := by kernel_rfl
@[go_sem] theorem ze131 : zeroOf Tryd.prog 131 = some (.agg #[(.int .i32 0), (.int .u16 0), (.int .u16 0), (.int .u32 0), (.int .u32 0)]) := by kernel_rfl
@[go_sem] theorem sz132 : szOf Tryd.prog 132 = some 5 := by kernel_rfl
@[go_sem] theorem ag132 : aggOf Tryd.prog 132 = some true := by kernel_rfl
@[go_sem] theorem fl132_0 : fldOf Tryd.prog 132 0 = some (0, 120) := by kernel_rfl
@[go_sem] theorem fl132_1 : fldOf Tryd.prog 132 1 = some (1, 130) := by kernel_rfl
@[go_sem] theorem fl132_2 : fldOf Tryd.prog 132 2 = some (2, 130) := by kernel_rfl
@[go_sem] theorem fl132_3 : fldOf Tryd.prog 132 3 = some (3, 102) := by kernel_rfl
@[go_sem] theorem fl132_4 : fldOf Tryd.prog 132 4 = some (4, 102) := by kernel_rfl
@[go_sem] theorem es132 : elemS Tryd.prog 132 = none := by kernel_rfl
@[go_sem] theorem ha132 : hasT Tryd.prog 132 = true := by kernel_rfl
@[go_sem] theorem ic132 : isIfc Tryd.prog 132 = false := by kernel_rfl
@[go_sem] theorem pl132 : placesOf Tryd.prog 132 = some [(0, 1), (1, 1), (2, 1), (3, 1), (4, 1)] := by kernel_rfl
@[go_sem] theorem by132 : bytesOf Tryd.prog 132 = some 16 := by kernel_rfl
@[go_sem] theorem ze132 : zeroOf Tryd.prog 132 = some (.agg #[(.int .i32 0), (.int .u16 0), (.int .u16 0), (.int .u32 0), (.int .u32 0)]) := by kernel_rfl
@[go_sem] theorem sz133 : szOf Tryd.prog 133 = some 1 := by kernel_rfl
@[go_sem] theorem ag133 : aggOf Tryd.prog 133 = some false := by kernel_rfl
@[go_sem] theorem es133 : elemS Tryd.prog 133 = some 136 := by kernel_rfl
@[go_sem] theorem ha133 : hasT Tryd.prog 133 = true := by kernel_rfl
@[go_sem] theorem ic133 : isIfc Tryd.prog 133 = false := by kernel_rfl
@[go_sem] theorem by133 : bytesOf Tryd.prog 133 = some 24 := by kernel_rfl
@[go_sem] theorem ze133 : zeroOf Tryd.prog 133 = some (.slice none 0 0) := by kernel_rfl
@[go_sem] theorem sz134 : szOf Tryd.prog 134 = some 1 := by kernel_rfl
@[go_sem] theorem ag134 : aggOf Tryd.prog 134 = some false := by kernel_rfl
@[go_sem] theorem es134 : elemS Tryd.prog 134 = none := by kernel_rfl
@[go_sem] theorem ha134 : hasT Tryd.prog 134 = true := by kernel_rfl
@[go_sem] theorem ic134 : isIfc Tryd.prog 134 = false := by kernel_rfl
@[go_sem] theorem io134 : intOfT Tryd.prog 134 = some .i32 := by kernel_rfl
@[go_sem] theorem by134 : bytesOf Tryd.prog 134 = some 4 := by kernel_rfl
@[go_sem] theorem ze134 : zeroOf Tryd.prog 134 = some (.int .i32 0) := by kernel_rfl
@[go_sem] theorem sz135 : szOf Tryd.prog 135 = some 4 := by kernel_rfl
@[go_sem] theorem ag135 : aggOf Tryd.prog 135 = some true := by kernel_rfl
@[go_sem] theorem fl135_0 : fldOf Tryd.prog 135 0 = some (0, 120) := by kernel_rfl
@[go_sem] theorem fl135_1 : fldOf Tryd.prog 135 1 = some (1, 121) := by kernel_rfl
@[go_sem] theorem fl135_2 : fldOf Tryd.prog 135 2 = some (2, 134) := by kernel_rfl
@[go_sem] theorem fl135_3 : fldOf Tryd.prog 135 3 = some (3, 134) := by kernel_rfl
@[go_sem] theorem es135 : elemS Tryd.prog 135 = none := by kernel_rfl
@[go_sem] theorem ha135 : hasT Tryd.prog 135 = true := by kernel_rfl
@[go_sem] theorem ic135 : isIfc Tryd.prog 135 = false := by kernel_rfl
@[go_sem] theorem pl135 : placesOf Tryd.prog 135 = some [(0, 1), (1, 1), (2, 1), (3, 1)] := by kernel_rfl
@[go_sem] theorem by135 : bytesOf Tryd.prog 135 = some 16 := by kernel_rfl
@[go_sem] theorem ze135 : zeroOf Tryd.prog 135 = some (.agg #[(.int .i32 0), (.int .i32 0), (.int .i32 0), (.int .i32 0)]) := by kernel_rfl
@[go_sem] theorem sz136 : szOf Tryd.prog 136 = some 4 := by kernel_rfl
@[go_sem] theorem ag136 : aggOf Tryd.prog 136 = some true := by kernel_rfl
@[go_sem] theorem fl136_0 : fldOf Tryd.prog 136 0 = some (0, 120) := by kernel_rfl
@[go_sem] theorem fl136_1 : fldOf Tryd.prog 136 1 = some (1, 121) := by kernel_rfl
@[go_sem] theorem fl136_2 : fldOf Tryd.prog 136 2 = some (2, 134) := by kernel_rfl
@[go_sem] theorem fl136_3 : fldOf Tryd.prog 136 3 = some (3, 134) := by kernel_rfl
@[go_sem] theorem es136 : elemS Tryd.prog 136 = none := by kernel_rfl
@[go_sem] theorem ha136 : hasT Tryd.prog 136 = true := by kernel_rfl
@[go_sem] theorem ic136 : isIfc Tryd.prog 136 = false := by kernel_rfl
@[go_sem] theorem pl136 : placesOf Tryd.prog 136 = some [(0, 1), (1, 1), (2, 1), (3, 1)] := by kernel_rfl
@[go_sem] theorem by136 : bytesOf Tryd.prog 136 = some 16 := by kernel_rfl
@[go_sem] theorem ze136 : zeroOf Tryd.prog 136 = some (.agg #[(.int .i32 0), (.int .i32 0), (.int .i32 0), (.int .i32 0)]) := by kernel_rfl
@[go_sem] theorem sz137 : szOf Tryd.prog 137 = some 1 := by kernel_rfl
@[go_sem] theorem ag137 : aggOf Tryd.prog 137 = some false := by kernel_rfl
@[go_sem] theorem es137 : elemS Tryd.prog 137 = none := by kernel_rfl
@[go_sem] theorem ha137 : hasT Tryd.prog 137 = true := by kernel_rfl
@[go_sem] theorem ic137 : isIfc Tryd.prog 137 = false := by kernel_rfl
@[go_sem] theorem by137 : bytesOf Tryd.prog 137 = some 8 := by kernel_rfl
@[go_sem] theorem ip137 : isPtrT Tryd.prog 137 = true := by kernel_rfl
@[go_sem] theorem ze137 : zeroOf Tryd.prog 137 = some (.pointer none) := by kernel_rfl
end Go.Proofs.T
