/- A part of the proof, under no conditions of its own: ZAJ. -/
import Derived.Test.YtjicgnbcelhoiaaGreatDoorZAF
import Derived.Test.YtjicgnbcelhoiaaGreatDoorZAI
import Derived.Test.YtjicgnbcelhoiaaGreatDoorProg
namespace Go.Proofs.T
open Go Go.Ab Go.RowKit
def errT : Value := .pointer (some ⟨1, 54, none⟩)
def LaidE (w : World) : Prop := w.cell? ⟨0, 0, none⟩ = some (.iface 172 (.agg #[errT]))
def globD : Nat → D
 | 0 => .eptr [.iface 172 (.agg [.val errT])]
 | _ => .any
theorem lt_of_cell {w : World} {a : Addr} {v : Value} (h : w.cell? a = some v) : a.block < w.heap.size := by
 rcases Nat.lt_or_ge a.block w.heap.size with h' | h'
 ·exact h'
 ·simp [World.cell?, Array.getElem?_eq_none h'] at h
theorem globD_ok (w0 : World) (hA : LaidE w0) (G : Gh) (w : World) (hw : WF w0 G w) : ∀ g, V G w (.pointer (some ⟨g, 0, none⟩)) (globD g)
 | 0 => by
  have h0 : (0 : Nat) < w0.heap.size := lt_of_cell hA
  refine .eptr (fun _ => .iface 172 (.agg #[errT])) (hw.old _ h0) (fun j d hj => ?_) (fun j d hj => ?_)
  ·rw [World.cell?_of_block (hw.below.block _ h0)]
   match j, hj with
   | 0, _ => exact hA
   | n + 1, hj => simp at hj
  ·match j, hj with
   | 0, hj =>
    cases hj
    exact .iface (.agg rfl fun i c d hc hd => by
     match i, hc, hd with
     | 0, hc, hd => cases hc; cases hd; exact .val _
     | n + 1, hc, hd => simp at hd)
   | n + 1, hj => simp at hj
 | n + 1 => .any _
noncomputable def E : Ctx := { P := Tryz.prog, A := LaidE, glob := globD, hglob := globD_ok, mixed := by kernel_rfl }
@[go_sem] theorem E_P : E.P = Tryz.prog := rfl
@[go_sem] theorem rnd_P : E.rnd.P = Tryz.prog := rfl
@[go_sem] theorem E_glob0 : E.glob 0 = .eptr [.iface 172 (.agg [.val errT])] := rfl
theorem E_keep : ∀ w0 w, E.A w0 → RowKit.Below w0.heap.size w0 w → E.A w := fun w0 w h hb => by
 have h0 : (0 : Nat) < w0.heap.size := lt_of_cell (show w0.cell? ⟨0, 0, none⟩ = _ from h)
 show w.cell? ⟨0, 0, none⟩ = _
 rw [World.cell?_of_block (hb.block _ h0)]
 exact h
@[go_sem] theorem sz0 : szOf Tryz.prog 0 = some 1 := by kernel_rfl
@[go_sem] theorem ag0 : aggOf Tryz.prog 0 = some false := by kernel_rfl
@[go_sem] theorem es0 : elemS Tryz.prog 0 = none := by kernel_rfl
@[go_sem] theorem ha0 : hasT Tryz.prog 0 = true := by kernel_rfl
@[go_sem] theorem ic0 : isIfc Tryz.prog 0 = false := by kernel_rfl
@[go_sem] theorem by0 : bytesOf Tryz.prog 0 = some 0 := by kernel_rfl
@[go_sem] theorem ha1 : hasT Tryz.prog 1 = true := by kernel_rfl
@[go_sem] theorem sz2 : szOf Tryz.prog 2 = some 1 := by kernel_rfl
@[go_sem] theorem ag2 : aggOf Tryz.prog 2 = some false := by kernel_rfl
@[go_sem] theorem es2 : elemS Tryz.prog 2 = none := by kernel_rfl
@[go_sem] theorem ha2 : hasT Tryz.prog 2 = true := by kernel_rfl
@[go_sem] theorem ic2 : isIfc Tryz.prog 2 = false := by kernel_rfl
@[go_sem] theorem io2 : intOfT Tryz.prog 2 = some .i64 := by kernel_rfl
@[go_sem] theorem by2 : bytesOf Tryz.prog 2 = some 8 := by kernel_rfl
@[go_sem] theorem ze2 : zeroOf Tryz.prog 2 = some (.int .i64 0) := by kernel_rfl
@[go_sem] theorem sz3 : szOf Tryz.prog 3 = some 1 := by kernel_rfl
@[go_sem] theorem ag3 : aggOf Tryz.prog 3 = some false := by kernel_rfl
@[go_sem] theorem es3 : elemS Tryz.prog 3 = none := by kernel_rfl
@[go_sem] theorem ha3 : hasT Tryz.prog 3 = true := by kernel_rfl
@[go_sem] theorem ic3 : isIfc Tryz.prog 3 = false := by kernel_rfl
@[go_sem] theorem io3 : intOfT Tryz.prog 3 = some .i64 := by kernel_rfl
@[go_sem] theorem by3 : bytesOf Tryz.prog 3 = some 8 := by kernel_rfl
@[go_sem] theorem ze3 : zeroOf Tryz.prog 3 = some (.int .i64 0) := by kernel_rfl
@[go_sem] theorem sz4 : szOf Tryz.prog 4 = some 1 := by kernel_rfl
@[go_sem] theorem ag4 : aggOf Tryz.prog 4 = some false := by kernel_rfl
@[go_sem] theorem es4 : elemS Tryz.prog 4 = none := by kernel_rfl
@[go_sem] theorem ha4 : hasT Tryz.prog 4 = true := by kernel_rfl
@[go_sem] theorem ic4 : isIfc Tryz.prog 4 = false := by kernel_rfl
@[go_sem] theorem by4 : bytesOf Tryz.prog 4 = some 1 := by kernel_rfl
@[go_sem] theorem ib4 : isBoolT Tryz.prog 4 = true := by kernel_rfl
@[go_sem] theorem ze4 : zeroOf Tryz.prog 4 = some (.bool false) := by kernel_rfl
@[go_sem] theorem sz5 : szOf Tryz.prog 5 = some 1 := by kernel_rfl
@[go_sem] theorem ag5 : aggOf Tryz.prog 5 = some false := by kernel_rfl
@[go_sem] theorem es5 : elemS Tryz.prog 5 = none := by kernel_rfl
@[go_sem] theorem ha5 : hasT Tryz.prog 5 = true := by kernel_rfl
@[go_sem] theorem ic5 : isIfc Tryz.prog 5 = false := by kernel_rfl
@[go_sem] theorem io5 : intOfT Tryz.prog 5 = some .u8 := by kernel_rfl
@[go_sem] theorem by5 : bytesOf Tryz.prog 5 = some 1 := by kernel_rfl
@[go_sem] theorem ze5 : zeroOf Tryz.prog 5 = some (.int .u8 0) := by kernel_rfl
@[go_sem] theorem sz6 : szOf Tryz.prog 6 = some 1 := by kernel_rfl
@[go_sem] theorem ag6 : aggOf Tryz.prog 6 = some false := by kernel_rfl
@[go_sem] theorem es6 : elemS Tryz.prog 6 = none := by kernel_rfl
@[go_sem] theorem ha6 : hasT Tryz.prog 6 = true := by kernel_rfl
@[go_sem] theorem ic6 : isIfc Tryz.prog 6 = false := by kernel_rfl
@[go_sem] theorem io6 : intOfT Tryz.prog 6 = some .u8 := by kernel_rfl
@[go_sem] theorem by6 : bytesOf Tryz.prog 6 = some 1 := by kernel_rfl
@[go_sem] theorem ze6 : zeroOf Tryz.prog 6 = some (.int .u8 0) := by kernel_rfl
@[go_sem] theorem sz7 : szOf Tryz.prog 7 = some 4 := by kernel_rfl
@[go_sem] theorem ag7 : aggOf Tryz.prog 7 = some true := by kernel_rfl
@[go_sem] theorem fl7_0 : fldOf Tryz.prog 7 0 = some (0, 2) := by kernel_rfl
@[go_sem] theorem fl7_1 : fldOf Tryz.prog 7 1 = some (1, 3) := by kernel_rfl
@[go_sem] theorem fl7_2 : fldOf Tryz.prog 7 2 = some (2, 4) := by kernel_rfl
@[go_sem] theorem fl7_3 : fldOf Tryz.prog 7 3 = some (3, 6) := by kernel_rfl
@[go_sem] theorem es7 : elemS Tryz.prog 7 = none := by kernel_rfl
@[go_sem] theorem ha7 : hasT Tryz.prog 7 = true := by kernel_rfl
@[go_sem] theorem ic7 : isIfc Tryz.prog 7 = false := by kernel_rfl
@[go_sem] theorem pl7 : placesOf Tryz.prog 7 = some [(0, 1), (1, 1), (2, 1), (3, 1)] := by kernel_rfl
@[go_sem] theorem by7 : bytesOf Tryz.prog 7 = some 24 := by kernel_rfl
@[go_sem] theorem eg7 : egOf Tryz.prog 7 = false := by kernel_rfl
@[go_sem] theorem ks7 : KS.of Tryz.prog 7 = some (.agg [(.num .i64), (.num .i64), .boo, (.num .u8)]) := by kernel_rfl
@[go_sem] theorem ze7 : zeroOf Tryz.prog 7 = some (.agg #[(.int .i64 0), (.int .i64 0), (.bool false), (.int .u8 0)]) := by kernel_rfl
@[go_sem] theorem sz9 : szOf Tryz.prog 9 = some 1 := by kernel_rfl
@[go_sem] theorem ag9 : aggOf Tryz.prog 9 = some false := by kernel_rfl
@[go_sem] theorem es9 : elemS Tryz.prog 9 = none := by kernel_rfl
@[go_sem] theorem ha9 : hasT Tryz.prog 9 = true := by kernel_rfl
@[go_sem] theorem st9 : isStr Tryz.prog 9 = true := by kernel_rfl
@[go_sem] theorem ic9 : isIfc Tryz.prog 9 = false := by kernel_rfl
@[go_sem] theorem by9 : bytesOf Tryz.prog 9 = some 16 := by kernel_rfl
@[go_sem] theorem ze9 : zeroOf Tryz.prog 9 = some (.string ByteArray.empty) := by kernel_rfl
@[go_sem] theorem sz17 : szOf Tryz.prog 17 = some 1 := by kernel_rfl
@[go_sem] theorem ag17 : aggOf Tryz.prog 17 = some false := by kernel_rfl
@[go_sem] theorem es17 : elemS Tryz.prog 17 = none := by kernel_rfl
@[go_sem] theorem ha17 : hasT Tryz.prog 17 = true := by kernel_rfl
@[go_sem] theorem ic17 : isIfc Tryz.prog 17 = false := by kernel_rfl
@[go_sem] theorem by17 : bytesOf Tryz.prog 17 = some 8 := by kernel_rfl
@[go_sem] theorem ip17 : isPtrT Tryz.prog 17 = true := by kernel_rfl
@[go_sem] theorem ze17 : zeroOf Tryz.prog 17 = some (.pointer none) := by kernel_rfl
@[go_sem] theorem sz20 : szOf Tryz.prog 20 = some 1 := by kernel_rfl
@[go_sem] theorem ag20 : aggOf Tryz.prog 20 = some false := by kernel_rfl
@[go_sem] theorem es20 : elemS Tryz.prog 20 = none := by kernel_rfl
@[go_sem] theorem ha20 : hasT Tryz.prog 20 = true := by kernel_rfl
@[go_sem] theorem ic20 : isIfc Tryz.prog 20 = true := by kernel_rfl
@[go_sem] theorem by20 : bytesOf Tryz.prog 20 = some 16 := by kernel_rfl
@[go_sem] theorem ze20 : zeroOf Tryz.prog 20 = some .nilIface := by kernel_rfl
@[go_sem] theorem sz22 : szOf Tryz.prog 22 = some 1 := by kernel_rfl
@[go_sem] theorem ag22 : aggOf Tryz.prog 22 = some false := by kernel_rfl
@[go_sem] theorem es22 : elemS Tryz.prog 22 = some 71 := by kernel_rfl
@[go_sem] theorem ha22 : hasT Tryz.prog 22 = true := by kernel_rfl
@[go_sem] theorem ic22 : isIfc Tryz.prog 22 = false := by kernel_rfl
@[go_sem] theorem by22 : bytesOf Tryz.prog 22 = some 24 := by kernel_rfl
@[go_sem] theorem ze22 : zeroOf Tryz.prog 22 = some (.slice none 0 0) := by kernel_rfl
@[go_sem] theorem sz23 : szOf Tryz.prog 23 = some 1 := by kernel_rfl
@[go_sem] theorem ag23 : aggOf Tryz.prog 23 = some false := by kernel_rfl
@[go_sem] theorem es23 : elemS Tryz.prog 23 = some 25 := by kernel_rfl
@[go_sem] theorem ha23 : hasT Tryz.prog 23 = true := by kernel_rfl
@[go_sem] theorem ic23 : isIfc Tryz.prog 23 = false := by kernel_rfl
@[go_sem] theorem by23 : bytesOf Tryz.prog 23 = some 24 := by kernel_rfl
@[go_sem] theorem ze23 : zeroOf Tryz.prog 23 = some (.slice none 0 0) := by kernel_rfl
@[go_sem] theorem sz25 : szOf Tryz.prog 25 = some 3 := by kernel_rfl
@[go_sem] theorem ag25 : aggOf Tryz.prog 25 = some true := by kernel_rfl
@[go_sem] theorem fl25_0 : fldOf Tryz.prog 25 0 = some (0, 9) := by kernel_rfl
@[go_sem] theorem fl25_1 : fldOf Tryz.prog 25 1 = some (1, 23) := by kernel_rfl
@[go_sem] theorem fl25_2 : fldOf Tryz.prog 25 2 = some (2, 3) := by kernel_rfl
@[go_sem] theorem es25 : elemS Tryz.prog 25 = none := by kernel_rfl
@[go_sem] theorem ha25 : hasT Tryz.prog 25 = true := by kernel_rfl
@[go_sem] theorem ic25 : isIfc Tryz.prog 25 = false := by kernel_rfl
@[go_sem] theorem pl25 : placesOf Tryz.prog 25 = some [(0, 1), (1, 1), (2, 1)] := by kernel_rfl
@[go_sem] theorem by25 : bytesOf Tryz.prog 25 = some 48 := by kernel_rfl
@[go_sem] theorem ze25 : zeroOf Tryz.prog 25 = some (.agg #[(.string ByteArray.empty), (.slice none 0 0), (.int .i64 0)]) := by kernel_rfl
@[go_sem] theorem sz26 : szOf Tryz.prog 26 = some 1 := by kernel_rfl
@[go_sem] theorem ag26 : aggOf Tryz.prog 26 = some false := by kernel_rfl
@[go_sem] theorem es26 : elemS Tryz.prog 26 = some 28 := by kernel_rfl
@[go_sem] theorem ha26 : hasT Tryz.prog 26 = true := by kernel_rfl
@[go_sem] theorem ic26 : isIfc Tryz.prog 26 = false := by kernel_rfl
@[go_sem] theorem by26 : bytesOf Tryz.prog 26 = some 24 := by kernel_rfl
@[go_sem] theorem ze26 : zeroOf Tryz.prog 26 = some (.slice none 0 0) := by kernel_rfl
@[go_sem] theorem sz28 : szOf Tryz.prog 28 = some 8 := by kernel_rfl
@[go_sem] theorem ag28 : aggOf Tryz.prog 28 = some true := by kernel_rfl
@[go_sem] theorem fl28_0 : fldOf Tryz.prog 28 0 = some (0, 3) := by kernel_rfl
@[go_sem] theorem fl28_1 : fldOf Tryz.prog 28 1 = some (1, 9) := by kernel_rfl
@[go_sem] theorem fl28_2 : fldOf Tryz.prog 28 2 = some (2, 25) := by kernel_rfl
@[go_sem] theorem fl28_3 : fldOf Tryz.prog 28 3 = some (5, 23) := by kernel_rfl
@[go_sem] theorem fl28_4 : fldOf Tryz.prog 28 4 = some (6, 26) := by kernel_rfl
@[go_sem] theorem fl28_5 : fldOf Tryz.prog 28 5 = some (7, 3) := by kernel_rfl
@[go_sem] theorem es28 : elemS Tryz.prog 28 = none := by kernel_rfl
@[go_sem] theorem ha28 : hasT Tryz.prog 28 = true := by kernel_rfl
@[go_sem] theorem ic28 : isIfc Tryz.prog 28 = false := by kernel_rfl
@[go_sem] theorem pl28 : placesOf Tryz.prog 28 = some [(0, 1), (1, 1), (2, 3), (5, 1), (6, 1), (7, 1)] := by kernel_rfl
@[go_sem] theorem by28 : bytesOf Tryz.prog 28 = some 128 := by kernel_rfl
@[go_sem] theorem ze28 : zeroOf Tryz.prog 28 = some (.agg #[(.int .i64 0), (.string ByteArray.empty), (.string ByteArray.empty), (.slice none 0 0), (.int .i64 0), (.slice none 0 0), (.slice none 0 0), (.int .i64 0)]) := by kernel_rfl
@[go_sem] theorem sz30 : szOf Tryz.prog 30 = some 9 := by kernel_rfl
@[go_sem] theorem ag30 : aggOf Tryz.prog 30 = some true := by kernel_rfl
@[go_sem] theorem fl30_0 : fldOf Tryz.prog 30 0 = some (0, 22) := by kernel_rfl
@[go_sem] theorem fl30_1 : fldOf Tryz.prog 30 1 = some (1, 28) := by kernel_rfl
@[go_sem] theorem es30 : elemS Tryz.prog 30 = none := by kernel_rfl
@[go_sem] theorem ha30 : hasT Tryz.prog 30 = true := by kernel_rfl
@[go_sem] theorem ic30 : isIfc Tryz.prog 30 = false := by kernel_rfl
@[go_sem] theorem pl30 : placesOf Tryz.prog 30 = some [(0, 1), (1, 8)] := by kernel_rfl
@[go_sem] theorem by30 : bytesOf Tryz.prog 30 = some 152 := by kernel_rfl
@[go_sem] theorem ze30 : zeroOf Tryz.prog 30 = some (.agg #[(.slice none 0 0), (.int .i64 0), (.string ByteArray.empty), (.string ByteArray.empty), (.slice none 0 0), (.int .i64 0), (.slice none 0 0), (.slice none 0 0), (.int .i64 0)]) := by kernel_rfl
@[go_sem] theorem sz32 : szOf Tryz.prog 32 = some 3 := by kernel_rfl
@[go_sem] theorem ag32 : aggOf Tryz.prog 32 = some true := by kernel_rfl
@[go_sem] theorem fl32_0 : fldOf Tryz.prog 32 0 = some (0, 4) := by kernel_rfl
@[go_sem] theorem fl32_1 : fldOf Tryz.prog 32 1 = some (1, 9) := by kernel_rfl
@[go_sem] theorem fl32_2 : fldOf Tryz.prog 32 2 = some (2, 3) := by kernel_rfl
@[go_sem] theorem es32 : elemS Tryz.prog 32 = none := by kernel_rfl
@[go_sem] theorem ha32 : hasT Tryz.prog 32 = true := by kernel_rfl
@[go_sem] theorem ic32 : isIfc Tryz.prog 32 = false := by kernel_rfl
@[go_sem] theorem pl32 : placesOf Tryz.prog 32 = some [(0, 1), (1, 1), (2, 1)] := by kernel_rfl
@[go_sem] theorem by32 : bytesOf Tryz.prog 32 = some 32 := by kernel_rfl
@[go_sem] theorem eg32 : egOf Tryz.prog 32 = false := by kernel_rfl
@[go_sem] theorem ks32 : KS.of Tryz.prog 32 = some (.agg [.boo, .str, (.num .i64)]) := by kernel_rfl
@[go_sem] theorem ze32 : zeroOf Tryz.prog 32 = some (.agg #[(.bool false), (.string ByteArray.empty), (.int .i64 0)]) := by kernel_rfl
@[go_sem] theorem sz35 : szOf Tryz.prog 35 = some 1 := by kernel_rfl
@[go_sem] theorem ag35 : aggOf Tryz.prog 35 = some false := by kernel_rfl
@[go_sem] theorem es35 : elemS Tryz.prog 35 = some 37 := by kernel_rfl
@[go_sem] theorem ha35 : hasT Tryz.prog 35 = true := by kernel_rfl
@[go_sem] theorem ic35 : isIfc Tryz.prog 35 = false := by kernel_rfl
@[go_sem] theorem by35 : bytesOf Tryz.prog 35 = some 24 := by kernel_rfl
@[go_sem] theorem ze35 : zeroOf Tryz.prog 35 = some (.slice none 0 0) := by kernel_rfl
@[go_sem] theorem sz37 : szOf Tryz.prog 37 = some 3 := by kernel_rfl
@[go_sem] theorem ag37 : aggOf Tryz.prog 37 = some true := by kernel_rfl
@[go_sem] theorem fl37_0 : fldOf Tryz.prog 37 0 = some (0, 4) := by kernel_rfl
@[go_sem] theorem fl37_1 : fldOf Tryz.prog 37 1 = some (1, 9) := by kernel_rfl
@[go_sem] theorem fl37_2 : fldOf Tryz.prog 37 2 = some (2, 3) := by kernel_rfl
@[go_sem] theorem es37 : elemS Tryz.prog 37 = none := by kernel_rfl
@[go_sem] theorem ha37 : hasT Tryz.prog 37 = true := by kernel_rfl
@[go_sem] theorem ic37 : isIfc Tryz.prog 37 = false := by kernel_rfl
@[go_sem] theorem pl37 : placesOf Tryz.prog 37 = some [(0, 1), (1, 1), (2, 1)] := by kernel_rfl
@[go_sem] theorem by37 : bytesOf Tryz.prog 37 = some 32 := by kernel_rfl
@[go_sem] theorem eg37 : egOf Tryz.prog 37 = false := by kernel_rfl
@[go_sem] theorem ks37 : KS.of Tryz.prog 37 = some (.agg [.boo, .str, (.num .i64)]) := by kernel_rfl
@[go_sem] theorem ze37 : zeroOf Tryz.prog 37 = some (.agg #[(.bool false), (.string ByteArray.empty), (.int .i64 0)]) := by kernel_rfl
@[go_sem] theorem sz38 : szOf Tryz.prog 38 = some 1 := by kernel_rfl
@[go_sem] theorem ag38 : aggOf Tryz.prog 38 = some false := by kernel_rfl
@[go_sem] theorem es38 : elemS Tryz.prog 38 = some 32 := by kernel_rfl
@[go_sem] theorem ha38 : hasT Tryz.prog 38 = true := by kernel_rfl
@[go_sem] theorem ic38 : isIfc Tryz.prog 38 = false := by kernel_rfl
@[go_sem] theorem by38 : bytesOf Tryz.prog 38 = some 24 := by kernel_rfl
@[go_sem] theorem ze38 : zeroOf Tryz.prog 38 = some (.slice none 0 0) := by kernel_rfl
@[go_sem] theorem sz40 : szOf Tryz.prog 40 = some 1 := by kernel_rfl
@[go_sem] theorem ag40 : aggOf Tryz.prog 40 = some false := by kernel_rfl
@[go_sem] theorem es40 : elemS Tryz.prog 40 = some 50 := by kernel_rfl
@[go_sem] theorem ha40 : hasT Tryz.prog 40 = true := by kernel_rfl
@[go_sem] theorem ic40 : isIfc Tryz.prog 40 = false := by kernel_rfl
@[go_sem] theorem by40 : bytesOf Tryz.prog 40 = some 24 := by kernel_rfl
@[go_sem] theorem ze40 : zeroOf Tryz.prog 40 = some (.slice none 0 0) := by kernel_rfl
@[go_sem] theorem sz47 : szOf Tryz.prog 47 = some 1 := by kernel_rfl
@[go_sem] theorem ag47 : aggOf Tryz.prog 47 = some false := by kernel_rfl
@[go_sem] theorem es47 : elemS Tryz.prog 47 = some 78 := by kernel_rfl
@[go_sem] theorem ha47 : hasT Tryz.prog 47 = true := by kernel_rfl
@[go_sem] theorem ic47 : isIfc Tryz.prog 47 = false := by kernel_rfl
@[go_sem] theorem by47 : bytesOf Tryz.prog 47 = some 24 := by kernel_rfl
@[go_sem] theorem ze47 : zeroOf Tryz.prog 47 = some (.slice none 0 0) := by kernel_rfl
@[go_sem] theorem sz50 : szOf Tryz.prog 50 = some 7 := by kernel_rfl
@[go_sem] theorem ag50 : aggOf Tryz.prog 50 = some true := by kernel_rfl
@[go_sem] theorem fl50_0 : fldOf Tryz.prog 50 0 = some (0, 32) := by kernel_rfl
@[go_sem] theorem fl50_1 : fldOf Tryz.prog 50 1 = some (3, 32) := by kernel_rfl
@[go_sem] theorem fl50_2 : fldOf Tryz.prog 50 2 = some (6, 4) := by kernel_rfl
@[go_sem] theorem es50 : elemS Tryz.prog 50 = none := by kernel_rfl
@[go_sem] theorem ha50 : hasT Tryz.prog 50 = true := by kernel_rfl
@[go_sem] theorem ic50 : isIfc Tryz.prog 50 = false := by kernel_rfl
@[go_sem] theorem pl50 : placesOf Tryz.prog 50 = some [(0, 3), (3, 3), (6, 1)] := by kernel_rfl
@[go_sem] theorem by50 : bytesOf Tryz.prog 50 = some 72 := by kernel_rfl
@[go_sem] theorem eg50 : egOf Tryz.prog 50 = false := by kernel_rfl
@[go_sem] theorem ks50 : KS.of Tryz.prog 50 = some (.agg [.boo, .str, (.num .i64), .boo, .str, (.num .i64), .boo]) := by kernel_rfl
@[go_sem] theorem ze50 : zeroOf Tryz.prog 50 = some (.agg #[(.bool false), (.string ByteArray.empty), (.int .i64 0), (.bool false), (.string ByteArray.empty), (.int .i64 0), (.bool false)]) := by kernel_rfl
@[go_sem] theorem sz54 : szOf Tryz.prog 54 = some 1 := by kernel_rfl
@[go_sem] theorem ag54 : aggOf Tryz.prog 54 = some false := by kernel_rfl
@[go_sem] theorem es54 : elemS Tryz.prog 54 = none := by kernel_rfl
@[go_sem] theorem ha54 : hasT Tryz.prog 54 = true := by kernel_rfl
@[go_sem] theorem ic54 : isIfc Tryz.prog 54 = true := by kernel_rfl
@[go_sem] theorem by54 : bytesOf Tryz.prog 54 = some 16 := by kernel_rfl
@[go_sem] theorem ze54 : zeroOf Tryz.prog 54 = some .nilIface := by kernel_rfl
@[go_sem] theorem sz55 : szOf Tryz.prog 55 = some 1 := by kernel_rfl
@[go_sem] theorem ag55 : aggOf Tryz.prog 55 = some false := by kernel_rfl
@[go_sem] theorem es55 : elemS Tryz.prog 55 = none := by kernel_rfl
@[go_sem] theorem ha55 : hasT Tryz.prog 55 = true := by kernel_rfl
@[go_sem] theorem ic55 : isIfc Tryz.prog 55 = false := by kernel_rfl
@[go_sem] theorem by55 : bytesOf Tryz.prog 55 = some 8 := by kernel_rfl
@[go_sem] theorem ze55 : zeroOf Tryz.prog 55 = some .nilFunc := by kernel_rfl
@[go_sem] theorem sz56 : szOf Tryz.prog 56 = some 1 := by kernel_rfl
@[go_sem] theorem ag56 : aggOf Tryz.prog 56 = some false := by kernel_rfl
@[go_sem] theorem es56 : elemS Tryz.prog 56 = none := by kernel_rfl
@[go_sem] theorem ha56 : hasT Tryz.prog 56 = true := by kernel_rfl
@[go_sem] theorem ic56 : isIfc Tryz.prog 56 = false := by kernel_rfl
@[go_sem] theorem io56 : intOfT Tryz.prog 56 = some .i64 := by kernel_rfl
@[go_sem] theorem by56 : bytesOf Tryz.prog 56 = some 8 := by kernel_rfl
@[go_sem] theorem ze56 : zeroOf Tryz.prog 56 = some (.int .i64 0) := by kernel_rfl
@[go_sem] theorem sz57 : szOf Tryz.prog 57 = some 1 := by kernel_rfl
@[go_sem] theorem ag57 : aggOf Tryz.prog 57 = some false := by kernel_rfl
@[go_sem] theorem es57 : elemS Tryz.prog 57 = none := by kernel_rfl
@[go_sem] theorem ha57 : hasT Tryz.prog 57 = true := by kernel_rfl
@[go_sem] theorem ic57 : isIfc Tryz.prog 57 = false := by kernel_rfl
@[go_sem] theorem by57 : bytesOf Tryz.prog 57 = some 0 := by kernel_rfl
@[go_sem] theorem sz59 : szOf Tryz.prog 59 = some 1 := by kernel_rfl
@[go_sem] theorem ag59 : aggOf Tryz.prog 59 = some false := by kernel_rfl
@[go_sem] theorem es59 : elemS Tryz.prog 59 = none := by kernel_rfl
@[go_sem] theorem ha59 : hasT Tryz.prog 59 = true := by kernel_rfl
@[go_sem] theorem ic59 : isIfc Tryz.prog 59 = false := by kernel_rfl
@[go_sem] theorem by59 : bytesOf Tryz.prog 59 = some 0 := by kernel_rfl
@[go_sem] theorem sz63 : szOf Tryz.prog 63 = some 5 := by kernel_rfl
@[go_sem] theorem ag63 : aggOf Tryz.prog 63 = some true := by kernel_rfl
@[go_sem] theorem fl63_0 : fldOf Tryz.prog 63 0 = some (0, 9) := by kernel_rfl
@[go_sem] theorem fl63_1 : fldOf Tryz.prog 63 1 = some (1, 25) := by kernel_rfl
@[go_sem] theorem fl63_2 : fldOf Tryz.prog 63 2 = some (4, 3) := by kernel_rfl
@[go_sem] theorem es63 : elemS Tryz.prog 63 = none := by kernel_rfl
@[go_sem] theorem ha63 : hasT Tryz.prog 63 = true := by kernel_rfl
@[go_sem] theorem ic63 : isIfc Tryz.prog 63 = false := by kernel_rfl
@[go_sem] theorem pl63 : placesOf Tryz.prog 63 = some [(0, 1), (1, 3), (4, 1)] := by kernel_rfl
@[go_sem] theorem by63 : bytesOf Tryz.prog 63 = some 72 := by kernel_rfl
@[go_sem] theorem ze63 : zeroOf Tryz.prog 63 = some (.agg #[(.string ByteArray.empty), (.string ByteArray.empty), (.slice none 0 0), (.int .i64 0), (.int .i64 0)]) := by kernel_rfl
@[go_sem] theorem sz64 : szOf Tryz.prog 64 = some 1 := by kernel_rfl
@[go_sem] theorem ag64 : aggOf Tryz.prog 64 = some false := by kernel_rfl
@[go_sem] theorem es64 : elemS Tryz.prog 64 = some 63 := by kernel_rfl
@[go_sem] theorem ha64 : hasT Tryz.prog 64 = true := by kernel_rfl
@[go_sem] theorem ic64 : isIfc Tryz.prog 64 = false := by kernel_rfl
@[go_sem] theorem by64 : bytesOf Tryz.prog 64 = some 24 := by kernel_rfl
@[go_sem] theorem ze64 : zeroOf Tryz.prog 64 = some (.slice none 0 0) := by kernel_rfl
@[go_sem] theorem sz65 : szOf Tryz.prog 65 = some 1 := by kernel_rfl
@[go_sem] theorem ag65 : aggOf Tryz.prog 65 = some false := by kernel_rfl
@[go_sem] theorem es65 : elemS Tryz.prog 65 = some 118 := by kernel_rfl
@[go_sem] theorem ha65 : hasT Tryz.prog 65 = true := by kernel_rfl
@[go_sem] theorem ic65 : isIfc Tryz.prog 65 = false := by kernel_rfl
@[go_sem] theorem by65 : bytesOf Tryz.prog 65 = some 24 := by kernel_rfl
@[go_sem] theorem ze65 : zeroOf Tryz.prog 65 = some (.slice none 0 0) := by kernel_rfl
@[go_sem] theorem sz66 : szOf Tryz.prog 66 = some 1 := by kernel_rfl
@[go_sem] theorem ag66 : aggOf Tryz.prog 66 = some false := by kernel_rfl
@[go_sem] theorem es66 : elemS Tryz.prog 66 = some 69 := by kernel_rfl
@[go_sem] theorem ha66 : hasT Tryz.prog 66 = true := by kernel_rfl
@[go_sem] theorem ic66 : isIfc Tryz.prog 66 = false := by kernel_rfl
@[go_sem] theorem by66 : bytesOf Tryz.prog 66 = some 24 := by kernel_rfl
@[go_sem] theorem ze66 : zeroOf Tryz.prog 66 = some (.slice none 0 0) := by kernel_rfl
@[go_sem] theorem sz67 : szOf Tryz.prog 67 = some 1 := by kernel_rfl
@[go_sem] theorem ag67 : aggOf Tryz.prog 67 = some false := by kernel_rfl
@[go_sem] theorem es67 : elemS Tryz.prog 67 = some 9 := by kernel_rfl
@[go_sem] theorem ha67 : hasT Tryz.prog 67 = true := by kernel_rfl
@[go_sem] theorem ic67 : isIfc Tryz.prog 67 = false := by kernel_rfl
@[go_sem] theorem by67 : bytesOf Tryz.prog 67 = some 24 := by kernel_rfl
@[go_sem] theorem ze67 : zeroOf Tryz.prog 67 = some (.slice none 0 0) := by kernel_rfl
@[go_sem] theorem sz69 : szOf Tryz.prog 69 = some 7 := by kernel_rfl
@[go_sem] theorem ag69 : aggOf Tryz.prog 69 = some true := by kernel_rfl
@[go_sem] theorem fl69_0 : fldOf Tryz.prog 69 0 = some (0, 9) := by kernel_rfl
@[go_sem] theorem fl69_1 : fldOf Tryz.prog 69 1 = some (1, 64) := by kernel_rfl
@[go_sem] theorem fl69_2 : fldOf Tryz.prog 69 2 = some (2, 65) := by kernel_rfl
@[go_sem] theorem fl69_3 : fldOf Tryz.prog 69 3 = some (3, 25) := by kernel_rfl
@[go_sem] theorem fl69_4 : fldOf Tryz.prog 69 4 = some (6, 3) := by kernel_rfl
@[go_sem] theorem es69 : elemS Tryz.prog 69 = none := by kernel_rfl
@[go_sem] theorem ha69 : hasT Tryz.prog 69 = true := by kernel_rfl
@[go_sem] theorem ic69 : isIfc Tryz.prog 69 = false := by kernel_rfl
@[go_sem] theorem pl69 : placesOf Tryz.prog 69 = some [(0, 1), (1, 1), (2, 1), (3, 3), (6, 1)] := by kernel_rfl
@[go_sem] theorem by69 : bytesOf Tryz.prog 69 = some 120 := by kernel_rfl
@[go_sem] theorem ze69 : zeroOf Tryz.prog 69 = some (.agg #[(.string ByteArray.empty), (.slice none 0 0), (.slice none 0 0), (.string ByteArray.empty), (.slice none 0 0), (.int .i64 0), (.int .i64 0)]) := by kernel_rfl
@[go_sem] theorem sz71 : szOf Tryz.prog 71 = some 23 := by kernel_rfl
@[go_sem] theorem ag71 : aggOf Tryz.prog 71 = some true := by kernel_rfl
@[go_sem] theorem fl71_0 : fldOf Tryz.prog 71 0 = some (0, 3) := by kernel_rfl
@[go_sem] theorem fl71_1 : fldOf Tryz.prog 71 1 = some (1, 9) := by kernel_rfl
@[go_sem] theorem fl71_2 : fldOf Tryz.prog 71 2 = some (2, 64) := by kernel_rfl
@[go_sem] theorem fl71_3 : fldOf Tryz.prog 71 3 = some (3, 65) := by kernel_rfl
@[go_sem] theorem fl71_4 : fldOf Tryz.prog 71 4 = some (4, 66) := by kernel_rfl
@[go_sem] theorem fl71_5 : fldOf Tryz.prog 71 5 = some (5, 9) := by kernel_rfl
@[go_sem] theorem fl71_6 : fldOf Tryz.prog 71 6 = some (6, 67) := by kernel_rfl
@[go_sem] theorem fl71_7 : fldOf Tryz.prog 71 7 = some (7, 69) := by kernel_rfl
@[go_sem] theorem fl71_8 : fldOf Tryz.prog 71 8 = some (14, 28) := by kernel_rfl
@[go_sem] theorem fl71_9 : fldOf Tryz.prog 71 9 = some (22, 3) := by kernel_rfl
@[go_sem] theorem es71 : elemS Tryz.prog 71 = none := by kernel_rfl
@[go_sem] theorem ha71 : hasT Tryz.prog 71 = true := by kernel_rfl
@[go_sem] theorem ic71 : isIfc Tryz.prog 71 = false := by kernel_rfl
@[go_sem] theorem pl71 : placesOf Tryz.prog 71 = some [(0, 1), (1, 1), (2, 1), (3, 1), (4, 1), (5, 1), (6, 1), (7, 7), (14, 8), (22, 1)] := by kernel_rfl
@[go_sem] theorem by71 : bytesOf Tryz.prog 71 = some 392 := by kernel_rfl
@[go_sem] theorem ze71 : zeroOf Tryz.prog 71 = some (.agg #[(.int .i64 0), (.string ByteArray.empty), (.slice none 0 0), (.slice none 0 0), (.slice none 0 0), (.string ByteArray.empty), (.slice none 0 0), (.string ByteArray.empty), (.slice none 0 0), (.slice none 0 0), (.string ByteArray.empty), (.slice none 0 0), (.int .i64 0), (.int .i64 0), (.int .i64 0), (.string ByteArray.empty), (.string ByteArray.empty), (.slice none 0 0), (.int .i64 0), (.slice none 0 0), (.slice none 0 0), (.int .i64 0), (.int .i64 0)]) := by kernel_rfl
@[go_sem] theorem sz73 : szOf Tryz.prog 73 = some 1 := by kernel_rfl
@[go_sem] theorem ag73 : aggOf Tryz.prog 73 = some false := by kernel_rfl
@[go_sem] theorem es73 : elemS Tryz.prog 73 = none := by kernel_rfl
@[go_sem] theorem ha73 : hasT Tryz.prog 73 = true := by kernel_rfl
@[go_sem] theorem ic73 : isIfc Tryz.prog 73 = false := by kernel_rfl
@[go_sem] theorem by73 : bytesOf Tryz.prog 73 = some 8 := by kernel_rfl
@[go_sem] theorem ze73 : zeroOf Tryz.prog 73 = some .nilFunc := by kernel_rfl
@[go_sem] theorem sz74 : szOf Tryz.prog 74 = some 1 := by kernel_rfl
@[go_sem] theorem ag74 : aggOf Tryz.prog 74 = some false := by kernel_rfl
@[go_sem] theorem es74 : elemS Tryz.prog 74 = none := by kernel_rfl
@[go_sem] theorem ha74 : hasT Tryz.prog 74 = true := by kernel_rfl
@[go_sem] theorem ic74 : isIfc Tryz.prog 74 = false := by kernel_rfl
@[go_sem] theorem by74 : bytesOf Tryz.prog 74 = some 8 := by kernel_rfl
@[go_sem] theorem ze74 : zeroOf Tryz.prog 74 = some .nilFunc := by kernel_rfl
@[go_sem] theorem sz76 : szOf Tryz.prog 76 = some 1 := by kernel_rfl
@[go_sem] theorem ag76 : aggOf Tryz.prog 76 = some false := by kernel_rfl
@[go_sem] theorem es76 : elemS Tryz.prog 76 = none := by kernel_rfl
@[go_sem] theorem ha76 : hasT Tryz.prog 76 = true := by kernel_rfl
@[go_sem] theorem ic76 : isIfc Tryz.prog 76 = false := by kernel_rfl
@[go_sem] theorem by76 : bytesOf Tryz.prog 76 = some 8 := by kernel_rfl
@[go_sem] theorem mp76 : mapT Tryz.prog 76 = some (37, 78) := by kernel_rfl
@[go_sem] theorem ze76 : zeroOf Tryz.prog 76 = some (.map none) := by kernel_rfl
@[go_sem] theorem sz78 : szOf Tryz.prog 78 = some 7 := by kernel_rfl
@[go_sem] theorem ag78 : aggOf Tryz.prog 78 = some true := by kernel_rfl
@[go_sem] theorem fl78_0 : fldOf Tryz.prog 78 0 = some (0, 37) := by kernel_rfl
@[go_sem] theorem fl78_1 : fldOf Tryz.prog 78 1 = some (3, 37) := by kernel_rfl
@[go_sem] theorem fl78_2 : fldOf Tryz.prog 78 2 = some (6, 4) := by kernel_rfl
@[go_sem] theorem es78 : elemS Tryz.prog 78 = none := by kernel_rfl
@[go_sem] theorem ha78 : hasT Tryz.prog 78 = true := by kernel_rfl
@[go_sem] theorem ic78 : isIfc Tryz.prog 78 = false := by kernel_rfl
@[go_sem] theorem pl78 : placesOf Tryz.prog 78 = some [(0, 3), (3, 3), (6, 1)] := by kernel_rfl
@[go_sem] theorem by78 : bytesOf Tryz.prog 78 = some 72 := by kernel_rfl
@[go_sem] theorem eg78 : egOf Tryz.prog 78 = false := by kernel_rfl
@[go_sem] theorem ks78 : KS.of Tryz.prog 78 = some (.agg [.boo, .str, (.num .i64), .boo, .str, (.num .i64), .boo]) := by kernel_rfl
@[go_sem] theorem ze78 : zeroOf Tryz.prog 78 = some (.agg #[(.bool false), (.string ByteArray.empty), (.int .i64 0), (.bool false), (.string ByteArray.empty), (.int .i64 0), (.bool false)]) := by kernel_rfl
@[go_sem] theorem sz80 : szOf Tryz.prog 80 = some 1 := by kernel_rfl
@[go_sem] theorem ag80 : aggOf Tryz.prog 80 = some false := by kernel_rfl
@[go_sem] theorem es80 : elemS Tryz.prog 80 = none := by kernel_rfl
@[go_sem] theorem ha80 : hasT Tryz.prog 80 = true := by kernel_rfl
@[go_sem] theorem ic80 : isIfc Tryz.prog 80 = false := by kernel_rfl
@[go_sem] theorem by80 : bytesOf Tryz.prog 80 = some 8 := by kernel_rfl
@[go_sem] theorem ze80 : zeroOf Tryz.prog 80 = some .nilFunc := by kernel_rfl
@[go_sem] theorem sz86 : szOf Tryz.prog 86 = some 1 := by kernel_rfl
@[go_sem] theorem ag86 : aggOf Tryz.prog 86 = some false := by kernel_rfl
@[go_sem] theorem es86 : elemS Tryz.prog 86 = none := by kernel_rfl
@[go_sem] theorem ha86 : hasT Tryz.prog 86 = true := by kernel_rfl
@[go_sem] theorem ic86 : isIfc Tryz.prog 86 = false := by kernel_rfl
@[go_sem] theorem by86 : bytesOf Tryz.prog 86 = some 8 := by kernel_rfl
@[go_sem] theorem ze86 : zeroOf Tryz.prog 86 = some .nilFunc := by kernel_rfl
@[go_sem] theorem sz90 : szOf Tryz.prog 90 = some 1 := by kernel_rfl
@[go_sem] theorem ag90 : aggOf Tryz.prog 90 = some false := by kernel_rfl
@[go_sem] theorem es90 : elemS Tryz.prog 90 = none := by kernel_rfl
@[go_sem] theorem ha90 : hasT Tryz.prog 90 = true := by kernel_rfl
@[go_sem] theorem ic90 : isIfc Tryz.prog 90 = false := by kernel_rfl
@[go_sem] theorem by90 : bytesOf Tryz.prog 90 = some 8 := by kernel_rfl
@[go_sem] theorem ze90 : zeroOf Tryz.prog 90 = some .nilFunc := by kernel_rfl
@[go_sem] theorem sz95 : szOf Tryz.prog 95 = some 1 := by kernel_rfl
@[go_sem] theorem ag95 : aggOf Tryz.prog 95 = some false := by kernel_rfl
@[go_sem] theorem es95 : elemS Tryz.prog 95 = none := by kernel_rfl
@[go_sem] theorem ha95 : hasT Tryz.prog 95 = true := by kernel_rfl
@[go_sem] theorem ic95 : isIfc Tryz.prog 95 = false := by kernel_rfl
@[go_sem] theorem by95 : bytesOf Tryz.prog 95 = some 8 := by kernel_rfl
@[go_sem] theorem ip95 : isPtrT Tryz.prog 95 = true := by kernel_rfl
@[go_sem] theorem ze95 : zeroOf Tryz.prog 95 = some (.pointer none) := by kernel_rfl
@[go_sem] theorem sz97 : szOf Tryz.prog 97 = some 2 := by kernel_rfl
@[go_sem] theorem ag97 : aggOf Tryz.prog 97 = some true := by kernel_rfl
@[go_sem] theorem fl97_0 : fldOf Tryz.prog 97 0 = some (0, 56) := by kernel_rfl
@[go_sem] theorem fl97_1 : fldOf Tryz.prog 97 1 = some (1, 3) := by kernel_rfl
@[go_sem] theorem es97 : elemS Tryz.prog 97 = none := by kernel_rfl
@[go_sem] theorem ha97 : hasT Tryz.prog 97 = true := by kernel_rfl
@[go_sem] theorem ic97 : isIfc Tryz.prog 97 = false := by kernel_rfl
@[go_sem] theorem pl97 : placesOf Tryz.prog 97 = some [(0, 1), (1, 1)] := by kernel_rfl
@[go_sem] theorem by97 : bytesOf Tryz.prog 97 = some 16 := by kernel_rfl
@[go_sem] theorem eg97 : egOf Tryz.prog 97 = false := by kernel_rfl
@[go_sem] theorem ks97 : KS.of Tryz.prog 97 = some (.agg [(.num .i64), (.num .i64)]) := by kernel_rfl
@[go_sem] theorem ze97 : zeroOf Tryz.prog 97 = some (.agg #[(.int .i64 0), (.int .i64 0)]) := by kernel_rfl
@[go_sem] theorem sz102 : szOf Tryz.prog 102 = some 1 := by kernel_rfl
@[go_sem] theorem ag102 : aggOf Tryz.prog 102 = some false := by kernel_rfl
@[go_sem] theorem es102 : elemS Tryz.prog 102 = none := by kernel_rfl
@[go_sem] theorem ha102 : hasT Tryz.prog 102 = true := by kernel_rfl
@[go_sem] theorem ic102 : isIfc Tryz.prog 102 = false := by kernel_rfl
@[go_sem] theorem by102 : bytesOf Tryz.prog 102 = some 8 := by kernel_rfl
@[go_sem] theorem ze102 : zeroOf Tryz.prog 102 = some .nilFunc := by kernel_rfl
@[go_sem] theorem sz103 : szOf Tryz.prog 103 = some 1 := by kernel_rfl
@[go_sem] theorem ag103 : aggOf Tryz.prog 103 = some false := by kernel_rfl
@[go_sem] theorem es103 : elemS Tryz.prog 103 = none := by kernel_rfl
@[go_sem] theorem ha103 : hasT Tryz.prog 103 = true := by kernel_rfl
@[go_sem] theorem ic103 : isIfc Tryz.prog 103 = false := by kernel_rfl
@[go_sem] theorem by103 : bytesOf Tryz.prog 103 = some 0 := by kernel_rfl
@[go_sem] theorem sz105 : szOf Tryz.prog 105 = some 1 := by kernel_rfl
@[go_sem] theorem ag105 : aggOf Tryz.prog 105 = some false := by kernel_rfl
@[go_sem] theorem es105 : elemS Tryz.prog 105 = none := by kernel_rfl
@[go_sem] theorem ha105 : hasT Tryz.prog 105 = true := by kernel_rfl
@[go_sem] theorem ic105 : isIfc Tryz.prog 105 = false := by kernel_rfl
@[go_sem] theorem by105 : bytesOf Tryz.prog 105 = some 8 := by kernel_rfl
@[go_sem] theorem mp105 : mapT Tryz.prog 105 = some (78, 4) := by kernel_rfl
@[go_sem] theorem ze105 : zeroOf Tryz.prog 105 = some (.map none) := by kernel_rfl
@[go_sem] theorem sz111 : szOf Tryz.prog 111 = some 1 := by kernel_rfl
@[go_sem] theorem ag111 : aggOf Tryz.prog 111 = some false := by kernel_rfl
@[go_sem] theorem es111 : elemS Tryz.prog 111 = some 169 := by kernel_rfl
@[go_sem] theorem ha111 : hasT Tryz.prog 111 = true := by kernel_rfl
@[go_sem] theorem ic111 : isIfc Tryz.prog 111 = false := by kernel_rfl
@[go_sem] theorem by111 : bytesOf Tryz.prog 111 = some 24 := by kernel_rfl
@[go_sem] theorem ze111 : zeroOf Tryz.prog 111 = some (.slice none 0 0) := by kernel_rfl
@[go_sem] theorem sz118 : szOf Tryz.prog 118 = some 5 := by kernel_rfl
@[go_sem] theorem ag118 : aggOf Tryz.prog 118 = some true := by kernel_rfl
@[go_sem] theorem fl118_0 : fldOf Tryz.prog 118 0 = some (0, 9) := by kernel_rfl
@[go_sem] theorem fl118_1 : fldOf Tryz.prog 118 1 = some (1, 25) := by kernel_rfl
@[go_sem] theorem fl118_2 : fldOf Tryz.prog 118 2 = some (4, 3) := by kernel_rfl
@[go_sem] theorem es118 : elemS Tryz.prog 118 = none := by kernel_rfl
@[go_sem] theorem ha118 : hasT Tryz.prog 118 = true := by kernel_rfl
@[go_sem] theorem ic118 : isIfc Tryz.prog 118 = false := by kernel_rfl
@[go_sem] theorem pl118 : placesOf Tryz.prog 118 = some [(0, 1), (1, 3), (4, 1)] := by kernel_rfl
@[go_sem] theorem by118 : bytesOf Tryz.prog 118 = some 72 := by kernel_rfl
@[go_sem] theorem ze118 : zeroOf Tryz.prog 118 = some (.agg #[(.string ByteArray.empty), (.string ByteArray.empty), (.slice none 0 0), (.int .i64 0), (.int .i64 0)]) := by kernel_rfl
@[go_sem] theorem sz123 : szOf Tryz.prog 123 = some 1 := by kernel_rfl
@[go_sem] theorem ag123 : aggOf Tryz.prog 123 = some false := by kernel_rfl
@[go_sem] theorem es123 : elemS Tryz.prog 123 = none := by kernel_rfl
@[go_sem] theorem ha123 : hasT Tryz.prog 123 = true := by kernel_rfl
@[go_sem] theorem ic123 : isIfc Tryz.prog 123 = false := by kernel_rfl
@[go_sem] theorem by123 : bytesOf Tryz.prog 123 = some 8 := by kernel_rfl
@[go_sem] theorem ze123 : zeroOf Tryz.prog 123 = some (.pointer none) := by kernel_rfl
@[go_sem] theorem sz124 : szOf Tryz.prog 124 = some 1 := by kernel_rfl
@[go_sem] theorem ag124 : aggOf Tryz.prog 124 = some false := by kernel_rfl
@[go_sem] theorem es124 : elemS Tryz.prog 124 = none := by kernel_rfl
@[go_sem] theorem ha124 : hasT Tryz.prog 124 = true := by kernel_rfl
@[go_sem] theorem ic124 : isIfc Tryz.prog 124 = false := by kernel_rfl
@[go_sem] theorem io124 : intOfT Tryz.prog 124 = some .u64 := by kernel_rfl
@[go_sem] theorem by124 : bytesOf Tryz.prog 124 = some 8 := by kernel_rfl
@[go_sem] theorem ze124 : zeroOf Tryz.prog 124 = some (.int .u64 0) := by kernel_rfl
@[go_sem] theorem sz126 : szOf Tryz.prog 126 = some 3 := by kernel_rfl
@[go_sem] theorem ag126 : aggOf Tryz.prog 126 = some true := by kernel_rfl
@[go_sem] theorem fl126_0 : fldOf Tryz.prog 126 0 = some (0, 17) := by kernel_rfl
@[go_sem] theorem fl126_1 : fldOf Tryz.prog 126 1 = some (1, 123) := by kernel_rfl
@[go_sem] theorem fl126_2 : fldOf Tryz.prog 126 2 = some (2, 124) := by kernel_rfl
@[go_sem] theorem es126 : elemS Tryz.prog 126 = none := by kernel_rfl
@[go_sem] theorem ha126 : hasT Tryz.prog 126 = true := by kernel_rfl
@[go_sem] theorem ic126 : isIfc Tryz.prog 126 = false := by kernel_rfl
@[go_sem] theorem pl126 : placesOf Tryz.prog 126 = some [(0, 1), (1, 1), (2, 1)] := by kernel_rfl
@[go_sem] theorem by126 : bytesOf Tryz.prog 126 = some 24 := by kernel_rfl
@[go_sem] theorem ze126 : zeroOf Tryz.prog 126 = some (.agg #[(.pointer none), (.pointer none), (.int .u64 0)]) := by kernel_rfl
@[go_sem] theorem sz129 : szOf Tryz.prog 129 = some 1 := by kernel_rfl
@[go_sem] theorem ag129 : aggOf Tryz.prog 129 = some false := by kernel_rfl
@[go_sem] theorem es129 : elemS Tryz.prog 129 = none := by kernel_rfl
@[go_sem] theorem ha129 : hasT Tryz.prog 129 = true := by kernel_rfl
@[go_sem] theorem ic129 : isIfc Tryz.prog 129 = true := by kernel_rfl
@[go_sem] theorem by129 : bytesOf Tryz.prog 129 = some 16 := by kernel_rfl
@[go_sem] theorem ze129 : zeroOf Tryz.prog 129 = some .nilIface := by kernel_rfl
@[go_sem] theorem sz131 : szOf Tryz.prog 131 = some 1 := by kernel_rfl
@[go_sem] theorem ag131 : aggOf Tryz.prog 131 = some false := by kernel_rfl
@[go_sem] theorem es131 : elemS Tryz.prog 131 = none := by kernel_rfl
@[go_sem] theorem ha131 : hasT Tryz.prog 131 = true := by kernel_rfl
@[go_sem] theorem ic131 : isIfc Tryz.prog 131 = false := by kernel_rfl
@[go_sem] theorem io131 : intOfT Tryz.prog 131 = some .u8 := by kernel_rfl
@[go_sem] theorem by131 : bytesOf Tryz.prog 131 = some 1 := by kernel_rfl
@[go_sem] theorem ze131 : zeroOf Tryz.prog 131 = some (.int .u8 0) := by kernel_rfl
@[go_sem] theorem sz149 : szOf Tryz.prog 149 = some 1 := by kernel_rfl
@[go_sem] theorem ag149 : aggOf Tryz.prog 149 = some false := by kernel_rfl
@[go_sem] theorem es149 : elemS Tryz.prog 149 = none := by kernel_rfl
@[go_sem] theorem ha149 : hasT Tryz.prog 149 = true := by kernel_rfl
@[go_sem] theorem ic149 : isIfc Tryz.prog 149 = false := by kernel_rfl
@[go_sem] theorem io149 : intOfT Tryz.prog 149 = some .u64 := by kernel_rfl
@[go_sem] theorem by149 : bytesOf Tryz.prog 149 = some 8 := by kernel_rfl
@[go_sem] theorem ze149 : zeroOf Tryz.prog 149 = some (.int .u64 0) := by kernel_rfl
@[go_sem] theorem ks9 : KS.of Tryz.prog 9 = some (.one .str) := by kernel_rfl
@[go_sem] theorem sz151 : szOf Tryz.prog 151 = some 1 := by kernel_rfl
@[go_sem] theorem ag151 : aggOf Tryz.prog 151 = some false := by kernel_rfl
@[go_sem] theorem es151 : elemS Tryz.prog 151 = none := by kernel_rfl
@[go_sem] theorem ha151 : hasT Tryz.prog 151 = true := by kernel_rfl
@[go_sem] theorem ic151 : isIfc Tryz.prog 151 = false := by kernel_rfl
@[go_sem] theorem by151 : bytesOf Tryz.prog 151 = some 8 := by kernel_rfl
@[go_sem] theorem mp151 : mapT Tryz.prog 151 = some (9, 37) := by kernel_rfl
@[go_sem] theorem ze151 : zeroOf Tryz.prog 151 = some (.map none) := by kernel_rfl
@[go_sem] theorem sz156 : szOf Tryz.prog 156 = some 1 := by kernel_rfl
@[go_sem] theorem ag156 : aggOf Tryz.prog 156 = some false := by kernel_rfl
@[go_sem] theorem es156 : elemS Tryz.prog 156 = none := by kernel_rfl
@[go_sem] theorem ha156 : hasT Tryz.prog 156 = true := by kernel_rfl
@[go_sem] theorem ic156 : isIfc Tryz.prog 156 = false := by kernel_rfl
@[go_sem] theorem by156 : bytesOf Tryz.prog 156 = some 8 := by kernel_rfl
@[go_sem] theorem ze156 : zeroOf Tryz.prog 156 = some .nilFunc := by kernel_rfl
@[go_sem] theorem sz157 : szOf Tryz.prog 157 = some 1 := by kernel_rfl
@[go_sem] theorem ag157 : aggOf Tryz.prog 157 = some false := by kernel_rfl
@[go_sem] theorem es157 : elemS Tryz.prog 157 = none := by kernel_rfl
@[go_sem] theorem ha157 : hasT Tryz.prog 157 = true := by kernel_rfl
@[go_sem] theorem ic157 : isIfc Tryz.prog 157 = false := by kernel_rfl
@[go_sem] theorem by157 : bytesOf Tryz.prog 157 = some 8 := by kernel_rfl
@[go_sem] theorem ze157 : zeroOf Tryz.prog 157 = some .nilFunc := by kernel_rfl
@[go_sem] theorem sz162 : szOf Tryz.prog 162 = some 1 := by kernel_rfl
@[go_sem] theorem ag162 : aggOf Tryz.prog 162 = some false := by kernel_rfl
@[go_sem] theorem es162 : elemS Tryz.prog 162 = none := by kernel_rfl
@[go_sem] theorem ha162 : hasT Tryz.prog 162 = true := by kernel_rfl
@[go_sem] theorem ic162 : isIfc Tryz.prog 162 = false := by kernel_rfl
@[go_sem] theorem by162 : bytesOf Tryz.prog 162 = some 8 := by kernel_rfl
@[go_sem] theorem ze162 : zeroOf Tryz.prog 162 = some .nilFunc := by kernel_rfl
@[go_sem] theorem sz163 : szOf Tryz.prog 163 = some 1 := by kernel_rfl
@[go_sem] theorem ag163 : aggOf Tryz.prog 163 = some false := by kernel_rfl
@[go_sem] theorem es163 : elemS Tryz.prog 163 = none := by kernel_rfl
@[go_sem] theorem ha163 : hasT Tryz.prog 163 = true := by kernel_rfl
@[go_sem] theorem ic163 : isIfc Tryz.prog 163 = false := by kernel_rfl
@[go_sem] theorem by163 : bytesOf Tryz.prog 163 = some 8 := by kernel_rfl
@[go_sem] theorem ze163 : zeroOf Tryz.prog 163 = some .nilFunc := by kernel_rfl
@[go_sem] theorem sz165 : szOf Tryz.prog 165 = some 1 := by kernel_rfl
@[go_sem] theorem ag165 : aggOf Tryz.prog 165 = some false := by kernel_rfl
@[go_sem] theorem es165 : elemS Tryz.prog 165 = none := by kernel_rfl
@[go_sem] theorem ha165 : hasT Tryz.prog 165 = true := by kernel_rfl
@[go_sem] theorem ic165 : isIfc Tryz.prog 165 = false := by kernel_rfl
@[go_sem] theorem by165 : bytesOf Tryz.prog 165 = some 8 := by kernel_rfl
@[go_sem] theorem ze165 : zeroOf Tryz.prog 165 = some .nilFunc := by kernel_rfl
@[go_sem] theorem sz166 : szOf Tryz.prog 166 = some 1 := by kernel_rfl
@[go_sem] theorem ag166 : aggOf Tryz.prog 166 = some false := by kernel_rfl
@[go_sem] theorem es166 : elemS Tryz.prog 166 = some 3 := by kernel_rfl
@[go_sem] theorem ha166 : hasT Tryz.prog 166 = true := by kernel_rfl
@[go_sem] theorem ic166 : isIfc Tryz.prog 166 = false := by kernel_rfl
@[go_sem] theorem by166 : bytesOf Tryz.prog 166 = some 24 := by kernel_rfl
@[go_sem] theorem ze166 : zeroOf Tryz.prog 166 = some (.slice none 0 0) := by kernel_rfl
@[go_sem] theorem sz169 : szOf Tryz.prog 169 = some 4 := by kernel_rfl
@[go_sem] theorem ag169 : aggOf Tryz.prog 169 = some true := by kernel_rfl
@[go_sem] theorem fl169_0 : fldOf Tryz.prog 169 0 = some (0, 9) := by kernel_rfl
@[go_sem] theorem fl169_1 : fldOf Tryz.prog 169 1 = some (1, 32) := by kernel_rfl
@[go_sem] theorem es169 : elemS Tryz.prog 169 = none := by kernel_rfl
@[go_sem] theorem ha169 : hasT Tryz.prog 169 = true := by kernel_rfl
@[go_sem] theorem ic169 : isIfc Tryz.prog 169 = false := by kernel_rfl
@[go_sem] theorem pl169 : placesOf Tryz.prog 169 = some [(0, 1), (1, 3)] := by kernel_rfl
@[go_sem] theorem by169 : bytesOf Tryz.prog 169 = some 48 := by kernel_rfl
@[go_sem] theorem eg169 : egOf Tryz.prog 169 = false := by kernel_rfl
@[go_sem] theorem ks169 : KS.of Tryz.prog 169 = some (.agg [.str, .boo, .str, (.num .i64)]) := by kernel_rfl
@[go_sem] theorem ze169 : zeroOf Tryz.prog 169 = some (.agg #[(.string ByteArray.empty), (.bool false), (.string ByteArray.empty), (.int .i64 0)]) := by kernel_rfl
@[go_sem] theorem sz172 : szOf Tryz.prog 172 = some 1 := by kernel_rfl
@[go_sem] theorem ag172 : aggOf Tryz.prog 172 = some true := by kernel_rfl
@[go_sem] theorem fl172_0 : fldOf Tryz.prog 172 0 = some (0, 17) := by kernel_rfl
@[go_sem] theorem es172 : elemS Tryz.prog 172 = none := by kernel_rfl
@[go_sem] theorem ha172 : hasT Tryz.prog 172 = true := by kernel_rfl
@[go_sem] theorem ic172 : isIfc Tryz.prog 172 = false := by kernel_rfl
@[go_sem] theorem pl172 : placesOf Tryz.prog 172 = some [(0, 1)] := by kernel_rfl
@[go_sem] theorem by172 : bytesOf Tryz.prog 172 = some 8 := by kernel_rfl
@[go_sem] theorem ze172 : zeroOf Tryz.prog 172 = some (.agg #[(.pointer none)]) := by kernel_rfl
@[go_sem] theorem sz177 : szOf Tryz.prog 177 = some 1 := by kernel_rfl
@[go_sem] theorem ag177 : aggOf Tryz.prog 177 = some false := by kernel_rfl
@[go_sem] theorem es177 : elemS Tryz.prog 177 = none := by kernel_rfl
@[go_sem] theorem ha177 : hasT Tryz.prog 177 = true := by kernel_rfl
@[go_sem] theorem ic177 : isIfc Tryz.prog 177 = true := by kernel_rfl
@[go_sem] theorem by177 : bytesOf Tryz.prog 177 = some 16 := by kernel_rfl
@[go_sem] theorem ze177 : zeroOf Tryz.prog 177 = some .nilIface := by kernel_rfl
@[go_sem] theorem sz178 : szOf Tryz.prog 178 = some 1 := by kernel_rfl
@[go_sem] theorem ag178 : aggOf Tryz.prog 178 = some false := by kernel_rfl
@[go_sem] theorem es178 : elemS Tryz.prog 178 = none := by kernel_rfl
@[go_sem] theorem ha178 : hasT Tryz.prog 178 = true := by kernel_rfl
@[go_sem] theorem ic178 : isIfc Tryz.prog 178 = false := by kernel_rfl
@[go_sem] theorem by178 : bytesOf Tryz.prog 178 = some 0 := by kernel_rfl
@[go_sem] theorem sz180 : szOf Tryz.prog 180 = some 1 := by kernel_rfl
@[go_sem] theorem ag180 : aggOf Tryz.prog 180 = some false := by kernel_rfl
@[go_sem] theorem es180 : elemS Tryz.prog 180 = none := by kernel_rfl
@[go_sem] theorem ha180 : hasT Tryz.prog 180 = true := by kernel_rfl
@[go_sem] theorem ic180 : isIfc Tryz.prog 180 = true := by kernel_rfl
@[go_sem] theorem by180 : bytesOf Tryz.prog 180 = some 16 := by kernel_rfl
@[go_sem] theorem ze180 : zeroOf Tryz.prog 180 = some .nilIface := by kernel_rfl
@[go_sem] theorem sz182 : szOf Tryz.prog 182 = some 1 := by kernel_rfl
@[go_sem] theorem ag182 : aggOf Tryz.prog 182 = some false := by kernel_rfl
@[go_sem] theorem es182 : elemS Tryz.prog 182 = none := by kernel_rfl
@[go_sem] theorem ha182 : hasT Tryz.prog 182 = true := by kernel_rfl
@[go_sem] theorem ic182 : isIfc Tryz.prog 182 = true := by kernel_rfl
@[go_sem] theorem by182 : bytesOf Tryz.prog 182 = some 16 := by kernel_rfl
@[go_sem] theorem ze182 : zeroOf Tryz.prog 182 = some .nilIface := by kernel_rfl
@[go_sem] theorem sz183 : szOf Tryz.prog 183 = some 1 := by kernel_rfl
@[go_sem] theorem ag183 : aggOf Tryz.prog 183 = some false := by kernel_rfl
@[go_sem] theorem es183 : elemS Tryz.prog 183 = some 54 := by kernel_rfl
@[go_sem] theorem ha183 : hasT Tryz.prog 183 = true := by kernel_rfl
@[go_sem] theorem ic183 : isIfc Tryz.prog 183 = false := by kernel_rfl
@[go_sem] theorem by183 : bytesOf Tryz.prog 183 = some 24 := by kernel_rfl
@[go_sem] theorem ze183 : zeroOf Tryz.prog 183 = some (.slice none 0 0) := by kernel_rfl
@[go_sem] theorem sz193 : szOf Tryz.prog 193 = some 1 := by kernel_rfl
@[go_sem] theorem ag193 : aggOf Tryz.prog 193 = some false := by kernel_rfl
@[go_sem] theorem es193 : elemS Tryz.prog 193 = none := by kernel_rfl
@[go_sem] theorem ha193 : hasT Tryz.prog 193 = true := by kernel_rfl
@[go_sem] theorem ic193 : isIfc Tryz.prog 193 = false := by kernel_rfl
@[go_sem] theorem io193 : intOfT Tryz.prog 193 = some .i64 := by kernel_rfl
@[go_sem] theorem by193 : bytesOf Tryz.prog 193 = some 8 := by kernel_rfl
@[go_sem] theorem ze193 : zeroOf Tryz.prog 193 = some (.int .i64 0) := by kernel_rfl
@[go_sem] theorem sz194 : szOf Tryz.prog 194 = some 1 := by kernel_rfl
@[go_sem] theorem ag194 : aggOf Tryz.prog 194 = some false := by kernel_rfl
@[go_sem] theorem es194 : elemS Tryz.prog 194 = none := by kernel_rfl
@[go_sem] theorem ha194 : hasT Tryz.prog 194 = true := by kernel_rfl
@[go_sem] theorem ic194 : isIfc Tryz.prog 194 = false := by kernel_rfl
@[go_sem] theorem by194 : bytesOf Tryz.prog 194 = some 0 := by kernel_rfl
@[go_sem] theorem sz200 : szOf Tryz.prog 200 = some 1 := by kernel_rfl
@[go_sem] theorem ag200 : aggOf Tryz.prog 200 = some false := by kernel_rfl
@[go_sem] theorem es200 : elemS Tryz.prog 200 = none := by kernel_rfl
@[go_sem] theorem ha200 : hasT Tryz.prog 200 = true := by kernel_rfl
@[go_sem] theorem ic200 : isIfc Tryz.prog 200 = false := by kernel_rfl
@[go_sem] theorem io200 : intOfT Tryz.prog 200 = some .u32 := by kernel_rfl
@[go_sem] theorem by200 : bytesOf Tryz.prog 200 = some 4 := by kernel_rfl
@[go_sem] theorem ze200 : zeroOf Tryz.prog 200 = some (.int .u32 0) := by kernel_rfl
@[go_sem] theorem sz202 : szOf Tryz.prog 202 = some 1 := by kernel_rfl
@[go_sem] theorem ag202 : aggOf Tryz.prog 202 = some false := by kernel_rfl
@[go_sem] theorem es202 : elemS Tryz.prog 202 = none := by kernel_rfl
@[go_sem] theorem ha202 : hasT Tryz.prog 202 = true := by kernel_rfl
@[go_sem] theorem ic202 : isIfc Tryz.prog 202 = false := by kernel_rfl
@[go_sem] theorem io202 : intOfT Tryz.prog 202 = some .u64 := by kernel_rfl
@[go_sem] theorem by202 : bytesOf Tryz.prog 202 = some 8 := by kernel_rfl
@[go_sem] theorem ze202 : zeroOf Tryz.prog 202 = some (.int .u64 0) := by kernel_rfl
@[go_sem] theorem sz204 : szOf Tryz.prog 204 = some 1 := by kernel_rfl
@[go_sem] theorem ag204 : aggOf Tryz.prog 204 = some false := by kernel_rfl
@[go_sem] theorem es204 : elemS Tryz.prog 204 = none := by kernel_rfl
@[go_sem] theorem ha204 : hasT Tryz.prog 204 = true := by kernel_rfl
@[go_sem] theorem ic204 : isIfc Tryz.prog 204 = false := by kernel_rfl
@[go_sem] theorem by204 : bytesOf Tryz.prog 204 = some 0 := by kernel_rfl
@[go_sem] theorem sz211 : szOf Tryz.prog 211 = some 1 := by kernel_rfl
@[go_sem] theorem ag211 : aggOf Tryz.prog 211 = some false := by kernel_rfl
@[go_sem] theorem es211 : elemS Tryz.prog 211 = none := by kernel_rfl
@[go_sem] theorem ha211 : hasT Tryz.prog 211 = true := by kernel_rfl
@[go_sem] theorem ic211 : isIfc Tryz.prog 211 = false := by kernel_rfl
@[go_sem] theorem io211 : intOfT Tryz.prog 211 = some .u64 := by kernel_rfl
@[go_sem] theorem by211 : bytesOf Tryz.prog 211 = some 8 := by kernel_rfl
@[go_sem] theorem ze211 : zeroOf Tryz.prog 211 = some (.int .u64 0) := by kernel_rfl
@[go_sem] theorem sz215 : szOf Tryz.prog 215 = some 1 := by kernel_rfl
@[go_sem] theorem ag215 : aggOf Tryz.prog 215 = some false := by kernel_rfl
@[go_sem] theorem es215 : elemS Tryz.prog 215 = none := by kernel_rfl
@[go_sem] theorem ha215 : hasT Tryz.prog 215 = true := by kernel_rfl
@[go_sem] theorem ic215 : isIfc Tryz.prog 215 = false := by kernel_rfl
@[go_sem] theorem by215 : bytesOf Tryz.prog 215 = some 8 := by kernel_rfl
@[go_sem] theorem ip215 : isPtrT Tryz.prog 215 = true := by kernel_rfl
@[go_sem] theorem ze215 : zeroOf Tryz.prog 215 = some (.pointer none) := by kernel_rfl
@[go_sem] theorem sz222 : szOf Tryz.prog 222 = some 1 := by kernel_rfl
@[go_sem] theorem ag222 : aggOf Tryz.prog 222 = some false := by kernel_rfl
@[go_sem] theorem es222 : elemS Tryz.prog 222 = none := by kernel_rfl
@[go_sem] theorem ha222 : hasT Tryz.prog 222 = true := by kernel_rfl
@[go_sem] theorem ic222 : isIfc Tryz.prog 222 = false := by kernel_rfl
@[go_sem] theorem by222 : bytesOf Tryz.prog 222 = some 8 := by kernel_rfl
@[go_sem] theorem ip222 : isPtrT Tryz.prog 222 = true := by kernel_rfl
@[go_sem] theorem ze222 : zeroOf Tryz.prog 222 = some (.pointer none) := by kernel_rfl
@[go_sem] theorem sz223 : szOf Tryz.prog 223 = some 1 := by kernel_rfl
@[go_sem] theorem ag223 : aggOf Tryz.prog 223 = some false := by kernel_rfl
@[go_sem] theorem es223 : elemS Tryz.prog 223 = none := by kernel_rfl
@[go_sem] theorem ha223 : hasT Tryz.prog 223 = true := by kernel_rfl
@[go_sem] theorem ic223 : isIfc Tryz.prog 223 = false := by kernel_rfl
@[go_sem] theorem by223 : bytesOf Tryz.prog 223 = some 0 := by kernel_rfl
end Go.Proofs.T
namespace Go.Proofs.T
open Go Go.Ab Go.RowKit
mutual
def count : Ty → Nat → Nat
 | .mk nm xs _, n => countL xs (n + 1 + nm.size / 50)
def countL : List Ty → Nat → Nat
 | [], n => n
 | t :: r, n => if n ≤ 2000 then countL r (count t n) else n
end
theorem count_eq (t : Ty) (n : Nat) : count t n = countL t.args (n + 1 + t.name.size / 50) := by cases t; simp [count]
theorem countL_le {l : List Ty} {n : Nat} (h : 2000 < n) : countL l n = n := by cases l <;> simp [countL]; omega
def big : Nat := 184467440737097518
mutual
theorem count_bound : ∀ (t : Ty) (n : Nat), okTy t → count t n ≤ Nat.max n 2000 + big
 | .mk nm xs p, n, h => by
  simp only [count]
  simp only [okTy] at h
  have h1 : n + 1 + nm.size / 50 ≤ Nat.max n 2000 + big := by
   have : n ≤ Nat.max n 2000 := Nat.le_max_left ..
   unfold big; omega
  have := countL_bound xs (n + 1 + nm.size / 50) (Nat.max n 2000) h.2.2 (Nat.le_max_right ..) h1
  exact this
theorem countL_bound : ∀ (l : List Ty) (n m : Nat), okTys l → 2000 ≤ m → n ≤ m + big → countL l n ≤ m + big
 | [], n, m, _, h2, h => by simpa [countL] using h
 | t :: r, n, m, hk, h2, h => by
  simp only [countL]
  simp only [okTys] at hk
  split
  ·rename_i hn
   refine countL_bound r _ m hk.2 h2 ?_
   have := count_bound t n hk.1
   have : Nat.max n 2000 = 2000 := Nat.max_eq_right hn
   omega
  ·exact h
end
set_option maxRecDepth 10000 in
theorem count_calls : ∀ (t : Ty), okTy t → ∀ (n g d : Nat), n ≤ 4611686018427387904 → ACalls E 105 [encTy t, dN n] [] g d (dN (count t n)) [] := by
 refine Ty.ind fun t ih => ?_
 intro ht n g d hn
 obtain ⟨hs1, hs2, hs3⟩ := (okTy_iff t).1 ht
 refine acalls_of_awp (fn := Tryz.f105) (N := 32) Tryz.call105 Tryz.func105 rfl rfl (by simp) ?_
 simp only [go_sem]
 refine awp_seq_k (fun K1 hK1 => ?_)
 refine awp_plain 2 (by kernel_rfl) rfl (fun g0 hg0 => ?_)
 simp only [go_sem]
 refine hK1 _ ?_
 refine awp_seq_k (fun K2 hK2 => ?_)
 refine awp_plain 8 (by kernel_rfl) rfl (fun g1 hg1 => ?_)
 simp only [go_sem]
 try simp (disch := omega) only [wrapN, Int.tdiv_eq_ediv_of_nonneg]
 refine hK2 _ ?_
 refine awp_seq_k (fun K3 hK3 => ?_)
 refine awp_seq_k (fun K4 hK4 => ?_)
 refine awp_plain 1 (by kernel_rfl) rfl (fun g2 hg2 => ?_)
 simp only [go_sem]
 refine hK4 _ ?_
 refine awp_block ?_
 refine awp_loop (fun m s => ∃ k n', k ≤ t.args.length ∧ m = t.args.length - k ∧ n' ≤ 4611686018427387904 + big ∧ countL (t.args.drop k) n' = count t n ∧
   Le { env := [(1, dN n'), (2, .ptr ⟨g0, 2, 0⟩ 0), (5, dN k)], σ := [(⟨g0, 2, 0⟩, .box 25 (tyC t))] } s) t.args.length ?_ ?_
 ·refine ⟨0, n + 1 + t.name.size / 50, Nat.zero_le _, rfl, by unfold big; omega, by rw [count_eq]; rfl, le_of ?_⟩
  simp only [go_sem, tyC]
  omega
 ·rintro m s ⟨k, n', hk, rfl, hn', hc, hle⟩
  refine awp_keep hle ?_
  clear hle
  by_cases hlt : k < t.args.length
  ·by_cases hle : (n' : Int) ≤ 2000
   ·refine awp_seq_k (fun K5 hK5 => ?_)
    refine awp_seq_k (fun K6 hK6 => ?_)
    refine awp_plain 9 (by kernel_rfl) rfl (fun g3 hg3 => ?_)
    simp only [go_sem, tyC, hlt, hle]
    refine hK6 _ ?_
    refine awp_t rfl ?_
    refine awp_skip ?_
    refine hK5 _ ?_
    refine awp_seq_k (fun K7 hK7 => ?_)
    refine awp_block ?_
    refine awp_ops (by kernel_rfl) rfl (fun g5 hg5 ops5 KR5 hops5 hKR5 => ?_)
    refine aops_eval 6 hops5 ?_
    simp only [go_sem, getM hlt]
    refine aops_pure hops5 rfl rfl rfl (ih _ (List.getElem_mem _) (hs3 _ (List.getElem_mem _)) n' _ _ (by omega)) (CoL.refl _) ?_
    refine aops_last 1 hops5 ?_
    simp only [go_sem]
    refine hKR5 _ ?_
    refine hK7 _ ?_
    refine awp_plain 3 (by kernel_rfl) rfl (fun g4 hg4 => ?_)
    simp only [go_sem]
    try simp (disch := omega) only [wrapN]
    have e : countL (t.args.drop k) n' = countL (t.args.drop (k + 1)) (count t.args[k] n') := by
     rw [List.drop_eq_getElem_cons hlt]; simp only [countL]; rw [if_pos (by omega)]
    have e2 := count_bound t.args[k] n' (hs3 _ (List.getElem_mem _))
    have e3 : Nat.max n' 2000 ≤ 4611686018427387904 := Nat.max_le.2 ⟨by omega, by omega⟩
    refine ⟨_, ?_, k + 1, count t.args[k] n', hlt, rfl, ?_, by rw [← e]; exact hc, le_of ?_⟩
    ·omega
    ·omega
    simp only [go_sem, tyC]
    omega
   ·refine awp_seq_k (fun K8 hK8 => ?_)
    refine awp_seq_k (fun K9 hK9 => ?_)
    refine awp_plain 9 (by kernel_rfl) rfl (fun g3 hg3 => ?_)
    simp only [go_sem, tyC, hlt, hle]
    refine hK9 _ ?_
    rw [countL_le (by omega)] at hc
    subst hc
    refine awp_f rfl ?_
    refine awp_exit ?_
    refine hK3 _ ?_
    refine awp_seq_k (fun K10 hK10 => ?_)
    refine awp_plain 2 (by kernel_rfl) rfl (fun g6 hg6 => ?_)
    simp only [go_sem]
    refine hK10 _ ?_
    refine awp_ret ?_
    refine ends_ev rfl ?_
    simp only [go_sem]
    exact Co.refl _
  ·refine awp_seq_k (fun K11 hK11 => ?_)
   refine awp_seq_k (fun K12 hK12 => ?_)
   refine awp_plain 9 (by kernel_rfl) rfl (fun g3 hg3 => ?_)
   simp only [go_sem, tyC, hlt]
   refine hK12 _ ?_
   rw [List.drop_eq_nil_of_le (by omega)] at hc
   simp only [countL] at hc
   subst hc
   refine awp_f rfl ?_
   refine awp_exit ?_
   refine hK3 _ ?_
   refine awp_seq_k (fun K13 hK13 => ?_)
   refine awp_plain 2 (by kernel_rfl) rfl (fun g6 hg6 => ?_)
   simp only [go_sem]
   refine hK13 _ ?_
   refine awp_ret ?_
   refine ends_ev rfl ?_
   simp only [go_sem]
   exact Co.refl _
end Go.Proofs.T
namespace Go.Proofs.T
open Go Go.Ab Go.RowKit
def cmpL : List UInt8 → List UInt8 → Int
 | [], [] => 0
 | [], _ :: _ => -1
 | _ :: _, [] => 1
 | a :: x, b :: y => if a < b then -1 else if b < a then 1 else cmpL x y
def cmpS (a b : Str) : Int := cmpL a.data.toList b.data.toList
theorem cmpL_zero : ∀ {x y : List UInt8}, cmpL x y = 0 ↔ x = y
 | [], [] => by simp [cmpL]
 | [], _ :: _ => by simp [cmpL]
 | _ :: _, [] => by simp [cmpL]
 | a :: x, b :: y => by
  simp only [cmpL]
  split
  ·rename_i h; simp; rintro rfl; exact absurd h (by simp)
  ·split
   ·rename_i h; simp; rintro rfl; exact absurd h (by simp)
   ·rename_i h1 h2
    have : a = b := by
     apply UInt8.le_antisymm
     ·exact UInt8.not_lt.1 h2
     ·exact UInt8.not_lt.1 h1
    subst this
    simp [cmpL_zero (x := x) (y := y)]
theorem cmpS_zero {a b : Str} : cmpS a b = 0 ↔ a = b := by
 unfold cmpS
 rw [cmpL_zero, Array.toList_inj]
 constructor
 ·intro h; cases a; cases b; simp_all
 ·rintro rfl; rfl
theorem str_get {s : Str} {k : Nat} (h : k < s.size) : s[k]? = some (s.data.toList[k]'h) := by
 have : s[k]? = some s[k] := getElem?_pos s k h
 rw [this]; rfl
theorem cmpL_less : ∀ (x y : List UInt8), Op.bytesLess x y = decide (cmpL x y = -1)
 | [], [] => by simp [Op.bytesLess, cmpL]
 | [], _ :: _ => by simp [Op.bytesLess, cmpL]
 | _ :: _, [] => by simp [Op.bytesLess, cmpL]
 | a :: x, b :: y => by
  simp only [Op.bytesLess, cmpL]
  by_cases h1 : a < b
  ·simp [h1]
  ·by_cases h2 : b < a
   ·simp [h1, h2]; intro h; subst h; simp at h2
   ·have : a = b := UInt8.le_antisymm (UInt8.not_lt.1 h2) (UInt8.not_lt.1 h1)
    subst this
    simp [h1, cmpL_less x y]
theorem cmpL_range : ∀ (x y : List UInt8), cmpL x y = -1 ∨ cmpL x y = 0 ∨ cmpL x y = 1
 | [], [] => by simp [cmpL]
 | [], _ :: _ => by simp [cmpL]
 | _ :: _, [] => by simp [cmpL]
 | a :: x, b :: y => by
  simp only [cmpL]
  split
  ·simp
  ·split
   ·simp
   ·exact cmpL_range x y
theorem cmpS_less (a b : Str) : Op.bytesLess a.toList b.toList = decide (cmpS a b = -1) := by
 rw [cmpL_less, ByteArray.toList_eq, ByteArray.toList_eq]; rfl
set_option maxRecDepth 10000 in
theorem compareS_calls (a b : Str) (ha : a.size ≤ 9223372036854775807) (g d : Nat) :
  ACalls E 35 [encS a, encS b] [] g d (dI (cmpS a b)) [] := by
 refine acalls_of_awp (fn := Tryz.f35) (N := 42) Tryz.call35 Tryz.func35 rfl rfl (by simp) ?_
 simp only [go_sem]
 refine awp_seq_k (fun K1 hK1 => ?_)
 refine awp_plain 1 (by kernel_rfl) rfl (fun g0 hg0 => ?_)
 simp only [go_sem]
 refine hK1 _ ?_
 refine awp_seq_k (fun K2 hK2 => ?_)
 refine awp_seq_k (fun K3 hK3 => ?_)
 refine awp_plain 1 (by kernel_rfl) rfl (fun g1 hg1 => ?_)
 simp only [go_sem]
 refine hK3 _ ?_
 refine awp_block ?_
 refine awp_loop (fun m s => ∃ k, k ≤ a.size ∧ k ≤ b.size ∧ m = a.size - k ∧ cmpL (a.data.toList.drop k) (b.data.toList.drop k) = cmpS a b ∧
   Le { env := [(0, encS a), (1, encS b), (5, dN k)], σ := [] } s) a.size ?_ ?_
 ·refine ⟨0, Nat.zero_le _, Nat.zero_le _, rfl, rfl, le_of ?_⟩
  simp only [go_sem]
  trivial
 ·rintro m s ⟨k, hka, hkb, rfl, hc, hle⟩
  refine awp_keep hle ?_
  clear hle
  by_cases ha : k < a.size
  ·by_cases hb : k < b.size
   ·rw [List.drop_eq_getElem_cons (show k < a.data.toList.length from ha), List.drop_eq_getElem_cons (show k < b.data.toList.length from hb)] at hc
    simp only [cmpL] at hc
    refine awp_seq_k (fun K4 hK4 => ?_)
    refine awp_seq_k (fun K5 hK5 => ?_)
    refine awp_plain 10 (by kernel_rfl) rfl (fun g2 hg2 => ?_)
    simp only [go_sem, ha, hb]
    refine hK5 _ ?_
    refine awp_t rfl ?_
    refine awp_skip ?_
    refine hK4 _ ?_
    refine awp_seq_k (fun K6 hK6 => ?_)
    refine awp_block ?_
    refine awp_seq_k (fun K7 hK7 => ?_)
    refine awp_seq_k (fun K8 hK8 => ?_)
    have h0 : (0 : Int) ≤ k := by omega
    by_cases h1 : a.data.toList[k] < b.data.toList[k]
    ·rw [if_pos h1] at hc
     have h1' : (a.data.toList[k].toNat : Int) < b.data.toList[k].toNat := by exact_mod_cast UInt8.lt_iff_toNat_lt.1 h1
     refine awp_anyq (by kernel_rfl) rfl (fun g4 hg4 ops4 KR4 hops4 hKR4 => ?_)
     refine qrun_last 7 hops4 ?_
     simp only [go_sem, h0, Int.toNat_natCast, str_get ha, str_get hb, h1']
     refine hKR4 _ ?_
     refine hK8 _ ?_
     refine awp_t rfl ?_
     refine awp_seq_k (fun K9 hK9 => ?_)
     refine awp_plain 1 (by kernel_rfl) rfl (fun g5 hg5 => ?_)
     simp only [go_sem]
     refine hK9 _ ?_
     refine awp_ret ?_
     rw [← hc]
     refine ends_ev rfl ?_
     simp only [go_sem]
     exact Co.refl _
    ·rw [if_neg h1] at hc
     have h1' : ¬ (a.data.toList[k].toNat : Int) < b.data.toList[k].toNat := fun h => h1 (UInt8.lt_iff_toNat_lt.2 (by exact_mod_cast h))
     refine awp_anyq (by kernel_rfl) rfl (fun g4 hg4 ops4 KR4 hops4 hKR4 => ?_)
     refine qrun_last 7 hops4 ?_
     simp only [go_sem, h0, Int.toNat_natCast, str_get ha, str_get hb, h1']
     refine hKR4 _ ?_
     refine hK8 _ ?_
     refine awp_f rfl ?_
     refine awp_skip ?_
     refine hK7 _ ?_
     refine awp_seq_k (fun K10 hK10 => ?_)
     by_cases h2 : b.data.toList[k] < a.data.toList[k]
     ·rw [if_pos h2] at hc
      have h2' : (b.data.toList[k].toNat : Int) < a.data.toList[k].toNat := by exact_mod_cast UInt8.lt_iff_toNat_lt.1 h2
      refine awp_anyq (by kernel_rfl) rfl (fun g6 hg6 ops6 KR6 hops6 hKR6 => ?_)
      refine qrun_last 7 hops6 ?_
      simp only [go_sem, h0, Int.toNat_natCast, str_get ha, str_get hb, h2']
      refine hKR6 _ ?_
      refine hK10 _ ?_
      refine awp_t rfl ?_
      refine awp_seq_k (fun K11 hK11 => ?_)
      refine awp_plain 1 (by kernel_rfl) rfl (fun g7 hg7 => ?_)
      simp only [go_sem]
      refine hK11 _ ?_
      refine awp_ret ?_
      rw [← hc]
      refine ends_ev rfl ?_
      simp only [go_sem]
      exact Co.refl _
     ·rw [if_neg h2] at hc
      have h2' : ¬ (b.data.toList[k].toNat : Int) < a.data.toList[k].toNat := fun h => h2 (UInt8.lt_iff_toNat_lt.2 (by exact_mod_cast h))
      refine awp_anyq (by kernel_rfl) rfl (fun g6 hg6 ops6 KR6 hops6 hKR6 => ?_)
      refine qrun_last 7 hops6 ?_
      simp only [go_sem, h0, Int.toNat_natCast, str_get ha, str_get hb, h2']
      refine hKR6 _ ?_
      refine hK10 _ ?_
      refine awp_f rfl ?_
      refine awp_skip ?_
      refine hK6 _ ?_
      refine awp_plain 3 (by kernel_rfl) rfl (fun g3 hg3 => ?_)
      simp only [go_sem]
      try simp (disch := omega) only [wrapN]
      refine ⟨_, ?_, k + 1, ha, hb, rfl, hc, le_of ?_⟩
      ·omega
      simp only [go_sem]
      omega
   ·have : k = b.size := by omega
    subst this
    rw [List.drop_eq_getElem_cons (show b.size < a.data.toList.length from ha), List.drop_eq_nil_of_le (show b.data.toList.length ≤ b.size from Nat.le_refl _)] at hc
    simp only [cmpL] at hc
    have h3 : ¬ a.size < b.size := by omega
    have h4 : b.size < a.size := ha
    refine awp_seq_k (fun K12 hK12 => ?_)
    refine awp_seq_k (fun K13 hK13 => ?_)
    refine awp_plain 10 (by kernel_rfl) rfl (fun g2 hg2 => ?_)
    simp only [go_sem, ha, hb]
    refine hK13 _ ?_
    refine awp_f rfl ?_
    refine awp_exit ?_
    refine hK2 _ ?_
    refine awp_seq_k (fun K14 hK14 => ?_)
    refine awp_seq_k (fun K15 hK15 => ?_)
    refine awp_plain 5 (by kernel_rfl) rfl (fun g8 hg8 => ?_)
    simp only [go_sem, h3]
    refine hK15 _ ?_
    refine awp_f rfl ?_
    refine awp_skip ?_
    refine hK14 _ ?_
    refine awp_seq_k (fun K16 hK16 => ?_)
    refine awp_seq_k (fun K17 hK17 => ?_)
    refine awp_plain 5 (by kernel_rfl) rfl (fun g10 hg10 => ?_)
    simp only [go_sem, h4]
    refine hK17 _ ?_
    refine awp_t rfl ?_
    refine awp_seq_k (fun K18 hK18 => ?_)
    refine awp_plain 1 (by kernel_rfl) rfl (fun g11 hg11 => ?_)
    simp only [go_sem]
    refine hK18 _ ?_
    refine awp_ret ?_
    rw [← hc]
    refine ends_ev rfl ?_
    simp only [go_sem]
    exact Co.refl _
  ·have : k = a.size := by omega
   subst this
   rw [List.drop_eq_nil_of_le (show a.data.toList.length ≤ a.size from Nat.le_refl _)] at hc
   refine awp_seq_k (fun K19 hK19 => ?_)
   refine awp_seq_k (fun K20 hK20 => ?_)
   refine awp_plain 10 (by kernel_rfl) rfl (fun g2 hg2 => ?_)
   simp only [go_sem, ha]
   refine hK20 _ ?_
   refine awp_f rfl ?_
   refine awp_exit ?_
   refine hK2 _ ?_
   refine awp_seq_k (fun K21 hK21 => ?_)
   refine awp_seq_k (fun K22 hK22 => ?_)
   by_cases hb : a.size < b.size
   ·rw [List.drop_eq_getElem_cons (show a.size < b.data.toList.length from hb)] at hc
    simp only [cmpL] at hc
    refine awp_plain 5 (by kernel_rfl) rfl (fun g8 hg8 => ?_)
    simp only [go_sem, hb]
    refine hK22 _ ?_
    refine awp_t rfl ?_
    refine awp_seq_k (fun K23 hK23 => ?_)
    refine awp_plain 1 (by kernel_rfl) rfl (fun g9 hg9 => ?_)
    simp only [go_sem]
    refine hK23 _ ?_
    refine awp_ret ?_
    rw [← hc]
    refine ends_ev rfl ?_
    simp only [go_sem]
    exact Co.refl _
   ·have h4 : ¬ b.size < a.size := by omega
    rw [List.drop_eq_nil_of_le (show b.data.toList.length ≤ a.size from (by show b.size ≤ a.size; omega))] at hc
    simp only [cmpL] at hc
    refine awp_plain 5 (by kernel_rfl) rfl (fun g8 hg8 => ?_)
    simp only [go_sem, hb]
    refine hK22 _ ?_
    refine awp_f rfl ?_
    refine awp_skip ?_
    refine hK21 _ ?_
    refine awp_seq_k (fun K24 hK24 => ?_)
    refine awp_seq_k (fun K25 hK25 => ?_)
    refine awp_plain 5 (by kernel_rfl) rfl (fun g10 hg10 => ?_)
    simp only [go_sem, h4]
    refine hK25 _ ?_
    refine awp_f rfl ?_
    refine awp_skip ?_
    refine hK24 _ ?_
    refine awp_seq_k (fun K26 hK26 => ?_)
    refine awp_plain 1 (by kernel_rfl) rfl (fun g12 hg12 => ?_)
    simp only [go_sem]
    refine hK26 _ ?_
    refine awp_ret ?_
    rw [← hc]
    refine ends_ev rfl ?_
    simp only [go_sem]
    exact Co.refl _
end Go.Proofs.T
