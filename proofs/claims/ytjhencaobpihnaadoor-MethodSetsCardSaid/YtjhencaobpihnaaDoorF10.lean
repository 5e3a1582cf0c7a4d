/- A part of the proof, under no conditions of its own: F10. -/
import Derived.Test.YtjhencaobpihnaaDoorXE
import Derived.Lib.ItoaNum
import Derived.Test.YtjhencaobpihnaaDoorProg
namespace Go.Proofs.T
open Go Go.Ab Go.RowKit

noncomputable def E : Ctx := { P := Tryd.prog, A := fun w => Lib.TabIs Tryd.prog w "internal/strconv.uint64pow10" .u64 Lib.pow10Tab, glob := fun _ => .any, hglob := fun _ _ _ _ _ _ => .any _, mixed := by kernel_rfl }
@[go_sem] theorem E_P : E.P = Tryd.prog := rfl
@[go_sem] theorem sz0 : szOf Tryd.prog 0 = some 1 := by kernel_rfl
@[go_sem] theorem ag0 : aggOf Tryd.prog 0 = some false := by kernel_rfl
@[go_sem] theorem es0 : elemS Tryd.prog 0 = none := by kernel_rfl
@[go_sem] theorem ha0 : hasT Tryd.prog 0 = true := by kernel_rfl
@[go_sem] theorem ic0 : isIfc Tryd.prog 0 = false := by kernel_rfl
@[go_sem] theorem by0 : bytesOf Tryd.prog 0 = some 0 := by kernel_rfl
@[go_sem] theorem sz1 : szOf Tryd.prog 1 = some 1 := by kernel_rfl
@[go_sem] theorem ag1 : aggOf Tryd.prog 1 = some false := by kernel_rfl
@[go_sem] theorem es1 : elemS Tryd.prog 1 = none := by kernel_rfl
@[go_sem] theorem ha1 : hasT Tryd.prog 1 = true := by kernel_rfl
@[go_sem] theorem ic1 : isIfc Tryd.prog 1 = false := by kernel_rfl
@[go_sem] theorem by1 : bytesOf Tryd.prog 1 = some 8 := by kernel_rfl
@[go_sem] theorem ze1 : zeroOf Tryd.prog 1 = some .nilFunc := by kernel_rfl
@[go_sem] theorem sz2 : szOf Tryd.prog 2 = some 1 := by kernel_rfl
@[go_sem] theorem ag2 : aggOf Tryd.prog 2 = some false := by kernel_rfl
@[go_sem] theorem es2 : elemS Tryd.prog 2 = none := by kernel_rfl
@[go_sem] theorem ha2 : hasT Tryd.prog 2 = true := by kernel_rfl
@[go_sem] theorem ic2 : isIfc Tryd.prog 2 = false := by kernel_rfl
@[go_sem] theorem io2 : intOfT Tryd.prog 2 = some .i64 := by kernel_rfl
@[go_sem] theorem by2 : bytesOf Tryd.prog 2 = some 8 := by kernel_rfl
@[go_sem] theorem ze2 : zeroOf Tryd.prog 2 = some (.int .i64 0) := by kernel_rfl
@[go_sem] theorem sz3 : szOf Tryd.prog 3 = some 1 := by kernel_rfl
@[go_sem] theorem ag3 : aggOf Tryd.prog 3 = some false := by kernel_rfl
@[go_sem] theorem es3 : elemS Tryd.prog 3 = none := by kernel_rfl
@[go_sem] theorem ha3 : hasT Tryd.prog 3 = true := by kernel_rfl
@[go_sem] theorem ic3 : isIfc Tryd.prog 3 = false := by kernel_rfl
@[go_sem] theorem io3 : intOfT Tryd.prog 3 = some .i64 := by kernel_rfl
@[go_sem] theorem by3 : bytesOf Tryd.prog 3 = some 8 := by kernel_rfl
@[go_sem] theorem ze3 : zeroOf Tryd.prog 3 = some (.int .i64 0) := by kernel_rfl
@[go_sem] theorem sz4 : szOf Tryd.prog 4 = some 1 := by kernel_rfl
@[go_sem] theorem ag4 : aggOf Tryd.prog 4 = some false := by kernel_rfl
@[go_sem] theorem es4 : elemS Tryd.prog 4 = none := by kernel_rfl
@[go_sem] theorem ha4 : hasT Tryd.prog 4 = true := by kernel_rfl
@[go_sem] theorem ic4 : isIfc Tryd.prog 4 = false := by kernel_rfl
@[go_sem] theorem by4 : bytesOf Tryd.prog 4 = some 1 := by kernel_rfl
@[go_sem] theorem ib4 : isBoolT Tryd.prog 4 = true := by kernel_rfl
@[go_sem] theorem ze4 : zeroOf Tryd.prog 4 = some (.bool false) := by kernel_rfl
@[go_sem] theorem sz5 : szOf Tryd.prog 5 = some 1 := by kernel_rfl
@[go_sem] theorem ag5 : aggOf Tryd.prog 5 = some false := by kernel_rfl
@[go_sem] theorem es5 : elemS Tryd.prog 5 = none := by kernel_rfl
@[go_sem] theorem ha5 : hasT Tryd.prog 5 = true := by kernel_rfl
@[go_sem] theorem ic5 : isIfc Tryd.prog 5 = false := by kernel_rfl
@[go_sem] theorem io5 : intOfT Tryd.prog 5 = some .u8 := by kernel_rfl
@[go_sem] theorem by5 : bytesOf Tryd.prog 5 = some 1 := by kernel_rfl
@[go_sem] theorem ze5 : zeroOf Tryd.prog 5 = some (.int .u8 0) := by kernel_rfl
@[go_sem] theorem sz6 : szOf Tryd.prog 6 = some 1 := by kernel_rfl
@[go_sem] theorem ag6 : aggOf Tryd.prog 6 = some false := by kernel_rfl
@[go_sem] theorem es6 : elemS Tryd.prog 6 = none := by kernel_rfl
@[go_sem] theorem ha6 : hasT Tryd.prog 6 = true := by kernel_rfl
@[go_sem] theorem ic6 : isIfc Tryd.prog 6 = false := by kernel_rfl
@[go_sem] theorem io6 : intOfT Tryd.prog 6 = some .u8 := by kernel_rfl
@[go_sem] theorem by6 : bytesOf Tryd.prog 6 = some 1 := by kernel_rfl
@[go_sem] theorem ze6 : zeroOf Tryd.prog 6 = some (.int .u8 0) := by kernel_rfl
@[go_sem] theorem sz7 : szOf Tryd.prog 7 = some 4 := by kernel_rfl
@[go_sem] theorem ag7 : aggOf Tryd.prog 7 = some true := by kernel_rfl
@[go_sem] theorem fl7_0 : fldOf Tryd.prog 7 0 = some (0, 2) := by kernel_rfl
@[go_sem] theorem fl7_1 : fldOf Tryd.prog 7 1 = some (1, 3) := by kernel_rfl
@[go_sem] theorem fl7_2 : fldOf Tryd.prog 7 2 = some (2, 4) := by kernel_rfl
@[go_sem] theorem fl7_3 : fldOf Tryd.prog 7 3 = some (3, 6) := by kernel_rfl
@[go_sem] theorem es7 : elemS Tryd.prog 7 = none := by kernel_rfl
@[go_sem] theorem ha7 : hasT Tryd.prog 7 = true := by kernel_rfl
@[go_sem] theorem ic7 : isIfc Tryd.prog 7 = false := by kernel_rfl
@[go_sem] theorem pl7 : placesOf Tryd.prog 7 = some [(0, 1), (1, 1), (2, 1), (3, 1)] := by kernel_rfl
@[go_sem] theorem by7 : bytesOf Tryd.prog 7 = some 24 := by kernel_rfl
@[go_sem] theorem ze7 : zeroOf Tryd.prog 7 = some (.agg #[(.int .i64 0), (.int .i64 0), (.bool false), (.int .u8 0)]) := by kernel_rfl
@[go_sem] theorem sz8 : szOf Tryd.prog 8 = some 4 := by kernel_rfl
@[go_sem] theorem ag8 : aggOf Tryd.prog 8 = some true := by kernel_rfl
@[go_sem] theorem fl8_0 : fldOf Tryd.prog 8 0 = some (0, 2) := by kernel_rfl
@[go_sem] theorem fl8_1 : fldOf Tryd.prog 8 1 = some (1, 3) := by kernel_rfl
@[go_sem] theorem fl8_2 : fldOf Tryd.prog 8 2 = some (2, 4) := by kernel_rfl
@[go_sem] theorem fl8_3 : fldOf Tryd.prog 8 3 = some (3, 6) := by kernel_rfl
@[go_sem] theorem es8 : elemS Tryd.prog 8 = none := by kernel_rfl
@[go_sem] theorem ha8 : hasT Tryd.prog 8 = true := by kernel_rfl
@[go_sem] theorem ic8 : isIfc Tryd.prog 8 = false := by kernel_rfl
@[go_sem] theorem pl8 : placesOf Tryd.prog 8 = some [(0, 1), (1, 1), (2, 1), (3, 1)] := by kernel_rfl
@[go_sem] theorem by8 : bytesOf Tryd.prog 8 = some 24 := by kernel_rfl
@[go_sem] theorem ze8 : zeroOf Tryd.prog 8 = some (.agg #[(.int .i64 0), (.int .i64 0), (.bool false), (.int .u8 0)]) := by kernel_rfl
@[go_sem] theorem sz9 : szOf Tryd.prog 9 = some 1 := by kernel_rfl
@[go_sem] theorem ag9 : aggOf Tryd.prog 9 = some false := by kernel_rfl
@[go_sem] theorem es9 : elemS Tryd.prog 9 = none := by kernel_rfl
@[go_sem] theorem ha9 : hasT Tryd.prog 9 = true := by kernel_rfl
@[go_sem] theorem st9 : isStr Tryd.prog 9 = true := by kernel_rfl
@[go_sem] theorem ic9 : isIfc Tryd.prog 9 = false := by kernel_rfl
@[go_sem] theorem by9 : bytesOf Tryd.prog 9 = some 16 := by kernel_rfl
@[go_sem] theorem ze9 : zeroOf Tryd.prog 9 = some (.string ByteArray.empty) := by kernel_rfl
@[go_sem] theorem sz10 : szOf Tryd.prog 10 = some 1 := by kernel_rfl
@[go_sem] theorem ag10 : aggOf Tryd.prog 10 = some false := by kernel_rfl
@[go_sem] theorem es10 : elemS Tryd.prog 10 = none := by kernel_rfl
@[go_sem] theorem ha10 : hasT Tryd.prog 10 = true := by kernel_rfl
@[go_sem] theorem st10 : isStr Tryd.prog 10 = true := by kernel_rfl
@[go_sem] theorem ic10 : isIfc Tryd.prog 10 = false := by kernel_rfl
@[go_sem] theorem by10 : bytesOf Tryd.prog 10 = some 16 := by kernel_rfl
@[go_sem] theorem ze10 : zeroOf Tryd.prog 10 = some (.string ByteArray.empty) := by kernel_rfl
@[go_sem] theorem sz11 : szOf Tryd.prog 11 = some 1 := by kernel_rfl
@[go_sem] theorem ag11 : aggOf Tryd.prog 11 = some false := by kernel_rfl
@[go_sem] theorem es11 : elemS Tryd.prog 11 = none := by kernel_rfl
@[go_sem] theorem ha11 : hasT Tryd.prog 11 = true := by kernel_rfl
@[go_sem] theorem st11 : isStr Tryd.prog 11 = true := by kernel_rfl
@[go_sem] theorem ic11 : isIfc Tryd.prog 11 = false := by kernel_rfl
@[go_sem] theorem by11 : bytesOf Tryd.prog 11 = some 16 := by kernel_rfl
@[go_sem] theorem ze11 : zeroOf Tryd.prog 11 = some (.string ByteArray.empty) := by kernel_rfl
@[go_sem] theorem sz12 : szOf Tryd.prog 12 = some 1 := by kernel_rfl
@[go_sem] theorem ag12 : aggOf Tryd.prog 12 = some false := by kernel_rfl
@[go_sem] theorem es12 : elemS Tryd.prog 12 = none := by kernel_rfl
@[go_sem] theorem ha12 : hasT Tryd.prog 12 = true := by kernel_rfl
@[go_sem] theorem ic12 : isIfc Tryd.prog 12 = false := by kernel_rfl
@[go_sem] theorem io12 : intOfT Tryd.prog 12 = some .u64 := by kernel_rfl
@[go_sem] theorem by12 : bytesOf Tryd.prog 12 = some 8 := by kernel_rfl
@[go_sem] theorem ze12 : zeroOf Tryd.prog 12 = some (.int .u64 0) := by kernel_rfl
@[go_sem] theorem sz13 : szOf Tryd.prog 13 = some 2 := by kernel_rfl
@[go_sem] theorem ag13 : aggOf Tryd.prog 13 = some true := by kernel_rfl
@[go_sem] theorem fl13_0 : fldOf Tryd.prog 13 0 = some (0, 9) := by kernel_rfl
@[go_sem] theorem fl13_1 : fldOf Tryd.prog 13 1 = some (1, 12) := by kernel_rfl
@[go_sem] theorem es13 : elemS Tryd.prog 13 = none := by kernel_rfl
@[go_sem] theorem ha13 : hasT Tryd.prog 13 = true := by kernel_rfl
@[go_sem] theorem ic13 : isIfc Tryd.prog 13 = false := by kernel_rfl
@[go_sem] theorem pl13 : placesOf Tryd.prog 13 = some [(0, 1), (1, 1)] := by kernel_rfl
@[go_sem] theorem by13 : bytesOf Tryd.prog 13 = some 24 := by kernel_rfl
@[go_sem] theorem ze13 : zeroOf Tryd.prog 13 = some (.agg #[(.string ByteArray.empty), (.int .u64 0)]) := by kernel_rfl
@[go_sem] theorem sz14 : szOf Tryd.prog 14 = some 2 := by kernel_rfl
@[go_sem] theorem ag14 : aggOf Tryd.prog 14 = some true := by kernel_rfl
@[go_sem] theorem fl14_0 : fldOf Tryd.prog 14 0 = some (0, 9) := by kernel_rfl
@[go_sem] theorem fl14_1 : fldOf Tryd.prog 14 1 = some (1, 12) := by kernel_rfl
@[go_sem] theorem es14 : elemS Tryd.prog 14 = none := by kernel_rfl
@[go_sem] theorem ha14 : hasT Tryd.prog 14 = true := by kernel_rfl
@[go_sem] theorem ic14 : isIfc Tryd.prog 14 = false := by kernel_rfl
@[go_sem] theorem pl14 : placesOf Tryd.prog 14 = some [(0, 1), (1, 1)] := by kernel_rfl
@[go_sem] theorem by14 : bytesOf Tryd.prog 14 = some 24 := by kernel_rfl
@[go_sem] theorem ze14 : zeroOf Tryd.prog 14 = some (.agg #[(.string ByteArray.empty), (.int .u64 0)]) := by kernel_rfl
@[go_sem] theorem sz15 : szOf Tryd.prog 15 = some 1 := by kernel_rfl
@[go_sem] theorem ag15 : aggOf Tryd.prog 15 = some false := by kernel_rfl
@[go_sem] theorem es15 : elemS Tryd.prog 15 = none := by kernel_rfl
@[go_sem] theorem ha15 : hasT Tryd.prog 15 = true := by kernel_rfl
@[go_sem] theorem ic15 : isIfc Tryd.prog 15 = false := by kernel_rfl
@[go_sem] theorem by15 : bytesOf Tryd.prog 15 = some 8 := by kernel_rfl
@[go_sem] theorem ip15 : isPtrT Tryd.prog 15 = true := by kernel_rfl
@[go_sem] theorem ze15 : zeroOf Tryd.prog 15 = some (.pointer none) := by kernel_rfl
@[go_sem] theorem sz16 : szOf Tryd.prog 16 = some 1 := by kernel_rfl
@[go_sem] theorem ag16 : aggOf Tryd.prog 16 = some false := by kernel_rfl
@[go_sem] theorem es16 : elemS Tryd.prog 16 = none := by kernel_rfl
@[go_sem] theorem ha16 : hasT Tryd.prog 16 = true := by kernel_rfl
@[go_sem] theorem ic16 : isIfc Tryd.prog 16 = false := by kernel_rfl
@[go_sem] theorem by16 : bytesOf Tryd.prog 16 = some 8 := by kernel_rfl
@[go_sem] theorem ip16 : isPtrT Tryd.prog 16 = true := by kernel_rfl
@[go_sem] theorem ze16 : zeroOf Tryd.prog 16 = some (.pointer none) := by kernel_rfl
@[go_sem] theorem sz17 : szOf Tryd.prog 17 = some 1 := by kernel_rfl
@[go_sem] theorem ag17 : aggOf Tryd.prog 17 = some false := by kernel_rfl
@[go_sem] theorem es17 : elemS Tryd.prog 17 = none := by kernel_rfl
@[go_sem] theorem ha17 : hasT Tryd.prog 17 = true := by kernel_rfl
@[go_sem] theorem ic17 : isIfc Tryd.prog 17 = false := by kernel_rfl
@[go_sem] theorem by17 : bytesOf Tryd.prog 17 = some 8 := by kernel_rfl
@[go_sem] theorem ip17 : isPtrT Tryd.prog 17 = true := by kernel_rfl
@[go_sem] theorem ze17 : zeroOf Tryd.prog 17 = some (.pointer none) := by kernel_rfl
@[go_sem] theorem sz18 : szOf Tryd.prog 18 = some 1 := by kernel_rfl
@[go_sem] theorem ag18 : aggOf Tryd.prog 18 = some true := by kernel_rfl
@[go_sem] theorem fl18_0 : fldOf Tryd.prog 18 0 = some (0, 17) := by kernel_rfl
@[go_sem] theorem es18 : elemS Tryd.prog 18 = none := by kernel_rfl
@[go_sem] theorem ha18 : hasT Tryd.prog 18 = true := by kernel_rfl
@[go_sem] theorem ic18 : isIfc Tryd.prog 18 = false := by kernel_rfl
@[go_sem] theorem pl18 : placesOf Tryd.prog 18 = some [(0, 1)] := by kernel_rfl
@[go_sem] theorem by18 : bytesOf Tryd.prog 18 = some 8 := by kernel_rfl
@[go_sem] theorem ze18 : zeroOf Tryd.prog 18 = some (.agg #[(.pointer none)]) := by kernel_rfl
@[go_sem] theorem sz19 : szOf Tryd.prog 19 = some 1 := by kernel_rfl
@[go_sem] theorem ag19 : aggOf Tryd.prog 19 = some true := by kernel_rfl
@[go_sem] theorem fl19_0 : fldOf Tryd.prog 19 0 = some (0, 17) := by kernel_rfl
@[go_sem] theorem es19 : elemS Tryd.prog 19 = none := by kernel_rfl
@[go_sem] theorem ha19 : hasT Tryd.prog 19 = true := by kernel_rfl
@[go_sem] theorem ic19 : isIfc Tryd.prog 19 = false := by kernel_rfl
@[go_sem] theorem pl19 : placesOf Tryd.prog 19 = some [(0, 1)] := by kernel_rfl
@[go_sem] theorem by19 : bytesOf Tryd.prog 19 = some 8 := by kernel_rfl
@[go_sem] theorem ze19 : zeroOf Tryd.prog 19 = some (.agg #[(.pointer none)]) := by kernel_rfl
@[go_sem] theorem sz20 : szOf Tryd.prog 20 = some 1 := by kernel_rfl
@[go_sem] theorem ag20 : aggOf Tryd.prog 20 = some false := by kernel_rfl
@[go_sem] theorem es20 : elemS Tryd.prog 20 = none := by kernel_rfl
@[go_sem] theorem ha20 : hasT Tryd.prog 20 = true := by kernel_rfl
@[go_sem] theorem ic20 : isIfc Tryd.prog 20 = true := by kernel_rfl
@[go_sem] theorem by20 : bytesOf Tryd.prog 20 = some 16 := by kernel_rfl
@[go_sem] theorem ze20 : zeroOf Tryd.prog 20 = some .nilIface := by kernel_rfl
@[go_sem] theorem sz21 : szOf Tryd.prog 21 = some 1 := by kernel_rfl
@[go_sem] theorem ag21 : aggOf Tryd.prog 21 = some false := by kernel_rfl
@[go_sem] theorem es21 : elemS Tryd.prog 21 = none := by kernel_rfl
@[go_sem] theorem ha21 : hasT Tryd.prog 21 = true := by kernel_rfl
@[go_sem] theorem ic21 : isIfc Tryd.prog 21 = false := by kernel_rfl
@[go_sem] theorem io21 : intOfT Tryd.prog 21 = some .i32 := by kernel_rfl
@[go_sem] theorem by21 : bytesOf Tryd.prog 21 = some 4 := by kernel_rfl
@[go_sem] theorem ze21 : zeroOf Tryd.prog 21 = some (.int .i32 0) := by kernel_rfl
@[go_sem] theorem sz22 : szOf Tryd.prog 22 = some 1 := by kernel_rfl
@[go_sem] theorem ag22 : aggOf Tryd.prog 22 = some false := by kernel_rfl
@[go_sem] theorem es22 : elemS Tryd.prog 22 = some 48 := by kernel_rfl
@[go_sem] theorem ha22 : hasT Tryd.prog 22 = true := by kernel_rfl
@[go_sem] theorem ic22 : isIfc Tryd.prog 22 = false := by kernel_rfl
@[go_sem] theorem by22 : bytesOf Tryd.prog 22 = some 24 := by kernel_rfl
@[go_sem] theorem ze22 : zeroOf Tryd.prog 22 = some (.slice none 0 0) := by kernel_rfl
@[go_sem] theorem sz23 : szOf Tryd.prog 23 = some 1 := by kernel_rfl
@[go_sem] theorem ag23 : aggOf Tryd.prog 23 = some false := by kernel_rfl
@[go_sem] theorem es23 : elemS Tryd.prog 23 = some 25 := by kernel_rfl
@[go_sem] theorem ha23 : hasT Tryd.prog 23 = true := by kernel_rfl
@[go_sem] theorem ic23 : isIfc Tryd.prog 23 = false := by kernel_rfl
@[go_sem] theorem by23 : bytesOf Tryd.prog 23 = some 24 := by kernel_rfl
@[go_sem] theorem ze23 : zeroOf Tryd.prog 23 = some (.slice none 0 0) := by kernel_rfl
@[go_sem] theorem sz24 : szOf Tryd.prog 24 = some 3 := by kernel_rfl
@[go_sem] theorem ag24 : aggOf Tryd.prog 24 = some true := by kernel_rfl
@[go_sem] theorem fl24_0 : fldOf Tryd.prog 24 0 = some (0, 9) := by kernel_rfl
@[go_sem] theorem fl24_1 : fldOf Tryd.prog 24 1 = some (1, 23) := by kernel_rfl
@[go_sem] theorem fl24_2 : fldOf Tryd.prog 24 2 = some (2, 3) := by kernel_rfl
@[go_sem] theorem es24 : elemS Tryd.prog 24 = none := by kernel_rfl
@[go_sem] theorem ha24 : hasT Tryd.prog 24 = true := by kernel_rfl
@[go_sem] theorem ic24 : isIfc Tryd.prog 24 = false := by kernel_rfl
@[go_sem] theorem pl24 : placesOf Tryd.prog 24 = some [(0, 1), (1, 1), (2, 1)] := by kernel_rfl
@[go_sem] theorem by24 : bytesOf Tryd.prog 24 = some 48 := by kernel_rfl
@[go_sem] theorem ze24 : zeroOf Tryd.prog 24 = some (.agg #[(.string ByteArray.empty), (.slice none 0 0), (.int .i64 0)]) := by kernel_rfl
@[go_sem] theorem sz25 : szOf Tryd.prog 25 = some 3 := by kernel_rfl
@[go_sem] theorem ag25 : aggOf Tryd.prog 25 = some true := by kernel_rfl
@[go_sem] theorem fl25_0 : fldOf Tryd.prog 25 0 = some (0, 9) := by kernel_rfl
@[go_sem] theorem fl25_1 : fldOf Tryd.prog 25 1 = some (1, 23) := by kernel_rfl
@[go_sem] theorem fl25_2 : fldOf Tryd.prog 25 2 = some (2, 3) := by kernel_rfl
@[go_sem] theorem es25 : elemS Tryd.prog 25 = none := by kernel_rfl
@[go_sem] theorem ha25 : hasT Tryd.prog 25 = true := by kernel_rfl
@[go_sem] theorem ic25 : isIfc Tryd.prog 25 = false := by kernel_rfl
@[go_sem] theorem pl25 : placesOf Tryd.prog 25 = some [(0, 1), (1, 1), (2, 1)] := by kernel_rfl
@[go_sem] theorem by25 : bytesOf Tryd.prog 25 = some 48 := by kernel_rfl
@[go_sem] theorem ze25 : zeroOf Tryd.prog 25 = some (.agg #[(.string ByteArray.empty), (.slice none 0 0), (.int .i64 0)]) := by kernel_rfl
@[go_sem] theorem sz26 : szOf Tryd.prog 26 = some 1 := by kernel_rfl
@[go_sem] theorem ag26 : aggOf Tryd.prog 26 = some false := by kernel_rfl
@[go_sem] theorem es26 : elemS Tryd.prog 26 = some 28 := by kernel_rfl
@[go_sem] theorem ha26 : hasT Tryd.prog 26 = true := by kernel_rfl
@[go_sem] theorem ic26 : isIfc Tryd.prog 26 = false := by kernel_rfl
@[go_sem] theorem by26 : bytesOf Tryd.prog 26 = some 24 := by kernel_rfl
@[go_sem] theorem ze26 : zeroOf Tryd.prog 26 = some (.slice none 0 0) := by kernel_rfl
@[go_sem] theorem sz27 : szOf Tryd.prog 27 = some 8 := by kernel_rfl
@[go_sem] theorem ag27 : aggOf Tryd.prog 27 = some true := by kernel_rfl
@[go_sem] theorem fl27_0 : fldOf Tryd.prog 27 0 = some (0, 3) := by kernel_rfl
@[go_sem] theorem fl27_1 : fldOf Tryd.prog 27 1 = some (1, 9) := by kernel_rfl
@[go_sem] theorem fl27_2 : fldOf Tryd.prog 27 2 = some (2, 25) := by kernel_rfl
@[go_sem] theorem fl27_3 : fldOf Tryd.prog 27 3 = some (5, 23) := by kernel_rfl
@[go_sem] theorem fl27_4 : fldOf Tryd.prog 27 4 = some (6, 26) := by kernel_rfl
@[go_sem] theorem fl27_5 : fldOf Tryd.prog 27 5 = some (7, 3) := by kernel_rfl
@[go_sem] theorem es27 : elemS Tryd.prog 27 = none := by kernel_rfl
@[go_sem] theorem ha27 : hasT Tryd.prog 27 = true := by kernel_rfl
@[go_sem] theorem ic27 : isIfc Tryd.prog 27 = false := by kernel_rfl
@[go_sem] theorem pl27 : placesOf Tryd.prog 27 = some [(0, 1), (1, 1), (2, 3), (5, 1), (6, 1), (7, 1)] := by kernel_rfl
@[go_sem] theorem by27 : bytesOf Tryd.prog 27 = some 128 := by kernel_rfl
@[go_sem] theorem ze27 : zeroOf Tryd.prog 27 = some (.agg #[(.int .i64 0), (.string ByteArray.empty), (.string ByteArray.empty), (.slice none 0 0), (.int .i64 0), (.slice none 0 0), (.slice none 0 0), (.int .i64 0)]) := by kernel_rfl
@[go_sem] theorem sz28 : szOf Tryd.prog 28 = some 8 := by kernel_rfl
@[go_sem] theorem ag28 : aggOf Tryd.prog 28 = some true := by kernel_rfl
@[go_sem] theorem fl28_0 : fldOf Tryd.prog 28 0 = some (0, 3) := by kernel_rfl
@[go_sem] theorem fl28_1 : fldOf Tryd.prog 28 1 = some (1, 9) := by kernel_rfl
@[go_sem] theorem fl28_2 : fldOf Tryd.prog 28 2 = some (2, 25) := by kernel_rfl
@[go_sem] theorem fl28_3 : fldOf Tryd.prog 28 3 = some (5, 23) := by kernel_rfl
@[go_sem] theorem fl28_4 : fldOf Tryd.prog 28 4 = some (6, 26) := by kernel_rfl
@[go_sem] theorem fl28_5 : fldOf Tryd.prog 28 5 = some (7, 3) := by kernel_rfl
@[go_sem] theorem es28 : elemS Tryd.prog 28 = none := by kernel_rfl
@[go_sem] theorem ha28 : hasT Tryd.prog 28 = true := by kernel_rfl
@[go_sem] theorem ic28 : isIfc Tryd.prog 28 = false := by kernel_rfl
@[go_sem] theorem pl28 : placesOf Tryd.prog 28 = some [(0, 1), (1, 1), (2, 3), (5, 1), (6, 1), (7, 1)] := by kernel_rfl
@[go_sem] theorem by28 : bytesOf Tryd.prog 28 = some 128 := by kernel_rfl
@[go_sem] theorem ze28 : zeroOf Tryd.prog 28 = some (.agg #[(.int .i64 0), (.string ByteArray.empty), (.string ByteArray.empty), (.slice none 0 0), (.int .i64 0), (.slice none 0 0), (.slice none 0 0), (.int .i64 0)]) := by kernel_rfl
@[go_sem] theorem sz29 : szOf Tryd.prog 29 = some 9 := by kernel_rfl
@[go_sem] theorem ag29 : aggOf Tryd.prog 29 = some true := by kernel_rfl
@[go_sem] theorem fl29_0 : fldOf Tryd.prog 29 0 = some (0, 22) := by kernel_rfl
@[go_sem] theorem fl29_1 : fldOf Tryd.prog 29 1 = some (1, 28) := by kernel_rfl
@[go_sem] theorem es29 : elemS Tryd.prog 29 = none := by kernel_rfl
@[go_sem] theorem ha29 : hasT Tryd.prog 29 = true := by kernel_rfl
@[go_sem] theorem ic29 : isIfc Tryd.prog 29 = false := by kernel_rfl
@[go_sem] theorem pl29 : placesOf Tryd.prog 29 = some [(0, 1), (1, 8)] := by kernel_rfl
@[go_sem] theorem by29 : bytesOf Tryd.prog 29 = some 152 := by kernel_rfl
@[go_sem] theorem ze29 : zeroOf Tryd.prog 29 = some (.agg #[(.slice none 0 0), (.int .i64 0), (.string ByteArray.empty), (.string ByteArray.empty), (.slice none 0 0), (.int .i64 0), (.slice none 0 0), (.slice none 0 0), (.int .i64 0)]) := by kernel_rfl
@[go_sem] theorem sz30 : szOf Tryd.prog 30 = some 9 := by kernel_rfl
@[go_sem] theorem ag30 : aggOf Tryd.prog 30 = some true := by kernel_rfl
@[go_sem] theorem fl30_0 : fldOf Tryd.prog 30 0 = some (0, 22) := by kernel_rfl
@[go_sem] theorem fl30_1 : fldOf Tryd.prog 30 1 = some (1, 28) := by kernel_rfl
@[go_sem] theorem es30 : elemS Tryd.prog 30 = none := by kernel_rfl
@[go_sem] theorem ha30 : hasT Tryd.prog 30 = true := by kernel_rfl
@[go_sem] theorem ic30 : isIfc Tryd.prog 30 = false := by kernel_rfl
@[go_sem] theorem pl30 : placesOf Tryd.prog 30 = some [(0, 1), (1, 8)] := by kernel_rfl
@[go_sem] theorem by30 : bytesOf Tryd.prog 30 = some 152 := by kernel_rfl
@[go_sem] theorem ze30 : zeroOf Tryd.prog 30 = some (.agg #[(.slice none 0 0), (.int .i64 0), (.string ByteArray.empty), (.string ByteArray.empty), (.slice none 0 0), (.int .i64 0), (.slice none 0 0), (.slice none 0 0), (.int .i64 0)]) := by kernel_rfl
@[go_sem] theorem sz31 : szOf Tryd.prog 31 = some 1 := by kernel_rfl
@[go_sem] theorem ag31 : aggOf Tryd.prog 31 = some false := by kernel_rfl
@[go_sem] theorem es31 : elemS Tryd.prog 31 = some 50 := by kernel_rfl
@[go_sem] theorem ha31 : hasT Tryd.prog 31 = true := by kernel_rfl
@[go_sem] theorem ic31 : isIfc Tryd.prog 31 = false := by kernel_rfl
@[go_sem] theorem by31 : bytesOf Tryd.prog 31 = some 24 := by kernel_rfl
@[go_sem] theorem ze31 : zeroOf Tryd.prog 31 = some (.slice none 0 0) := by kernel_rfl
@[go_sem] theorem sz32 : szOf Tryd.prog 32 = some 1 := by kernel_rfl
@[go_sem] theorem ag32 : aggOf Tryd.prog 32 = some false := by kernel_rfl
@[go_sem] theorem es32 : elemS Tryd.prog 32 = none := by kernel_rfl
@[go_sem] theorem ha32 : hasT Tryd.prog 32 = true := by kernel_rfl
@[go_sem] theorem ic32 : isIfc Tryd.prog 32 = false := by kernel_rfl
@[go_sem] theorem by32 : bytesOf Tryd.prog 32 = some 8 := by kernel_rfl
@[go_sem] theorem ze32 : zeroOf Tryd.prog 32 = some .nilFunc := by kernel_rfl
@[go_sem] theorem sz33 : szOf Tryd.prog 33 = some 1 := by kernel_rfl
@[go_sem] theorem ag33 : aggOf Tryd.prog 33 = some false := by kernel_rfl
@[go_sem] theorem es33 : elemS Tryd.prog 33 = none := by kernel_rfl
@[go_sem] theorem ha33 : hasT Tryd.prog 33 = true := by kernel_rfl
@[go_sem] theorem ic33 : isIfc Tryd.prog 33 = false := by kernel_rfl
@[go_sem] theorem by33 : bytesOf Tryd.prog 33 = some 8 := by kernel_rfl
@[go_sem] theorem ze33 : zeroOf Tryd.prog 33 = some .nilFunc := by kernel_rfl
@[go_sem] theorem sz34 : szOf Tryd.prog 34 = some 1 := by kernel_rfl
@[go_sem] theorem ag34 : aggOf Tryd.prog 34 = some false := by kernel_rfl
@[go_sem] theorem es34 : elemS Tryd.prog 34 = none := by kernel_rfl
@[go_sem] theorem ha34 : hasT Tryd.prog 34 = true := by kernel_rfl
@[go_sem] theorem ic34 : isIfc Tryd.prog 34 = false := by kernel_rfl
@[go_sem] theorem by34 : bytesOf Tryd.prog 34 = some 8 := by kernel_rfl
@[go_sem] theorem ze34 : zeroOf Tryd.prog 34 = some .nilFunc := by kernel_rfl
@[go_sem] theorem sz35 : szOf Tryd.prog 35 = some 1 := by kernel_rfl
@[go_sem] theorem ag35 : aggOf Tryd.prog 35 = some false := by kernel_rfl
@[go_sem] theorem es35 : elemS Tryd.prog 35 = none := by kernel_rfl
@[go_sem] theorem ha35 : hasT Tryd.prog 35 = true := by kernel_rfl
@[go_sem] theorem ic35 : isIfc Tryd.prog 35 = false := by kernel_rfl
@[go_sem] theorem by35 : bytesOf Tryd.prog 35 = some 8 := by kernel_rfl
@[go_sem] theorem ze35 : zeroOf Tryd.prog 35 = some .nilFunc := by kernel_rfl
@[go_sem] theorem sz36 : szOf Tryd.prog 36 = some 1 := by kernel_rfl
@[go_sem] theorem ag36 : aggOf Tryd.prog 36 = some false := by kernel_rfl
@[go_sem] theorem es36 : elemS Tryd.prog 36 = some 42 := by kernel_rfl
@[go_sem] theorem ha36 : hasT Tryd.prog 36 = true := by kernel_rfl
@[go_sem] theorem ic36 : isIfc Tryd.prog 36 = false := by kernel_rfl
@[go_sem] theorem by36 : bytesOf Tryd.prog 36 = some 24 := by kernel_rfl
@[go_sem] theorem ze36 : zeroOf Tryd.prog 36 = some (.slice none 0 0) := by kernel_rfl
@[go_sem] theorem sz37 : szOf Tryd.prog 37 = some 1 := by kernel_rfl
@[go_sem] theorem ag37 : aggOf Tryd.prog 37 = some false := by kernel_rfl
@[go_sem] theorem es37 : elemS Tryd.prog 37 = none := by kernel_rfl
@[go_sem] theorem ha37 : hasT Tryd.prog 37 = true := by kernel_rfl
@[go_sem] theorem ic37 : isIfc Tryd.prog 37 = false := by kernel_rfl
@[go_sem] theorem by37 : bytesOf Tryd.prog 37 = some 8 := by kernel_rfl
@[go_sem] theorem ze37 : zeroOf Tryd.prog 37 = some .nilFunc := by kernel_rfl
@[go_sem] theorem sz38 : szOf Tryd.prog 38 = some 1 := by kernel_rfl
@[go_sem] theorem ag38 : aggOf Tryd.prog 38 = some false := by kernel_rfl
@[go_sem] theorem es38 : elemS Tryd.prog 38 = none := by kernel_rfl
@[go_sem] theorem ha38 : hasT Tryd.prog 38 = true := by kernel_rfl
@[go_sem] theorem ic38 : isIfc Tryd.prog 38 = false := by kernel_rfl
@[go_sem] theorem by38 : bytesOf Tryd.prog 38 = some 8 := by kernel_rfl
@[go_sem] theorem ip38 : isPtrT Tryd.prog 38 = true := by kernel_rfl
@[go_sem] theorem ze38 : zeroOf Tryd.prog 38 = some (.pointer none) := by kernel_rfl
@[go_sem] theorem sz39 : szOf Tryd.prog 39 = some 1 := by kernel_rfl
@[go_sem] theorem ag39 : aggOf Tryd.prog 39 = some false := by kernel_rfl
@[go_sem] theorem es39 : elemS Tryd.prog 39 = none := by kernel_rfl
@[go_sem] theorem ha39 : hasT Tryd.prog 39 = true := by kernel_rfl
@[go_sem] theorem ic39 : isIfc Tryd.prog 39 = false := by kernel_rfl
@[go_sem] theorem by39 : bytesOf Tryd.prog 39 = some 8 := by kernel_rfl
@[go_sem] theorem ze39 : zeroOf Tryd.prog 39 = some .nilFunc := by kernel_rfl
@[go_sem] theorem sz40 : szOf Tryd.prog 40 = some 1 := by kernel_rfl
@[go_sem] theorem ag40 : aggOf Tryd.prog 40 = some false := by kernel_rfl
@[go_sem] theorem es40 : elemS Tryd.prog 40 = some 94 := by kernel_rfl
@[go_sem] theorem ha40 : hasT Tryd.prog 40 = true := by kernel_rfl
@[go_sem] theorem ic40 : isIfc Tryd.prog 40 = false := by kernel_rfl
@[go_sem] theorem by40 : bytesOf Tryd.prog 40 = some 24 := by kernel_rfl
@[go_sem] theorem ze40 : zeroOf Tryd.prog 40 = some (.slice none 0 0) := by kernel_rfl
@[go_sem] theorem sz41 : szOf Tryd.prog 41 = some 7 := by kernel_rfl
@[go_sem] theorem ag41 : aggOf Tryd.prog 41 = some true := by kernel_rfl
@[go_sem] theorem fl41_0 : fldOf Tryd.prog 41 0 = some (0, 9) := by kernel_rfl
@[go_sem] theorem fl41_1 : fldOf Tryd.prog 41 1 = some (1, 31) := by kernel_rfl
@[go_sem] theorem fl41_2 : fldOf Tryd.prog 41 2 = some (2, 40) := by kernel_rfl
@[go_sem] theorem fl41_3 : fldOf Tryd.prog 41 3 = some (3, 25) := by kernel_rfl
@[go_sem] theorem fl41_4 : fldOf Tryd.prog 41 4 = some (6, 3) := by kernel_rfl
@[go_sem] theorem es41 : elemS Tryd.prog 41 = none := by kernel_rfl
@[go_sem] theorem ha41 : hasT Tryd.prog 41 = true := by kernel_rfl
@[go_sem] theorem ic41 : isIfc Tryd.prog 41 = false := by kernel_rfl
@[go_sem] theorem pl41 : placesOf Tryd.prog 41 = some [(0, 1), (1, 1), (2, 1), (3, 3), (6, 1)] := by kernel_rfl
@[go_sem] theorem by41 : bytesOf Tryd.prog 41 = some 120 := by kernel_rfl
@[go_sem] theorem ze41 : zeroOf Tryd.prog 41 = some (.agg #[(.string ByteArray.empty), (.slice none 0 0), (.slice none 0 0), (.string ByteArray.empty), (.slice none 0 0), (.int .i64 0), (.int .i64 0)]) := by kernel_rfl
@[go_sem] theorem sz42 : szOf Tryd.prog 42 = some 7 := by kernel_rfl
@[go_sem] theorem ag42 : aggOf Tryd.prog 42 = some true := by kernel_rfl
@[go_sem] theorem fl42_0 : fldOf Tryd.prog 42 0 = some (0, 9) := by kernel_rfl
@[go_sem] theorem fl42_1 : fldOf Tryd.prog 42 1 = some (1, 31) := by kernel_rfl
@[go_sem] theorem fl42_2 : fldOf Tryd.prog 42 2 = some (2, 40) := by kernel_rfl
@[go_sem] theorem fl42_3 : fldOf Tryd.prog 42 3 = some (3, 25) := by kernel_rfl
@[go_sem] theorem fl42_4 : fldOf Tryd.prog 42 4 = some (6, 3) := by kernel_rfl
@[go_sem] theorem es42 : elemS Tryd.prog 42 = none := by kernel_rfl
@[go_sem] theorem ha42 : hasT Tryd.prog 42 = true := by kernel_rfl
@[go_sem] theorem ic42 : isIfc Tryd.prog 42 = false := by kernel_rfl
@[go_sem] theorem pl42 : placesOf Tryd.prog 42 = some [(0, 1), (1, 1), (2, 1), (3, 3), (6, 1)] := by kernel_rfl
@[go_sem] theorem by42 : bytesOf Tryd.prog 42 = some 120 := by kernel_rfl
@[go_sem] theorem ze42 : zeroOf Tryd.prog 42 = some (.agg #[(.string ByteArray.empty), (.slice none 0 0), (.slice none 0 0), (.string ByteArray.empty), (.slice none 0 0), (.int .i64 0), (.int .i64 0)]) := by kernel_rfl
@[go_sem] theorem sz43 : szOf Tryd.prog 43 = some 1 := by kernel_rfl
@[go_sem] theorem ag43 : aggOf Tryd.prog 43 = some false := by kernel_rfl
@[go_sem] theorem es43 : elemS Tryd.prog 43 = none := by kernel_rfl
@[go_sem] theorem ha43 : hasT Tryd.prog 43 = true := by kernel_rfl
@[go_sem] theorem ic43 : isIfc Tryd.prog 43 = false := by kernel_rfl
@[go_sem] theorem by43 : bytesOf Tryd.prog 43 = some 8 := by kernel_rfl
@[go_sem] theorem ze43 : zeroOf Tryd.prog 43 = some .nilFunc := by kernel_rfl
@[go_sem] theorem sz44 : szOf Tryd.prog 44 = some 1 := by kernel_rfl
@[go_sem] theorem ag44 : aggOf Tryd.prog 44 = some false := by kernel_rfl
@[go_sem] theorem es44 : elemS Tryd.prog 44 = some 9 := by kernel_rfl
@[go_sem] theorem ha44 : hasT Tryd.prog 44 = true := by kernel_rfl
@[go_sem] theorem ic44 : isIfc Tryd.prog 44 = false := by kernel_rfl
@[go_sem] theorem by44 : bytesOf Tryd.prog 44 = some 24 := by kernel_rfl
@[go_sem] theorem ze44 : zeroOf Tryd.prog 44 = some (.slice none 0 0) := by kernel_rfl
@[go_sem] theorem sz45 : szOf Tryd.prog 45 = some 1 := by kernel_rfl
@[go_sem] theorem ag45 : aggOf Tryd.prog 45 = some false := by kernel_rfl
@[go_sem] theorem es45 : elemS Tryd.prog 45 = none := by kernel_rfl
@[go_sem] theorem ha45 : hasT Tryd.prog 45 = true := by kernel_rfl
@[go_sem] theorem ic45 : isIfc Tryd.prog 45 = false := by kernel_rfl
@[go_sem] theorem by45 : bytesOf Tryd.prog 45 = some 8 := by kernel_rfl
@[go_sem] theorem ze45 : zeroOf Tryd.prog 45 = some .nilFunc := by kernel_rfl
@[go_sem] theorem sz46 : szOf Tryd.prog 46 = some 1 := by kernel_rfl
@[go_sem] theorem ag46 : aggOf Tryd.prog 46 = some false := by kernel_rfl
@[go_sem] theorem es46 : elemS Tryd.prog 46 = none := by kernel_rfl
@[go_sem] theorem ha46 : hasT Tryd.prog 46 = true := by kernel_rfl
@[go_sem] theorem ic46 : isIfc Tryd.prog 46 = false := by kernel_rfl
@[go_sem] theorem by46 : bytesOf Tryd.prog 46 = some 8 := by kernel_rfl
@[go_sem] theorem ze46 : zeroOf Tryd.prog 46 = some .nilFunc := by kernel_rfl
@[go_sem] theorem sz47 : szOf Tryd.prog 47 = some 23 := by kernel_rfl
@[go_sem] theorem ag47 : aggOf Tryd.prog 47 = some true := by kernel_rfl
@[go_sem] theorem fl47_0 : fldOf Tryd.prog 47 0 = some (0, 3) := by kernel_rfl
@[go_sem] theorem fl47_1 : fldOf Tryd.prog 47 1 = some (1, 9) := by kernel_rfl
@[go_sem] theorem fl47_2 : fldOf Tryd.prog 47 2 = some (2, 31) := by kernel_rfl
@[go_sem] theorem fl47_3 : fldOf Tryd.prog 47 3 = some (3, 40) := by kernel_rfl
@[go_sem] theorem fl47_4 : fldOf Tryd.prog 47 4 = some (4, 36) := by kernel_rfl
@[go_sem] theorem fl47_5 : fldOf Tryd.prog 47 5 = some (5, 9) := by kernel_rfl
@[go_sem] theorem fl47_6 : fldOf Tryd.prog 47 6 = some (6, 44) := by kernel_rfl
@[go_sem] theorem fl47_7 : fldOf Tryd.prog 47 7 = some (7, 42) := by kernel_rfl
@[go_sem] theorem fl47_8 : fldOf Tryd.prog 47 8 = some (14, 28) := by kernel_rfl
@[go_sem] theorem fl47_9 : fldOf Tryd.prog 47 9 = some (22, 3) := by kernel_rfl
@[go_sem] theorem es47 : elemS Tryd.prog 47 = none := by kernel_rfl
@[go_sem] theorem ha47 : hasT Tryd.prog 47 = true := by kernel_rfl
@[go_sem] theorem ic47 : isIfc Tryd.prog 47 = false := by kernel_rfl
@[go_sem] theorem pl47 : placesOf Tryd.prog 47 = some [(0, 1), (1, 1), (2, 1), (3, 1), (4, 1), (5, 1), (6, 1), (7, 7), (14, 8), (22, 1)] := by kernel_rfl
@[go_sem] theorem by47 : bytesOf Tryd.prog 47 = some 392 := by kernel_rfl
@[go_sem] theorem ze47 : zeroOf Tryd.prog 47 = some (.agg #[(.int .i64 0), (.string ByteArray.empty), (.slice none 0 0), (.slice none 0 0), (.slice none 0 0), (.string ByteArray.empty), (.slice none 0 0), (.string ByteArray.empty), (.slice none 0 0), (.slice none 0 0), (.string ByteArray.empty), (.slice none 0 0), (.int .i64 0), (.int .i64 0), (.int .i64 0), (.string ByteArray.empty), (.string ByteArray.empty), (.slice none 0 0), (.int .i64 0), (.slice none 0 0), (.slice none 0 0), (.int .i64 0), (.int .i64 0)]) := by kernel_rfl
@[go_sem] theorem sz48 : szOf Tryd.prog 48 = some 23 := by kernel_rfl
@[go_sem] theorem ag48 : aggOf Tryd.prog 48 = some true := by kernel_rfl
@[go_sem] theorem fl48_0 : fldOf Tryd.prog 48 0 = some (0, 3) := by kernel_rfl
@[go_sem] theorem fl48_1 : fldOf Tryd.prog 48 1 = some (1, 9) := by kernel_rfl
@[go_sem] theorem fl48_2 : fldOf Tryd.prog 48 2 = some (2, 31) := by kernel_rfl
@[go_sem] theorem fl48_3 : fldOf Tryd.prog 48 3 = some (3, 40) := by kernel_rfl
@[go_sem] theorem fl48_4 : fldOf Tryd.prog 48 4 = some (4, 36) := by kernel_rfl
@[go_sem] theorem fl48_5 : fldOf Tryd.prog 48 5 = some (5, 9) := by kernel_rfl
@[go_sem] theorem fl48_6 : fldOf Tryd.prog 48 6 = some (6, 44) := by kernel_rfl
@[go_sem] theorem fl48_7 : fldOf Tryd.prog 48 7 = some (7, 42) := by kernel_rfl
@[go_sem] theorem fl48_8 : fldOf Tryd.prog 48 8 = some (14, 28) := by kernel_rfl
@[go_sem] theorem fl48_9 : fldOf Tryd.prog 48 9 = some (22, 3) := by kernel_rfl
@[go_sem] theorem es48 : elemS Tryd.prog 48 = none := by kernel_rfl
@[go_sem] theorem ha48 : hasT Tryd.prog 48 = true := by kernel_rfl
@[go_sem] theorem ic48 : isIfc Tryd.prog 48 = false := by kernel_rfl
@[go_sem] theorem pl48 : placesOf Tryd.prog 48 = some [(0, 1), (1, 1), (2, 1), (3, 1), (4, 1), (5, 1), (6, 1), (7, 7), (14, 8), (22, 1)] := by kernel_rfl
@[go_sem] theorem by48 : bytesOf Tryd.prog 48 = some 392 := by kernel_rfl
@[go_sem] theorem ze48 : zeroOf Tryd.prog 48 = some (.agg #[(.int .i64 0), (.string ByteArray.empty), (.slice none 0 0), (.slice none 0 0), (.slice none 0 0), (.string ByteArray.empty), (.slice none 0 0), (.string ByteArray.empty), (.slice none 0 0), (.slice none 0 0), (.string ByteArray.empty), (.slice none 0 0), (.int .i64 0), (.int .i64 0), (.int .i64 0), (.string ByteArray.empty), (.string ByteArray.empty), (.slice none 0 0), (.int .i64 0), (.slice none 0 0), (.slice none 0 0), (.int .i64 0), (.int .i64 0)]) := by kernel_rfl
@[go_sem] theorem sz49 : szOf Tryd.prog 49 = some 5 := by kernel_rfl
@[go_sem] theorem ag49 : aggOf Tryd.prog 49 = some true := by kernel_rfl
@[go_sem] theorem fl49_0 : fldOf Tryd.prog 49 0 = some (0, 9) := by kernel_rfl
@[go_sem] theorem fl49_1 : fldOf Tryd.prog 49 1 = some (1, 25) := by kernel_rfl
@[go_sem] theorem fl49_2 : fldOf Tryd.prog 49 2 = some (4, 3) := by kernel_rfl
@[go_sem] theorem es49 : elemS Tryd.prog 49 = none := by kernel_rfl
@[go_sem] theorem ha49 : hasT Tryd.prog 49 = true := by kernel_rfl
@[go_sem] theorem ic49 : isIfc Tryd.prog 49 = false := by kernel_rfl
@[go_sem] theorem pl49 : placesOf Tryd.prog 49 = some [(0, 1), (1, 3), (4, 1)] := by kernel_rfl
@[go_sem] theorem by49 : bytesOf Tryd.prog 49 = some 72 := by kernel_rfl
@[go_sem] theorem ze49 : zeroOf Tryd.prog 49 = some (.agg #[(.string ByteArray.empty), (.string ByteArray.empty), (.slice none 0 0), (.int .i64 0), (.int .i64 0)]) := by kernel_rfl
@[go_sem] theorem sz50 : szOf Tryd.prog 50 = some 5 := by kernel_rfl
@[go_sem] theorem ag50 : aggOf Tryd.prog 50 = some true := by kernel_rfl
@[go_sem] theorem fl50_0 : fldOf Tryd.prog 50 0 = some (0, 9) := by kernel_rfl
@[go_sem] theorem fl50_1 : fldOf Tryd.prog 50 1 = some (1, 25) := by kernel_rfl
@[go_sem] theorem fl50_2 : fldOf Tryd.prog 50 2 = some (4, 3) := by kernel_rfl
@[go_sem] theorem es50 : elemS Tryd.prog 50 = none := by kernel_rfl
@[go_sem] theorem ha50 : hasT Tryd.prog 50 = true := by kernel_rfl
@[go_sem] theorem ic50 : isIfc Tryd.prog 50 = false := by kernel_rfl
@[go_sem] theorem pl50 : placesOf Tryd.prog 50 = some [(0, 1), (1, 3), (4, 1)] := by kernel_rfl
@[go_sem] theorem by50 : bytesOf Tryd.prog 50 = some 72 := by kernel_rfl
@[go_sem] theorem ze50 : zeroOf Tryd.prog 50 = some (.agg #[(.string ByteArray.empty), (.string ByteArray.empty), (.slice none 0 0), (.int .i64 0), (.int .i64 0)]) := by kernel_rfl
@[go_sem] theorem sz51 : szOf Tryd.prog 51 = some 1 := by kernel_rfl
@[go_sem] theorem ag51 : aggOf Tryd.prog 51 = some false := by kernel_rfl
@[go_sem] theorem es51 : elemS Tryd.prog 51 = none := by kernel_rfl
@[go_sem] theorem ha51 : hasT Tryd.prog 51 = true := by kernel_rfl
@[go_sem] theorem ic51 : isIfc Tryd.prog 51 = false := by kernel_rfl
@[go_sem] theorem by51 : bytesOf Tryd.prog 51 = some 0 := by kernel_rfl
@[go_sem] theorem sz52 : szOf Tryd.prog 52 = some 1 := by kernel_rfl
@[go_sem] theorem ag52 : aggOf Tryd.prog 52 = some false := by kernel_rfl
@[go_sem] theorem es52 : elemS Tryd.prog 52 = none := by kernel_rfl
@[go_sem] theorem ha52 : hasT Tryd.prog 52 = true := by kernel_rfl
@[go_sem] theorem ic52 : isIfc Tryd.prog 52 = false := by kernel_rfl
@[go_sem] theorem by52 : bytesOf Tryd.prog 52 = some 8 := by kernel_rfl
@[go_sem] theorem ze52 : zeroOf Tryd.prog 52 = some .nilFunc := by kernel_rfl
@[go_sem] theorem sz53 : szOf Tryd.prog 53 = some 1 := by kernel_rfl
@[go_sem] theorem ag53 : aggOf Tryd.prog 53 = some false := by kernel_rfl
@[go_sem] theorem es53 : elemS Tryd.prog 53 = none := by kernel_rfl
@[go_sem] theorem ha53 : hasT Tryd.prog 53 = true := by kernel_rfl
@[go_sem] theorem ic53 : isIfc Tryd.prog 53 = false := by kernel_rfl
@[go_sem] theorem by53 : bytesOf Tryd.prog 53 = some 8 := by kernel_rfl
@[go_sem] theorem ze53 : zeroOf Tryd.prog 53 = some .nilFunc := by kernel_rfl
@[go_sem] theorem sz54 : szOf Tryd.prog 54 = some 1 := by kernel_rfl
@[go_sem] theorem ag54 : aggOf Tryd.prog 54 = some false := by kernel_rfl
@[go_sem] theorem es54 : elemS Tryd.prog 54 = none := by kernel_rfl
@[go_sem] theorem ha54 : hasT Tryd.prog 54 = true := by kernel_rfl
@[go_sem] theorem ic54 : isIfc Tryd.prog 54 = false := by kernel_rfl
@[go_sem] theorem by54 : bytesOf Tryd.prog 54 = some 8 := by kernel_rfl
@[go_sem] theorem ze54 : zeroOf Tryd.prog 54 = some .nilFunc := by kernel_rfl
@[go_sem] theorem sz55 : szOf Tryd.prog 55 = some 1 := by kernel_rfl
@[go_sem] theorem ag55 : aggOf Tryd.prog 55 = some false := by kernel_rfl
@[go_sem] theorem es55 : elemS Tryd.prog 55 = none := by kernel_rfl
@[go_sem] theorem ha55 : hasT Tryd.prog 55 = true := by kernel_rfl
@[go_sem] theorem ic55 : isIfc Tryd.prog 55 = false := by kernel_rfl
@[go_sem] theorem by55 : bytesOf Tryd.prog 55 = some 0 := by kernel_rfl
@[go_sem] theorem sz56 : szOf Tryd.prog 56 = some 1 := by kernel_rfl
@[go_sem] theorem ag56 : aggOf Tryd.prog 56 = some false := by kernel_rfl
@[go_sem] theorem es56 : elemS Tryd.prog 56 = none := by kernel_rfl
@[go_sem] theorem ha56 : hasT Tryd.prog 56 = true := by kernel_rfl
@[go_sem] theorem ic56 : isIfc Tryd.prog 56 = false := by kernel_rfl
@[go_sem] theorem by56 : bytesOf Tryd.prog 56 = some 8 := by kernel_rfl
@[go_sem] theorem ze56 : zeroOf Tryd.prog 56 = some .nilFunc := by kernel_rfl
@[go_sem] theorem sz57 : szOf Tryd.prog 57 = some 1 := by kernel_rfl
@[go_sem] theorem ag57 : aggOf Tryd.prog 57 = some false := by kernel_rfl
@[go_sem] theorem es57 : elemS Tryd.prog 57 = none := by kernel_rfl
@[go_sem] theorem ha57 : hasT Tryd.prog 57 = true := by kernel_rfl
@[go_sem] theorem ic57 : isIfc Tryd.prog 57 = false := by kernel_rfl
@[go_sem] theorem by57 : bytesOf Tryd.prog 57 = some 0 := by kernel_rfl
@[go_sem] theorem sz58 : szOf Tryd.prog 58 = some 1 := by kernel_rfl
@[go_sem] theorem ag58 : aggOf Tryd.prog 58 = some false := by kernel_rfl
@[go_sem] theorem es58 : elemS Tryd.prog 58 = none := by kernel_rfl
@[go_sem] theorem ha58 : hasT Tryd.prog 58 = true := by kernel_rfl
@[go_sem] theorem ic58 : isIfc Tryd.prog 58 = false := by kernel_rfl
@[go_sem] theorem by58 : bytesOf Tryd.prog 58 = some 8 := by kernel_rfl
@[go_sem] theorem ze58 : zeroOf Tryd.prog 58 = some .nilFunc := by kernel_rfl
@[go_sem] theorem sz59 : szOf Tryd.prog 59 = some 1 := by kernel_rfl
@[go_sem] theorem ag59 : aggOf Tryd.prog 59 = some false := by kernel_rfl
@[go_sem] theorem es59 : elemS Tryd.prog 59 = none := by kernel_rfl
@[go_sem] theorem ha59 : hasT Tryd.prog 59 = true := by kernel_rfl
@[go_sem] theorem ic59 : isIfc Tryd.prog 59 = false := by kernel_rfl
@[go_sem] theorem by59 : bytesOf Tryd.prog 59 = some 8 := by kernel_rfl
@[go_sem] theorem ze59 : zeroOf Tryd.prog 59 = some .nilFunc := by kernel_rfl
@[go_sem] theorem sz60 : szOf Tryd.prog 60 = some 1 := by kernel_rfl
@[go_sem] theorem ag60 : aggOf Tryd.prog 60 = some false := by kernel_rfl
@[go_sem] theorem es60 : elemS Tryd.prog 60 = none := by kernel_rfl
@[go_sem] theorem ha60 : hasT Tryd.prog 60 = true := by kernel_rfl
@[go_sem] theorem ic60 : isIfc Tryd.prog 60 = false := by kernel_rfl
@[go_sem] theorem by60 : bytesOf Tryd.prog 60 = some 8 := by kernel_rfl
@[go_sem] theorem ze60 : zeroOf Tryd.prog 60 = some .nilFunc := by kernel_rfl
@[go_sem] theorem sz61 : szOf Tryd.prog 61 = some 1 := by kernel_rfl
@[go_sem] theorem ag61 : aggOf Tryd.prog 61 = some false := by kernel_rfl
@[go_sem] theorem es61 : elemS Tryd.prog 61 = none := by kernel_rfl
@[go_sem] theorem ha61 : hasT Tryd.prog 61 = true := by kernel_rfl
@[go_sem] theorem ic61 : isIfc Tryd.prog 61 = false := by kernel_rfl
@[go_sem] theorem by61 : bytesOf Tryd.prog 61 = some 8 := by kernel_rfl
@[go_sem] theorem ze61 : zeroOf Tryd.prog 61 = some .nilFunc := by kernel_rfl
@[go_sem] theorem sz62 : szOf Tryd.prog 62 = some 1 := by kernel_rfl
@[go_sem] theorem ag62 : aggOf Tryd.prog 62 = some false := by kernel_rfl
@[go_sem] theorem es62 : elemS Tryd.prog 62 = none := by kernel_rfl
@[go_sem] theorem ha62 : hasT Tryd.prog 62 = true := by kernel_rfl
@[go_sem] theorem ic62 : isIfc Tryd.prog 62 = false := by kernel_rfl
@[go_sem] theorem by62 : bytesOf Tryd.prog 62 = some 8 := by kernel_rfl
@[go_sem] theorem ze62 : zeroOf Tryd.prog 62 = some .nilFunc := by kernel_rfl
@[go_sem] theorem sz63 : szOf Tryd.prog 63 = some 1 := by kernel_rfl
@[go_sem] theorem ag63 : aggOf Tryd.prog 63 = some false := by kernel_rfl
@[go_sem] theorem es63 : elemS Tryd.prog 63 = none := by kernel_rfl
@[go_sem] theorem ha63 : hasT Tryd.prog 63 = true := by kernel_rfl
@[go_sem] theorem ic63 : isIfc Tryd.prog 63 = false := by kernel_rfl
@[go_sem] theorem by63 : bytesOf Tryd.prog 63 = some 8 := by kernel_rfl
@[go_sem] theorem ze63 : zeroOf Tryd.prog 63 = some .nilFunc := by kernel_rfl
@[go_sem] theorem sz64 : szOf Tryd.prog 64 = some 1 := by kernel_rfl
@[go_sem] theorem ag64 : aggOf Tryd.prog 64 = some false := by kernel_rfl
@[go_sem] theorem es64 : elemS Tryd.prog 64 = none := by kernel_rfl
@[go_sem] theorem ha64 : hasT Tryd.prog 64 = true := by kernel_rfl
@[go_sem] theorem ic64 : isIfc Tryd.prog 64 = false := by kernel_rfl
@[go_sem] theorem by64 : bytesOf Tryd.prog 64 = some 8 := by kernel_rfl
@[go_sem] theorem mp64 : mapT Tryd.prog 64 = some (68, 3) := by kernel_rfl
@[go_sem] theorem ks68 : KS.of Tryd.prog 68 = some (.agg [.str, .str]) := by kernel_rfl
@[go_sem] theorem ze64 : zeroOf Tryd.prog 64 = some (.map none) := by kernel_rfl
@[go_sem] theorem sz65 : szOf Tryd.prog 65 = some 10 := by kernel_rfl
@[go_sem] theorem ag65 : aggOf Tryd.prog 65 = some true := by kernel_rfl
@[go_sem] theorem fl65_0 : fldOf Tryd.prog 65 0 = some (0, 30) := by kernel_rfl
@[go_sem] theorem fl65_1 : fldOf Tryd.prog 65 1 = some (9, 64) := by kernel_rfl
@[go_sem] theorem es65 : elemS Tryd.prog 65 = none := by kernel_rfl
@[go_sem] theorem ha65 : hasT Tryd.prog 65 = true := by kernel_rfl
@[go_sem] theorem ic65 : isIfc Tryd.prog 65 = false := by kernel_rfl
@[go_sem] theorem pl65 : placesOf Tryd.prog 65 = some [(0, 9), (9, 1)] := by kernel_rfl
@[go_sem] theorem by65 : bytesOf Tryd.prog 65 = some 160 := by kernel_rfl
@[go_sem] theorem ze65 : zeroOf Tryd.prog 65 = some (.agg #[(.slice none 0 0), (.int .i64 0), (.string ByteArray.empty), (.string ByteArray.empty), (.slice none 0 0), (.int .i64 0), (.slice none 0 0), (.slice none 0 0), (.int .i64 0), (.map none)]) := by kernel_rfl
@[go_sem] theorem sz66 : szOf Tryd.prog 66 = some 10 := by kernel_rfl
@[go_sem] theorem ag66 : aggOf Tryd.prog 66 = some true := by kernel_rfl
@[go_sem] theorem fl66_0 : fldOf Tryd.prog 66 0 = some (0, 30) := by kernel_rfl
@[go_sem] theorem fl66_1 : fldOf Tryd.prog 66 1 = some (9, 64) := by kernel_rfl
@[go_sem] theorem es66 : elemS Tryd.prog 66 = none := by kernel_rfl
@[go_sem] theorem ha66 : hasT Tryd.prog 66 = true := by kernel_rfl
@[go_sem] theorem ic66 : isIfc Tryd.prog 66 = false := by kernel_rfl
@[go_sem] theorem pl66 : placesOf Tryd.prog 66 = some [(0, 9), (9, 1)] := by kernel_rfl
@[go_sem] theorem by66 : bytesOf Tryd.prog 66 = some 160 := by kernel_rfl
@[go_sem] theorem ze66 : zeroOf Tryd.prog 66 = some (.agg #[(.slice none 0 0), (.int .i64 0), (.string ByteArray.empty), (.string ByteArray.empty), (.slice none 0 0), (.int .i64 0), (.slice none 0 0), (.slice none 0 0), (.int .i64 0), (.map none)]) := by kernel_rfl
@[go_sem] theorem sz67 : szOf Tryd.prog 67 = some 2 := by kernel_rfl
@[go_sem] theorem ag67 : aggOf Tryd.prog 67 = some true := by kernel_rfl
@[go_sem] theorem fl67_0 : fldOf Tryd.prog 67 0 = some (0, 9) := by kernel_rfl
@[go_sem] theorem fl67_1 : fldOf Tryd.prog 67 1 = some (1, 9) := by kernel_rfl
@[go_sem] theorem es67 : elemS Tryd.prog 67 = none := by kernel_rfl
@[go_sem] theorem ha67 : hasT Tryd.prog 67 = true := by kernel_rfl
@[go_sem] theorem ic67 : isIfc Tryd.prog 67 = false := by kernel_rfl
@[go_sem] theorem pl67 : placesOf Tryd.prog 67 = some [(0, 1), (1, 1)] := by kernel_rfl
@[go_sem] theorem by67 : bytesOf Tryd.prog 67 = some 32 := by kernel_rfl
@[go_sem] theorem ze67 : zeroOf Tryd.prog 67 = some (.agg #[(.string ByteArray.empty), (.string ByteArray.empty)]) := by kernel_rfl
@[go_sem] theorem sz68 : szOf Tryd.prog 68 = some 2 := by kernel_rfl
@[go_sem] theorem ag68 : aggOf Tryd.prog 68 = some true := by kernel_rfl
@[go_sem] theorem fl68_0 : fldOf Tryd.prog 68 0 = some (0, 9) := by kernel_rfl
@[go_sem] theorem fl68_1 : fldOf Tryd.prog 68 1 = some (1, 9) := by kernel_rfl
@[go_sem] theorem es68 : elemS Tryd.prog 68 = none := by kernel_rfl
@[go_sem] theorem ha68 : hasT Tryd.prog 68 = true := by kernel_rfl
@[go_sem] theorem ic68 : isIfc Tryd.prog 68 = false := by kernel_rfl
@[go_sem] theorem pl68 : placesOf Tryd.prog 68 = some [(0, 1), (1, 1)] := by kernel_rfl
@[go_sem] theorem by68 : bytesOf Tryd.prog 68 = some 32 := by kernel_rfl
@[go_sem] theorem ze68 : zeroOf Tryd.prog 68 = some (.agg #[(.string ByteArray.empty), (.string ByteArray.empty)]) := by kernel_rfl
@[go_sem] theorem sz69 : szOf Tryd.prog 69 = some 1 := by kernel_rfl
@[go_sem] theorem ag69 : aggOf Tryd.prog 69 = some false := by kernel_rfl
@[go_sem] theorem es69 : elemS Tryd.prog 69 = none := by kernel_rfl
@[go_sem] theorem ha69 : hasT Tryd.prog 69 = true := by kernel_rfl
@[go_sem] theorem ic69 : isIfc Tryd.prog 69 = false := by kernel_rfl
@[go_sem] theorem by69 : bytesOf Tryd.prog 69 = some 0 := by kernel_rfl
@[go_sem] theorem sz70 : szOf Tryd.prog 70 = some 1 := by kernel_rfl
@[go_sem] theorem ag70 : aggOf Tryd.prog 70 = some false := by kernel_rfl
@[go_sem] theorem es70 : elemS Tryd.prog 70 = none := by kernel_rfl
@[go_sem] theorem ha70 : hasT Tryd.prog 70 = true := by kernel_rfl
@[go_sem] theorem ic70 : isIfc Tryd.prog 70 = false := by kernel_rfl
@[go_sem] theorem by70 : bytesOf Tryd.prog 70 = some 8 := by kernel_rfl
@[go_sem] theorem ze70 : zeroOf Tryd.prog 70 = some .nilFunc := by kernel_rfl
@[go_sem] theorem sz71 : szOf Tryd.prog 71 = some 1 := by kernel_rfl
@[go_sem] theorem ag71 : aggOf Tryd.prog 71 = some false := by kernel_rfl
@[go_sem] theorem es71 : elemS Tryd.prog 71 = none := by kernel_rfl
@[go_sem] theorem ha71 : hasT Tryd.prog 71 = true := by kernel_rfl
@[go_sem] theorem ic71 : isIfc Tryd.prog 71 = false := by kernel_rfl
@[go_sem] theorem by71 : bytesOf Tryd.prog 71 = some 8 := by kernel_rfl
@[go_sem] theorem ze71 : zeroOf Tryd.prog 71 = some .nilFunc := by kernel_rfl
@[go_sem] theorem sz72 : szOf Tryd.prog 72 = some 1 := by kernel_rfl
@[go_sem] theorem ag72 : aggOf Tryd.prog 72 = some false := by kernel_rfl
@[go_sem] theorem es72 : elemS Tryd.prog 72 = none := by kernel_rfl
@[go_sem] theorem ha72 : hasT Tryd.prog 72 = true := by kernel_rfl
@[go_sem] theorem ic72 : isIfc Tryd.prog 72 = false := by kernel_rfl
@[go_sem] theorem by72 : bytesOf Tryd.prog 72 = some 8 := by kernel_rfl
@[go_sem] theorem ze72 : zeroOf Tryd.prog 72 = some .nilFunc := by kernel_rfl
@[go_sem] theorem sz73 : szOf Tryd.prog 73 = some 1 := by kernel_rfl
@[go_sem] theorem ag73 : aggOf Tryd.prog 73 = some false := by kernel_rfl
@[go_sem] theorem es73 : elemS Tryd.prog 73 = none := by kernel_rfl
@[go_sem] theorem ha73 : hasT Tryd.prog 73 = true := by kernel_rfl
@[go_sem] theorem ic73 : isIfc Tryd.prog 73 = false := by kernel_rfl
@[go_sem] theorem by73 : bytesOf Tryd.prog 73 = some 8 := by kernel_rfl
@[go_sem] theorem ze73 : zeroOf Tryd.prog 73 = some .nilFunc := by kernel_rfl
@[go_sem] theorem sz74 : szOf Tryd.prog 74 = some 1 := by kernel_rfl
@[go_sem] theorem ag74 : aggOf Tryd.prog 74 = some false := by kernel_rfl
@[go_sem] theorem es74 : elemS Tryd.prog 74 = none := by kernel_rfl
@[go_sem] theorem ha74 : hasT Tryd.prog 74 = true := by kernel_rfl
@[go_sem] theorem ic74 : isIfc Tryd.prog 74 = false := by kernel_rfl
@[go_sem] theorem by74 : bytesOf Tryd.prog 74 = some 8 := by kernel_rfl
@[go_sem] theorem ze74 : zeroOf Tryd.prog 74 = some .nilFunc := by kernel_rfl
@[go_sem] theorem sz75 : szOf Tryd.prog 75 = some 1 := by kernel_rfl
@[go_sem] theorem ag75 : aggOf Tryd.prog 75 = some false := by kernel_rfl
@[go_sem] theorem es75 : elemS Tryd.prog 75 = none := by kernel_rfl
@[go_sem] theorem ha75 : hasT Tryd.prog 75 = true := by kernel_rfl
@[go_sem] theorem ic75 : isIfc Tryd.prog 75 = false := by kernel_rfl
@[go_sem] theorem by75 : bytesOf Tryd.prog 75 = some 8 := by kernel_rfl
@[go_sem] theorem ze75 : zeroOf Tryd.prog 75 = some .nilFunc := by kernel_rfl
@[go_sem] theorem sz76 : szOf Tryd.prog 76 = some 1 := by kernel_rfl
@[go_sem] theorem ag76 : aggOf Tryd.prog 76 = some false := by kernel_rfl
@[go_sem] theorem es76 : elemS Tryd.prog 76 = none := by kernel_rfl
@[go_sem] theorem ha76 : hasT Tryd.prog 76 = true := by kernel_rfl
@[go_sem] theorem ic76 : isIfc Tryd.prog 76 = false := by kernel_rfl
@[go_sem] theorem by76 : bytesOf Tryd.prog 76 = some 8 := by kernel_rfl
@[go_sem] theorem ze76 : zeroOf Tryd.prog 76 = some .nilFunc := by kernel_rfl
@[go_sem] theorem sz77 : szOf Tryd.prog 77 = some 1 := by kernel_rfl
@[go_sem] theorem ag77 : aggOf Tryd.prog 77 = some false := by kernel_rfl
@[go_sem] theorem es77 : elemS Tryd.prog 77 = none := by kernel_rfl
@[go_sem] theorem ha77 : hasT Tryd.prog 77 = true := by kernel_rfl
@[go_sem] theorem ic77 : isIfc Tryd.prog 77 = false := by kernel_rfl
@[go_sem] theorem by77 : bytesOf Tryd.prog 77 = some 8 := by kernel_rfl
@[go_sem] theorem ze77 : zeroOf Tryd.prog 77 = some .nilFunc := by kernel_rfl
@[go_sem] theorem sz78 : szOf Tryd.prog 78 = some 1 := by kernel_rfl
@[go_sem] theorem ag78 : aggOf Tryd.prog 78 = some false := by kernel_rfl
@[go_sem] theorem es78 : elemS Tryd.prog 78 = none := by kernel_rfl
@[go_sem] theorem ha78 : hasT Tryd.prog 78 = true := by kernel_rfl
@[go_sem] theorem ic78 : isIfc Tryd.prog 78 = false := by kernel_rfl
@[go_sem] theorem by78 : bytesOf Tryd.prog 78 = some 8 := by kernel_rfl
@[go_sem] theorem ze78 : zeroOf Tryd.prog 78 = some .nilFunc := by kernel_rfl
@[go_sem] theorem sz79 : szOf Tryd.prog 79 = some 1 := by kernel_rfl
@[go_sem] theorem ag79 : aggOf Tryd.prog 79 = some false := by kernel_rfl
@[go_sem] theorem es79 : elemS Tryd.prog 79 = none := by kernel_rfl
@[go_sem] theorem ha79 : hasT Tryd.prog 79 = true := by kernel_rfl
@[go_sem] theorem ic79 : isIfc Tryd.prog 79 = false := by kernel_rfl
@[go_sem] theorem by79 : bytesOf Tryd.prog 79 = some 0 := by kernel_rfl
@[go_sem] theorem sz80 : szOf Tryd.prog 80 = some 1 := by kernel_rfl
@[go_sem] theorem ag80 : aggOf Tryd.prog 80 = some false := by kernel_rfl
@[go_sem] theorem es80 : elemS Tryd.prog 80 = none := by kernel_rfl
@[go_sem] theorem ha80 : hasT Tryd.prog 80 = true := by kernel_rfl
@[go_sem] theorem ic80 : isIfc Tryd.prog 80 = false := by kernel_rfl
@[go_sem] theorem by80 : bytesOf Tryd.prog 80 = some 8 := by kernel_rfl
@[go_sem] theorem ze80 : zeroOf Tryd.prog 80 = some .nilFunc := by kernel_rfl
@[go_sem] theorem sz81 : szOf Tryd.prog 81 = some 1 := by kernel_rfl
@[go_sem] theorem ag81 : aggOf Tryd.prog 81 = some false := by kernel_rfl
@[go_sem] theorem es81 : elemS Tryd.prog 81 = none := by kernel_rfl
@[go_sem] theorem ha81 : hasT Tryd.prog 81 = true := by kernel_rfl
@[go_sem] theorem ic81 : isIfc Tryd.prog 81 = false := by kernel_rfl
@[go_sem] theorem by81 : bytesOf Tryd.prog 81 = some 8 := by kernel_rfl
@[go_sem] theorem mp81 : mapT Tryd.prog 81 = some (9, 4) := by kernel_rfl
@[go_sem] theorem ks9 : KS.of Tryd.prog 9 = some (.one .str) := by kernel_rfl
@[go_sem] theorem ze81 : zeroOf Tryd.prog 81 = some (.map none) := by kernel_rfl
@[go_sem] theorem sz82 : szOf Tryd.prog 82 = some 1 := by kernel_rfl
@[go_sem] theorem ag82 : aggOf Tryd.prog 82 = some false := by kernel_rfl
@[go_sem] theorem es82 : elemS Tryd.prog 82 = none := by kernel_rfl
@[go_sem] theorem ha82 : hasT Tryd.prog 82 = true := by kernel_rfl
@[go_sem] theorem ic82 : isIfc Tryd.prog 82 = false := by kernel_rfl
@[go_sem] theorem by82 : bytesOf Tryd.prog 82 = some 8 := by kernel_rfl
@[go_sem] theorem ze82 : zeroOf Tryd.prog 82 = some .nilFunc := by kernel_rfl
@[go_sem] theorem sz83 : szOf Tryd.prog 83 = some 1 := by kernel_rfl
@[go_sem] theorem ag83 : aggOf Tryd.prog 83 = some false := by kernel_rfl
@[go_sem] theorem es83 : elemS Tryd.prog 83 = none := by kernel_rfl
@[go_sem] theorem ha83 : hasT Tryd.prog 83 = true := by kernel_rfl
@[go_sem] theorem ic83 : isIfc Tryd.prog 83 = false := by kernel_rfl
@[go_sem] theorem by83 : bytesOf Tryd.prog 83 = some 8 := by kernel_rfl
@[go_sem] theorem ze83 : zeroOf Tryd.prog 83 = some .nilFunc := by kernel_rfl
@[go_sem] theorem sz84 : szOf Tryd.prog 84 = some 1 := by kernel_rfl
@[go_sem] theorem ag84 : aggOf Tryd.prog 84 = some false := by kernel_rfl
@[go_sem] theorem es84 : elemS Tryd.prog 84 = none := by kernel_rfl
@[go_sem] theorem ha84 : hasT Tryd.prog 84 = true := by kernel_rfl
@[go_sem] theorem ic84 : isIfc Tryd.prog 84 = false := by kernel_rfl
@[go_sem] theorem by84 : bytesOf Tryd.prog 84 = some 8 := by kernel_rfl
@[go_sem] theorem ze84 : zeroOf Tryd.prog 84 = some .nilFunc := by kernel_rfl
@[go_sem] theorem sz85 : szOf Tryd.prog 85 = some 1 := by kernel_rfl
@[go_sem] theorem ag85 : aggOf Tryd.prog 85 = some false := by kernel_rfl
@[go_sem] theorem es85 : elemS Tryd.prog 85 = none := by kernel_rfl
@[go_sem] theorem ha85 : hasT Tryd.prog 85 = true := by kernel_rfl
@[go_sem] theorem ic85 : isIfc Tryd.prog 85 = false := by kernel_rfl
@[go_sem] theorem by85 : bytesOf Tryd.prog 85 = some 8 := by kernel_rfl
@[go_sem] theorem ze85 : zeroOf Tryd.prog 85 = some .nilFunc := by kernel_rfl
@[go_sem] theorem sz86 : szOf Tryd.prog 86 = some 1 := by kernel_rfl
@[go_sem] theorem ag86 : aggOf Tryd.prog 86 = some false := by kernel_rfl
@[go_sem] theorem es86 : elemS Tryd.prog 86 = none := by kernel_rfl
@[go_sem] theorem ha86 : hasT Tryd.prog 86 = true := by kernel_rfl
@[go_sem] theorem ic86 : isIfc Tryd.prog 86 = false := by kernel_rfl
@[go_sem] theorem by86 : bytesOf Tryd.prog 86 = some 8 := by kernel_rfl
@[go_sem] theorem ze86 : zeroOf Tryd.prog 86 = some .nilFunc := by kernel_rfl
@[go_sem] theorem sz87 : szOf Tryd.prog 87 = some 1 := by kernel_rfl
@[go_sem] theorem ag87 : aggOf Tryd.prog 87 = some false := by kernel_rfl
@[go_sem] theorem es87 : elemS Tryd.prog 87 = none := by kernel_rfl
@[go_sem] theorem ha87 : hasT Tryd.prog 87 = true := by kernel_rfl
@[go_sem] theorem ic87 : isIfc Tryd.prog 87 = false := by kernel_rfl
@[go_sem] theorem io87 : intOfT Tryd.prog 87 = some .u64 := by kernel_rfl
@[go_sem] theorem by87 : bytesOf Tryd.prog 87 = some 8 := by kernel_rfl
@[go_sem] theorem ze87 : zeroOf Tryd.prog 87 = some (.int .u64 0) := by kernel_rfl
@[go_sem] theorem sz88 : szOf Tryd.prog 88 = some 1 := by kernel_rfl
@[go_sem] theorem ag88 : aggOf Tryd.prog 88 = some false := by kernel_rfl
@[go_sem] theorem es88 : elemS Tryd.prog 88 = none := by kernel_rfl
@[go_sem] theorem ha88 : hasT Tryd.prog 88 = true := by kernel_rfl
@[go_sem] theorem ic88 : isIfc Tryd.prog 88 = false := by kernel_rfl
@[go_sem] theorem by88 : bytesOf Tryd.prog 88 = some 8 := by kernel_rfl
@[go_sem] theorem ze88 : zeroOf Tryd.prog 88 = some .nilFunc := by kernel_rfl
@[go_sem] theorem sz89 : szOf Tryd.prog 89 = some 1 := by kernel_rfl
@[go_sem] theorem ag89 : aggOf Tryd.prog 89 = some false := by kernel_rfl
@[go_sem] theorem es89 : elemS Tryd.prog 89 = none := by kernel_rfl
@[go_sem] theorem ha89 : hasT Tryd.prog 89 = true := by kernel_rfl
@[go_sem] theorem ic89 : isIfc Tryd.prog 89 = false := by kernel_rfl
@[go_sem] theorem by89 : bytesOf Tryd.prog 89 = some 8 := by kernel_rfl
@[go_sem] theorem ze89 : zeroOf Tryd.prog 89 = some .nilFunc := by kernel_rfl
@[go_sem] theorem sz90 : szOf Tryd.prog 90 = some 1 := by kernel_rfl
@[go_sem] theorem ag90 : aggOf Tryd.prog 90 = some false := by kernel_rfl
@[go_sem] theorem es90 : elemS Tryd.prog 90 = none := by kernel_rfl
@[go_sem] theorem ha90 : hasT Tryd.prog 90 = true := by kernel_rfl
@[go_sem] theorem ic90 : isIfc Tryd.prog 90 = false := by kernel_rfl
@[go_sem] theorem by90 : bytesOf Tryd.prog 90 = some 8 := by kernel_rfl
@[go_sem] theorem ze90 : zeroOf Tryd.prog 90 = some .nilFunc := by kernel_rfl
@[go_sem] theorem sz91 : szOf Tryd.prog 91 = some 1 := by kernel_rfl
@[go_sem] theorem ag91 : aggOf Tryd.prog 91 = some false := by kernel_rfl
@[go_sem] theorem es91 : elemS Tryd.prog 91 = none := by kernel_rfl
@[go_sem] theorem ha91 : hasT Tryd.prog 91 = true := by kernel_rfl
@[go_sem] theorem ic91 : isIfc Tryd.prog 91 = false := by kernel_rfl
@[go_sem] theorem by91 : bytesOf Tryd.prog 91 = some 8 := by kernel_rfl
@[go_sem] theorem ze91 : zeroOf Tryd.prog 91 = some .nilFunc := by kernel_rfl
@[go_sem] theorem sz92 : szOf Tryd.prog 92 = some 1 := by kernel_rfl
@[go_sem] theorem ag92 : aggOf Tryd.prog 92 = some false := by kernel_rfl
@[go_sem] theorem es92 : elemS Tryd.prog 92 = none := by kernel_rfl
@[go_sem] theorem ha92 : hasT Tryd.prog 92 = true := by kernel_rfl
@[go_sem] theorem ic92 : isIfc Tryd.prog 92 = false := by kernel_rfl
@[go_sem] theorem by92 : bytesOf Tryd.prog 92 = some 8 := by kernel_rfl
@[go_sem] theorem ze92 : zeroOf Tryd.prog 92 = some .nilFunc := by kernel_rfl
@[go_sem] theorem sz93 : szOf Tryd.prog 93 = some 5 := by kernel_rfl
@[go_sem] theorem ag93 : aggOf Tryd.prog 93 = some true := by kernel_rfl
@[go_sem] theorem fl93_0 : fldOf Tryd.prog 93 0 = some (0, 9) := by kernel_rfl
@[go_sem] theorem fl93_1 : fldOf Tryd.prog 93 1 = some (1, 25) := by kernel_rfl
@[go_sem] theorem fl93_2 : fldOf Tryd.prog 93 2 = some (4, 3) := by kernel_rfl
@[go_sem] theorem es93 : elemS Tryd.prog 93 = none := by kernel_rfl
@[go_sem] theorem ha93 : hasT Tryd.prog 93 = true := by kernel_rfl
@[go_sem] theorem ic93 : isIfc Tryd.prog 93 = false := by kernel_rfl
@[go_sem] theorem pl93 : placesOf Tryd.prog 93 = some [(0, 1), (1, 3), (4, 1)] := by kernel_rfl
@[go_sem] theorem by93 : bytesOf Tryd.prog 93 = some 72 := by kernel_rfl
@[go_sem] theorem ze93 : zeroOf Tryd.prog 93 = some (.agg #[(.string ByteArray.empty), (.string ByteArray.empty), (.slice none 0 0), (.int .i64 0), (.int .i64 0)]) := by kernel_rfl
@[go_sem] theorem sz94 : szOf Tryd.prog 94 = some 5 := by kernel_rfl
@[go_sem] theorem ag94 : aggOf Tryd.prog 94 = some true := by kernel_rfl
@[go_sem] theorem fl94_0 : fldOf Tryd.prog 94 0 = some (0, 9) := by kernel_rfl
@[go_sem] theorem fl94_1 : fldOf Tryd.prog 94 1 = some (1, 25) := by kernel_rfl
@[go_sem] theorem fl94_2 : fldOf Tryd.prog 94 2 = some (4, 3) := by kernel_rfl
@[go_sem] theorem es94 : elemS Tryd.prog 94 = none := by kernel_rfl
@[go_sem] theorem ha94 : hasT Tryd.prog 94 = true := by kernel_rfl
@[go_sem] theorem ic94 : isIfc Tryd.prog 94 = false := by kernel_rfl
@[go_sem] theorem pl94 : placesOf Tryd.prog 94 = some [(0, 1), (1, 3), (4, 1)] := by kernel_rfl
@[go_sem] theorem by94 : bytesOf Tryd.prog 94 = some 72 := by kernel_rfl
@[go_sem] theorem ze94 : zeroOf Tryd.prog 94 = some (.agg #[(.string ByteArray.empty), (.string ByteArray.empty), (.slice none 0 0), (.int .i64 0), (.int .i64 0)]) := by kernel_rfl
@[go_sem] theorem sz95 : szOf Tryd.prog 95 = some 1 := by kernel_rfl
@[go_sem] theorem ag95 : aggOf Tryd.prog 95 = some false := by kernel_rfl
@[go_sem] theorem es95 : elemS Tryd.prog 95 = none := by kernel_rfl
@[go_sem] theorem ha95 : hasT Tryd.prog 95 = true := by kernel_rfl
@[go_sem] theorem ic95 : isIfc Tryd.prog 95 = false := by kernel_rfl
@[go_sem] theorem by95 : bytesOf Tryd.prog 95 = some 8 := by kernel_rfl
@[go_sem] theorem ze95 : zeroOf Tryd.prog 95 = some .nilFunc := by kernel_rfl
@[go_sem] theorem sz96 : szOf Tryd.prog 96 = some 1 := by kernel_rfl
@[go_sem] theorem ag96 : aggOf Tryd.prog 96 = some false := by kernel_rfl
@[go_sem] theorem es96 : elemS Tryd.prog 96 = none := by kernel_rfl
@[go_sem] theorem ha96 : hasT Tryd.prog 96 = true := by kernel_rfl
@[go_sem] theorem ic96 : isIfc Tryd.prog 96 = false := by kernel_rfl
@[go_sem] theorem by96 : bytesOf Tryd.prog 96 = some 8 := by kernel_rfl
@[go_sem] theorem ze96 : zeroOf Tryd.prog 96 = some .nilFunc := by kernel_rfl
@[go_sem] theorem sz97 : szOf Tryd.prog 97 = some 1 := by kernel_rfl
@[go_sem] theorem ag97 : aggOf Tryd.prog 97 = some false := by kernel_rfl
@[go_sem] theorem es97 : elemS Tryd.prog 97 = none := by kernel_rfl
@[go_sem] theorem ha97 : hasT Tryd.prog 97 = true := by kernel_rfl
@[go_sem] theorem ic97 : isIfc Tryd.prog 97 = false := by kernel_rfl
@[go_sem] theorem by97 : bytesOf Tryd.prog 97 = some 8 := by kernel_rfl
@[go_sem] theorem ze97 : zeroOf Tryd.prog 97 = some .nilFunc := by kernel_rfl
@[go_sem] theorem sz98 : szOf Tryd.prog 98 = some 1 := by kernel_rfl
@[go_sem] theorem ag98 : aggOf Tryd.prog 98 = some false := by kernel_rfl
@[go_sem] theorem es98 : elemS Tryd.prog 98 = none := by kernel_rfl
@[go_sem] theorem ha98 : hasT Tryd.prog 98 = true := by kernel_rfl
@[go_sem] theorem ic98 : isIfc Tryd.prog 98 = false := by kernel_rfl
@[go_sem] theorem by98 : bytesOf Tryd.prog 98 = some 8 := by kernel_rfl
@[go_sem] theorem ze98 : zeroOf Tryd.prog 98 = some .nilFunc := by kernel_rfl
@[go_sem] theorem sz99 : szOf Tryd.prog 99 = some 1 := by kernel_rfl
@[go_sem] theorem ag99 : aggOf Tryd.prog 99 = some false := by kernel_rfl
@[go_sem] theorem es99 : elemS Tryd.prog 99 = none := by kernel_rfl
@[go_sem] theorem ha99 : hasT Tryd.prog 99 = true := by kernel_rfl
@[go_sem] theorem ic99 : isIfc Tryd.prog 99 = false := by kernel_rfl
@[go_sem] theorem by99 : bytesOf Tryd.prog 99 = some 8 := by kernel_rfl
@[go_sem] theorem ze99 : zeroOf Tryd.prog 99 = some .nilFunc := by kernel_rfl
@[go_sem] theorem sz100 : szOf Tryd.prog 100 = some 1 := by kernel_rfl
@[go_sem] theorem ag100 : aggOf Tryd.prog 100 = some false := by kernel_rfl
@[go_sem] theorem es100 : elemS Tryd.prog 100 = none := by kernel_rfl
@[go_sem] theorem ha100 : hasT Tryd.prog 100 = true := by kernel_rfl
@[go_sem] theorem ic100 : isIfc Tryd.prog 100 = false := by kernel_rfl
@[go_sem] theorem io100 : intOfT Tryd.prog 100 = some .i64 := by kernel_rfl
@[go_sem] theorem by100 : bytesOf Tryd.prog 100 = some 8 := by kernel_rfl
@[go_sem] theorem ze100 : zeroOf Tryd.prog 100 = some (.int .i64 0) := by kernel_rfl
@[go_sem] theorem sz101 : szOf Tryd.prog 101 = some 1 := by kernel_rfl
@[go_sem] theorem ag101 : aggOf Tryd.prog 101 = some false := by kernel_rfl
@[go_sem] theorem es101 : elemS Tryd.prog 101 = none := by kernel_rfl
@[go_sem] theorem ha101 : hasT Tryd.prog 101 = true := by kernel_rfl
@[go_sem] theorem ic101 : isIfc Tryd.prog 101 = false := by kernel_rfl
@[go_sem] theorem by101 : bytesOf Tryd.prog 101 = some 0 := by kernel_rfl
@[go_sem] theorem sz102 : szOf Tryd.prog 102 = some 1 := by kernel_rfl
@[go_sem] theorem ag102 : aggOf Tryd.prog 102 = some false := by kernel_rfl
@[go_sem] theorem es102 : elemS Tryd.prog 102 = none := by kernel_rfl
@[go_sem] theorem ha102 : hasT Tryd.prog 102 = true := by kernel_rfl
@[go_sem] theorem ic102 : isIfc Tryd.prog 102 = false := by kernel_rfl
@[go_sem] theorem by102 : bytesOf Tryd.prog 102 = some 8 := by kernel_rfl
@[go_sem] theorem ze102 : zeroOf Tryd.prog 102 = some .nilFunc := by kernel_rfl
@[go_sem] theorem sz103 : szOf Tryd.prog 103 = some 1 := by kernel_rfl
@[go_sem] theorem ag103 : aggOf Tryd.prog 103 = some false := by kernel_rfl
@[go_sem] theorem es103 : elemS Tryd.prog 103 = none := by kernel_rfl
@[go_sem] theorem ha103 : hasT Tryd.prog 103 = true := by kernel_rfl
@[go_sem] theorem ic103 : isIfc Tryd.prog 103 = false := by kernel_rfl
@[go_sem] theorem by103 : bytesOf Tryd.prog 103 = some 8 := by kernel_rfl
@[go_sem] theorem ze103 : zeroOf Tryd.prog 103 = some .nilFunc := by kernel_rfl
@[go_sem] theorem sz104 : szOf Tryd.prog 104 = some 1 := by kernel_rfl
@[go_sem] theorem ag104 : aggOf Tryd.prog 104 = some false := by kernel_rfl
@[go_sem] theorem es104 : elemS Tryd.prog 104 = none := by kernel_rfl
@[go_sem] theorem ha104 : hasT Tryd.prog 104 = true := by kernel_rfl
@[go_sem] theorem ic104 : isIfc Tryd.prog 104 = false := by kernel_rfl
@[go_sem] theorem by104 : bytesOf Tryd.prog 104 = some 8 := by kernel_rfl
@[go_sem] theorem ze104 : zeroOf Tryd.prog 104 = some .nilFunc := by kernel_rfl
@[go_sem] theorem sz105 : szOf Tryd.prog 105 = some 1 := by kernel_rfl
@[go_sem] theorem ag105 : aggOf Tryd.prog 105 = some false := by kernel_rfl
@[go_sem] theorem es105 : elemS Tryd.prog 105 = none := by kernel_rfl
@[go_sem] theorem ha105 : hasT Tryd.prog 105 = true := by kernel_rfl
@[go_sem] theorem ic105 : isIfc Tryd.prog 105 = false := by kernel_rfl
@[go_sem] theorem by105 : bytesOf Tryd.prog 105 = some 8 := by kernel_rfl
@[go_sem] theorem ze105 : zeroOf Tryd.prog 105 = some .nilFunc := by kernel_rfl
@[go_sem] theorem sz106 : szOf Tryd.prog 106 = some 1 := by kernel_rfl
@[go_sem] theorem ag106 : aggOf Tryd.prog 106 = some false := by kernel_rfl
@[go_sem] theorem es106 : elemS Tryd.prog 106 = none := by kernel_rfl
@[go_sem] theorem ha106 : hasT Tryd.prog 106 = true := by kernel_rfl
@[go_sem] theorem ic106 : isIfc Tryd.prog 106 = false := by kernel_rfl
@[go_sem] theorem by106 : bytesOf Tryd.prog 106 = some 8 := by kernel_rfl
@[go_sem] theorem ze106 : zeroOf Tryd.prog 106 = some .nilFunc := by kernel_rfl
@[go_sem] theorem sz107 : szOf Tryd.prog 107 = some 1 := by kernel_rfl
@[go_sem] theorem ag107 : aggOf Tryd.prog 107 = some false := by kernel_rfl
@[go_sem] theorem es107 : elemS Tryd.prog 107 = none := by kernel_rfl
@[go_sem] theorem ha107 : hasT Tryd.prog 107 = true := by kernel_rfl
@[go_sem] theorem ic107 : isIfc Tryd.prog 107 = false := by kernel_rfl
@[go_sem] theorem io107 : intOfT Tryd.prog 107 = some .u32 := by kernel_rfl
@[go_sem] theorem by107 : bytesOf Tryd.prog 107 = some 4 := by kernel_rfl
@[go_sem] theorem ze107 : zeroOf Tryd.prog 107 = some (.int .u32 0) := by kernel_rfl
@[go_sem] theorem sz108 : szOf Tryd.prog 108 = some 1 := by kernel_rfl
@[go_sem] theorem ag108 : aggOf Tryd.prog 108 = some false := by kernel_rfl
@[go_sem] theorem es108 : elemS Tryd.prog 108 = none := by kernel_rfl
@[go_sem] theorem ha108 : hasT Tryd.prog 108 = true := by kernel_rfl
@[go_sem] theorem ic108 : isIfc Tryd.prog 108 = false := by kernel_rfl
@[go_sem] theorem by108 : bytesOf Tryd.prog 108 = some 8 := by kernel_rfl
@[go_sem] theorem ze108 : zeroOf Tryd.prog 108 = some .nilFunc := by kernel_rfl
@[go_sem] theorem sz109 : szOf Tryd.prog 109 = some 1 := by kernel_rfl
@[go_sem] theorem ag109 : aggOf Tryd.prog 109 = some false := by kernel_rfl
@[go_sem] theorem es109 : elemS Tryd.prog 109 = none := by kernel_rfl
@[go_sem] theorem ha109 : hasT Tryd.prog 109 = true := by kernel_rfl
@[go_sem] theorem ic109 : isIfc Tryd.prog 109 = false := by kernel_rfl
@[go_sem] theorem io109 : intOfT Tryd.prog 109 = some .u64 := by kernel_rfl
@[go_sem] theorem by109 : bytesOf Tryd.prog 109 = some 8 := by kernel_rfl
@[go_sem] theorem ze109 : zeroOf Tryd.prog 109 = some (.int .u64 0) := by kernel_rfl
@[go_sem] theorem sz110 : szOf Tryd.prog 110 = some 1 := by kernel_rfl
@[go_sem] theorem ag110 : aggOf Tryd.prog 110 = some false := by kernel_rfl
@[go_sem] theorem es110 : elemS Tryd.prog 110 = none := by kernel_rfl
@[go_sem] theorem ha110 : hasT Tryd.prog 110 = true := by kernel_rfl
@[go_sem] theorem ic110 : isIfc Tryd.prog 110 = false := by kernel_rfl
@[go_sem] theorem by110 : bytesOf Tryd.prog 110 = some 8 := by kernel_rfl
@[go_sem] theorem ze110 : zeroOf Tryd.prog 110 = some .nilFunc := by kernel_rfl
@[go_sem] theorem sz111 : szOf Tryd.prog 111 = some 1 := by kernel_rfl
@[go_sem] theorem ag111 : aggOf Tryd.prog 111 = some false := by kernel_rfl
@[go_sem] theorem es111 : elemS Tryd.prog 111 = none := by kernel_rfl
@[go_sem] theorem ha111 : hasT Tryd.prog 111 = true := by kernel_rfl
@[go_sem] theorem ic111 : isIfc Tryd.prog 111 = false := by kernel_rfl
@[go_sem] theorem by111 : bytesOf Tryd.prog 111 = some 8 := by kernel_rfl
@[go_sem] theorem ze111 : zeroOf Tryd.prog 111 = some .nilFunc := by kernel_rfl
@[go_sem] theorem sz112 : szOf Tryd.prog 112 = some 1 := by kernel_rfl
@[go_sem] theorem ag112 : aggOf Tryd.prog 112 = some false := by kernel_rfl
@[go_sem] theorem es112 : elemS Tryd.prog 112 = none := by kernel_rfl
@[go_sem] theorem ha112 : hasT Tryd.prog 112 = true := by kernel_rfl
@[go_sem] theorem ic112 : isIfc Tryd.prog 112 = false := by kernel_rfl
@[go_sem] theorem by112 : bytesOf Tryd.prog 112 = some 8 := by kernel_rfl
@[go_sem] theorem ze112 : zeroOf Tryd.prog 112 = some .nilFunc := by kernel_rfl
@[go_sem] theorem sz113 : szOf Tryd.prog 113 = some 1 := by kernel_rfl
@[go_sem] theorem ag113 : aggOf Tryd.prog 113 = some false := by kernel_rfl
@[go_sem] theorem es113 : elemS Tryd.prog 113 = none := by kernel_rfl
@[go_sem] theorem ha113 : hasT Tryd.prog 113 = true := by kernel_rfl
@[go_sem] theorem ic113 : isIfc Tryd.prog 113 = false := by kernel_rfl
@[go_sem] theorem by113 : bytesOf Tryd.prog 113 = some 8 := by kernel_rfl
@[go_sem] theorem ze113 : zeroOf Tryd.prog 113 = some .nilFunc := by kernel_rfl
@[go_sem] theorem sz114 : szOf Tryd.prog 114 = some 1 := by kernel_rfl
@[go_sem] theorem ag114 : aggOf Tryd.prog 114 = some false := by kernel_rfl
@[go_sem] theorem es114 : elemS Tryd.prog 114 = none := by kernel_rfl
@[go_sem] theorem ha114 : hasT Tryd.prog 114 = true := by kernel_rfl
@[go_sem] theorem ic114 : isIfc Tryd.prog 114 = false := by kernel_rfl
@[go_sem] theorem by114 : bytesOf Tryd.prog 114 = some 8 := by kernel_rfl
@[go_sem] theorem ze114 : zeroOf Tryd.prog 114 = some .nilFunc := by kernel_rfl
@[go_sem] theorem sz115 : szOf Tryd.prog 115 = some 1 := by kernel_rfl
@[go_sem] theorem ag115 : aggOf Tryd.prog 115 = some false := by kernel_rfl
@[go_sem] theorem es115 : elemS Tryd.prog 115 = none := by kernel_rfl
@[go_sem] theorem ha115 : hasT Tryd.prog 115 = true := by kernel_rfl
@[go_sem] theorem ic115 : isIfc Tryd.prog 115 = false := by kernel_rfl
@[go_sem] theorem by115 : bytesOf Tryd.prog 115 = some 8 := by kernel_rfl
@[go_sem] theorem ze115 : zeroOf Tryd.prog 115 = some .nilFunc := by kernel_rfl
@[go_sem] theorem sz116 : szOf Tryd.prog 116 = some 1 := by kernel_rfl
@[go_sem] theorem ag116 : aggOf Tryd.prog 116 = some false := by kernel_rfl
@[go_sem] theorem es116 : elemS Tryd.prog 116 = none := by kernel_rfl
@[go_sem] theorem ha116 : hasT Tryd.prog 116 = true := by kernel_rfl
@[go_sem] theorem ic116 : isIfc Tryd.prog 116 = false := by kernel_rfl
@[go_sem] theorem by116 : bytesOf Tryd.prog 116 = some 8 := by kernel_rfl
@[go_sem] theorem ze116 : zeroOf Tryd.prog 116 = some .nilFunc := by kernel_rfl
@[go_sem] theorem sz117 : szOf Tryd.prog 117 = some 1 := by kernel_rfl
@[go_sem] theorem ag117 : aggOf Tryd.prog 117 = some false := by kernel_rfl
@[go_sem] theorem es117 : elemS Tryd.prog 117 = none := by kernel_rfl
@[go_sem] theorem ha117 : hasT Tryd.prog 117 = true := by kernel_rfl
@[go_sem] theorem ic117 : isIfc Tryd.prog 117 = false := by kernel_rfl
@[go_sem] theorem by117 : bytesOf Tryd.prog 117 = some 8 := by kernel_rfl
@[go_sem] theorem ze117 : zeroOf Tryd.prog 117 = some .nilFunc := by kernel_rfl
@[go_sem] theorem sz118 : szOf Tryd.prog 118 = some 1 := by kernel_rfl
@[go_sem] theorem ag118 : aggOf Tryd.prog 118 = some false := by kernel_rfl
@[go_sem] theorem es118 : elemS Tryd.prog 118 = none := by kernel_rfl
@[go_sem] theorem ha118 : hasT Tryd.prog 118 = true := by kernel_rfl
@[go_sem] theorem ic118 : isIfc Tryd.prog 118 = false := by kernel_rfl
@[go_sem] theorem by118 : bytesOf Tryd.prog 118 = some 8 := by kernel_rfl
@[go_sem] theorem ze118 : zeroOf Tryd.prog 118 = some .nilFunc := by kernel_rfl
@[go_sem] theorem sz119 : szOf Tryd.prog 119 = some 1 := by kernel_rfl
@[go_sem] theorem ag119 : aggOf Tryd.prog 119 = some false := by kernel_rfl
@[go_sem] theorem es119 : elemS Tryd.prog 119 = none := by kernel_rfl
@[go_sem] theorem ha119 : hasT Tryd.prog 119 = true := by kernel_rfl
@[go_sem] theorem ic119 : isIfc Tryd.prog 119 = false := by kernel_rfl
@[go_sem] theorem by119 : bytesOf Tryd.prog 119 = some 8 := by kernel_rfl
@[go_sem] theorem ze119 : zeroOf Tryd.prog 119 = some .nilFunc := by kernel_rfl
@[go_sem] theorem sz120 : szOf Tryd.prog 120 = some 1 := by kernel_rfl
@[go_sem] theorem ag120 : aggOf Tryd.prog 120 = some false := by kernel_rfl
@[go_sem] theorem es120 : elemS Tryd.prog 120 = none := by kernel_rfl
@[go_sem] theorem ha120 : hasT Tryd.prog 120 = true := by kernel_rfl
@[go_sem] theorem ic120 : isIfc Tryd.prog 120 = false := by kernel_rfl
@[go_sem] theorem by120 : bytesOf Tryd.prog 120 = some 8 := by kernel_rfl
@[go_sem] theorem ze120 : zeroOf Tryd.prog 120 = some .nilFunc := by kernel_rfl
@[go_sem] theorem sz121 : szOf Tryd.prog 121 = some 1 := by kernel_rfl
@[go_sem] theorem ag121 : aggOf Tryd.prog 121 = some false := by kernel_rfl
@[go_sem] theorem es121 : elemS Tryd.prog 121 = none := by kernel_rfl
@[go_sem] theorem ha121 : hasT Tryd.prog 121 = true := by kernel_rfl
@[go_sem] theorem ic121 : isIfc Tryd.prog 121 = false := by kernel_rfl
@[go_sem] theorem by121 : bytesOf Tryd.prog 121 = some 8 := by kernel_rfl
@[go_sem] theorem ze121 : zeroOf Tryd.prog 121 = some .nilFunc := by kernel_rfl
@[go_sem] theorem sz122 : szOf Tryd.prog 122 = some 1 := by kernel_rfl
@[go_sem] theorem ag122 : aggOf Tryd.prog 122 = some false := by kernel_rfl
@[go_sem] theorem es122 : elemS Tryd.prog 122 = none := by kernel_rfl
@[go_sem] theorem ha122 : hasT Tryd.prog 122 = true := by kernel_rfl
@[go_sem] theorem ic122 : isIfc Tryd.prog 122 = false := by kernel_rfl
@[go_sem] theorem by122 : bytesOf Tryd.prog 122 = some 8 := by kernel_rfl
@[go_sem] theorem ze122 : zeroOf Tryd.prog 122 = some .nilFunc := by kernel_rfl
@[go_sem] theorem sz123 : szOf Tryd.prog 123 = some 1 := by kernel_rfl
@[go_sem] theorem ag123 : aggOf Tryd.prog 123 = some false := by kernel_rfl
@[go_sem] theorem es123 : elemS Tryd.prog 123 = none := by kernel_rfl
@[go_sem] theorem ha123 : hasT Tryd.prog 123 = true := by kernel_rfl
@[go_sem] theorem ic123 : isIfc Tryd.prog 123 = false := by kernel_rfl
@[go_sem] theorem by123 : bytesOf Tryd.prog 123 = some 8 := by kernel_rfl
@[go_sem] theorem ze123 : zeroOf Tryd.prog 123 = some .nilFunc := by kernel_rfl
@[go_sem] theorem sz124 : szOf Tryd.prog 124 = some 1 := by kernel_rfl
@[go_sem] theorem ag124 : aggOf Tryd.prog 124 = some false := by kernel_rfl
@[go_sem] theorem es124 : elemS Tryd.prog 124 = none := by kernel_rfl
@[go_sem] theorem ha124 : hasT Tryd.prog 124 = true := by kernel_rfl
@[go_sem] theorem ic124 : isIfc Tryd.prog 124 = false := by kernel_rfl
@[go_sem] theorem by124 : bytesOf Tryd.prog 124 = some 8 := by kernel_rfl
@[go_sem] theorem ze124 : zeroOf Tryd.prog 124 = some .nilFunc := by kernel_rfl
@[go_sem] theorem sz125 : szOf Tryd.prog 125 = some 1 := by kernel_rfl
@[go_sem] theorem ag125 : aggOf Tryd.prog 125 = some false := by kernel_rfl
@[go_sem] theorem es125 : elemS Tryd.prog 125 = none := by kernel_rfl
@[go_sem] theorem ha125 : hasT Tryd.prog 125 = true := by kernel_rfl
@[go_sem] theorem ic125 : isIfc Tryd.prog 125 = false := by kernel_rfl
@[go_sem] theorem io125 : intOfT Tryd.prog 125 = some .u64 := by kernel_rfl
@[go_sem] theorem by125 : bytesOf Tryd.prog 125 = some 8 := by kernel_rfl
@[go_sem] theorem ze125 : zeroOf Tryd.prog 125 = some (.int .u64 0) := by kernel_rfl
@[go_sem] theorem sz126 : szOf Tryd.prog 126 = some 1 := by kernel_rfl
@[go_sem] theorem ag126 : aggOf Tryd.prog 126 = some false := by kernel_rfl
@[go_sem] theorem es126 : elemS Tryd.prog 126 = none := by kernel_rfl
@[go_sem] theorem ha126 : hasT Tryd.prog 126 = true := by kernel_rfl
@[go_sem] theorem ic126 : isIfc Tryd.prog 126 = false := by kernel_rfl
@[go_sem] theorem by126 : bytesOf Tryd.prog 126 = some 8 := by kernel_rfl
@[go_sem] theorem ze126 : zeroOf Tryd.prog 126 = some .nilFunc := by kernel_rfl
@[go_sem] theorem sz127 : szOf Tryd.prog 127 = some 1 := by kernel_rfl
@[go_sem] theorem ag127 : aggOf Tryd.prog 127 = some false := by kernel_rfl
@[go_sem] theorem es127 : elemS Tryd.prog 127 = none := by kernel_rfl
@[go_sem] theorem ha127 : hasT Tryd.prog 127 = true := by kernel_rfl
@[go_sem] theorem ic127 : isIfc Tryd.prog 127 = false := by kernel_rfl
@[go_sem] theorem by127 : bytesOf Tryd.prog 127 = some 8 := by kernel_rfl
@[go_sem] theorem ze127 : zeroOf Tryd.prog 127 = some .nilFunc := by kernel_rfl
@[go_sem] theorem sz128 : szOf Tryd.prog 128 = some 1 := by kernel_rfl
@[go_sem] theorem ag128 : aggOf Tryd.prog 128 = some false := by kernel_rfl
@[go_sem] theorem es128 : elemS Tryd.prog 128 = none := by kernel_rfl
@[go_sem] theorem ha128 : hasT Tryd.prog 128 = true := by kernel_rfl
@[go_sem] theorem ic128 : isIfc Tryd.prog 128 = false := by kernel_rfl
@[go_sem] theorem by128 : bytesOf Tryd.prog 128 = some 8 := by kernel_rfl
@[go_sem] theorem ze128 : zeroOf Tryd.prog 128 = some .nilFunc := by kernel_rfl
@[go_sem] theorem sz129 : szOf Tryd.prog 129 = some 1 := by kernel_rfl
@[go_sem] theorem ag129 : aggOf Tryd.prog 129 = some false := by kernel_rfl
@[go_sem] theorem es129 : elemS Tryd.prog 129 = none := by kernel_rfl
@[go_sem] theorem ha129 : hasT Tryd.prog 129 = true := by kernel_rfl
@[go_sem] theorem ic129 : isIfc Tryd.prog 129 = false := by kernel_rfl
@[go_sem] theorem by129 : bytesOf Tryd.prog 129 = some 8 := by kernel_rfl
@[go_sem] theorem ip129 : isPtrT Tryd.prog 129 = true := by kernel_rfl
@[go_sem] theorem ze129 : zeroOf Tryd.prog 129 = some (.pointer none) := by kernel_rfl
@[go_sem] theorem sz130 : szOf Tryd.prog 130 = some 1 := by kernel_rfl
@[go_sem] theorem ag130 : aggOf Tryd.prog 130 = some false := by kernel_rfl
@[go_sem] theorem es130 : elemS Tryd.prog 130 = none := by kernel_rfl
@[go_sem] theorem ha130 : hasT Tryd.prog 130 = true := by kernel_rfl
@[go_sem] theorem ic130 : isIfc Tryd.prog 130 = false := by kernel_rfl
@[go_sem] theorem by130 : bytesOf Tryd.prog 130 = some 8 := by kernel_rfl
@[go_sem] theorem ze130 : zeroOf Tryd.prog 130 = some .nilFunc := by kernel_rfl
@[go_sem] theorem sz131 : szOf Tryd.prog 131 = some 1 := by kernel_rfl
@[go_sem] theorem ag131 : aggOf Tryd.prog 131 = some false := by kernel_rfl
@[go_sem] theorem es131 : elemS Tryd.prog 131 = none := by kernel_rfl
@[go_sem] theorem ha131 : hasT Tryd.prog 131 = true := by kernel_rfl
@[go_sem] theorem ic131 : isIfc Tryd.prog 131 = false := by kernel_rfl
@[go_sem] theorem by131 : bytesOf Tryd.prog 131 = some 8 := by kernel_rfl
@[go_sem] theorem ze131 : zeroOf Tryd.prog 131 = some .nilFunc := by kernel_rfl
@[go_sem] theorem sz132 : szOf Tryd.prog 132 = some 1 := by kernel_rfl
@[go_sem] theorem ag132 : aggOf Tryd.prog 132 = some false := by kernel_rfl
@[go_sem] theorem es132 : elemS Tryd.prog 132 = none := by kernel_rfl
@[go_sem] theorem ha132 : hasT Tryd.prog 132 = true := by kernel_rfl
@[go_sem] theorem ic132 : isIfc Tryd.prog 132 = false := by kernel_rfl
@[go_sem] theorem by132 : bytesOf Tryd.prog 132 = some 8 := by kernel_rfl
@[go_sem] theorem ze132 : zeroOf Tryd.prog 132 = some .nilFunc := by kernel_rfl
@[go_sem] theorem sz133 : szOf Tryd.prog 133 = some 1 := by kernel_rfl
@[go_sem] theorem ag133 : aggOf Tryd.prog 133 = some false := by kernel_rfl
@[go_sem] theorem es133 : elemS Tryd.prog 133 = none := by kernel_rfl
@[go_sem] theorem ha133 : hasT Tryd.prog 133 = true := by kernel_rfl
@[go_sem] theorem ic133 : isIfc Tryd.prog 133 = false := by kernel_rfl
@[go_sem] theorem by133 : bytesOf Tryd.prog 133 = some 8 := by kernel_rfl
@[go_sem] theorem ip133 : isPtrT Tryd.prog 133 = true := by kernel_rfl
@[go_sem] theorem ze133 : zeroOf Tryd.prog 133 = some (.pointer none) := by kernel_rfl
@[go_sem] theorem sz134 : szOf Tryd.prog 134 = some 1 := by kernel_rfl
@[go_sem] theorem ag134 : aggOf Tryd.prog 134 = some false := by kernel_rfl
@[go_sem] theorem es134 : elemS Tryd.prog 134 = none := by kernel_rfl
@[go_sem] theorem ha134 : hasT Tryd.prog 134 = true := by kernel_rfl
@[go_sem] theorem ic134 : isIfc Tryd.prog 134 = false := by kernel_rfl
@[go_sem] theorem by134 : bytesOf Tryd.prog 134 = some 0 := by kernel_rfl
@[go_sem] theorem sz135 : szOf Tryd.prog 135 = some 1 := by kernel_rfl
@[go_sem] theorem ag135 : aggOf Tryd.prog 135 = some false := by kernel_rfl
@[go_sem] theorem es135 : elemS Tryd.prog 135 = none := by kernel_rfl
@[go_sem] theorem ha135 : hasT Tryd.prog 135 = true := by kernel_rfl
@[go_sem] theorem ic135 : isIfc Tryd.prog 135 = false := by kernel_rfl
@[go_sem] theorem by135 : bytesOf Tryd.prog 135 = some 8 := by kernel_rfl
@[go_sem] theorem ze135 : zeroOf Tryd.prog 135 = some .nilFunc := by kernel_rfl
@[go_sem] theorem sz136 : szOf Tryd.prog 136 = some 1 := by kernel_rfl
@[go_sem] theorem ag136 : aggOf Tryd.prog 136 = some false := by kernel_rfl
@[go_sem] theorem es136 : elemS Tryd.prog 136 = none := by kernel_rfl
@[go_sem] theorem ha136 : hasT Tryd.prog 136 = true := by kernel_rfl
@[go_sem] theorem ic136 : isIfc Tryd.prog 136 = false := by kernel_rfl
@[go_sem] theorem by136 : bytesOf Tryd.prog 136 = some 8 := by kernel_rfl
@[go_sem] theorem ze136 : zeroOf Tryd.prog 136 = some .nilFunc := by kernel_rfl
@[go_sem] theorem sz137 : szOf Tryd.prog 137 = some 1 := by kernel_rfl
@[go_sem] theorem ag137 : aggOf Tryd.prog 137 = some false := by kernel_rfl
@[go_sem] theorem es137 : elemS Tryd.prog 137 = none := by kernel_rfl
@[go_sem] theorem ha137 : hasT Tryd.prog 137 = true := by kernel_rfl
@[go_sem] theorem ic137 : isIfc Tryd.prog 137 = false := by kernel_rfl
@[go_sem] theorem by137 : bytesOf Tryd.prog 137 = some 8 := by kernel_rfl
@[go_sem] theorem ze137 : zeroOf Tryd.prog 137 = some .nilFunc := by kernel_rfl
@[go_sem] theorem sz138 : szOf Tryd.prog 138 = some 1 := by kernel_rfl
@[go_sem] theorem ag138 : aggOf Tryd.prog 138 = some false := by kernel_rfl
@[go_sem] theorem es138 : elemS Tryd.prog 138 = none := by kernel_rfl
@[go_sem] theorem ha138 : hasT Tryd.prog 138 = true := by kernel_rfl
@[go_sem] theorem ic138 : isIfc Tryd.prog 138 = false := by kernel_rfl
@[go_sem] theorem by138 : bytesOf Tryd.prog 138 = some 8 := by kernel_rfl
@[go_sem] theorem ze138 : zeroOf Tryd.prog 138 = some .nilFunc := by kernel_rfl
@[go_sem] theorem sz139 : szOf Tryd.prog 139 = some 1 := by kernel_rfl
@[go_sem] theorem ag139 : aggOf Tryd.prog 139 = some false := by kernel_rfl
@[go_sem] theorem es139 : elemS Tryd.prog 139 = some 3 := by kernel_rfl
@[go_sem] theorem ha139 : hasT Tryd.prog 139 = true := by kernel_rfl
@[go_sem] theorem ic139 : isIfc Tryd.prog 139 = false := by kernel_rfl
@[go_sem] theorem by139 : bytesOf Tryd.prog 139 = some 24 := by kernel_rfl
@[go_sem] theorem ze139 : zeroOf Tryd.prog 139 = some (.slice none 0 0) := by kernel_rfl
@[go_sem] theorem sz140 : szOf Tryd.prog 140 = some 24 := by kernel_rfl
@[go_sem] theorem ag140 : aggOf Tryd.prog 140 = some true := by kernel_rfl
@[go_sem] theorem es140 : elemS Tryd.prog 140 = none := by kernel_rfl
@[go_sem] theorem ea140 : elemA Tryd.prog 140 = some (24, 5) := by kernel_rfl
@[go_sem] theorem ha140 : hasT Tryd.prog 140 = true := by kernel_rfl
@[go_sem] theorem ic140 : isIfc Tryd.prog 140 = false := by kernel_rfl
@[go_sem] theorem by140 : bytesOf Tryd.prog 140 = some 24 := by kernel_rfl
@[go_sem] theorem ze140 : zeroOf Tryd.prog 140 = some (.agg #[(.int .u8 0), (.int .u8 0), (.int .u8 0), (.int .u8 0), (.int .u8 0), (.int .u8 0), (.int .u8 0), (.int .u8 0), (.int .u8 0), (.int .u8 0), (.int .u8 0), (.int .u8 0), (.int .u8 0), (.int .u8 0), (.int .u8 0), (.int .u8 0), (.int .u8 0), (.int .u8 0), (.int .u8 0), (.int .u8 0), (.int .u8 0), (.int .u8 0), (.int .u8 0), (.int .u8 0)]) := by kernel_rfl
@[go_sem] theorem sz141 : szOf Tryd.prog 141 = some 1 := by kernel_rfl
@[go_sem] theorem ag141 : aggOf Tryd.prog 141 = some false := by kernel_rfl
@[go_sem] theorem es141 : elemS Tryd.prog 141 = none := by kernel_rfl
@[go_sem] theorem ha141 : hasT Tryd.prog 141 = true := by kernel_rfl
@[go_sem] theorem ic141 : isIfc Tryd.prog 141 = false := by kernel_rfl
@[go_sem] theorem by141 : bytesOf Tryd.prog 141 = some 8 := by kernel_rfl
@[go_sem] theorem ze141 : zeroOf Tryd.prog 141 = some .nilFunc := by kernel_rfl
@[go_sem] theorem sz142 : szOf Tryd.prog 142 = some 1 := by kernel_rfl
@[go_sem] theorem ag142 : aggOf Tryd.prog 142 = some false := by kernel_rfl
@[go_sem] theorem es142 : elemS Tryd.prog 142 = some 5 := by kernel_rfl
@[go_sem] theorem ha142 : hasT Tryd.prog 142 = true := by kernel_rfl
@[go_sem] theorem ic142 : isIfc Tryd.prog 142 = false := by kernel_rfl
@[go_sem] theorem by142 : bytesOf Tryd.prog 142 = some 24 := by kernel_rfl
@[go_sem] theorem bt142 : isBytesT Tryd.prog 142 = true := by kernel_rfl
@[go_sem] theorem ze142 : zeroOf Tryd.prog 142 = some (.slice none 0 0) := by kernel_rfl
@[go_sem] theorem sz143 : szOf Tryd.prog 143 = some 1 := by kernel_rfl
@[go_sem] theorem ag143 : aggOf Tryd.prog 143 = some false := by kernel_rfl
@[go_sem] theorem es143 : elemS Tryd.prog 143 = none := by kernel_rfl
@[go_sem] theorem ha143 : hasT Tryd.prog 143 = true := by kernel_rfl
@[go_sem] theorem ic143 : isIfc Tryd.prog 143 = false := by kernel_rfl
@[go_sem] theorem by143 : bytesOf Tryd.prog 143 = some 0 := by kernel_rfl
@[go_sem] theorem sz144 : szOf Tryd.prog 144 = some 1 := by kernel_rfl
@[go_sem] theorem ag144 : aggOf Tryd.prog 144 = some false := by kernel_rfl
@[go_sem] theorem es144 : elemS Tryd.prog 144 = none := by kernel_rfl
@[go_sem] theorem ha144 : hasT Tryd.prog 144 = true := by kernel_rfl
@[go_sem] theorem ic144 : isIfc Tryd.prog 144 = false := by kernel_rfl
@[go_sem] theorem by144 : bytesOf Tryd.prog 144 = some 8 := by kernel_rfl
@[go_sem] theorem ze144 : zeroOf Tryd.prog 144 = some .nilFunc := by kernel_rfl
@[go_sem] theorem sz145 : szOf Tryd.prog 145 = some 1 := by kernel_rfl
@[go_sem] theorem ag145 : aggOf Tryd.prog 145 = some false := by kernel_rfl
@[go_sem] theorem es145 : elemS Tryd.prog 145 = none := by kernel_rfl
@[go_sem] theorem ha145 : hasT Tryd.prog 145 = true := by kernel_rfl
@[go_sem] theorem ic145 : isIfc Tryd.prog 145 = false := by kernel_rfl
@[go_sem] theorem by145 : bytesOf Tryd.prog 145 = some 8 := by kernel_rfl
@[go_sem] theorem ze145 : zeroOf Tryd.prog 145 = some .nilFunc := by kernel_rfl
@[go_sem] theorem sz146 : szOf Tryd.prog 146 = some 1 := by kernel_rfl
@[go_sem] theorem ag146 : aggOf Tryd.prog 146 = some false := by kernel_rfl
@[go_sem] theorem es146 : elemS Tryd.prog 146 = none := by kernel_rfl
@[go_sem] theorem ha146 : hasT Tryd.prog 146 = true := by kernel_rfl
@[go_sem] theorem ic146 : isIfc Tryd.prog 146 = false := by kernel_rfl
@[go_sem] theorem by146 : bytesOf Tryd.prog 146 = some 8 := by kernel_rfl
@[go_sem] theorem ze146 : zeroOf Tryd.prog 146 = some .nilFunc := by kernel_rfl
@[go_sem] theorem sz147 : szOf Tryd.prog 147 = some 20 := by kernel_rfl
@[go_sem] theorem ag147 : aggOf Tryd.prog 147 = some true := by kernel_rfl
@[go_sem] theorem es147 : elemS Tryd.prog 147 = none := by kernel_rfl
@[go_sem] theorem ea147 : elemA Tryd.prog 147 = some (20, 109) := by kernel_rfl
@[go_sem] theorem ha147 : hasT Tryd.prog 147 = true := by kernel_rfl
@[go_sem] theorem ic147 : isIfc Tryd.prog 147 = false := by kernel_rfl
@[go_sem] theorem by147 : bytesOf Tryd.prog 147 = some 160 := by kernel_rfl
@[go_sem] theorem ze147 : zeroOf Tryd.prog 147 = some (.agg #[(.int .u64 0), (.int .u64 0), (.int .u64 0), (.int .u64 0), (.int .u64 0), (.int .u64 0), (.int .u64 0), (.int .u64 0), (.int .u64 0), (.int .u64 0), (.int .u64 0), (.int .u64 0), (.int .u64 0), (.int .u64 0), (.int .u64 0), (.int .u64 0), (.int .u64 0), (.int .u64 0), (.int .u64 0), (.int .u64 0)]) := by kernel_rfl
@[go_sem] theorem sz148 : szOf Tryd.prog 148 = some 65 := by kernel_rfl
@[go_sem] theorem ag148 : aggOf Tryd.prog 148 = some true := by kernel_rfl
@[go_sem] theorem es148 : elemS Tryd.prog 148 = none := by kernel_rfl
@[go_sem] theorem ea148 : elemA Tryd.prog 148 = some (65, 5) := by kernel_rfl
@[go_sem] theorem ha148 : hasT Tryd.prog 148 = true := by kernel_rfl
@[go_sem] theorem ic148 : isIfc Tryd.prog 148 = false := by kernel_rfl
@[go_sem] theorem by148 : bytesOf Tryd.prog 148 = some 65 := by kernel_rfl
@[go_sem] theorem ze148 : zeroOf Tryd.prog 148 = some (.agg #[(.int .u8 0), (.int .u8 0), (.int .u8 0), (.int .u8 0), (.int .u8 0), (.int .u8 0), (.int .u8 0), (.int .u8 0), (.int .u8 0), (.int .u8 0), (.int .u8 0), (.int .u8 0), (.int .u8 0), (.int .u8 0), (.int .u8 0), (.int .u8 0), (.int .u8 0), (.int .u8 0), (.int .u8 0), (.int .u8 0), (.int .u8 0), (.int .u8 0), (.int .u8 0), (.int .u8 0), (.int .u8 0), (.int .u8 0), (.int .u8 0), (.int .u8 0), (.int .u8 0), (.int .u8 0), (.int .u8 0), (.int .u8 0), (.int .u8 0), (.int .u8 0), (.int .u8 0), (.int .u8 0), (.int .u8 0), (.int .u8 0), (.int .u8 0), (.int .u8 0), (.int .u8 0), (.int .u8 0), (.int .u8 0), (.int .u8 0), (.int .u8 0), (.int .u8 0), (.int .u8 0), (.int .u8 0), (.int .u8 0), (.int .u8 0), (.int .u8 0), (.int .u8 0), (.int .u8 0), (.int .u8 0), (.int .u8 0), (.int .u8 0), (.int .u8 0), (.int .u8 0), (.int .u8 0), (.int .u8 0), (.int .u8 0), (.int .u8 0), (.int .u8 0), (.int .u8 0), (.int .u8 0)]) := by kernel_rfl
@[go_sem] theorem sz149 : szOf Tryd.prog 149 = some 1 := by kernel_rfl
@[go_sem] theorem ag149 : aggOf Tryd.prog 149 = some false := by kernel_rfl
@[go_sem] theorem es149 : elemS Tryd.prog 149 = none := by kernel_rfl
@[go_sem] theorem ha149 : hasT Tryd.prog 149 = true := by kernel_rfl
@[go_sem] theorem ic149 : isIfc Tryd.prog 149 = false := by kernel_rfl
@[go_sem] theorem by149 : bytesOf Tryd.prog 149 = some 8 := by kernel_rfl
@[go_sem] theorem ze149 : zeroOf Tryd.prog 149 = some .nilFunc := by kernel_rfl
@[go_sem] theorem sz150 : szOf Tryd.prog 150 = some 32 := by kernel_rfl
@[go_sem] theorem ag150 : aggOf Tryd.prog 150 = some true := by kernel_rfl
@[go_sem] theorem es150 : elemS Tryd.prog 150 = none := by kernel_rfl
@[go_sem] theorem ea150 : elemA Tryd.prog 150 = some (32, 5) := by kernel_rfl
@[go_sem] theorem ha150 : hasT Tryd.prog 150 = true := by kernel_rfl
@[go_sem] theorem ic150 : isIfc Tryd.prog 150 = false := by kernel_rfl
@[go_sem] theorem by150 : bytesOf Tryd.prog 150 = some 32 := by kernel_rfl
@[go_sem] theorem ze150 : zeroOf Tryd.prog 150 = some (.agg #[(.int .u8 0), (.int .u8 0), (.int .u8 0), (.int .u8 0), (.int .u8 0), (.int .u8 0), (.int .u8 0), (.int .u8 0), (.int .u8 0), (.int .u8 0), (.int .u8 0), (.int .u8 0), (.int .u8 0), (.int .u8 0), (.int .u8 0), (.int .u8 0), (.int .u8 0), (.int .u8 0), (.int .u8 0), (.int .u8 0), (.int .u8 0), (.int .u8 0), (.int .u8 0), (.int .u8 0), (.int .u8 0), (.int .u8 0), (.int .u8 0), (.int .u8 0), (.int .u8 0), (.int .u8 0), (.int .u8 0), (.int .u8 0)]) := by kernel_rfl
@[go_sem] theorem sz151 : szOf Tryd.prog 151 = some 64 := by kernel_rfl
@[go_sem] theorem ag151 : aggOf Tryd.prog 151 = some true := by kernel_rfl
@[go_sem] theorem es151 : elemS Tryd.prog 151 = none := by kernel_rfl
@[go_sem] theorem ea151 : elemA Tryd.prog 151 = some (64, 5) := by kernel_rfl
@[go_sem] theorem ha151 : hasT Tryd.prog 151 = true := by kernel_rfl
@[go_sem] theorem ic151 : isIfc Tryd.prog 151 = false := by kernel_rfl
@[go_sem] theorem by151 : bytesOf Tryd.prog 151 = some 64 := by kernel_rfl
@[go_sem] theorem ze151 : zeroOf Tryd.prog 151 = some (.agg #[(.int .u8 0), (.int .u8 0), (.int .u8 0), (.int .u8 0), (.int .u8 0), (.int .u8 0), (.int .u8 0), (.int .u8 0), (.int .u8 0), (.int .u8 0), (.int .u8 0), (.int .u8 0), (.int .u8 0), (.int .u8 0), (.int .u8 0), (.int .u8 0), (.int .u8 0), (.int .u8 0), (.int .u8 0), (.int .u8 0), (.int .u8 0), (.int .u8 0), (.int .u8 0), (.int .u8 0), (.int .u8 0), (.int .u8 0), (.int .u8 0), (.int .u8 0), (.int .u8 0), (.int .u8 0), (.int .u8 0), (.int .u8 0), (.int .u8 0), (.int .u8 0), (.int .u8 0), (.int .u8 0), (.int .u8 0), (.int .u8 0), (.int .u8 0), (.int .u8 0), (.int .u8 0), (.int .u8 0), (.int .u8 0), (.int .u8 0), (.int .u8 0), (.int .u8 0), (.int .u8 0), (.int .u8 0), (.int .u8 0), (.int .u8 0), (.int .u8 0), (.int .u8 0), (.int .u8 0), (.int .u8 0), (.int .u8 0), (.int .u8 0), (.int .u8 0), (.int .u8 0), (.int .u8 0), (.int .u8 0), (.int .u8 0), (.int .u8 0), (.int .u8 0), (.int .u8 0)]) := by kernel_rfl
@[go_sem] theorem sz152 : szOf Tryd.prog 152 = some 1 := by kernel_rfl
@[go_sem] theorem ag152 : aggOf Tryd.prog 152 = some false := by kernel_rfl
@[go_sem] theorem es152 : elemS Tryd.prog 152 = none := by kernel_rfl
@[go_sem] theorem ha152 : hasT Tryd.prog 152 = true := by kernel_rfl
@[go_sem] theorem ic152 : isIfc Tryd.prog 152 = false := by kernel_rfl
@[go_sem] theorem by152 : bytesOf Tryd.prog 152 = some 8 := by kernel_rfl
@[go_sem] theorem ze152 : zeroOf Tryd.prog 152 = some .nilFunc := by kernel_rfl
@[go_sem] theorem sz153 : szOf Tryd.prog 153 = some 4 := by kernel_rfl
@[go_sem] theorem ag153 : aggOf Tryd.prog 153 = some true := by kernel_rfl
@[go_sem] theorem fl153_0 : fldOf Tryd.prog 153 0 = some (0, 17) := by kernel_rfl
@[go_sem] theorem fl153_1 : fldOf Tryd.prog 153 1 = some (1, 17) := by kernel_rfl
@[go_sem] theorem fl153_2 : fldOf Tryd.prog 153 2 = some (2, 17) := by kernel_rfl
@[go_sem] theorem fl153_3 : fldOf Tryd.prog 153 3 = some (3, 9) := by kernel_rfl
@[go_sem] theorem es153 : elemS Tryd.prog 153 = none := by kernel_rfl
@[go_sem] theorem ha153 : hasT Tryd.prog 153 = true := by kernel_rfl
@[go_sem] theorem ic153 : isIfc Tryd.prog 153 = false := by kernel_rfl
@[go_sem] theorem pl153 : placesOf Tryd.prog 153 = some [(0, 1), (1, 1), (2, 1), (3, 1)] := by kernel_rfl
@[go_sem] theorem by153 : bytesOf Tryd.prog 153 = some 40 := by kernel_rfl
@[go_sem] theorem ze153 : zeroOf Tryd.prog 153 = some (.agg #[(.pointer none), (.pointer none), (.pointer none), (.string ByteArray.empty)]) := by kernel_rfl
@[go_sem] theorem sz154 : szOf Tryd.prog 154 = some 4 := by kernel_rfl
@[go_sem] theorem ag154 : aggOf Tryd.prog 154 = some true := by kernel_rfl
@[go_sem] theorem fl154_0 : fldOf Tryd.prog 154 0 = some (0, 17) := by kernel_rfl
@[go_sem] theorem fl154_1 : fldOf Tryd.prog 154 1 = some (1, 17) := by kernel_rfl
@[go_sem] theorem fl154_2 : fldOf Tryd.prog 154 2 = some (2, 17) := by kernel_rfl
@[go_sem] theorem fl154_3 : fldOf Tryd.prog 154 3 = some (3, 9) := by kernel_rfl
@[go_sem] theorem es154 : elemS Tryd.prog 154 = none := by kernel_rfl
@[go_sem] theorem ha154 : hasT Tryd.prog 154 = true := by kernel_rfl
@[go_sem] theorem ic154 : isIfc Tryd.prog 154 = false := by kernel_rfl
@[go_sem] theorem pl154 : placesOf Tryd.prog 154 = some [(0, 1), (1, 1), (2, 1), (3, 1)] := by kernel_rfl
@[go_sem] theorem by154 : bytesOf Tryd.prog 154 = some 40 := by kernel_rfl
@[go_sem] theorem ze154 : zeroOf Tryd.prog 154 = some (.agg #[(.pointer none), (.pointer none), (.pointer none), (.string ByteArray.empty)]) := by kernel_rfl
@[go_sem] theorem sz155 : szOf Tryd.prog 155 = some 0 := by kernel_rfl
@[go_sem] theorem ag155 : aggOf Tryd.prog 155 = some true := by kernel_rfl
@[go_sem] theorem es155 : elemS Tryd.prog 155 = none := by kernel_rfl
@[go_sem] theorem ea155 : elemA Tryd.prog 155 = some (0, 16) := by kernel_rfl
@[go_sem] theorem ha155 : hasT Tryd.prog 155 = true := by kernel_rfl
@[go_sem] theorem ic155 : isIfc Tryd.prog 155 = false := by kernel_rfl
@[go_sem] theorem by155 : bytesOf Tryd.prog 155 = some 0 := by kernel_rfl
@[go_sem] theorem sz156 : szOf Tryd.prog 156 = some 0 := by kernel_rfl
@[go_sem] theorem ag156 : aggOf Tryd.prog 156 = some true := by kernel_rfl
@[go_sem] theorem fl156_0 : fldOf Tryd.prog 156 0 = some (0, 155) := by kernel_rfl
@[go_sem] theorem es156 : elemS Tryd.prog 156 = none := by kernel_rfl
@[go_sem] theorem ha156 : hasT Tryd.prog 156 = true := by kernel_rfl
@[go_sem] theorem ic156 : isIfc Tryd.prog 156 = false := by kernel_rfl
@[go_sem] theorem pl156 : placesOf Tryd.prog 156 = some [(0, 0)] := by kernel_rfl
@[go_sem] theorem by156 : bytesOf Tryd.prog 156 = some 0 := by kernel_rfl
@[go_sem] theorem sz157 : szOf Tryd.prog 157 = some 0 := by kernel_rfl
@[go_sem] theorem ag157 : aggOf Tryd.prog 157 = some true := by kernel_rfl
@[go_sem] theorem fl157_0 : fldOf Tryd.prog 157 0 = some (0, 155) := by kernel_rfl
@[go_sem] theorem es157 : elemS Tryd.prog 157 = none := by kernel_rfl
@[go_sem] theorem ha157 : hasT Tryd.prog 157 = true := by kernel_rfl
@[go_sem] theorem ic157 : isIfc Tryd.prog 157 = false := by kernel_rfl
@[go_sem] theorem pl157 : placesOf Tryd.prog 157 = some [(0, 0)] := by kernel_rfl
@[go_sem] theorem by157 : bytesOf Tryd.prog 157 = some 0 := by kernel_rfl
@[go_sem] theorem sz158 : szOf Tryd.prog 158 = some 1 := by kernel_rfl
@[go_sem] theorem ag158 : aggOf Tryd.prog 158 = some false := by kernel_rfl
@[go_sem] theorem es158 : elemS Tryd.prog 158 = none := by kernel_rfl
@[go_sem] theorem ha158 : hasT Tryd.prog 158 = true := by kernel_rfl
@[go_sem] theorem ic158 : isIfc Tryd.prog 158 = false := by kernel_rfl
@[go_sem] theorem by158 : bytesOf Tryd.prog 158 = some 8 := by kernel_rfl
@[go_sem] theorem ze158 : zeroOf Tryd.prog 158 = some .nilFunc := by kernel_rfl
@[go_sem] theorem sz159 : szOf Tryd.prog 159 = some 1 := by kernel_rfl
@[go_sem] theorem ag159 : aggOf Tryd.prog 159 = some false := by kernel_rfl
@[go_sem] theorem es159 : elemS Tryd.prog 159 = none := by kernel_rfl
@[go_sem] theorem ha159 : hasT Tryd.prog 159 = true := by kernel_rfl
@[go_sem] theorem ic159 : isIfc Tryd.prog 159 = false := by kernel_rfl
@[go_sem] theorem io159 : intOfT Tryd.prog 159 = some .u8 := by kernel_rfl
@[go_sem] theorem by159 : bytesOf Tryd.prog 159 = some 1 := by kernel_rfl
@[go_sem] theorem ze159 : zeroOf Tryd.prog 159 = some (.int .u8 0) := by kernel_rfl
@[go_sem] theorem sz160 : szOf Tryd.prog 160 = some 1 := by kernel_rfl
@[go_sem] theorem ag160 : aggOf Tryd.prog 160 = some false := by kernel_rfl
@[go_sem] theorem es160 : elemS Tryd.prog 160 = none := by kernel_rfl
@[go_sem] theorem ha160 : hasT Tryd.prog 160 = true := by kernel_rfl
@[go_sem] theorem ic160 : isIfc Tryd.prog 160 = false := by kernel_rfl
@[go_sem] theorem io160 : intOfT Tryd.prog 160 = some .u8 := by kernel_rfl
@[go_sem] theorem by160 : bytesOf Tryd.prog 160 = some 1 := by kernel_rfl
@[go_sem] theorem ze160 : zeroOf Tryd.prog 160 = some (.int .u8 0) := by kernel_rfl
@[go_sem] theorem sz161 : szOf Tryd.prog 161 = some 1 := by kernel_rfl
@[go_sem] theorem ag161 : aggOf Tryd.prog 161 = some false := by kernel_rfl
@[go_sem] theorem es161 : elemS Tryd.prog 161 = none := by kernel_rfl
@[go_sem] theorem ha161 : hasT Tryd.prog 161 = true := by kernel_rfl
@[go_sem] theorem ic161 : isIfc Tryd.prog 161 = false := by kernel_rfl
@[go_sem] theorem by161 : bytesOf Tryd.prog 161 = some 8 := by kernel_rfl
@[go_sem] theorem ze161 : zeroOf Tryd.prog 161 = some .nilFunc := by kernel_rfl
@[go_sem] theorem sz162 : szOf Tryd.prog 162 = some 1 := by kernel_rfl
@[go_sem] theorem ag162 : aggOf Tryd.prog 162 = some false := by kernel_rfl
@[go_sem] theorem es162 : elemS Tryd.prog 162 = none := by kernel_rfl
@[go_sem] theorem ha162 : hasT Tryd.prog 162 = true := by kernel_rfl
@[go_sem] theorem ic162 : isIfc Tryd.prog 162 = false := by kernel_rfl
@[go_sem] theorem by162 : bytesOf Tryd.prog 162 = some 8 := by kernel_rfl
@[go_sem] theorem ip162 : isPtrT Tryd.prog 162 = true := by kernel_rfl
@[go_sem] theorem ze162 : zeroOf Tryd.prog 162 = some (.pointer none) := by kernel_rfl
@[go_sem] theorem sz163 : szOf Tryd.prog 163 = some 1 := by kernel_rfl
@[go_sem] theorem ag163 : aggOf Tryd.prog 163 = some false := by kernel_rfl
@[go_sem] theorem es163 : elemS Tryd.prog 163 = none := by kernel_rfl
@[go_sem] theorem ha163 : hasT Tryd.prog 163 = true := by kernel_rfl
@[go_sem] theorem ic163 : isIfc Tryd.prog 163 = false := by kernel_rfl
@[go_sem] theorem io163 : intOfT Tryd.prog 163 = some .i32 := by kernel_rfl
@[go_sem] theorem by163 : bytesOf Tryd.prog 163 = some 4 := by kernel_rfl
@[go_sem] theorem ze163 : zeroOf Tryd.prog 163 = some (.int .i32 0) := by kernel_rfl
@[go_sem] theorem sz164 : szOf Tryd.prog 164 = some 1 := by kernel_rfl
@[go_sem] theorem ag164 : aggOf Tryd.prog 164 = some false := by kernel_rfl
@[go_sem] theorem es164 : elemS Tryd.prog 164 = none := by kernel_rfl
@[go_sem] theorem ha164 : hasT Tryd.prog 164 = true := by kernel_rfl
@[go_sem] theorem ic164 : isIfc Tryd.prog 164 = false := by kernel_rfl
@[go_sem] theorem io164 : intOfT Tryd.prog 164 = some .i32 := by kernel_rfl
@[go_sem] theorem by164 : bytesOf Tryd.prog 164 = some 4 := by kernel_rfl
@[go_sem] theorem ze164 : zeroOf Tryd.prog 164 = some (.int .i32 0) := by kernel_rfl
@[go_sem] theorem sz165 : szOf Tryd.prog 165 = some 11 := by kernel_rfl
@[go_sem] theorem ag165 : aggOf Tryd.prog 165 = some true := by kernel_rfl
@[go_sem] theorem fl165_0 : fldOf Tryd.prog 165 0 = some (0, 12) := by kernel_rfl
@[go_sem] theorem fl165_1 : fldOf Tryd.prog 165 1 = some (1, 12) := by kernel_rfl
@[go_sem] theorem fl165_2 : fldOf Tryd.prog 165 2 = some (2, 107) := by kernel_rfl
@[go_sem] theorem fl165_3 : fldOf Tryd.prog 165 3 = some (3, 159) := by kernel_rfl
@[go_sem] theorem fl165_4 : fldOf Tryd.prog 165 4 = some (4, 5) := by kernel_rfl
@[go_sem] theorem fl165_5 : fldOf Tryd.prog 165 5 = some (5, 5) := by kernel_rfl
@[go_sem] theorem fl165_6 : fldOf Tryd.prog 165 6 = some (6, 160) := by kernel_rfl
@[go_sem] theorem fl165_7 : fldOf Tryd.prog 165 7 = some (7, 161) := by kernel_rfl
@[go_sem] theorem fl165_8 : fldOf Tryd.prog 165 8 = some (8, 162) := by kernel_rfl
@[go_sem] theorem fl165_9 : fldOf Tryd.prog 165 9 = some (9, 163) := by kernel_rfl
@[go_sem] theorem fl165_10 : fldOf Tryd.prog 165 10 = some (10, 164) := by kernel_rfl
@[go_sem] theorem es165 : elemS Tryd.prog 165 = none := by kernel_rfl
@[go_sem] theorem ha165 : hasT Tryd.prog 165 = true := by kernel_rfl
@[go_sem] theorem ic165 : isIfc Tryd.prog 165 = false := by kernel_rfl
@[go_sem] theorem pl165 : placesOf Tryd.prog 165 = some [(0, 1), (1, 1), (2, 1), (3, 1), (4, 1), (5, 1), (6, 1), (7, 1), (8, 1), (9, 1), (10, 1)] := by kernel_rfl
@[go_sem] theorem by165 : bytesOf Tryd.prog 165 = some 48 := by kernel_rfl
@[go_sem] theorem ze165 : zeroOf Tryd.prog 165 = some (.agg #[(.int .u64 0), (.int .u64 0), (.int .u32 0), (.int .u8 0), (.int .u8 0), (.int .u8 0), (.int .u8 0), .nilFunc, (.pointer none), (.int .i32 0), (.int .i32 0)]) := by kernel_rfl
@[go_sem] theorem sz166 : szOf Tryd.prog 166 = some 11 := by kernel_rfl
@[go_sem] theorem ag166 : aggOf Tryd.prog 166 = some true := by kernel_rfl
@[go_sem] theorem fl166_0 : fldOf Tryd.prog 166 0 = some (0, 12) := by kernel_rfl
@[go_sem] theorem fl166_1 : fldOf Tryd.prog 166 1 = some (1, 12) := by kernel_rfl
@[go_sem] theorem fl166_2 : fldOf Tryd.prog 166 2 = some (2, 107) := by kernel_rfl
@[go_sem] theorem fl166_3 : fldOf Tryd.prog 166 3 = some (3, 159) := by kernel_rfl
@[go_sem] theorem fl166_4 : fldOf Tryd.prog 166 4 = some (4, 5) := by kernel_rfl
@[go_sem] theorem fl166_5 : fldOf Tryd.prog 166 5 = some (5, 5) := by kernel_rfl
@[go_sem] theorem fl166_6 : fldOf Tryd.prog 166 6 = some (6, 160) := by kernel_rfl
@[go_sem] theorem fl166_7 : fldOf Tryd.prog 166 7 = some (7, 161) := by kernel_rfl
@[go_sem] theorem fl166_8 : fldOf Tryd.prog 166 8 = some (8, 162) := by kernel_rfl
@[go_sem] theorem fl166_9 : fldOf Tryd.prog 166 9 = some (9, 163) := by kernel_rfl
@[go_sem] theorem fl166_10 : fldOf Tryd.prog 166 10 = some (10, 164) := by kernel_rfl
@[go_sem] theorem es166 : elemS Tryd.prog 166 = none := by kernel_rfl
@[go_sem] theorem ha166 : hasT Tryd.prog 166 = true := by kernel_rfl
@[go_sem] theorem ic166 : isIfc Tryd.prog 166 = false := by kernel_rfl
@[go_sem] theorem pl166 : placesOf Tryd.prog 166 = some [(0, 1), (1, 1), (2, 1), (3, 1), (4, 1), (5, 1), (6, 1), (7, 1), (8, 1), (9, 1), (10, 1)] := by kernel_rfl
@[go_sem] theorem by166 : bytesOf Tryd.prog 166 = some 48 := by kernel_rfl
@[go_sem] theorem ze166 : zeroOf Tryd.prog 166 = some (.agg #[(.int .u64 0), (.int .u64 0), (.int .u32 0), (.int .u8 0), (.int .u8 0), (.int .u8 0), (.int .u8 0), .nilFunc, (.pointer none), (.int .i32 0), (.int .i32 0)]) := by kernel_rfl
@[go_sem] theorem sz167 : szOf Tryd.prog 167 = some 1 := by kernel_rfl
@[go_sem] theorem ag167 : aggOf Tryd.prog 167 = some false := by kernel_rfl
@[go_sem] theorem es167 : elemS Tryd.prog 167 = none := by kernel_rfl
@[go_sem] theorem ha167 : hasT Tryd.prog 167 = true := by kernel_rfl
@[go_sem] theorem ic167 : isIfc Tryd.prog 167 = false := by kernel_rfl
@[go_sem] theorem by167 : bytesOf Tryd.prog 167 = some 8 := by kernel_rfl
@[go_sem] theorem ze167 : zeroOf Tryd.prog 167 = some .nilFunc := by kernel_rfl
@[go_sem] theorem sz168 : szOf Tryd.prog 168 = some 1 := by kernel_rfl
@[go_sem] theorem ag168 : aggOf Tryd.prog 168 = some false := by kernel_rfl
@[go_sem] theorem es168 : elemS Tryd.prog 168 = none := by kernel_rfl
@[go_sem] theorem ha168 : hasT Tryd.prog 168 = true := by kernel_rfl
@[go_sem] theorem ic168 : isIfc Tryd.prog 168 = false := by kernel_rfl
@[go_sem] theorem by168 : bytesOf Tryd.prog 168 = some 8 := by kernel_rfl
@[go_sem] theorem ze168 : zeroOf Tryd.prog 168 = some (.pointer none) := by kernel_rfl
end Go.Proofs.T
