/- A part of the proof, under no conditions of its own: F10. -/
import Derived.Test.YtjhencaobpihnaaGreatDoorXE
import Derived.Lib.ItoaNum
import Derived.Test.YtjhencaobpihnaaGreatDoorProg
namespace Go.Proofs.T
open Go Go.Ab Go.RowKit

noncomputable def E : Ctx := { P := Tryz.prog, A := fun w => Lib.TabIs Tryz.prog w "internal/strconv.uint64pow10" .u64 Lib.pow10Tab, glob := fun _ => .any, hglob := fun _ _ _ _ _ _ => .any _, mixed := by kernel_rfl }
@[go_sem] theorem E_P : E.P = Tryz.prog := rfl
@[go_sem] theorem sz0 : szOf Tryz.prog 0 = some 1 := by kernel_rfl
@[go_sem] theorem ag0 : aggOf Tryz.prog 0 = some false := by kernel_rfl
@[go_sem] theorem es0 : elemS Tryz.prog 0 = none := by kernel_rfl
@[go_sem] theorem ha0 : hasT Tryz.prog 0 = true := by kernel_rfl
@[go_sem] theorem ic0 : isIfc Tryz.prog 0 = false := by kernel_rfl
@[go_sem] theorem by0 : bytesOf Tryz.prog 0 = some 0 := by kernel_rfl
@[go_sem] theorem sz1 : szOf Tryz.prog 1 = some 1 := by kernel_rfl
@[go_sem] theorem ag1 : aggOf Tryz.prog 1 = some false := by kernel_rfl
@[go_sem] theorem es1 : elemS Tryz.prog 1 = none := by kernel_rfl
@[go_sem] theorem ha1 : hasT Tryz.prog 1 = true := by kernel_rfl
@[go_sem] theorem ic1 : isIfc Tryz.prog 1 = false := by kernel_rfl
@[go_sem] theorem by1 : bytesOf Tryz.prog 1 = some 8 := by kernel_rfl
@[go_sem] theorem ze1 : zeroOf Tryz.prog 1 = some .nilFunc := by kernel_rfl
@[go_sem] theorem sz2 : szOf Tryz.prog 2 = some 1 := by kernel_rfl
@[go_sem] theorem ag2 : aggOf Tryz.prog 2 = some false := by kernel_rfl
@[go_sem] theorem es2 : elemS Tryz.prog 2 = none := by kernel_rfl
@[go_sem] theorem ha2 : hasT Tryz.prog 2 = true := by kernel_rfl
@[go_sem] theorem ic2 : isIfc Tryz.prog 2 = false := by kernel_rfl
@[go_sem] theorem io2 : intOfT Tryz.prog 2 = some .i64 := by kernel_rfl
@[go_sem] theorem by2 : bytesOf Tryz.prog 2 = some 8 := by kernel_rfl
@[go_sem] theorem ze2 : zeroOf Tryz.prog 2 = some (.int .i64 0) := by kernel_rfl
@[go_sem] theorem sz3 : szOf Tryz.prog 3 = some 1 := by kernel_rfl
@[go_sem] theorem ag3 : aggOf Tryz.prog 3 = some false := by kernel_rfl
@[go_sem] theorem es3 : elemS Tryz.prog 3 = none := by kernel_rfl
@[go_sem] theorem ha3 : hasT Tryz.prog 3 = true := by kernel_rfl
@[go_sem] theorem ic3 : isIfc Tryz.prog 3 = false := by kernel_rfl
@[go_sem] theorem io3 : intOfT Tryz.prog 3 = some .i64 := by kernel_rfl
@[go_sem] theorem by3 : bytesOf Tryz.prog 3 = some 8 := by kernel_rfl
@[go_sem] theorem ze3 : zeroOf Tryz.prog 3 = some (.int .i64 0) := by kernel_rfl
@[go_sem] theorem sz4 : szOf Tryz.prog 4 = some 1 := by kernel_rfl
@[go_sem] theorem ag4 : aggOf Tryz.prog 4 = some false := by kernel_rfl
@[go_sem] theorem es4 : elemS Tryz.prog 4 = none := by kernel_rfl
@[go_sem] theorem ha4 : hasT Tryz.prog 4 = true := by kernel_rfl
@[go_sem] theorem ic4 : isIfc Tryz.prog 4 = false := by kernel_rfl
@[go_sem] theorem by4 : bytesOf Tryz.prog 4 = some 1 := by kernel_rfl
@[go_sem] theorem ib4 : isBoolT Tryz.prog 4 = true := by kernel_rfl
@[go_sem] theorem ze4 : zeroOf Tryz.prog 4 = some (.bool false) := by kernel_rfl
@[go_sem] theorem sz5 : szOf Tryz.prog 5 = some 1 := by kernel_rfl
@[go_sem] theorem ag5 : aggOf Tryz.prog 5 = some false := by kernel_rfl
@[go_sem] theorem es5 : elemS Tryz.prog 5 = none := by kernel_rfl
@[go_sem] theorem ha5 : hasT Tryz.prog 5 = true := by kernel_rfl
@[go_sem] theorem ic5 : isIfc Tryz.prog 5 = false := by kernel_rfl
@[go_sem] theorem io5 : intOfT Tryz.prog 5 = some .u8 := by kernel_rfl
@[go_sem] theorem by5 : bytesOf Tryz.prog 5 = some 1 := by kernel_rfl
@[go_sem] theorem ze5 : zeroOf Tryz.prog 5 = some (.int .u8 0) := by kernel_rfl
@[go_sem] theorem sz6 : szOf Tryz.prog 6 = some 1 := by kernel_rfl
@[go_sem] theorem ag6 : aggOf Tryz.prog 6 = some false := by kernel_rfl
@[go_sem] theorem es6 : elemS Tryz.prog 6 = none := by kernel_rfl
@[go_sem] theorem ha6 : hasT Tryz.prog 6 = true := by kernel_rfl
@[go_sem] theorem ic6 : isIfc Tryz.prog 6 = false := by kernel_rfl
@[go_sem] theorem io6 : intOfT Tryz.prog 6 = some .u8 := by kernel_rfl
@[go_sem] theorem by6 : bytesOf Tryz.prog 6 = some 1 := by kernel_rfl
@[go_sem] theorem ze6 : zeroOf Tryz.prog 6 = some (.int .u8 0) := by kernel_rfl
@[go_sem] theorem sz7 : szOf Tryz.prog 7 = some 4 := by kernel_rfl
@[go_sem] theorem ag7 : aggOf Tryz.prog 7 = some true := by kernel_rfl
@[go_sem] theorem fl7_0 : fldOf Tryz.prog 7 0 = some (0, 2) := by kernel_rfl
@[go_sem] theorem fl7_1 : fldOf Tryz.prog 7 1 = some (1, 3) := by kernel_rfl
@[go_sem] theorem fl7_2 : fldOf Tryz.prog 7 2 = some (2, 4) := by kernel_rfl
@[go_sem] theorem fl7_3 : fldOf Tryz.prog 7 3 = some (3, 6) := by kernel_rfl
@[go_sem] theorem es7 : elemS Tryz.prog 7 = none := by kernel_rfl
@[go_sem] theorem ha7 : hasT Tryz.prog 7 = true := by kernel_rfl
@[go_sem] theorem ic7 : isIfc Tryz.prog 7 = false := by kernel_rfl
@[go_sem] theorem pl7 : placesOf Tryz.prog 7 = some [(0, 1), (1, 1), (2, 1), (3, 1)] := by kernel_rfl
@[go_sem] theorem by7 : bytesOf Tryz.prog 7 = some 24 := by kernel_rfl
@[go_sem] theorem ze7 : zeroOf Tryz.prog 7 = some (.agg #[(.int .i64 0), (.int .i64 0), (.bool false), (.int .u8 0)]) := by kernel_rfl
@[go_sem] theorem sz8 : szOf Tryz.prog 8 = some 4 := by kernel_rfl
@[go_sem] theorem ag8 : aggOf Tryz.prog 8 = some true := by kernel_rfl
@[go_sem] theorem fl8_0 : fldOf Tryz.prog 8 0 = some (0, 2) := by kernel_rfl
@[go_sem] theorem fl8_1 : fldOf Tryz.prog 8 1 = some (1, 3) := by kernel_rfl
@[go_sem] theorem fl8_2 : fldOf Tryz.prog 8 2 = some (2, 4) := by kernel_rfl
@[go_sem] theorem fl8_3 : fldOf Tryz.prog 8 3 = some (3, 6) := by kernel_rfl
@[go_sem] theorem es8 : elemS Tryz.prog 8 = none := by kernel_rfl
@[go_sem] theorem ha8 : hasT Tryz.prog 8 = true := by kernel_rfl
@[go_sem] theorem ic8 : isIfc Tryz.prog 8 = false := by kernel_rfl
@[go_sem] theorem pl8 : placesOf Tryz.prog 8 = some [(0, 1), (1, 1), (2, 1), (3, 1)] := by kernel_rfl
@[go_sem] theorem by8 : bytesOf Tryz.prog 8 = some 24 := by kernel_rfl
@[go_sem] theorem ze8 : zeroOf Tryz.prog 8 = some (.agg #[(.int .i64 0), (.int .i64 0), (.bool false), (.int .u8 0)]) := by kernel_rfl
@[go_sem] theorem sz9 : szOf Tryz.prog 9 = some 1 := by kernel_rfl
@[go_sem] theorem ag9 : aggOf Tryz.prog 9 = some false := by kernel_rfl
@[go_sem] theorem es9 : elemS Tryz.prog 9 = none := by kernel_rfl
@[go_sem] theorem ha9 : hasT Tryz.prog 9 = true := by kernel_rfl
@[go_sem] theorem st9 : isStr Tryz.prog 9 = true := by kernel_rfl
@[go_sem] theorem ic9 : isIfc Tryz.prog 9 = false := by kernel_rfl
@[go_sem] theorem by9 : bytesOf Tryz.prog 9 = some 16 := by kernel_rfl
@[go_sem] theorem ze9 : zeroOf Tryz.prog 9 = some (.string ByteArray.empty) := by kernel_rfl
@[go_sem] theorem sz10 : szOf Tryz.prog 10 = some 1 := by kernel_rfl
@[go_sem] theorem ag10 : aggOf Tryz.prog 10 = some false := by kernel_rfl
@[go_sem] theorem es10 : elemS Tryz.prog 10 = none := by kernel_rfl
@[go_sem] theorem ha10 : hasT Tryz.prog 10 = true := by kernel_rfl
@[go_sem] theorem st10 : isStr Tryz.prog 10 = true := by kernel_rfl
@[go_sem] theorem ic10 : isIfc Tryz.prog 10 = false := by kernel_rfl
@[go_sem] theorem by10 : bytesOf Tryz.prog 10 = some 16 := by kernel_rfl
@[go_sem] theorem ze10 : zeroOf Tryz.prog 10 = some (.string ByteArray.empty) := by kernel_rfl
@[go_sem] theorem sz11 : szOf Tryz.prog 11 = some 1 := by kernel_rfl
@[go_sem] theorem ag11 : aggOf Tryz.prog 11 = some false := by kernel_rfl
@[go_sem] theorem es11 : elemS Tryz.prog 11 = none := by kernel_rfl
@[go_sem] theorem ha11 : hasT Tryz.prog 11 = true := by kernel_rfl
@[go_sem] theorem st11 : isStr Tryz.prog 11 = true := by kernel_rfl
@[go_sem] theorem ic11 : isIfc Tryz.prog 11 = false := by kernel_rfl
@[go_sem] theorem by11 : bytesOf Tryz.prog 11 = some 16 := by kernel_rfl
@[go_sem] theorem ze11 : zeroOf Tryz.prog 11 = some (.string ByteArray.empty) := by kernel_rfl
@[go_sem] theorem sz12 : szOf Tryz.prog 12 = some 1 := by kernel_rfl
@[go_sem] theorem ag12 : aggOf Tryz.prog 12 = some false := by kernel_rfl
@[go_sem] theorem es12 : elemS Tryz.prog 12 = none := by kernel_rfl
@[go_sem] theorem ha12 : hasT Tryz.prog 12 = true := by kernel_rfl
@[go_sem] theorem ic12 : isIfc Tryz.prog 12 = false := by kernel_rfl
@[go_sem] theorem io12 : intOfT Tryz.prog 12 = some .u64 := by kernel_rfl
@[go_sem] theorem by12 : bytesOf Tryz.prog 12 = some 8 := by kernel_rfl
@[go_sem] theorem ze12 : zeroOf Tryz.prog 12 = some (.int .u64 0) := by kernel_rfl
@[go_sem] theorem sz13 : szOf Tryz.prog 13 = some 2 := by kernel_rfl
@[go_sem] theorem ag13 : aggOf Tryz.prog 13 = some true := by kernel_rfl
@[go_sem] theorem fl13_0 : fldOf Tryz.prog 13 0 = some (0, 9) := by kernel_rfl
@[go_sem] theorem fl13_1 : fldOf Tryz.prog 13 1 = some (1, 12) := by kernel_rfl
@[go_sem] theorem es13 : elemS Tryz.prog 13 = none := by kernel_rfl
@[go_sem] theorem ha13 : hasT Tryz.prog 13 = true := by kernel_rfl
@[go_sem] theorem ic13 : isIfc Tryz.prog 13 = false := by kernel_rfl
@[go_sem] theorem pl13 : placesOf Tryz.prog 13 = some [(0, 1), (1, 1)] := by kernel_rfl
@[go_sem] theorem by13 : bytesOf Tryz.prog 13 = some 24 := by kernel_rfl
@[go_sem] theorem ze13 : zeroOf Tryz.prog 13 = some (.agg #[(.string ByteArray.empty), (.int .u64 0)]) := by kernel_rfl
@[go_sem] theorem sz14 : szOf Tryz.prog 14 = some 2 := by kernel_rfl
@[go_sem] theorem ag14 : aggOf Tryz.prog 14 = some true := by kernel_rfl
@[go_sem] theorem fl14_0 : fldOf Tryz.prog 14 0 = some (0, 9) := by kernel_rfl
@[go_sem] theorem fl14_1 : fldOf Tryz.prog 14 1 = some (1, 12) := by kernel_rfl
@[go_sem] theorem es14 : elemS Tryz.prog 14 = none := by kernel_rfl
@[go_sem] theorem ha14 : hasT Tryz.prog 14 = true := by kernel_rfl
@[go_sem] theorem ic14 : isIfc Tryz.prog 14 = false := by kernel_rfl
@[go_sem] theorem pl14 : placesOf Tryz.prog 14 = some [(0, 1), (1, 1)] := by kernel_rfl
@[go_sem] theorem by14 : bytesOf Tryz.prog 14 = some 24 := by kernel_rfl
@[go_sem] theorem ze14 : zeroOf Tryz.prog 14 = some (.agg #[(.string ByteArray.empty), (.int .u64 0)]) := by kernel_rfl
@[go_sem] theorem sz15 : szOf Tryz.prog 15 = some 1 := by kernel_rfl
@[go_sem] theorem ag15 : aggOf Tryz.prog 15 = some false := by kernel_rfl
@[go_sem] theorem es15 : elemS Tryz.prog 15 = none := by kernel_rfl
@[go_sem] theorem ha15 : hasT Tryz.prog 15 = true := by kernel_rfl
@[go_sem] theorem ic15 : isIfc Tryz.prog 15 = false := by kernel_rfl
@[go_sem] theorem by15 : bytesOf Tryz.prog 15 = some 8 := by kernel_rfl
@[go_sem] theorem ip15 : isPtrT Tryz.prog 15 = true := by kernel_rfl
@[go_sem] theorem ze15 : zeroOf Tryz.prog 15 = some (.pointer none) := by kernel_rfl
@[go_sem] theorem sz16 : szOf Tryz.prog 16 = some 1 := by kernel_rfl
@[go_sem] theorem ag16 : aggOf Tryz.prog 16 = some false := by kernel_rfl
@[go_sem] theorem es16 : elemS Tryz.prog 16 = none := by kernel_rfl
@[go_sem] theorem ha16 : hasT Tryz.prog 16 = true := by kernel_rfl
@[go_sem] theorem ic16 : isIfc Tryz.prog 16 = false := by kernel_rfl
@[go_sem] theorem by16 : bytesOf Tryz.prog 16 = some 8 := by kernel_rfl
@[go_sem] theorem ip16 : isPtrT Tryz.prog 16 = true := by kernel_rfl
@[go_sem] theorem ze16 : zeroOf Tryz.prog 16 = some (.pointer none) := by kernel_rfl
@[go_sem] theorem sz17 : szOf Tryz.prog 17 = some 1 := by kernel_rfl
@[go_sem] theorem ag17 : aggOf Tryz.prog 17 = some false := by kernel_rfl
@[go_sem] theorem es17 : elemS Tryz.prog 17 = none := by kernel_rfl
@[go_sem] theorem ha17 : hasT Tryz.prog 17 = true := by kernel_rfl
@[go_sem] theorem ic17 : isIfc Tryz.prog 17 = false := by kernel_rfl
@[go_sem] theorem by17 : bytesOf Tryz.prog 17 = some 8 := by kernel_rfl
@[go_sem] theorem ip17 : isPtrT Tryz.prog 17 = true := by kernel_rfl
@[go_sem] theorem ze17 : zeroOf Tryz.prog 17 = some (.pointer none) := by kernel_rfl
@[go_sem] theorem sz18 : szOf Tryz.prog 18 = some 1 := by kernel_rfl
@[go_sem] theorem ag18 : aggOf Tryz.prog 18 = some true := by kernel_rfl
@[go_sem] theorem fl18_0 : fldOf Tryz.prog 18 0 = some (0, 17) := by kernel_rfl
@[go_sem] theorem es18 : elemS Tryz.prog 18 = none := by kernel_rfl
@[go_sem] theorem ha18 : hasT Tryz.prog 18 = true := by kernel_rfl
@[go_sem] theorem ic18 : isIfc Tryz.prog 18 = false := by kernel_rfl
@[go_sem] theorem pl18 : placesOf Tryz.prog 18 = some [(0, 1)] := by kernel_rfl
@[go_sem] theorem by18 : bytesOf Tryz.prog 18 = some 8 := by kernel_rfl
@[go_sem] theorem ze18 : zeroOf Tryz.prog 18 = some (.agg #[(.pointer none)]) := by kernel_rfl
@[go_sem] theorem sz19 : szOf Tryz.prog 19 = some 1 := by kernel_rfl
@[go_sem] theorem ag19 : aggOf Tryz.prog 19 = some true := by kernel_rfl
@[go_sem] theorem fl19_0 : fldOf Tryz.prog 19 0 = some (0, 17) := by kernel_rfl
@[go_sem] theorem es19 : elemS Tryz.prog 19 = none := by kernel_rfl
@[go_sem] theorem ha19 : hasT Tryz.prog 19 = true := by kernel_rfl
@[go_sem] theorem ic19 : isIfc Tryz.prog 19 = false := by kernel_rfl
@[go_sem] theorem pl19 : placesOf Tryz.prog 19 = some [(0, 1)] := by kernel_rfl
@[go_sem] theorem by19 : bytesOf Tryz.prog 19 = some 8 := by kernel_rfl
@[go_sem] theorem ze19 : zeroOf Tryz.prog 19 = some (.agg #[(.pointer none)]) := by kernel_rfl
@[go_sem] theorem sz20 : szOf Tryz.prog 20 = some 1 := by kernel_rfl
@[go_sem] theorem ag20 : aggOf Tryz.prog 20 = some false := by kernel_rfl
@[go_sem] theorem es20 : elemS Tryz.prog 20 = none := by kernel_rfl
@[go_sem] theorem ha20 : hasT Tryz.prog 20 = true := by kernel_rfl
@[go_sem] theorem ic20 : isIfc Tryz.prog 20 = true := by kernel_rfl
@[go_sem] theorem by20 : bytesOf Tryz.prog 20 = some 16 := by kernel_rfl
@[go_sem] theorem ze20 : zeroOf Tryz.prog 20 = some .nilIface := by kernel_rfl
@[go_sem] theorem sz21 : szOf Tryz.prog 21 = some 1 := by kernel_rfl
@[go_sem] theorem ag21 : aggOf Tryz.prog 21 = some false := by kernel_rfl
@[go_sem] theorem es21 : elemS Tryz.prog 21 = none := by kernel_rfl
@[go_sem] theorem ha21 : hasT Tryz.prog 21 = true := by kernel_rfl
@[go_sem] theorem ic21 : isIfc Tryz.prog 21 = false := by kernel_rfl
@[go_sem] theorem io21 : intOfT Tryz.prog 21 = some .i32 := by kernel_rfl
@[go_sem] theorem by21 : bytesOf Tryz.prog 21 = some 4 := by kernel_rfl
@[go_sem] theorem ze21 : zeroOf Tryz.prog 21 = some (.int .i32 0) := by kernel_rfl
@[go_sem] theorem sz22 : szOf Tryz.prog 22 = some 1 := by kernel_rfl
@[go_sem] theorem ag22 : aggOf Tryz.prog 22 = some false := by kernel_rfl
@[go_sem] theorem es22 : elemS Tryz.prog 22 = some 58 := by kernel_rfl
@[go_sem] theorem ha22 : hasT Tryz.prog 22 = true := by kernel_rfl
@[go_sem] theorem ic22 : isIfc Tryz.prog 22 = false := by kernel_rfl
@[go_sem] theorem by22 : bytesOf Tryz.prog 22 = some 24 := by kernel_rfl
@[go_sem] theorem ze22 : zeroOf Tryz.prog 22 = some (.slice none 0 0) := by kernel_rfl
@[go_sem] theorem sz23 : szOf Tryz.prog 23 = some 1 := by kernel_rfl
@[go_sem] theorem ag23 : aggOf Tryz.prog 23 = some false := by kernel_rfl
@[go_sem] theorem es23 : elemS Tryz.prog 23 = some 25 := by kernel_rfl
@[go_sem] theorem ha23 : hasT Tryz.prog 23 = true := by kernel_rfl
@[go_sem] theorem ic23 : isIfc Tryz.prog 23 = false := by kernel_rfl
@[go_sem] theorem by23 : bytesOf Tryz.prog 23 = some 24 := by kernel_rfl
@[go_sem] theorem ze23 : zeroOf Tryz.prog 23 = some (.slice none 0 0) := by kernel_rfl
@[go_sem] theorem sz24 : szOf Tryz.prog 24 = some 3 := by kernel_rfl
@[go_sem] theorem ag24 : aggOf Tryz.prog 24 = some true := by kernel_rfl
@[go_sem] theorem fl24_0 : fldOf Tryz.prog 24 0 = some (0, 9) := by kernel_rfl
@[go_sem] theorem fl24_1 : fldOf Tryz.prog 24 1 = some (1, 23) := by kernel_rfl
@[go_sem] theorem fl24_2 : fldOf Tryz.prog 24 2 = some (2, 3) := by kernel_rfl
@[go_sem] theorem es24 : elemS Tryz.prog 24 = none := by kernel_rfl
@[go_sem] theorem ha24 : hasT Tryz.prog 24 = true := by kernel_rfl
@[go_sem] theorem ic24 : isIfc Tryz.prog 24 = false := by kernel_rfl
@[go_sem] theorem pl24 : placesOf Tryz.prog 24 = some [(0, 1), (1, 1), (2, 1)] := by kernel_rfl
@[go_sem] theorem by24 : bytesOf Tryz.prog 24 = some 48 := by kernel_rfl
@[go_sem] theorem ze24 : zeroOf Tryz.prog 24 = some (.agg #[(.string ByteArray.empty), (.slice none 0 0), (.int .i64 0)]) := by kernel_rfl
@[go_sem] theorem sz25 : szOf Tryz.prog 25 = some 3 := by kernel_rfl
@[go_sem] theorem ag25 : aggOf Tryz.prog 25 = some true := by kernel_rfl
@[go_sem] theorem fl25_0 : fldOf Tryz.prog 25 0 = some (0, 9) := by kernel_rfl
@[go_sem] theorem fl25_1 : fldOf Tryz.prog 25 1 = some (1, 23) := by kernel_rfl
@[go_sem] theorem fl25_2 : fldOf Tryz.prog 25 2 = some (2, 3) := by kernel_rfl
@[go_sem] theorem es25 : elemS Tryz.prog 25 = none := by kernel_rfl
@[go_sem] theorem ha25 : hasT Tryz.prog 25 = true := by kernel_rfl
@[go_sem] theorem ic25 : isIfc Tryz.prog 25 = false := by kernel_rfl
@[go_sem] theorem pl25 : placesOf Tryz.prog 25 = some [(0, 1), (1, 1), (2, 1)] := by kernel_rfl
@[go_sem] theorem by25 : bytesOf Tryz.prog 25 = some 48 := by kernel_rfl
@[go_sem] theorem ze25 : zeroOf Tryz.prog 25 = some (.agg #[(.string ByteArray.empty), (.slice none 0 0), (.int .i64 0)]) := by kernel_rfl
@[go_sem] theorem sz26 : szOf Tryz.prog 26 = some 1 := by kernel_rfl
@[go_sem] theorem ag26 : aggOf Tryz.prog 26 = some false := by kernel_rfl
@[go_sem] theorem es26 : elemS Tryz.prog 26 = some 28 := by kernel_rfl
@[go_sem] theorem ha26 : hasT Tryz.prog 26 = true := by kernel_rfl
@[go_sem] theorem ic26 : isIfc Tryz.prog 26 = false := by kernel_rfl
@[go_sem] theorem by26 : bytesOf Tryz.prog 26 = some 24 := by kernel_rfl
@[go_sem] theorem ze26 : zeroOf Tryz.prog 26 = some (.slice none 0 0) := by kernel_rfl
@[go_sem] theorem sz27 : szOf Tryz.prog 27 = some 8 := by kernel_rfl
@[go_sem] theorem ag27 : aggOf Tryz.prog 27 = some true := by kernel_rfl
@[go_sem] theorem fl27_0 : fldOf Tryz.prog 27 0 = some (0, 3) := by kernel_rfl
@[go_sem] theorem fl27_1 : fldOf Tryz.prog 27 1 = some (1, 9) := by kernel_rfl
@[go_sem] theorem fl27_2 : fldOf Tryz.prog 27 2 = some (2, 25) := by kernel_rfl
@[go_sem] theorem fl27_3 : fldOf Tryz.prog 27 3 = some (5, 23) := by kernel_rfl
@[go_sem] theorem fl27_4 : fldOf Tryz.prog 27 4 = some (6, 26) := by kernel_rfl
@[go_sem] theorem fl27_5 : fldOf Tryz.prog 27 5 = some (7, 3) := by kernel_rfl
@[go_sem] theorem es27 : elemS Tryz.prog 27 = none := by kernel_rfl
@[go_sem] theorem ha27 : hasT Tryz.prog 27 = true := by kernel_rfl
@[go_sem] theorem ic27 : isIfc Tryz.prog 27 = false := by kernel_rfl
@[go_sem] theorem pl27 : placesOf Tryz.prog 27 = some [(0, 1), (1, 1), (2, 3), (5, 1), (6, 1), (7, 1)] := by kernel_rfl
@[go_sem] theorem by27 : bytesOf Tryz.prog 27 = some 128 := by kernel_rfl
@[go_sem] theorem ze27 : zeroOf Tryz.prog 27 = some (.agg #[(.int .i64 0), (.string ByteArray.empty), (.string ByteArray.empty), (.slice none 0 0), (.int .i64 0), (.slice none 0 0), (.slice none 0 0), (.int .i64 0)]) := by kernel_rfl
@[go_sem] theorem sz28 : szOf Tryz.prog 28 = some 8 := by kernel_rfl
@[go_sem] theorem ag28 : aggOf Tryz.prog 28 = some true := by kernel_rfl
@[go_sem] theorem fl28_0 : fldOf Tryz.prog 28 0 = some (0, 3) := by kernel_rfl
@[go_sem] theorem fl28_1 : fldOf Tryz.prog 28 1 = some (1, 9) := by kernel_rfl
@[go_sem] theorem fl28_2 : fldOf Tryz.prog 28 2 = some (2, 25) := by kernel_rfl
@[go_sem] theorem fl28_3 : fldOf Tryz.prog 28 3 = some (5, 23) := by kernel_rfl
@[go_sem] theorem fl28_4 : fldOf Tryz.prog 28 4 = some (6, 26) := by kernel_rfl
@[go_sem] theorem fl28_5 : fldOf Tryz.prog 28 5 = some (7, 3) := by kernel_rfl
@[go_sem] theorem es28 : elemS Tryz.prog 28 = none := by kernel_rfl
@[go_sem] theorem ha28 : hasT Tryz.prog 28 = true := by kernel_rfl
@[go_sem] theorem ic28 : isIfc Tryz.prog 28 = false := by kernel_rfl
@[go_sem] theorem pl28 : placesOf Tryz.prog 28 = some [(0, 1), (1, 1), (2, 3), (5, 1), (6, 1), (7, 1)] := by kernel_rfl
@[go_sem] theorem by28 : bytesOf Tryz.prog 28 = some 128 := by kernel_rfl
@[go_sem] theorem ze28 : zeroOf Tryz.prog 28 = some (.agg #[(.int .i64 0), (.string ByteArray.empty), (.string ByteArray.empty), (.slice none 0 0), (.int .i64 0), (.slice none 0 0), (.slice none 0 0), (.int .i64 0)]) := by kernel_rfl
@[go_sem] theorem sz29 : szOf Tryz.prog 29 = some 9 := by kernel_rfl
@[go_sem] theorem ag29 : aggOf Tryz.prog 29 = some true := by kernel_rfl
@[go_sem] theorem fl29_0 : fldOf Tryz.prog 29 0 = some (0, 22) := by kernel_rfl
@[go_sem] theorem fl29_1 : fldOf Tryz.prog 29 1 = some (1, 28) := by kernel_rfl
@[go_sem] theorem es29 : elemS Tryz.prog 29 = none := by kernel_rfl
@[go_sem] theorem ha29 : hasT Tryz.prog 29 = true := by kernel_rfl
@[go_sem] theorem ic29 : isIfc Tryz.prog 29 = false := by kernel_rfl
@[go_sem] theorem pl29 : placesOf Tryz.prog 29 = some [(0, 1), (1, 8)] := by kernel_rfl
@[go_sem] theorem by29 : bytesOf Tryz.prog 29 = some 152 := by kernel_rfl
@[go_sem] theorem ze29 : zeroOf Tryz.prog 29 = some (.agg #[(.slice none 0 0), (.int .i64 0), (.string ByteArray.empty), (.string ByteArray.empty), (.slice none 0 0), (.int .i64 0), (.slice none 0 0), (.slice none 0 0), (.int .i64 0)]) := by kernel_rfl
@[go_sem] theorem sz30 : szOf Tryz.prog 30 = some 9 := by kernel_rfl
@[go_sem] theorem ag30 : aggOf Tryz.prog 30 = some true := by kernel_rfl
@[go_sem] theorem fl30_0 : fldOf Tryz.prog 30 0 = some (0, 22) := by kernel_rfl
@[go_sem] theorem fl30_1 : fldOf Tryz.prog 30 1 = some (1, 28) := by kernel_rfl
@[go_sem] theorem es30 : elemS Tryz.prog 30 = none := by kernel_rfl
@[go_sem] theorem ha30 : hasT Tryz.prog 30 = true := by kernel_rfl
@[go_sem] theorem ic30 : isIfc Tryz.prog 30 = false := by kernel_rfl
@[go_sem] theorem pl30 : placesOf Tryz.prog 30 = some [(0, 1), (1, 8)] := by kernel_rfl
@[go_sem] theorem by30 : bytesOf Tryz.prog 30 = some 152 := by kernel_rfl
@[go_sem] theorem ze30 : zeroOf Tryz.prog 30 = some (.agg #[(.slice none 0 0), (.int .i64 0), (.string ByteArray.empty), (.string ByteArray.empty), (.slice none 0 0), (.int .i64 0), (.slice none 0 0), (.slice none 0 0), (.int .i64 0)]) := by kernel_rfl
@[go_sem] theorem sz31 : szOf Tryz.prog 31 = some 1 := by kernel_rfl
@[go_sem] theorem ag31 : aggOf Tryz.prog 31 = some false := by kernel_rfl
@[go_sem] theorem es31 : elemS Tryz.prog 31 = some 53 := by kernel_rfl
@[go_sem] theorem ha31 : hasT Tryz.prog 31 = true := by kernel_rfl
@[go_sem] theorem ic31 : isIfc Tryz.prog 31 = false := by kernel_rfl
@[go_sem] theorem by31 : bytesOf Tryz.prog 31 = some 24 := by kernel_rfl
@[go_sem] theorem ze31 : zeroOf Tryz.prog 31 = some (.slice none 0 0) := by kernel_rfl
@[go_sem] theorem sz32 : szOf Tryz.prog 32 = some 1 := by kernel_rfl
@[go_sem] theorem ag32 : aggOf Tryz.prog 32 = some false := by kernel_rfl
@[go_sem] theorem es32 : elemS Tryz.prog 32 = none := by kernel_rfl
@[go_sem] theorem ha32 : hasT Tryz.prog 32 = true := by kernel_rfl
@[go_sem] theorem ic32 : isIfc Tryz.prog 32 = false := by kernel_rfl
@[go_sem] theorem by32 : bytesOf Tryz.prog 32 = some 8 := by kernel_rfl
@[go_sem] theorem ze32 : zeroOf Tryz.prog 32 = some .nilFunc := by kernel_rfl
@[go_sem] theorem sz33 : szOf Tryz.prog 33 = some 1 := by kernel_rfl
@[go_sem] theorem ag33 : aggOf Tryz.prog 33 = some false := by kernel_rfl
@[go_sem] theorem es33 : elemS Tryz.prog 33 = none := by kernel_rfl
@[go_sem] theorem ha33 : hasT Tryz.prog 33 = true := by kernel_rfl
@[go_sem] theorem ic33 : isIfc Tryz.prog 33 = false := by kernel_rfl
@[go_sem] theorem by33 : bytesOf Tryz.prog 33 = some 8 := by kernel_rfl
@[go_sem] theorem ze33 : zeroOf Tryz.prog 33 = some .nilFunc := by kernel_rfl
@[go_sem] theorem sz34 : szOf Tryz.prog 34 = some 1 := by kernel_rfl
@[go_sem] theorem ag34 : aggOf Tryz.prog 34 = some false := by kernel_rfl
@[go_sem] theorem es34 : elemS Tryz.prog 34 = none := by kernel_rfl
@[go_sem] theorem ha34 : hasT Tryz.prog 34 = true := by kernel_rfl
@[go_sem] theorem ic34 : isIfc Tryz.prog 34 = false := by kernel_rfl
@[go_sem] theorem by34 : bytesOf Tryz.prog 34 = some 8 := by kernel_rfl
@[go_sem] theorem ze34 : zeroOf Tryz.prog 34 = some .nilFunc := by kernel_rfl
@[go_sem] theorem sz35 : szOf Tryz.prog 35 = some 1 := by kernel_rfl
@[go_sem] theorem ag35 : aggOf Tryz.prog 35 = some false := by kernel_rfl
@[go_sem] theorem es35 : elemS Tryz.prog 35 = none := by kernel_rfl
@[go_sem] theorem ha35 : hasT Tryz.prog 35 = true := by kernel_rfl
@[go_sem] theorem ic35 : isIfc Tryz.prog 35 = false := by kernel_rfl
@[go_sem] theorem by35 : bytesOf Tryz.prog 35 = some 8 := by kernel_rfl
@[go_sem] theorem ze35 : zeroOf Tryz.prog 35 = some .nilFunc := by kernel_rfl
@[go_sem] theorem sz36 : szOf Tryz.prog 36 = some 1 := by kernel_rfl
@[go_sem] theorem ag36 : aggOf Tryz.prog 36 = some false := by kernel_rfl
@[go_sem] theorem es36 : elemS Tryz.prog 36 = none := by kernel_rfl
@[go_sem] theorem ha36 : hasT Tryz.prog 36 = true := by kernel_rfl
@[go_sem] theorem ic36 : isIfc Tryz.prog 36 = false := by kernel_rfl
@[go_sem] theorem by36 : bytesOf Tryz.prog 36 = some 8 := by kernel_rfl
@[go_sem] theorem ip36 : isPtrT Tryz.prog 36 = true := by kernel_rfl
@[go_sem] theorem ze36 : zeroOf Tryz.prog 36 = some (.pointer none) := by kernel_rfl
@[go_sem] theorem sz37 : szOf Tryz.prog 37 = some 1 := by kernel_rfl
@[go_sem] theorem ag37 : aggOf Tryz.prog 37 = some false := by kernel_rfl
@[go_sem] theorem es37 : elemS Tryz.prog 37 = none := by kernel_rfl
@[go_sem] theorem ha37 : hasT Tryz.prog 37 = true := by kernel_rfl
@[go_sem] theorem ic37 : isIfc Tryz.prog 37 = false := by kernel_rfl
@[go_sem] theorem by37 : bytesOf Tryz.prog 37 = some 8 := by kernel_rfl
@[go_sem] theorem ze37 : zeroOf Tryz.prog 37 = some .nilFunc := by kernel_rfl
@[go_sem] theorem sz38 : szOf Tryz.prog 38 = some 1 := by kernel_rfl
@[go_sem] theorem ag38 : aggOf Tryz.prog 38 = some false := by kernel_rfl
@[go_sem] theorem es38 : elemS Tryz.prog 38 = some 42 := by kernel_rfl
@[go_sem] theorem ha38 : hasT Tryz.prog 38 = true := by kernel_rfl
@[go_sem] theorem ic38 : isIfc Tryz.prog 38 = false := by kernel_rfl
@[go_sem] theorem by38 : bytesOf Tryz.prog 38 = some 24 := by kernel_rfl
@[go_sem] theorem ze38 : zeroOf Tryz.prog 38 = some (.slice none 0 0) := by kernel_rfl
@[go_sem] theorem sz39 : szOf Tryz.prog 39 = some 1 := by kernel_rfl
@[go_sem] theorem ag39 : aggOf Tryz.prog 39 = some false := by kernel_rfl
@[go_sem] theorem es39 : elemS Tryz.prog 39 = none := by kernel_rfl
@[go_sem] theorem ha39 : hasT Tryz.prog 39 = true := by kernel_rfl
@[go_sem] theorem ic39 : isIfc Tryz.prog 39 = false := by kernel_rfl
@[go_sem] theorem by39 : bytesOf Tryz.prog 39 = some 8 := by kernel_rfl
@[go_sem] theorem ze39 : zeroOf Tryz.prog 39 = some .nilFunc := by kernel_rfl
@[go_sem] theorem sz40 : szOf Tryz.prog 40 = some 1 := by kernel_rfl
@[go_sem] theorem ag40 : aggOf Tryz.prog 40 = some false := by kernel_rfl
@[go_sem] theorem es40 : elemS Tryz.prog 40 = some 111 := by kernel_rfl
@[go_sem] theorem ha40 : hasT Tryz.prog 40 = true := by kernel_rfl
@[go_sem] theorem ic40 : isIfc Tryz.prog 40 = false := by kernel_rfl
@[go_sem] theorem by40 : bytesOf Tryz.prog 40 = some 24 := by kernel_rfl
@[go_sem] theorem ze40 : zeroOf Tryz.prog 40 = some (.slice none 0 0) := by kernel_rfl
@[go_sem] theorem sz41 : szOf Tryz.prog 41 = some 7 := by kernel_rfl
@[go_sem] theorem ag41 : aggOf Tryz.prog 41 = some true := by kernel_rfl
@[go_sem] theorem fl41_0 : fldOf Tryz.prog 41 0 = some (0, 9) := by kernel_rfl
@[go_sem] theorem fl41_1 : fldOf Tryz.prog 41 1 = some (1, 31) := by kernel_rfl
@[go_sem] theorem fl41_2 : fldOf Tryz.prog 41 2 = some (2, 40) := by kernel_rfl
@[go_sem] theorem fl41_3 : fldOf Tryz.prog 41 3 = some (3, 25) := by kernel_rfl
@[go_sem] theorem fl41_4 : fldOf Tryz.prog 41 4 = some (6, 3) := by kernel_rfl
@[go_sem] theorem es41 : elemS Tryz.prog 41 = none := by kernel_rfl
@[go_sem] theorem ha41 : hasT Tryz.prog 41 = true := by kernel_rfl
@[go_sem] theorem ic41 : isIfc Tryz.prog 41 = false := by kernel_rfl
@[go_sem] theorem pl41 : placesOf Tryz.prog 41 = some [(0, 1), (1, 1), (2, 1), (3, 3), (6, 1)] := by kernel_rfl
@[go_sem] theorem by41 : bytesOf Tryz.prog 41 = some 120 := by kernel_rfl
@[go_sem] theorem ze41 : zeroOf Tryz.prog 41 = some (.agg #[(.string ByteArray.empty), (.slice none 0 0), (.slice none 0 0), (.string ByteArray.empty), (.slice none 0 0), (.int .i64 0), (.int .i64 0)]) := by kernel_rfl
@[go_sem] theorem sz42 : szOf Tryz.prog 42 = some 7 := by kernel_rfl
@[go_sem] theorem ag42 : aggOf Tryz.prog 42 = some true := by kernel_rfl
@[go_sem] theorem fl42_0 : fldOf Tryz.prog 42 0 = some (0, 9) := by kernel_rfl
@[go_sem] theorem fl42_1 : fldOf Tryz.prog 42 1 = some (1, 31) := by kernel_rfl
@[go_sem] theorem fl42_2 : fldOf Tryz.prog 42 2 = some (2, 40) := by kernel_rfl
@[go_sem] theorem fl42_3 : fldOf Tryz.prog 42 3 = some (3, 25) := by kernel_rfl
@[go_sem] theorem fl42_4 : fldOf Tryz.prog 42 4 = some (6, 3) := by kernel_rfl
@[go_sem] theorem es42 : elemS Tryz.prog 42 = none := by kernel_rfl
@[go_sem] theorem ha42 : hasT Tryz.prog 42 = true := by kernel_rfl
@[go_sem] theorem ic42 : isIfc Tryz.prog 42 = false := by kernel_rfl
@[go_sem] theorem pl42 : placesOf Tryz.prog 42 = some [(0, 1), (1, 1), (2, 1), (3, 3), (6, 1)] := by kernel_rfl
@[go_sem] theorem by42 : bytesOf Tryz.prog 42 = some 120 := by kernel_rfl
@[go_sem] theorem ze42 : zeroOf Tryz.prog 42 = some (.agg #[(.string ByteArray.empty), (.slice none 0 0), (.slice none 0 0), (.string ByteArray.empty), (.slice none 0 0), (.int .i64 0), (.int .i64 0)]) := by kernel_rfl
@[go_sem] theorem sz43 : szOf Tryz.prog 43 = some 1 := by kernel_rfl
@[go_sem] theorem ag43 : aggOf Tryz.prog 43 = some false := by kernel_rfl
@[go_sem] theorem es43 : elemS Tryz.prog 43 = none := by kernel_rfl
@[go_sem] theorem ha43 : hasT Tryz.prog 43 = true := by kernel_rfl
@[go_sem] theorem ic43 : isIfc Tryz.prog 43 = false := by kernel_rfl
@[go_sem] theorem by43 : bytesOf Tryz.prog 43 = some 0 := by kernel_rfl
@[go_sem] theorem sz44 : szOf Tryz.prog 44 = some 1 := by kernel_rfl
@[go_sem] theorem ag44 : aggOf Tryz.prog 44 = some false := by kernel_rfl
@[go_sem] theorem es44 : elemS Tryz.prog 44 = none := by kernel_rfl
@[go_sem] theorem ha44 : hasT Tryz.prog 44 = true := by kernel_rfl
@[go_sem] theorem ic44 : isIfc Tryz.prog 44 = false := by kernel_rfl
@[go_sem] theorem by44 : bytesOf Tryz.prog 44 = some 8 := by kernel_rfl
@[go_sem] theorem ze44 : zeroOf Tryz.prog 44 = some .nilFunc := by kernel_rfl
@[go_sem] theorem sz45 : szOf Tryz.prog 45 = some 1 := by kernel_rfl
@[go_sem] theorem ag45 : aggOf Tryz.prog 45 = some false := by kernel_rfl
@[go_sem] theorem es45 : elemS Tryz.prog 45 = none := by kernel_rfl
@[go_sem] theorem ha45 : hasT Tryz.prog 45 = true := by kernel_rfl
@[go_sem] theorem ic45 : isIfc Tryz.prog 45 = false := by kernel_rfl
@[go_sem] theorem by45 : bytesOf Tryz.prog 45 = some 8 := by kernel_rfl
@[go_sem] theorem ze45 : zeroOf Tryz.prog 45 = some .nilFunc := by kernel_rfl
@[go_sem] theorem sz46 : szOf Tryz.prog 46 = some 1 := by kernel_rfl
@[go_sem] theorem ag46 : aggOf Tryz.prog 46 = some false := by kernel_rfl
@[go_sem] theorem es46 : elemS Tryz.prog 46 = none := by kernel_rfl
@[go_sem] theorem ha46 : hasT Tryz.prog 46 = true := by kernel_rfl
@[go_sem] theorem ic46 : isIfc Tryz.prog 46 = false := by kernel_rfl
@[go_sem] theorem by46 : bytesOf Tryz.prog 46 = some 8 := by kernel_rfl
@[go_sem] theorem ze46 : zeroOf Tryz.prog 46 = some .nilFunc := by kernel_rfl
@[go_sem] theorem sz47 : szOf Tryz.prog 47 = some 1 := by kernel_rfl
@[go_sem] theorem ag47 : aggOf Tryz.prog 47 = some false := by kernel_rfl
@[go_sem] theorem es47 : elemS Tryz.prog 47 = none := by kernel_rfl
@[go_sem] theorem ha47 : hasT Tryz.prog 47 = true := by kernel_rfl
@[go_sem] theorem ic47 : isIfc Tryz.prog 47 = false := by kernel_rfl
@[go_sem] theorem by47 : bytesOf Tryz.prog 47 = some 8 := by kernel_rfl
@[go_sem] theorem ze47 : zeroOf Tryz.prog 47 = some .nilFunc := by kernel_rfl
@[go_sem] theorem sz48 : szOf Tryz.prog 48 = some 1 := by kernel_rfl
@[go_sem] theorem ag48 : aggOf Tryz.prog 48 = some false := by kernel_rfl
@[go_sem] theorem es48 : elemS Tryz.prog 48 = none := by kernel_rfl
@[go_sem] theorem ha48 : hasT Tryz.prog 48 = true := by kernel_rfl
@[go_sem] theorem ic48 : isIfc Tryz.prog 48 = false := by kernel_rfl
@[go_sem] theorem by48 : bytesOf Tryz.prog 48 = some 8 := by kernel_rfl
@[go_sem] theorem ze48 : zeroOf Tryz.prog 48 = some .nilFunc := by kernel_rfl
@[go_sem] theorem sz49 : szOf Tryz.prog 49 = some 1 := by kernel_rfl
@[go_sem] theorem ag49 : aggOf Tryz.prog 49 = some false := by kernel_rfl
@[go_sem] theorem es49 : elemS Tryz.prog 49 = none := by kernel_rfl
@[go_sem] theorem ha49 : hasT Tryz.prog 49 = true := by kernel_rfl
@[go_sem] theorem ic49 : isIfc Tryz.prog 49 = false := by kernel_rfl
@[go_sem] theorem by49 : bytesOf Tryz.prog 49 = some 8 := by kernel_rfl
@[go_sem] theorem ze49 : zeroOf Tryz.prog 49 = some .nilFunc := by kernel_rfl
@[go_sem] theorem sz50 : szOf Tryz.prog 50 = some 1 := by kernel_rfl
@[go_sem] theorem ag50 : aggOf Tryz.prog 50 = some false := by kernel_rfl
@[go_sem] theorem es50 : elemS Tryz.prog 50 = none := by kernel_rfl
@[go_sem] theorem ha50 : hasT Tryz.prog 50 = true := by kernel_rfl
@[go_sem] theorem ic50 : isIfc Tryz.prog 50 = false := by kernel_rfl
@[go_sem] theorem by50 : bytesOf Tryz.prog 50 = some 8 := by kernel_rfl
@[go_sem] theorem ze50 : zeroOf Tryz.prog 50 = some .nilFunc := by kernel_rfl
@[go_sem] theorem sz51 : szOf Tryz.prog 51 = some 1 := by kernel_rfl
@[go_sem] theorem ag51 : aggOf Tryz.prog 51 = some false := by kernel_rfl
@[go_sem] theorem es51 : elemS Tryz.prog 51 = none := by kernel_rfl
@[go_sem] theorem ha51 : hasT Tryz.prog 51 = true := by kernel_rfl
@[go_sem] theorem ic51 : isIfc Tryz.prog 51 = false := by kernel_rfl
@[go_sem] theorem by51 : bytesOf Tryz.prog 51 = some 8 := by kernel_rfl
@[go_sem] theorem ze51 : zeroOf Tryz.prog 51 = some .nilFunc := by kernel_rfl
@[go_sem] theorem sz52 : szOf Tryz.prog 52 = some 5 := by kernel_rfl
@[go_sem] theorem ag52 : aggOf Tryz.prog 52 = some true := by kernel_rfl
@[go_sem] theorem fl52_0 : fldOf Tryz.prog 52 0 = some (0, 9) := by kernel_rfl
@[go_sem] theorem fl52_1 : fldOf Tryz.prog 52 1 = some (1, 25) := by kernel_rfl
@[go_sem] theorem fl52_2 : fldOf Tryz.prog 52 2 = some (4, 3) := by kernel_rfl
@[go_sem] theorem es52 : elemS Tryz.prog 52 = none := by kernel_rfl
@[go_sem] theorem ha52 : hasT Tryz.prog 52 = true := by kernel_rfl
@[go_sem] theorem ic52 : isIfc Tryz.prog 52 = false := by kernel_rfl
@[go_sem] theorem pl52 : placesOf Tryz.prog 52 = some [(0, 1), (1, 3), (4, 1)] := by kernel_rfl
@[go_sem] theorem by52 : bytesOf Tryz.prog 52 = some 72 := by kernel_rfl
@[go_sem] theorem ze52 : zeroOf Tryz.prog 52 = some (.agg #[(.string ByteArray.empty), (.string ByteArray.empty), (.slice none 0 0), (.int .i64 0), (.int .i64 0)]) := by kernel_rfl
@[go_sem] theorem sz53 : szOf Tryz.prog 53 = some 5 := by kernel_rfl
@[go_sem] theorem ag53 : aggOf Tryz.prog 53 = some true := by kernel_rfl
@[go_sem] theorem fl53_0 : fldOf Tryz.prog 53 0 = some (0, 9) := by kernel_rfl
@[go_sem] theorem fl53_1 : fldOf Tryz.prog 53 1 = some (1, 25) := by kernel_rfl
@[go_sem] theorem fl53_2 : fldOf Tryz.prog 53 2 = some (4, 3) := by kernel_rfl
@[go_sem] theorem es53 : elemS Tryz.prog 53 = none := by kernel_rfl
@[go_sem] theorem ha53 : hasT Tryz.prog 53 = true := by kernel_rfl
@[go_sem] theorem ic53 : isIfc Tryz.prog 53 = false := by kernel_rfl
@[go_sem] theorem pl53 : placesOf Tryz.prog 53 = some [(0, 1), (1, 3), (4, 1)] := by kernel_rfl
@[go_sem] theorem by53 : bytesOf Tryz.prog 53 = some 72 := by kernel_rfl
@[go_sem] theorem ze53 : zeroOf Tryz.prog 53 = some (.agg #[(.string ByteArray.empty), (.string ByteArray.empty), (.slice none 0 0), (.int .i64 0), (.int .i64 0)]) := by kernel_rfl
@[go_sem] theorem sz54 : szOf Tryz.prog 54 = some 1 := by kernel_rfl
@[go_sem] theorem ag54 : aggOf Tryz.prog 54 = some false := by kernel_rfl
@[go_sem] theorem es54 : elemS Tryz.prog 54 = none := by kernel_rfl
@[go_sem] theorem ha54 : hasT Tryz.prog 54 = true := by kernel_rfl
@[go_sem] theorem ic54 : isIfc Tryz.prog 54 = false := by kernel_rfl
@[go_sem] theorem by54 : bytesOf Tryz.prog 54 = some 8 := by kernel_rfl
@[go_sem] theorem ze54 : zeroOf Tryz.prog 54 = some .nilFunc := by kernel_rfl
@[go_sem] theorem sz55 : szOf Tryz.prog 55 = some 1 := by kernel_rfl
@[go_sem] theorem ag55 : aggOf Tryz.prog 55 = some false := by kernel_rfl
@[go_sem] theorem es55 : elemS Tryz.prog 55 = none := by kernel_rfl
@[go_sem] theorem ha55 : hasT Tryz.prog 55 = true := by kernel_rfl
@[go_sem] theorem ic55 : isIfc Tryz.prog 55 = false := by kernel_rfl
@[go_sem] theorem by55 : bytesOf Tryz.prog 55 = some 8 := by kernel_rfl
@[go_sem] theorem ze55 : zeroOf Tryz.prog 55 = some .nilFunc := by kernel_rfl
@[go_sem] theorem sz56 : szOf Tryz.prog 56 = some 1 := by kernel_rfl
@[go_sem] theorem ag56 : aggOf Tryz.prog 56 = some false := by kernel_rfl
@[go_sem] theorem es56 : elemS Tryz.prog 56 = some 9 := by kernel_rfl
@[go_sem] theorem ha56 : hasT Tryz.prog 56 = true := by kernel_rfl
@[go_sem] theorem ic56 : isIfc Tryz.prog 56 = false := by kernel_rfl
@[go_sem] theorem by56 : bytesOf Tryz.prog 56 = some 24 := by kernel_rfl
@[go_sem] theorem ze56 : zeroOf Tryz.prog 56 = some (.slice none 0 0) := by kernel_rfl
@[go_sem] theorem sz57 : szOf Tryz.prog 57 = some 23 := by kernel_rfl
@[go_sem] theorem ag57 : aggOf Tryz.prog 57 = some true := by kernel_rfl
@[go_sem] theorem fl57_0 : fldOf Tryz.prog 57 0 = some (0, 3) := by kernel_rfl
@[go_sem] theorem fl57_1 : fldOf Tryz.prog 57 1 = some (1, 9) := by kernel_rfl
@[go_sem] theorem fl57_2 : fldOf Tryz.prog 57 2 = some (2, 31) := by kernel_rfl
@[go_sem] theorem fl57_3 : fldOf Tryz.prog 57 3 = some (3, 40) := by kernel_rfl
@[go_sem] theorem fl57_4 : fldOf Tryz.prog 57 4 = some (4, 38) := by kernel_rfl
@[go_sem] theorem fl57_5 : fldOf Tryz.prog 57 5 = some (5, 9) := by kernel_rfl
@[go_sem] theorem fl57_6 : fldOf Tryz.prog 57 6 = some (6, 56) := by kernel_rfl
@[go_sem] theorem fl57_7 : fldOf Tryz.prog 57 7 = some (7, 42) := by kernel_rfl
@[go_sem] theorem fl57_8 : fldOf Tryz.prog 57 8 = some (14, 28) := by kernel_rfl
@[go_sem] theorem fl57_9 : fldOf Tryz.prog 57 9 = some (22, 3) := by kernel_rfl
@[go_sem] theorem es57 : elemS Tryz.prog 57 = none := by kernel_rfl
@[go_sem] theorem ha57 : hasT Tryz.prog 57 = true := by kernel_rfl
@[go_sem] theorem ic57 : isIfc Tryz.prog 57 = false := by kernel_rfl
@[go_sem] theorem pl57 : placesOf Tryz.prog 57 = some [(0, 1), (1, 1), (2, 1), (3, 1), (4, 1), (5, 1), (6, 1), (7, 7), (14, 8), (22, 1)] := by kernel_rfl
@[go_sem] theorem by57 : bytesOf Tryz.prog 57 = some 392 := by kernel_rfl
@[go_sem] theorem ze57 : zeroOf Tryz.prog 57 = some (.agg #[(.int .i64 0), (.string ByteArray.empty), (.slice none 0 0), (.slice none 0 0), (.slice none 0 0), (.string ByteArray.empty), (.slice none 0 0), (.string ByteArray.empty), (.slice none 0 0), (.slice none 0 0), (.string ByteArray.empty), (.slice none 0 0), (.int .i64 0), (.int .i64 0), (.int .i64 0), (.string ByteArray.empty), (.string ByteArray.empty), (.slice none 0 0), (.int .i64 0), (.slice none 0 0), (.slice none 0 0), (.int .i64 0), (.int .i64 0)]) := by kernel_rfl
@[go_sem] theorem sz58 : szOf Tryz.prog 58 = some 23 := by kernel_rfl
@[go_sem] theorem ag58 : aggOf Tryz.prog 58 = some true := by kernel_rfl
@[go_sem] theorem fl58_0 : fldOf Tryz.prog 58 0 = some (0, 3) := by kernel_rfl
@[go_sem] theorem fl58_1 : fldOf Tryz.prog 58 1 = some (1, 9) := by kernel_rfl
@[go_sem] theorem fl58_2 : fldOf Tryz.prog 58 2 = some (2, 31) := by kernel_rfl
@[go_sem] theorem fl58_3 : fldOf Tryz.prog 58 3 = some (3, 40) := by kernel_rfl
@[go_sem] theorem fl58_4 : fldOf Tryz.prog 58 4 = some (4, 38) := by kernel_rfl
@[go_sem] theorem fl58_5 : fldOf Tryz.prog 58 5 = some (5, 9) := by kernel_rfl
@[go_sem] theorem fl58_6 : fldOf Tryz.prog 58 6 = some (6, 56) := by kernel_rfl
@[go_sem] theorem fl58_7 : fldOf Tryz.prog 58 7 = some (7, 42) := by kernel_rfl
@[go_sem] theorem fl58_8 : fldOf Tryz.prog 58 8 = some (14, 28) := by kernel_rfl
@[go_sem] theorem fl58_9 : fldOf Tryz.prog 58 9 = some (22, 3) := by kernel_rfl
@[go_sem] theorem es58 : elemS Tryz.prog 58 = none := by kernel_rfl
@[go_sem] theorem ha58 : hasT Tryz.prog 58 = true := by kernel_rfl
@[go_sem] theorem ic58 : isIfc Tryz.prog 58 = false := by kernel_rfl
@[go_sem] theorem pl58 : placesOf Tryz.prog 58 = some [(0, 1), (1, 1), (2, 1), (3, 1), (4, 1), (5, 1), (6, 1), (7, 7), (14, 8), (22, 1)] := by kernel_rfl
@[go_sem] theorem by58 : bytesOf Tryz.prog 58 = some 392 := by kernel_rfl
@[go_sem] theorem ze58 : zeroOf Tryz.prog 58 = some (.agg #[(.int .i64 0), (.string ByteArray.empty), (.slice none 0 0), (.slice none 0 0), (.slice none 0 0), (.string ByteArray.empty), (.slice none 0 0), (.string ByteArray.empty), (.slice none 0 0), (.slice none 0 0), (.string ByteArray.empty), (.slice none 0 0), (.int .i64 0), (.int .i64 0), (.int .i64 0), (.string ByteArray.empty), (.string ByteArray.empty), (.slice none 0 0), (.int .i64 0), (.slice none 0 0), (.slice none 0 0), (.int .i64 0), (.int .i64 0)]) := by kernel_rfl
@[go_sem] theorem sz59 : szOf Tryz.prog 59 = some 1 := by kernel_rfl
@[go_sem] theorem ag59 : aggOf Tryz.prog 59 = some false := by kernel_rfl
@[go_sem] theorem es59 : elemS Tryz.prog 59 = none := by kernel_rfl
@[go_sem] theorem ha59 : hasT Tryz.prog 59 = true := by kernel_rfl
@[go_sem] theorem ic59 : isIfc Tryz.prog 59 = false := by kernel_rfl
@[go_sem] theorem by59 : bytesOf Tryz.prog 59 = some 8 := by kernel_rfl
@[go_sem] theorem ze59 : zeroOf Tryz.prog 59 = some .nilFunc := by kernel_rfl
@[go_sem] theorem sz60 : szOf Tryz.prog 60 = some 1 := by kernel_rfl
@[go_sem] theorem ag60 : aggOf Tryz.prog 60 = some false := by kernel_rfl
@[go_sem] theorem es60 : elemS Tryz.prog 60 = none := by kernel_rfl
@[go_sem] theorem ha60 : hasT Tryz.prog 60 = true := by kernel_rfl
@[go_sem] theorem ic60 : isIfc Tryz.prog 60 = false := by kernel_rfl
@[go_sem] theorem by60 : bytesOf Tryz.prog 60 = some 8 := by kernel_rfl
@[go_sem] theorem ze60 : zeroOf Tryz.prog 60 = some .nilFunc := by kernel_rfl
@[go_sem] theorem sz61 : szOf Tryz.prog 61 = some 1 := by kernel_rfl
@[go_sem] theorem ag61 : aggOf Tryz.prog 61 = some false := by kernel_rfl
@[go_sem] theorem es61 : elemS Tryz.prog 61 = none := by kernel_rfl
@[go_sem] theorem ha61 : hasT Tryz.prog 61 = true := by kernel_rfl
@[go_sem] theorem ic61 : isIfc Tryz.prog 61 = false := by kernel_rfl
@[go_sem] theorem by61 : bytesOf Tryz.prog 61 = some 8 := by kernel_rfl
@[go_sem] theorem ze61 : zeroOf Tryz.prog 61 = some .nilFunc := by kernel_rfl
@[go_sem] theorem sz62 : szOf Tryz.prog 62 = some 1 := by kernel_rfl
@[go_sem] theorem ag62 : aggOf Tryz.prog 62 = some false := by kernel_rfl
@[go_sem] theorem es62 : elemS Tryz.prog 62 = none := by kernel_rfl
@[go_sem] theorem ha62 : hasT Tryz.prog 62 = true := by kernel_rfl
@[go_sem] theorem ic62 : isIfc Tryz.prog 62 = false := by kernel_rfl
@[go_sem] theorem by62 : bytesOf Tryz.prog 62 = some 8 := by kernel_rfl
@[go_sem] theorem ze62 : zeroOf Tryz.prog 62 = some .nilFunc := by kernel_rfl
@[go_sem] theorem sz63 : szOf Tryz.prog 63 = some 1 := by kernel_rfl
@[go_sem] theorem ag63 : aggOf Tryz.prog 63 = some false := by kernel_rfl
@[go_sem] theorem es63 : elemS Tryz.prog 63 = none := by kernel_rfl
@[go_sem] theorem ha63 : hasT Tryz.prog 63 = true := by kernel_rfl
@[go_sem] theorem ic63 : isIfc Tryz.prog 63 = false := by kernel_rfl
@[go_sem] theorem by63 : bytesOf Tryz.prog 63 = some 8 := by kernel_rfl
@[go_sem] theorem ze63 : zeroOf Tryz.prog 63 = some .nilFunc := by kernel_rfl
@[go_sem] theorem sz64 : szOf Tryz.prog 64 = some 1 := by kernel_rfl
@[go_sem] theorem ag64 : aggOf Tryz.prog 64 = some false := by kernel_rfl
@[go_sem] theorem es64 : elemS Tryz.prog 64 = none := by kernel_rfl
@[go_sem] theorem ha64 : hasT Tryz.prog 64 = true := by kernel_rfl
@[go_sem] theorem ic64 : isIfc Tryz.prog 64 = false := by kernel_rfl
@[go_sem] theorem by64 : bytesOf Tryz.prog 64 = some 8 := by kernel_rfl
@[go_sem] theorem mp64 : mapT Tryz.prog 64 = some (68, 3) := by kernel_rfl
@[go_sem] theorem ks68 : KS.of Tryz.prog 68 = some (.agg [.str, .str]) := by kernel_rfl
@[go_sem] theorem ze64 : zeroOf Tryz.prog 64 = some (.map none) := by kernel_rfl
@[go_sem] theorem sz65 : szOf Tryz.prog 65 = some 10 := by kernel_rfl
@[go_sem] theorem ag65 : aggOf Tryz.prog 65 = some true := by kernel_rfl
@[go_sem] theorem fl65_0 : fldOf Tryz.prog 65 0 = some (0, 30) := by kernel_rfl
@[go_sem] theorem fl65_1 : fldOf Tryz.prog 65 1 = some (9, 64) := by kernel_rfl
@[go_sem] theorem es65 : elemS Tryz.prog 65 = none := by kernel_rfl
@[go_sem] theorem ha65 : hasT Tryz.prog 65 = true := by kernel_rfl
@[go_sem] theorem ic65 : isIfc Tryz.prog 65 = false := by kernel_rfl
@[go_sem] theorem pl65 : placesOf Tryz.prog 65 = some [(0, 9), (9, 1)] := by kernel_rfl
@[go_sem] theorem by65 : bytesOf Tryz.prog 65 = some 160 := by kernel_rfl
@[go_sem] theorem ze65 : zeroOf Tryz.prog 65 = some (.agg #[(.slice none 0 0), (.int .i64 0), (.string ByteArray.empty), (.string ByteArray.empty), (.slice none 0 0), (.int .i64 0), (.slice none 0 0), (.slice none 0 0), (.int .i64 0), (.map none)]) := by kernel_rfl
@[go_sem] theorem sz66 : szOf Tryz.prog 66 = some 10 := by kernel_rfl
@[go_sem] theorem ag66 : aggOf Tryz.prog 66 = some true := by kernel_rfl
@[go_sem] theorem fl66_0 : fldOf Tryz.prog 66 0 = some (0, 30) := by kernel_rfl
@[go_sem] theorem fl66_1 : fldOf Tryz.prog 66 1 = some (9, 64) := by kernel_rfl
@[go_sem] theorem es66 : elemS Tryz.prog 66 = none := by kernel_rfl
@[go_sem] theorem ha66 : hasT Tryz.prog 66 = true := by kernel_rfl
@[go_sem] theorem ic66 : isIfc Tryz.prog 66 = false := by kernel_rfl
@[go_sem] theorem pl66 : placesOf Tryz.prog 66 = some [(0, 9), (9, 1)] := by kernel_rfl
@[go_sem] theorem by66 : bytesOf Tryz.prog 66 = some 160 := by kernel_rfl
@[go_sem] theorem ze66 : zeroOf Tryz.prog 66 = some (.agg #[(.slice none 0 0), (.int .i64 0), (.string ByteArray.empty), (.string ByteArray.empty), (.slice none 0 0), (.int .i64 0), (.slice none 0 0), (.slice none 0 0), (.int .i64 0), (.map none)]) := by kernel_rfl
@[go_sem] theorem sz67 : szOf Tryz.prog 67 = some 2 := by kernel_rfl
@[go_sem] theorem ag67 : aggOf Tryz.prog 67 = some true := by kernel_rfl
@[go_sem] theorem fl67_0 : fldOf Tryz.prog 67 0 = some (0, 9) := by kernel_rfl
@[go_sem] theorem fl67_1 : fldOf Tryz.prog 67 1 = some (1, 9) := by kernel_rfl
@[go_sem] theorem es67 : elemS Tryz.prog 67 = none := by kernel_rfl
@[go_sem] theorem ha67 : hasT Tryz.prog 67 = true := by kernel_rfl
@[go_sem] theorem ic67 : isIfc Tryz.prog 67 = false := by kernel_rfl
@[go_sem] theorem pl67 : placesOf Tryz.prog 67 = some [(0, 1), (1, 1)] := by kernel_rfl
@[go_sem] theorem by67 : bytesOf Tryz.prog 67 = some 32 := by kernel_rfl
@[go_sem] theorem ze67 : zeroOf Tryz.prog 67 = some (.agg #[(.string ByteArray.empty), (.string ByteArray.empty)]) := by kernel_rfl
@[go_sem] theorem sz68 : szOf Tryz.prog 68 = some 2 := by kernel_rfl
@[go_sem] theorem ag68 : aggOf Tryz.prog 68 = some true := by kernel_rfl
@[go_sem] theorem fl68_0 : fldOf Tryz.prog 68 0 = some (0, 9) := by kernel_rfl
@[go_sem] theorem fl68_1 : fldOf Tryz.prog 68 1 = some (1, 9) := by kernel_rfl
@[go_sem] theorem es68 : elemS Tryz.prog 68 = none := by kernel_rfl
@[go_sem] theorem ha68 : hasT Tryz.prog 68 = true := by kernel_rfl
@[go_sem] theorem ic68 : isIfc Tryz.prog 68 = false := by kernel_rfl
@[go_sem] theorem pl68 : placesOf Tryz.prog 68 = some [(0, 1), (1, 1)] := by kernel_rfl
@[go_sem] theorem by68 : bytesOf Tryz.prog 68 = some 32 := by kernel_rfl
@[go_sem] theorem ze68 : zeroOf Tryz.prog 68 = some (.agg #[(.string ByteArray.empty), (.string ByteArray.empty)]) := by kernel_rfl
@[go_sem] theorem sz69 : szOf Tryz.prog 69 = some 1 := by kernel_rfl
@[go_sem] theorem ag69 : aggOf Tryz.prog 69 = some false := by kernel_rfl
@[go_sem] theorem es69 : elemS Tryz.prog 69 = none := by kernel_rfl
@[go_sem] theorem ha69 : hasT Tryz.prog 69 = true := by kernel_rfl
@[go_sem] theorem ic69 : isIfc Tryz.prog 69 = false := by kernel_rfl
@[go_sem] theorem by69 : bytesOf Tryz.prog 69 = some 0 := by kernel_rfl
@[go_sem] theorem sz70 : szOf Tryz.prog 70 = some 1 := by kernel_rfl
@[go_sem] theorem ag70 : aggOf Tryz.prog 70 = some false := by kernel_rfl
@[go_sem] theorem es70 : elemS Tryz.prog 70 = none := by kernel_rfl
@[go_sem] theorem ha70 : hasT Tryz.prog 70 = true := by kernel_rfl
@[go_sem] theorem ic70 : isIfc Tryz.prog 70 = false := by kernel_rfl
@[go_sem] theorem by70 : bytesOf Tryz.prog 70 = some 8 := by kernel_rfl
@[go_sem] theorem ze70 : zeroOf Tryz.prog 70 = some .nilFunc := by kernel_rfl
@[go_sem] theorem sz71 : szOf Tryz.prog 71 = some 1 := by kernel_rfl
@[go_sem] theorem ag71 : aggOf Tryz.prog 71 = some false := by kernel_rfl
@[go_sem] theorem es71 : elemS Tryz.prog 71 = none := by kernel_rfl
@[go_sem] theorem ha71 : hasT Tryz.prog 71 = true := by kernel_rfl
@[go_sem] theorem ic71 : isIfc Tryz.prog 71 = false := by kernel_rfl
@[go_sem] theorem by71 : bytesOf Tryz.prog 71 = some 8 := by kernel_rfl
@[go_sem] theorem ze71 : zeroOf Tryz.prog 71 = some .nilFunc := by kernel_rfl
@[go_sem] theorem sz72 : szOf Tryz.prog 72 = some 1 := by kernel_rfl
@[go_sem] theorem ag72 : aggOf Tryz.prog 72 = some false := by kernel_rfl
@[go_sem] theorem es72 : elemS Tryz.prog 72 = none := by kernel_rfl
@[go_sem] theorem ha72 : hasT Tryz.prog 72 = true := by kernel_rfl
@[go_sem] theorem ic72 : isIfc Tryz.prog 72 = false := by kernel_rfl
@[go_sem] theorem by72 : bytesOf Tryz.prog 72 = some 8 := by kernel_rfl
@[go_sem] theorem ze72 : zeroOf Tryz.prog 72 = some .nilFunc := by kernel_rfl
@[go_sem] theorem sz73 : szOf Tryz.prog 73 = some 1 := by kernel_rfl
@[go_sem] theorem ag73 : aggOf Tryz.prog 73 = some false := by kernel_rfl
@[go_sem] theorem es73 : elemS Tryz.prog 73 = none := by kernel_rfl
@[go_sem] theorem ha73 : hasT Tryz.prog 73 = true := by kernel_rfl
@[go_sem] theorem ic73 : isIfc Tryz.prog 73 = false := by kernel_rfl
@[go_sem] theorem by73 : bytesOf Tryz.prog 73 = some 8 := by kernel_rfl
@[go_sem] theorem ze73 : zeroOf Tryz.prog 73 = some .nilFunc := by kernel_rfl
@[go_sem] theorem sz74 : szOf Tryz.prog 74 = some 1 := by kernel_rfl
@[go_sem] theorem ag74 : aggOf Tryz.prog 74 = some false := by kernel_rfl
@[go_sem] theorem es74 : elemS Tryz.prog 74 = none := by kernel_rfl
@[go_sem] theorem ha74 : hasT Tryz.prog 74 = true := by kernel_rfl
@[go_sem] theorem ic74 : isIfc Tryz.prog 74 = false := by kernel_rfl
@[go_sem] theorem by74 : bytesOf Tryz.prog 74 = some 0 := by kernel_rfl
@[go_sem] theorem sz75 : szOf Tryz.prog 75 = some 1 := by kernel_rfl
@[go_sem] theorem ag75 : aggOf Tryz.prog 75 = some false := by kernel_rfl
@[go_sem] theorem es75 : elemS Tryz.prog 75 = none := by kernel_rfl
@[go_sem] theorem ha75 : hasT Tryz.prog 75 = true := by kernel_rfl
@[go_sem] theorem ic75 : isIfc Tryz.prog 75 = false := by kernel_rfl
@[go_sem] theorem by75 : bytesOf Tryz.prog 75 = some 8 := by kernel_rfl
@[go_sem] theorem ze75 : zeroOf Tryz.prog 75 = some .nilFunc := by kernel_rfl
@[go_sem] theorem sz76 : szOf Tryz.prog 76 = some 1 := by kernel_rfl
@[go_sem] theorem ag76 : aggOf Tryz.prog 76 = some false := by kernel_rfl
@[go_sem] theorem es76 : elemS Tryz.prog 76 = none := by kernel_rfl
@[go_sem] theorem ha76 : hasT Tryz.prog 76 = true := by kernel_rfl
@[go_sem] theorem ic76 : isIfc Tryz.prog 76 = false := by kernel_rfl
@[go_sem] theorem by76 : bytesOf Tryz.prog 76 = some 0 := by kernel_rfl
@[go_sem] theorem sz77 : szOf Tryz.prog 77 = some 1 := by kernel_rfl
@[go_sem] theorem ag77 : aggOf Tryz.prog 77 = some false := by kernel_rfl
@[go_sem] theorem es77 : elemS Tryz.prog 77 = none := by kernel_rfl
@[go_sem] theorem ha77 : hasT Tryz.prog 77 = true := by kernel_rfl
@[go_sem] theorem ic77 : isIfc Tryz.prog 77 = false := by kernel_rfl
@[go_sem] theorem by77 : bytesOf Tryz.prog 77 = some 8 := by kernel_rfl
@[go_sem] theorem ze77 : zeroOf Tryz.prog 77 = some .nilFunc := by kernel_rfl
@[go_sem] theorem sz78 : szOf Tryz.prog 78 = some 1 := by kernel_rfl
@[go_sem] theorem ag78 : aggOf Tryz.prog 78 = some false := by kernel_rfl
@[go_sem] theorem es78 : elemS Tryz.prog 78 = none := by kernel_rfl
@[go_sem] theorem ha78 : hasT Tryz.prog 78 = true := by kernel_rfl
@[go_sem] theorem ic78 : isIfc Tryz.prog 78 = false := by kernel_rfl
@[go_sem] theorem by78 : bytesOf Tryz.prog 78 = some 8 := by kernel_rfl
@[go_sem] theorem ze78 : zeroOf Tryz.prog 78 = some .nilFunc := by kernel_rfl
@[go_sem] theorem sz79 : szOf Tryz.prog 79 = some 1 := by kernel_rfl
@[go_sem] theorem ag79 : aggOf Tryz.prog 79 = some false := by kernel_rfl
@[go_sem] theorem es79 : elemS Tryz.prog 79 = none := by kernel_rfl
@[go_sem] theorem ha79 : hasT Tryz.prog 79 = true := by kernel_rfl
@[go_sem] theorem ic79 : isIfc Tryz.prog 79 = false := by kernel_rfl
@[go_sem] theorem by79 : bytesOf Tryz.prog 79 = some 8 := by kernel_rfl
@[go_sem] theorem ze79 : zeroOf Tryz.prog 79 = some .nilFunc := by kernel_rfl
@[go_sem] theorem sz80 : szOf Tryz.prog 80 = some 1 := by kernel_rfl
@[go_sem] theorem ag80 : aggOf Tryz.prog 80 = some false := by kernel_rfl
@[go_sem] theorem es80 : elemS Tryz.prog 80 = none := by kernel_rfl
@[go_sem] theorem ha80 : hasT Tryz.prog 80 = true := by kernel_rfl
@[go_sem] theorem ic80 : isIfc Tryz.prog 80 = false := by kernel_rfl
@[go_sem] theorem by80 : bytesOf Tryz.prog 80 = some 8 := by kernel_rfl
@[go_sem] theorem ze80 : zeroOf Tryz.prog 80 = some .nilFunc := by kernel_rfl
@[go_sem] theorem sz81 : szOf Tryz.prog 81 = some 1 := by kernel_rfl
@[go_sem] theorem ag81 : aggOf Tryz.prog 81 = some false := by kernel_rfl
@[go_sem] theorem es81 : elemS Tryz.prog 81 = none := by kernel_rfl
@[go_sem] theorem ha81 : hasT Tryz.prog 81 = true := by kernel_rfl
@[go_sem] theorem ic81 : isIfc Tryz.prog 81 = false := by kernel_rfl
@[go_sem] theorem by81 : bytesOf Tryz.prog 81 = some 8 := by kernel_rfl
@[go_sem] theorem ze81 : zeroOf Tryz.prog 81 = some .nilFunc := by kernel_rfl
@[go_sem] theorem sz82 : szOf Tryz.prog 82 = some 1 := by kernel_rfl
@[go_sem] theorem ag82 : aggOf Tryz.prog 82 = some false := by kernel_rfl
@[go_sem] theorem es82 : elemS Tryz.prog 82 = none := by kernel_rfl
@[go_sem] theorem ha82 : hasT Tryz.prog 82 = true := by kernel_rfl
@[go_sem] theorem ic82 : isIfc Tryz.prog 82 = false := by kernel_rfl
@[go_sem] theorem by82 : bytesOf Tryz.prog 82 = some 8 := by kernel_rfl
@[go_sem] theorem ze82 : zeroOf Tryz.prog 82 = some .nilFunc := by kernel_rfl
@[go_sem] theorem sz83 : szOf Tryz.prog 83 = some 1 := by kernel_rfl
@[go_sem] theorem ag83 : aggOf Tryz.prog 83 = some false := by kernel_rfl
@[go_sem] theorem es83 : elemS Tryz.prog 83 = none := by kernel_rfl
@[go_sem] theorem ha83 : hasT Tryz.prog 83 = true := by kernel_rfl
@[go_sem] theorem ic83 : isIfc Tryz.prog 83 = false := by kernel_rfl
@[go_sem] theorem by83 : bytesOf Tryz.prog 83 = some 8 := by kernel_rfl
@[go_sem] theorem ze83 : zeroOf Tryz.prog 83 = some .nilFunc := by kernel_rfl
@[go_sem] theorem sz84 : szOf Tryz.prog 84 = some 1 := by kernel_rfl
@[go_sem] theorem ag84 : aggOf Tryz.prog 84 = some false := by kernel_rfl
@[go_sem] theorem es84 : elemS Tryz.prog 84 = none := by kernel_rfl
@[go_sem] theorem ha84 : hasT Tryz.prog 84 = true := by kernel_rfl
@[go_sem] theorem ic84 : isIfc Tryz.prog 84 = false := by kernel_rfl
@[go_sem] theorem by84 : bytesOf Tryz.prog 84 = some 0 := by kernel_rfl
@[go_sem] theorem sz85 : szOf Tryz.prog 85 = some 1 := by kernel_rfl
@[go_sem] theorem ag85 : aggOf Tryz.prog 85 = some false := by kernel_rfl
@[go_sem] theorem es85 : elemS Tryz.prog 85 = none := by kernel_rfl
@[go_sem] theorem ha85 : hasT Tryz.prog 85 = true := by kernel_rfl
@[go_sem] theorem ic85 : isIfc Tryz.prog 85 = false := by kernel_rfl
@[go_sem] theorem by85 : bytesOf Tryz.prog 85 = some 8 := by kernel_rfl
@[go_sem] theorem ze85 : zeroOf Tryz.prog 85 = some .nilFunc := by kernel_rfl
@[go_sem] theorem sz86 : szOf Tryz.prog 86 = some 1 := by kernel_rfl
@[go_sem] theorem ag86 : aggOf Tryz.prog 86 = some false := by kernel_rfl
@[go_sem] theorem es86 : elemS Tryz.prog 86 = none := by kernel_rfl
@[go_sem] theorem ha86 : hasT Tryz.prog 86 = true := by kernel_rfl
@[go_sem] theorem ic86 : isIfc Tryz.prog 86 = false := by kernel_rfl
@[go_sem] theorem by86 : bytesOf Tryz.prog 86 = some 8 := by kernel_rfl
@[go_sem] theorem ze86 : zeroOf Tryz.prog 86 = some .nilFunc := by kernel_rfl
@[go_sem] theorem sz87 : szOf Tryz.prog 87 = some 1 := by kernel_rfl
@[go_sem] theorem ag87 : aggOf Tryz.prog 87 = some false := by kernel_rfl
@[go_sem] theorem es87 : elemS Tryz.prog 87 = none := by kernel_rfl
@[go_sem] theorem ha87 : hasT Tryz.prog 87 = true := by kernel_rfl
@[go_sem] theorem ic87 : isIfc Tryz.prog 87 = false := by kernel_rfl
@[go_sem] theorem by87 : bytesOf Tryz.prog 87 = some 8 := by kernel_rfl
@[go_sem] theorem ze87 : zeroOf Tryz.prog 87 = some .nilFunc := by kernel_rfl
@[go_sem] theorem sz88 : szOf Tryz.prog 88 = some 1 := by kernel_rfl
@[go_sem] theorem ag88 : aggOf Tryz.prog 88 = some false := by kernel_rfl
@[go_sem] theorem es88 : elemS Tryz.prog 88 = none := by kernel_rfl
@[go_sem] theorem ha88 : hasT Tryz.prog 88 = true := by kernel_rfl
@[go_sem] theorem ic88 : isIfc Tryz.prog 88 = false := by kernel_rfl
@[go_sem] theorem by88 : bytesOf Tryz.prog 88 = some 8 := by kernel_rfl
@[go_sem] theorem ze88 : zeroOf Tryz.prog 88 = some .nilFunc := by kernel_rfl
@[go_sem] theorem sz89 : szOf Tryz.prog 89 = some 1 := by kernel_rfl
@[go_sem] theorem ag89 : aggOf Tryz.prog 89 = some false := by kernel_rfl
@[go_sem] theorem es89 : elemS Tryz.prog 89 = none := by kernel_rfl
@[go_sem] theorem ha89 : hasT Tryz.prog 89 = true := by kernel_rfl
@[go_sem] theorem ic89 : isIfc Tryz.prog 89 = false := by kernel_rfl
@[go_sem] theorem by89 : bytesOf Tryz.prog 89 = some 8 := by kernel_rfl
@[go_sem] theorem ze89 : zeroOf Tryz.prog 89 = some .nilFunc := by kernel_rfl
@[go_sem] theorem sz90 : szOf Tryz.prog 90 = some 1 := by kernel_rfl
@[go_sem] theorem ag90 : aggOf Tryz.prog 90 = some false := by kernel_rfl
@[go_sem] theorem es90 : elemS Tryz.prog 90 = none := by kernel_rfl
@[go_sem] theorem ha90 : hasT Tryz.prog 90 = true := by kernel_rfl
@[go_sem] theorem ic90 : isIfc Tryz.prog 90 = false := by kernel_rfl
@[go_sem] theorem by90 : bytesOf Tryz.prog 90 = some 8 := by kernel_rfl
@[go_sem] theorem ze90 : zeroOf Tryz.prog 90 = some .nilFunc := by kernel_rfl
@[go_sem] theorem sz91 : szOf Tryz.prog 91 = some 1 := by kernel_rfl
@[go_sem] theorem ag91 : aggOf Tryz.prog 91 = some false := by kernel_rfl
@[go_sem] theorem es91 : elemS Tryz.prog 91 = none := by kernel_rfl
@[go_sem] theorem ha91 : hasT Tryz.prog 91 = true := by kernel_rfl
@[go_sem] theorem ic91 : isIfc Tryz.prog 91 = false := by kernel_rfl
@[go_sem] theorem by91 : bytesOf Tryz.prog 91 = some 8 := by kernel_rfl
@[go_sem] theorem ze91 : zeroOf Tryz.prog 91 = some .nilFunc := by kernel_rfl
@[go_sem] theorem sz92 : szOf Tryz.prog 92 = some 1 := by kernel_rfl
@[go_sem] theorem ag92 : aggOf Tryz.prog 92 = some false := by kernel_rfl
@[go_sem] theorem es92 : elemS Tryz.prog 92 = none := by kernel_rfl
@[go_sem] theorem ha92 : hasT Tryz.prog 92 = true := by kernel_rfl
@[go_sem] theorem ic92 : isIfc Tryz.prog 92 = false := by kernel_rfl
@[go_sem] theorem by92 : bytesOf Tryz.prog 92 = some 8 := by kernel_rfl
@[go_sem] theorem ze92 : zeroOf Tryz.prog 92 = some .nilFunc := by kernel_rfl
@[go_sem] theorem sz93 : szOf Tryz.prog 93 = some 1 := by kernel_rfl
@[go_sem] theorem ag93 : aggOf Tryz.prog 93 = some false := by kernel_rfl
@[go_sem] theorem es93 : elemS Tryz.prog 93 = none := by kernel_rfl
@[go_sem] theorem ha93 : hasT Tryz.prog 93 = true := by kernel_rfl
@[go_sem] theorem ic93 : isIfc Tryz.prog 93 = false := by kernel_rfl
@[go_sem] theorem by93 : bytesOf Tryz.prog 93 = some 8 := by kernel_rfl
@[go_sem] theorem ze93 : zeroOf Tryz.prog 93 = some .nilFunc := by kernel_rfl
@[go_sem] theorem sz94 : szOf Tryz.prog 94 = some 1 := by kernel_rfl
@[go_sem] theorem ag94 : aggOf Tryz.prog 94 = some false := by kernel_rfl
@[go_sem] theorem es94 : elemS Tryz.prog 94 = none := by kernel_rfl
@[go_sem] theorem ha94 : hasT Tryz.prog 94 = true := by kernel_rfl
@[go_sem] theorem ic94 : isIfc Tryz.prog 94 = false := by kernel_rfl
@[go_sem] theorem by94 : bytesOf Tryz.prog 94 = some 8 := by kernel_rfl
@[go_sem] theorem ze94 : zeroOf Tryz.prog 94 = some .nilFunc := by kernel_rfl
@[go_sem] theorem sz95 : szOf Tryz.prog 95 = some 1 := by kernel_rfl
@[go_sem] theorem ag95 : aggOf Tryz.prog 95 = some false := by kernel_rfl
@[go_sem] theorem es95 : elemS Tryz.prog 95 = none := by kernel_rfl
@[go_sem] theorem ha95 : hasT Tryz.prog 95 = true := by kernel_rfl
@[go_sem] theorem ic95 : isIfc Tryz.prog 95 = false := by kernel_rfl
@[go_sem] theorem by95 : bytesOf Tryz.prog 95 = some 8 := by kernel_rfl
@[go_sem] theorem ze95 : zeroOf Tryz.prog 95 = some .nilFunc := by kernel_rfl
@[go_sem] theorem sz96 : szOf Tryz.prog 96 = some 1 := by kernel_rfl
@[go_sem] theorem ag96 : aggOf Tryz.prog 96 = some false := by kernel_rfl
@[go_sem] theorem es96 : elemS Tryz.prog 96 = none := by kernel_rfl
@[go_sem] theorem ha96 : hasT Tryz.prog 96 = true := by kernel_rfl
@[go_sem] theorem ic96 : isIfc Tryz.prog 96 = false := by kernel_rfl
@[go_sem] theorem by96 : bytesOf Tryz.prog 96 = some 8 := by kernel_rfl
@[go_sem] theorem ze96 : zeroOf Tryz.prog 96 = some .nilFunc := by kernel_rfl
@[go_sem] theorem sz97 : szOf Tryz.prog 97 = some 1 := by kernel_rfl
@[go_sem] theorem ag97 : aggOf Tryz.prog 97 = some false := by kernel_rfl
@[go_sem] theorem es97 : elemS Tryz.prog 97 = none := by kernel_rfl
@[go_sem] theorem ha97 : hasT Tryz.prog 97 = true := by kernel_rfl
@[go_sem] theorem ic97 : isIfc Tryz.prog 97 = false := by kernel_rfl
@[go_sem] theorem by97 : bytesOf Tryz.prog 97 = some 8 := by kernel_rfl
@[go_sem] theorem ze97 : zeroOf Tryz.prog 97 = some .nilFunc := by kernel_rfl
@[go_sem] theorem sz98 : szOf Tryz.prog 98 = some 1 := by kernel_rfl
@[go_sem] theorem ag98 : aggOf Tryz.prog 98 = some false := by kernel_rfl
@[go_sem] theorem es98 : elemS Tryz.prog 98 = none := by kernel_rfl
@[go_sem] theorem ha98 : hasT Tryz.prog 98 = true := by kernel_rfl
@[go_sem] theorem ic98 : isIfc Tryz.prog 98 = false := by kernel_rfl
@[go_sem] theorem by98 : bytesOf Tryz.prog 98 = some 8 := by kernel_rfl
@[go_sem] theorem ze98 : zeroOf Tryz.prog 98 = some .nilFunc := by kernel_rfl
@[go_sem] theorem sz99 : szOf Tryz.prog 99 = some 1 := by kernel_rfl
@[go_sem] theorem ag99 : aggOf Tryz.prog 99 = some false := by kernel_rfl
@[go_sem] theorem es99 : elemS Tryz.prog 99 = none := by kernel_rfl
@[go_sem] theorem ha99 : hasT Tryz.prog 99 = true := by kernel_rfl
@[go_sem] theorem ic99 : isIfc Tryz.prog 99 = false := by kernel_rfl
@[go_sem] theorem by99 : bytesOf Tryz.prog 99 = some 8 := by kernel_rfl
@[go_sem] theorem ze99 : zeroOf Tryz.prog 99 = some .nilFunc := by kernel_rfl
@[go_sem] theorem sz100 : szOf Tryz.prog 100 = some 1 := by kernel_rfl
@[go_sem] theorem ag100 : aggOf Tryz.prog 100 = some false := by kernel_rfl
@[go_sem] theorem es100 : elemS Tryz.prog 100 = none := by kernel_rfl
@[go_sem] theorem ha100 : hasT Tryz.prog 100 = true := by kernel_rfl
@[go_sem] theorem ic100 : isIfc Tryz.prog 100 = false := by kernel_rfl
@[go_sem] theorem by100 : bytesOf Tryz.prog 100 = some 8 := by kernel_rfl
@[go_sem] theorem ze100 : zeroOf Tryz.prog 100 = some .nilFunc := by kernel_rfl
@[go_sem] theorem sz101 : szOf Tryz.prog 101 = some 1 := by kernel_rfl
@[go_sem] theorem ag101 : aggOf Tryz.prog 101 = some false := by kernel_rfl
@[go_sem] theorem es101 : elemS Tryz.prog 101 = none := by kernel_rfl
@[go_sem] theorem ha101 : hasT Tryz.prog 101 = true := by kernel_rfl
@[go_sem] theorem ic101 : isIfc Tryz.prog 101 = false := by kernel_rfl
@[go_sem] theorem by101 : bytesOf Tryz.prog 101 = some 8 := by kernel_rfl
@[go_sem] theorem ze101 : zeroOf Tryz.prog 101 = some .nilFunc := by kernel_rfl
@[go_sem] theorem sz102 : szOf Tryz.prog 102 = some 1 := by kernel_rfl
@[go_sem] theorem ag102 : aggOf Tryz.prog 102 = some false := by kernel_rfl
@[go_sem] theorem es102 : elemS Tryz.prog 102 = none := by kernel_rfl
@[go_sem] theorem ha102 : hasT Tryz.prog 102 = true := by kernel_rfl
@[go_sem] theorem ic102 : isIfc Tryz.prog 102 = false := by kernel_rfl
@[go_sem] theorem by102 : bytesOf Tryz.prog 102 = some 8 := by kernel_rfl
@[go_sem] theorem ze102 : zeroOf Tryz.prog 102 = some .nilFunc := by kernel_rfl
@[go_sem] theorem sz103 : szOf Tryz.prog 103 = some 1 := by kernel_rfl
@[go_sem] theorem ag103 : aggOf Tryz.prog 103 = some false := by kernel_rfl
@[go_sem] theorem es103 : elemS Tryz.prog 103 = none := by kernel_rfl
@[go_sem] theorem ha103 : hasT Tryz.prog 103 = true := by kernel_rfl
@[go_sem] theorem ic103 : isIfc Tryz.prog 103 = false := by kernel_rfl
@[go_sem] theorem by103 : bytesOf Tryz.prog 103 = some 8 := by kernel_rfl
@[go_sem] theorem ze103 : zeroOf Tryz.prog 103 = some .nilFunc := by kernel_rfl
@[go_sem] theorem sz104 : szOf Tryz.prog 104 = some 1 := by kernel_rfl
@[go_sem] theorem ag104 : aggOf Tryz.prog 104 = some false := by kernel_rfl
@[go_sem] theorem es104 : elemS Tryz.prog 104 = none := by kernel_rfl
@[go_sem] theorem ha104 : hasT Tryz.prog 104 = true := by kernel_rfl
@[go_sem] theorem ic104 : isIfc Tryz.prog 104 = false := by kernel_rfl
@[go_sem] theorem by104 : bytesOf Tryz.prog 104 = some 8 := by kernel_rfl
@[go_sem] theorem ze104 : zeroOf Tryz.prog 104 = some .nilFunc := by kernel_rfl
@[go_sem] theorem sz105 : szOf Tryz.prog 105 = some 1 := by kernel_rfl
@[go_sem] theorem ag105 : aggOf Tryz.prog 105 = some false := by kernel_rfl
@[go_sem] theorem es105 : elemS Tryz.prog 105 = none := by kernel_rfl
@[go_sem] theorem ha105 : hasT Tryz.prog 105 = true := by kernel_rfl
@[go_sem] theorem ic105 : isIfc Tryz.prog 105 = false := by kernel_rfl
@[go_sem] theorem by105 : bytesOf Tryz.prog 105 = some 8 := by kernel_rfl
@[go_sem] theorem ze105 : zeroOf Tryz.prog 105 = some .nilFunc := by kernel_rfl
@[go_sem] theorem sz106 : szOf Tryz.prog 106 = some 1 := by kernel_rfl
@[go_sem] theorem ag106 : aggOf Tryz.prog 106 = some false := by kernel_rfl
@[go_sem] theorem es106 : elemS Tryz.prog 106 = none := by kernel_rfl
@[go_sem] theorem ha106 : hasT Tryz.prog 106 = true := by kernel_rfl
@[go_sem] theorem ic106 : isIfc Tryz.prog 106 = false := by kernel_rfl
@[go_sem] theorem by106 : bytesOf Tryz.prog 106 = some 8 := by kernel_rfl
@[go_sem] theorem mp106 : mapT Tryz.prog 106 = some (9, 4) := by kernel_rfl
@[go_sem] theorem ks9 : KS.of Tryz.prog 9 = some (.one .str) := by kernel_rfl
@[go_sem] theorem ze106 : zeroOf Tryz.prog 106 = some (.map none) := by kernel_rfl
@[go_sem] theorem sz107 : szOf Tryz.prog 107 = some 1 := by kernel_rfl
@[go_sem] theorem ag107 : aggOf Tryz.prog 107 = some false := by kernel_rfl
@[go_sem] theorem es107 : elemS Tryz.prog 107 = none := by kernel_rfl
@[go_sem] theorem ha107 : hasT Tryz.prog 107 = true := by kernel_rfl
@[go_sem] theorem ic107 : isIfc Tryz.prog 107 = false := by kernel_rfl
@[go_sem] theorem by107 : bytesOf Tryz.prog 107 = some 8 := by kernel_rfl
@[go_sem] theorem ze107 : zeroOf Tryz.prog 107 = some .nilFunc := by kernel_rfl
@[go_sem] theorem sz108 : szOf Tryz.prog 108 = some 1 := by kernel_rfl
@[go_sem] theorem ag108 : aggOf Tryz.prog 108 = some false := by kernel_rfl
@[go_sem] theorem es108 : elemS Tryz.prog 108 = none := by kernel_rfl
@[go_sem] theorem ha108 : hasT Tryz.prog 108 = true := by kernel_rfl
@[go_sem] theorem ic108 : isIfc Tryz.prog 108 = false := by kernel_rfl
@[go_sem] theorem by108 : bytesOf Tryz.prog 108 = some 8 := by kernel_rfl
@[go_sem] theorem ze108 : zeroOf Tryz.prog 108 = some .nilFunc := by kernel_rfl
@[go_sem] theorem sz109 : szOf Tryz.prog 109 = some 1 := by kernel_rfl
@[go_sem] theorem ag109 : aggOf Tryz.prog 109 = some false := by kernel_rfl
@[go_sem] theorem es109 : elemS Tryz.prog 109 = none := by kernel_rfl
@[go_sem] theorem ha109 : hasT Tryz.prog 109 = true := by kernel_rfl
@[go_sem] theorem ic109 : isIfc Tryz.prog 109 = false := by kernel_rfl
@[go_sem] theorem io109 : intOfT Tryz.prog 109 = some .u64 := by kernel_rfl
@[go_sem] theorem by109 : bytesOf Tryz.prog 109 = some 8 := by kernel_rfl
@[go_sem] theorem ze109 : zeroOf Tryz.prog 109 = some (.int .u64 0) := by kernel_rfl
@[go_sem] theorem sz110 : szOf Tryz.prog 110 = some 5 := by kernel_rfl
@[go_sem] theorem ag110 : aggOf Tryz.prog 110 = some true := by kernel_rfl
@[go_sem] theorem fl110_0 : fldOf Tryz.prog 110 0 = some (0, 9) := by kernel_rfl
@[go_sem] theorem fl110_1 : fldOf Tryz.prog 110 1 = some (1, 25) := by kernel_rfl
@[go_sem] theorem fl110_2 : fldOf Tryz.prog 110 2 = some (4, 3) := by kernel_rfl
@[go_sem] theorem es110 : elemS Tryz.prog 110 = none := by kernel_rfl
@[go_sem] theorem ha110 : hasT Tryz.prog 110 = true := by kernel_rfl
@[go_sem] theorem ic110 : isIfc Tryz.prog 110 = false := by kernel_rfl
@[go_sem] theorem pl110 : placesOf Tryz.prog 110 = some [(0, 1), (1, 3), (4, 1)] := by kernel_rfl
@[go_sem] theorem by110 : bytesOf Tryz.prog 110 = some 72 := by kernel_rfl
@[go_sem] theorem ze110 : zeroOf Tryz.prog 110 = some (.agg #[(.string ByteArray.empty), (.string ByteArray.empty), (.slice none 0 0), (.int .i64 0), (.int .i64 0)]) := by kernel_rfl
@[go_sem] theorem sz111 : szOf Tryz.prog 111 = some 5 := by kernel_rfl
@[go_sem] theorem ag111 : aggOf Tryz.prog 111 = some true := by kernel_rfl
@[go_sem] theorem fl111_0 : fldOf Tryz.prog 111 0 = some (0, 9) := by kernel_rfl
@[go_sem] theorem fl111_1 : fldOf Tryz.prog 111 1 = some (1, 25) := by kernel_rfl
@[go_sem] theorem fl111_2 : fldOf Tryz.prog 111 2 = some (4, 3) := by kernel_rfl
@[go_sem] theorem es111 : elemS Tryz.prog 111 = none := by kernel_rfl
@[go_sem] theorem ha111 : hasT Tryz.prog 111 = true := by kernel_rfl
@[go_sem] theorem ic111 : isIfc Tryz.prog 111 = false := by kernel_rfl
@[go_sem] theorem pl111 : placesOf Tryz.prog 111 = some [(0, 1), (1, 3), (4, 1)] := by kernel_rfl
@[go_sem] theorem by111 : bytesOf Tryz.prog 111 = some 72 := by kernel_rfl
@[go_sem] theorem ze111 : zeroOf Tryz.prog 111 = some (.agg #[(.string ByteArray.empty), (.string ByteArray.empty), (.slice none 0 0), (.int .i64 0), (.int .i64 0)]) := by kernel_rfl
@[go_sem] theorem sz112 : szOf Tryz.prog 112 = some 1 := by kernel_rfl
@[go_sem] theorem ag112 : aggOf Tryz.prog 112 = some false := by kernel_rfl
@[go_sem] theorem es112 : elemS Tryz.prog 112 = none := by kernel_rfl
@[go_sem] theorem ha112 : hasT Tryz.prog 112 = true := by kernel_rfl
@[go_sem] theorem ic112 : isIfc Tryz.prog 112 = false := by kernel_rfl
@[go_sem] theorem by112 : bytesOf Tryz.prog 112 = some 8 := by kernel_rfl
@[go_sem] theorem ze112 : zeroOf Tryz.prog 112 = some .nilFunc := by kernel_rfl
@[go_sem] theorem sz113 : szOf Tryz.prog 113 = some 1 := by kernel_rfl
@[go_sem] theorem ag113 : aggOf Tryz.prog 113 = some false := by kernel_rfl
@[go_sem] theorem es113 : elemS Tryz.prog 113 = none := by kernel_rfl
@[go_sem] theorem ha113 : hasT Tryz.prog 113 = true := by kernel_rfl
@[go_sem] theorem ic113 : isIfc Tryz.prog 113 = false := by kernel_rfl
@[go_sem] theorem by113 : bytesOf Tryz.prog 113 = some 8 := by kernel_rfl
@[go_sem] theorem ze113 : zeroOf Tryz.prog 113 = some .nilFunc := by kernel_rfl
@[go_sem] theorem sz114 : szOf Tryz.prog 114 = some 1 := by kernel_rfl
@[go_sem] theorem ag114 : aggOf Tryz.prog 114 = some false := by kernel_rfl
@[go_sem] theorem es114 : elemS Tryz.prog 114 = none := by kernel_rfl
@[go_sem] theorem ha114 : hasT Tryz.prog 114 = true := by kernel_rfl
@[go_sem] theorem ic114 : isIfc Tryz.prog 114 = false := by kernel_rfl
@[go_sem] theorem by114 : bytesOf Tryz.prog 114 = some 8 := by kernel_rfl
@[go_sem] theorem ze114 : zeroOf Tryz.prog 114 = some .nilFunc := by kernel_rfl
@[go_sem] theorem sz115 : szOf Tryz.prog 115 = some 1 := by kernel_rfl
@[go_sem] theorem ag115 : aggOf Tryz.prog 115 = some false := by kernel_rfl
@[go_sem] theorem es115 : elemS Tryz.prog 115 = none := by kernel_rfl
@[go_sem] theorem ha115 : hasT Tryz.prog 115 = true := by kernel_rfl
@[go_sem] theorem ic115 : isIfc Tryz.prog 115 = false := by kernel_rfl
@[go_sem] theorem by115 : bytesOf Tryz.prog 115 = some 8 := by kernel_rfl
@[go_sem] theorem ze115 : zeroOf Tryz.prog 115 = some .nilFunc := by kernel_rfl
@[go_sem] theorem sz116 : szOf Tryz.prog 116 = some 1 := by kernel_rfl
@[go_sem] theorem ag116 : aggOf Tryz.prog 116 = some false := by kernel_rfl
@[go_sem] theorem es116 : elemS Tryz.prog 116 = none := by kernel_rfl
@[go_sem] theorem ha116 : hasT Tryz.prog 116 = true := by kernel_rfl
@[go_sem] theorem ic116 : isIfc Tryz.prog 116 = false := by kernel_rfl
@[go_sem] theorem by116 : bytesOf Tryz.prog 116 = some 8 := by kernel_rfl
@[go_sem] theorem ze116 : zeroOf Tryz.prog 116 = some .nilFunc := by kernel_rfl
@[go_sem] theorem sz117 : szOf Tryz.prog 117 = some 1 := by kernel_rfl
@[go_sem] theorem ag117 : aggOf Tryz.prog 117 = some false := by kernel_rfl
@[go_sem] theorem es117 : elemS Tryz.prog 117 = none := by kernel_rfl
@[go_sem] theorem ha117 : hasT Tryz.prog 117 = true := by kernel_rfl
@[go_sem] theorem ic117 : isIfc Tryz.prog 117 = false := by kernel_rfl
@[go_sem] theorem by117 : bytesOf Tryz.prog 117 = some 8 := by kernel_rfl
@[go_sem] theorem ze117 : zeroOf Tryz.prog 117 = some .nilFunc := by kernel_rfl
@[go_sem] theorem sz118 : szOf Tryz.prog 118 = some 1 := by kernel_rfl
@[go_sem] theorem ag118 : aggOf Tryz.prog 118 = some false := by kernel_rfl
@[go_sem] theorem es118 : elemS Tryz.prog 118 = none := by kernel_rfl
@[go_sem] theorem ha118 : hasT Tryz.prog 118 = true := by kernel_rfl
@[go_sem] theorem ic118 : isIfc Tryz.prog 118 = false := by kernel_rfl
@[go_sem] theorem by118 : bytesOf Tryz.prog 118 = some 8 := by kernel_rfl
@[go_sem] theorem ze118 : zeroOf Tryz.prog 118 = some .nilFunc := by kernel_rfl
@[go_sem] theorem sz119 : szOf Tryz.prog 119 = some 1 := by kernel_rfl
@[go_sem] theorem ag119 : aggOf Tryz.prog 119 = some false := by kernel_rfl
@[go_sem] theorem es119 : elemS Tryz.prog 119 = none := by kernel_rfl
@[go_sem] theorem ha119 : hasT Tryz.prog 119 = true := by kernel_rfl
@[go_sem] theorem ic119 : isIfc Tryz.prog 119 = false := by kernel_rfl
@[go_sem] theorem by119 : bytesOf Tryz.prog 119 = some 8 := by kernel_rfl
@[go_sem] theorem ze119 : zeroOf Tryz.prog 119 = some .nilFunc := by kernel_rfl
@[go_sem] theorem sz120 : szOf Tryz.prog 120 = some 1 := by kernel_rfl
@[go_sem] theorem ag120 : aggOf Tryz.prog 120 = some false := by kernel_rfl
@[go_sem] theorem es120 : elemS Tryz.prog 120 = none := by kernel_rfl
@[go_sem] theorem ha120 : hasT Tryz.prog 120 = true := by kernel_rfl
@[go_sem] theorem ic120 : isIfc Tryz.prog 120 = false := by kernel_rfl
@[go_sem] theorem by120 : bytesOf Tryz.prog 120 = some 8 := by kernel_rfl
@[go_sem] theorem ze120 : zeroOf Tryz.prog 120 = some .nilFunc := by kernel_rfl
@[go_sem] theorem sz121 : szOf Tryz.prog 121 = some 1 := by kernel_rfl
@[go_sem] theorem ag121 : aggOf Tryz.prog 121 = some false := by kernel_rfl
@[go_sem] theorem es121 : elemS Tryz.prog 121 = none := by kernel_rfl
@[go_sem] theorem ha121 : hasT Tryz.prog 121 = true := by kernel_rfl
@[go_sem] theorem ic121 : isIfc Tryz.prog 121 = false := by kernel_rfl
@[go_sem] theorem by121 : bytesOf Tryz.prog 121 = some 8 := by kernel_rfl
@[go_sem] theorem ze121 : zeroOf Tryz.prog 121 = some .nilFunc := by kernel_rfl
@[go_sem] theorem sz122 : szOf Tryz.prog 122 = some 1 := by kernel_rfl
@[go_sem] theorem ag122 : aggOf Tryz.prog 122 = some false := by kernel_rfl
@[go_sem] theorem es122 : elemS Tryz.prog 122 = none := by kernel_rfl
@[go_sem] theorem ha122 : hasT Tryz.prog 122 = true := by kernel_rfl
@[go_sem] theorem ic122 : isIfc Tryz.prog 122 = false := by kernel_rfl
@[go_sem] theorem by122 : bytesOf Tryz.prog 122 = some 8 := by kernel_rfl
@[go_sem] theorem ze122 : zeroOf Tryz.prog 122 = some .nilFunc := by kernel_rfl
@[go_sem] theorem sz123 : szOf Tryz.prog 123 = some 1 := by kernel_rfl
@[go_sem] theorem ag123 : aggOf Tryz.prog 123 = some false := by kernel_rfl
@[go_sem] theorem es123 : elemS Tryz.prog 123 = none := by kernel_rfl
@[go_sem] theorem ha123 : hasT Tryz.prog 123 = true := by kernel_rfl
@[go_sem] theorem ic123 : isIfc Tryz.prog 123 = false := by kernel_rfl
@[go_sem] theorem by123 : bytesOf Tryz.prog 123 = some 8 := by kernel_rfl
@[go_sem] theorem ze123 : zeroOf Tryz.prog 123 = some .nilFunc := by kernel_rfl
@[go_sem] theorem sz124 : szOf Tryz.prog 124 = some 1 := by kernel_rfl
@[go_sem] theorem ag124 : aggOf Tryz.prog 124 = some false := by kernel_rfl
@[go_sem] theorem es124 : elemS Tryz.prog 124 = none := by kernel_rfl
@[go_sem] theorem ha124 : hasT Tryz.prog 124 = true := by kernel_rfl
@[go_sem] theorem ic124 : isIfc Tryz.prog 124 = false := by kernel_rfl
@[go_sem] theorem by124 : bytesOf Tryz.prog 124 = some 8 := by kernel_rfl
@[go_sem] theorem ze124 : zeroOf Tryz.prog 124 = some .nilFunc := by kernel_rfl
@[go_sem] theorem sz125 : szOf Tryz.prog 125 = some 1 := by kernel_rfl
@[go_sem] theorem ag125 : aggOf Tryz.prog 125 = some false := by kernel_rfl
@[go_sem] theorem es125 : elemS Tryz.prog 125 = none := by kernel_rfl
@[go_sem] theorem ha125 : hasT Tryz.prog 125 = true := by kernel_rfl
@[go_sem] theorem ic125 : isIfc Tryz.prog 125 = false := by kernel_rfl
@[go_sem] theorem io125 : intOfT Tryz.prog 125 = some .i64 := by kernel_rfl
@[go_sem] theorem by125 : bytesOf Tryz.prog 125 = some 8 := by kernel_rfl
@[go_sem] theorem ze125 : zeroOf Tryz.prog 125 = some (.int .i64 0) := by kernel_rfl
@[go_sem] theorem sz126 : szOf Tryz.prog 126 = some 1 := by kernel_rfl
@[go_sem] theorem ag126 : aggOf Tryz.prog 126 = some false := by kernel_rfl
@[go_sem] theorem es126 : elemS Tryz.prog 126 = none := by kernel_rfl
@[go_sem] theorem ha126 : hasT Tryz.prog 126 = true := by kernel_rfl
@[go_sem] theorem ic126 : isIfc Tryz.prog 126 = false := by kernel_rfl
@[go_sem] theorem by126 : bytesOf Tryz.prog 126 = some 0 := by kernel_rfl
@[go_sem] theorem sz127 : szOf Tryz.prog 127 = some 1 := by kernel_rfl
@[go_sem] theorem ag127 : aggOf Tryz.prog 127 = some false := by kernel_rfl
@[go_sem] theorem es127 : elemS Tryz.prog 127 = none := by kernel_rfl
@[go_sem] theorem ha127 : hasT Tryz.prog 127 = true := by kernel_rfl
@[go_sem] theorem ic127 : isIfc Tryz.prog 127 = false := by kernel_rfl
@[go_sem] theorem by127 : bytesOf Tryz.prog 127 = some 8 := by kernel_rfl
@[go_sem] theorem ze127 : zeroOf Tryz.prog 127 = some .nilFunc := by kernel_rfl
@[go_sem] theorem sz128 : szOf Tryz.prog 128 = some 1 := by kernel_rfl
@[go_sem] theorem ag128 : aggOf Tryz.prog 128 = some false := by kernel_rfl
@[go_sem] theorem es128 : elemS Tryz.prog 128 = none := by kernel_rfl
@[go_sem] theorem ha128 : hasT Tryz.prog 128 = true := by kernel_rfl
@[go_sem] theorem ic128 : isIfc Tryz.prog 128 = false := by kernel_rfl
@[go_sem] theorem by128 : bytesOf Tryz.prog 128 = some 8 := by kernel_rfl
@[go_sem] theorem ze128 : zeroOf Tryz.prog 128 = some .nilFunc := by kernel_rfl
@[go_sem] theorem sz129 : szOf Tryz.prog 129 = some 1 := by kernel_rfl
@[go_sem] theorem ag129 : aggOf Tryz.prog 129 = some false := by kernel_rfl
@[go_sem] theorem es129 : elemS Tryz.prog 129 = none := by kernel_rfl
@[go_sem] theorem ha129 : hasT Tryz.prog 129 = true := by kernel_rfl
@[go_sem] theorem ic129 : isIfc Tryz.prog 129 = false := by kernel_rfl
@[go_sem] theorem by129 : bytesOf Tryz.prog 129 = some 8 := by kernel_rfl
@[go_sem] theorem ze129 : zeroOf Tryz.prog 129 = some .nilFunc := by kernel_rfl
@[go_sem] theorem sz130 : szOf Tryz.prog 130 = some 1 := by kernel_rfl
@[go_sem] theorem ag130 : aggOf Tryz.prog 130 = some false := by kernel_rfl
@[go_sem] theorem es130 : elemS Tryz.prog 130 = none := by kernel_rfl
@[go_sem] theorem ha130 : hasT Tryz.prog 130 = true := by kernel_rfl
@[go_sem] theorem ic130 : isIfc Tryz.prog 130 = false := by kernel_rfl
@[go_sem] theorem by130 : bytesOf Tryz.prog 130 = some 8 := by kernel_rfl
@[go_sem] theorem ze130 : zeroOf Tryz.prog 130 = some .nilFunc := by kernel_rfl
@[go_sem] theorem sz131 : szOf Tryz.prog 131 = some 1 := by kernel_rfl
@[go_sem] theorem ag131 : aggOf Tryz.prog 131 = some false := by kernel_rfl
@[go_sem] theorem es131 : elemS Tryz.prog 131 = none := by kernel_rfl
@[go_sem] theorem ha131 : hasT Tryz.prog 131 = true := by kernel_rfl
@[go_sem] theorem ic131 : isIfc Tryz.prog 131 = false := by kernel_rfl
@[go_sem] theorem by131 : bytesOf Tryz.prog 131 = some 8 := by kernel_rfl
@[go_sem] theorem ze131 : zeroOf Tryz.prog 131 = some .nilFunc := by kernel_rfl
@[go_sem] theorem sz132 : szOf Tryz.prog 132 = some 1 := by kernel_rfl
@[go_sem] theorem ag132 : aggOf Tryz.prog 132 = some false := by kernel_rfl
@[go_sem] theorem es132 : elemS Tryz.prog 132 = none := by kernel_rfl
@[go_sem] theorem ha132 : hasT Tryz.prog 132 = true := by kernel_rfl
@[go_sem] theorem ic132 : isIfc Tryz.prog 132 = false := by kernel_rfl
@[go_sem] theorem io132 : intOfT Tryz.prog 132 = some .u32 := by kernel_rfl
@[go_sem] theorem by132 : bytesOf Tryz.prog 132 = some 4 := by kernel_rfl
@[go_sem] theorem ze132 : zeroOf Tryz.prog 132 = some (.int .u32 0) := by kernel_rfl
@[go_sem] theorem sz133 : szOf Tryz.prog 133 = some 1 := by kernel_rfl
@[go_sem] theorem ag133 : aggOf Tryz.prog 133 = some false := by kernel_rfl
@[go_sem] theorem es133 : elemS Tryz.prog 133 = none := by kernel_rfl
@[go_sem] theorem ha133 : hasT Tryz.prog 133 = true := by kernel_rfl
@[go_sem] theorem ic133 : isIfc Tryz.prog 133 = false := by kernel_rfl
@[go_sem] theorem by133 : bytesOf Tryz.prog 133 = some 8 := by kernel_rfl
@[go_sem] theorem ze133 : zeroOf Tryz.prog 133 = some .nilFunc := by kernel_rfl
@[go_sem] theorem sz134 : szOf Tryz.prog 134 = some 1 := by kernel_rfl
@[go_sem] theorem ag134 : aggOf Tryz.prog 134 = some false := by kernel_rfl
@[go_sem] theorem es134 : elemS Tryz.prog 134 = none := by kernel_rfl
@[go_sem] theorem ha134 : hasT Tryz.prog 134 = true := by kernel_rfl
@[go_sem] theorem ic134 : isIfc Tryz.prog 134 = false := by kernel_rfl
@[go_sem] theorem io134 : intOfT Tryz.prog 134 = some .u64 := by kernel_rfl
@[go_sem] theorem by134 : bytesOf Tryz.prog 134 = some 8 := by kernel_rfl
@[go_sem] theorem ze134 : zeroOf Tryz.prog 134 = some (.int .u64 0) := by kernel_rfl
@[go_sem] theorem sz135 : szOf Tryz.prog 135 = some 1 := by kernel_rfl
@[go_sem] theorem ag135 : aggOf Tryz.prog 135 = some false := by kernel_rfl
@[go_sem] theorem es135 : elemS Tryz.prog 135 = none := by kernel_rfl
@[go_sem] theorem ha135 : hasT Tryz.prog 135 = true := by kernel_rfl
@[go_sem] theorem ic135 : isIfc Tryz.prog 135 = false := by kernel_rfl
@[go_sem] theorem by135 : bytesOf Tryz.prog 135 = some 8 := by kernel_rfl
@[go_sem] theorem ze135 : zeroOf Tryz.prog 135 = some .nilFunc := by kernel_rfl
@[go_sem] theorem sz136 : szOf Tryz.prog 136 = some 1 := by kernel_rfl
@[go_sem] theorem ag136 : aggOf Tryz.prog 136 = some false := by kernel_rfl
@[go_sem] theorem es136 : elemS Tryz.prog 136 = none := by kernel_rfl
@[go_sem] theorem ha136 : hasT Tryz.prog 136 = true := by kernel_rfl
@[go_sem] theorem ic136 : isIfc Tryz.prog 136 = false := by kernel_rfl
@[go_sem] theorem by136 : bytesOf Tryz.prog 136 = some 8 := by kernel_rfl
@[go_sem] theorem ze136 : zeroOf Tryz.prog 136 = some .nilFunc := by kernel_rfl
@[go_sem] theorem sz137 : szOf Tryz.prog 137 = some 1 := by kernel_rfl
@[go_sem] theorem ag137 : aggOf Tryz.prog 137 = some false := by kernel_rfl
@[go_sem] theorem es137 : elemS Tryz.prog 137 = none := by kernel_rfl
@[go_sem] theorem ha137 : hasT Tryz.prog 137 = true := by kernel_rfl
@[go_sem] theorem ic137 : isIfc Tryz.prog 137 = false := by kernel_rfl
@[go_sem] theorem by137 : bytesOf Tryz.prog 137 = some 8 := by kernel_rfl
@[go_sem] theorem ze137 : zeroOf Tryz.prog 137 = some .nilFunc := by kernel_rfl
@[go_sem] theorem sz138 : szOf Tryz.prog 138 = some 1 := by kernel_rfl
@[go_sem] theorem ag138 : aggOf Tryz.prog 138 = some false := by kernel_rfl
@[go_sem] theorem es138 : elemS Tryz.prog 138 = none := by kernel_rfl
@[go_sem] theorem ha138 : hasT Tryz.prog 138 = true := by kernel_rfl
@[go_sem] theorem ic138 : isIfc Tryz.prog 138 = false := by kernel_rfl
@[go_sem] theorem by138 : bytesOf Tryz.prog 138 = some 8 := by kernel_rfl
@[go_sem] theorem ze138 : zeroOf Tryz.prog 138 = some .nilFunc := by kernel_rfl
@[go_sem] theorem sz139 : szOf Tryz.prog 139 = some 1 := by kernel_rfl
@[go_sem] theorem ag139 : aggOf Tryz.prog 139 = some false := by kernel_rfl
@[go_sem] theorem es139 : elemS Tryz.prog 139 = none := by kernel_rfl
@[go_sem] theorem ha139 : hasT Tryz.prog 139 = true := by kernel_rfl
@[go_sem] theorem ic139 : isIfc Tryz.prog 139 = false := by kernel_rfl
@[go_sem] theorem by139 : bytesOf Tryz.prog 139 = some 8 := by kernel_rfl
@[go_sem] theorem ze139 : zeroOf Tryz.prog 139 = some .nilFunc := by kernel_rfl
@[go_sem] theorem sz140 : szOf Tryz.prog 140 = some 1 := by kernel_rfl
@[go_sem] theorem ag140 : aggOf Tryz.prog 140 = some false := by kernel_rfl
@[go_sem] theorem es140 : elemS Tryz.prog 140 = none := by kernel_rfl
@[go_sem] theorem ha140 : hasT Tryz.prog 140 = true := by kernel_rfl
@[go_sem] theorem ic140 : isIfc Tryz.prog 140 = false := by kernel_rfl
@[go_sem] theorem by140 : bytesOf Tryz.prog 140 = some 8 := by kernel_rfl
@[go_sem] theorem ze140 : zeroOf Tryz.prog 140 = some .nilFunc := by kernel_rfl
@[go_sem] theorem sz141 : szOf Tryz.prog 141 = some 1 := by kernel_rfl
@[go_sem] theorem ag141 : aggOf Tryz.prog 141 = some false := by kernel_rfl
@[go_sem] theorem es141 : elemS Tryz.prog 141 = none := by kernel_rfl
@[go_sem] theorem ha141 : hasT Tryz.prog 141 = true := by kernel_rfl
@[go_sem] theorem ic141 : isIfc Tryz.prog 141 = false := by kernel_rfl
@[go_sem] theorem by141 : bytesOf Tryz.prog 141 = some 8 := by kernel_rfl
@[go_sem] theorem ze141 : zeroOf Tryz.prog 141 = some .nilFunc := by kernel_rfl
@[go_sem] theorem sz142 : szOf Tryz.prog 142 = some 1 := by kernel_rfl
@[go_sem] theorem ag142 : aggOf Tryz.prog 142 = some false := by kernel_rfl
@[go_sem] theorem es142 : elemS Tryz.prog 142 = none := by kernel_rfl
@[go_sem] theorem ha142 : hasT Tryz.prog 142 = true := by kernel_rfl
@[go_sem] theorem ic142 : isIfc Tryz.prog 142 = false := by kernel_rfl
@[go_sem] theorem by142 : bytesOf Tryz.prog 142 = some 8 := by kernel_rfl
@[go_sem] theorem ze142 : zeroOf Tryz.prog 142 = some .nilFunc := by kernel_rfl
@[go_sem] theorem sz143 : szOf Tryz.prog 143 = some 1 := by kernel_rfl
@[go_sem] theorem ag143 : aggOf Tryz.prog 143 = some false := by kernel_rfl
@[go_sem] theorem es143 : elemS Tryz.prog 143 = none := by kernel_rfl
@[go_sem] theorem ha143 : hasT Tryz.prog 143 = true := by kernel_rfl
@[go_sem] theorem ic143 : isIfc Tryz.prog 143 = false := by kernel_rfl
@[go_sem] theorem io143 : intOfT Tryz.prog 143 = some .u64 := by kernel_rfl
@[go_sem] theorem by143 : bytesOf Tryz.prog 143 = some 8 := by kernel_rfl
@[go_sem] theorem ze143 : zeroOf Tryz.prog 143 = some (.int .u64 0) := by kernel_rfl
@[go_sem] theorem sz144 : szOf Tryz.prog 144 = some 1 := by kernel_rfl
@[go_sem] theorem ag144 : aggOf Tryz.prog 144 = some false := by kernel_rfl
@[go_sem] theorem es144 : elemS Tryz.prog 144 = none := by kernel_rfl
@[go_sem] theorem ha144 : hasT Tryz.prog 144 = true := by kernel_rfl
@[go_sem] theorem ic144 : isIfc Tryz.prog 144 = false := by kernel_rfl
@[go_sem] theorem by144 : bytesOf Tryz.prog 144 = some 8 := by kernel_rfl
@[go_sem] theorem ze144 : zeroOf Tryz.prog 144 = some .nilFunc := by kernel_rfl
@[go_sem] theorem sz145 : szOf Tryz.prog 145 = some 1 := by kernel_rfl
@[go_sem] theorem ag145 : aggOf Tryz.prog 145 = some false := by kernel_rfl
@[go_sem] theorem es145 : elemS Tryz.prog 145 = none := by kernel_rfl
@[go_sem] theorem ha145 : hasT Tryz.prog 145 = true := by kernel_rfl
@[go_sem] theorem ic145 : isIfc Tryz.prog 145 = false := by kernel_rfl
@[go_sem] theorem by145 : bytesOf Tryz.prog 145 = some 8 := by kernel_rfl
@[go_sem] theorem ze145 : zeroOf Tryz.prog 145 = some .nilFunc := by kernel_rfl
@[go_sem] theorem sz146 : szOf Tryz.prog 146 = some 1 := by kernel_rfl
@[go_sem] theorem ag146 : aggOf Tryz.prog 146 = some false := by kernel_rfl
@[go_sem] theorem es146 : elemS Tryz.prog 146 = none := by kernel_rfl
@[go_sem] theorem ha146 : hasT Tryz.prog 146 = true := by kernel_rfl
@[go_sem] theorem ic146 : isIfc Tryz.prog 146 = false := by kernel_rfl
@[go_sem] theorem by146 : bytesOf Tryz.prog 146 = some 8 := by kernel_rfl
@[go_sem] theorem ze146 : zeroOf Tryz.prog 146 = some .nilFunc := by kernel_rfl
@[go_sem] theorem sz147 : szOf Tryz.prog 147 = some 1 := by kernel_rfl
@[go_sem] theorem ag147 : aggOf Tryz.prog 147 = some false := by kernel_rfl
@[go_sem] theorem es147 : elemS Tryz.prog 147 = none := by kernel_rfl
@[go_sem] theorem ha147 : hasT Tryz.prog 147 = true := by kernel_rfl
@[go_sem] theorem ic147 : isIfc Tryz.prog 147 = false := by kernel_rfl
@[go_sem] theorem by147 : bytesOf Tryz.prog 147 = some 8 := by kernel_rfl
@[go_sem] theorem ip147 : isPtrT Tryz.prog 147 = true := by kernel_rfl
@[go_sem] theorem ze147 : zeroOf Tryz.prog 147 = some (.pointer none) := by kernel_rfl
@[go_sem] theorem sz148 : szOf Tryz.prog 148 = some 1 := by kernel_rfl
@[go_sem] theorem ag148 : aggOf Tryz.prog 148 = some false := by kernel_rfl
@[go_sem] theorem es148 : elemS Tryz.prog 148 = none := by kernel_rfl
@[go_sem] theorem ha148 : hasT Tryz.prog 148 = true := by kernel_rfl
@[go_sem] theorem ic148 : isIfc Tryz.prog 148 = false := by kernel_rfl
@[go_sem] theorem by148 : bytesOf Tryz.prog 148 = some 8 := by kernel_rfl
@[go_sem] theorem ze148 : zeroOf Tryz.prog 148 = some .nilFunc := by kernel_rfl
@[go_sem] theorem sz149 : szOf Tryz.prog 149 = some 1 := by kernel_rfl
@[go_sem] theorem ag149 : aggOf Tryz.prog 149 = some false := by kernel_rfl
@[go_sem] theorem es149 : elemS Tryz.prog 149 = some 5 := by kernel_rfl
@[go_sem] theorem ha149 : hasT Tryz.prog 149 = true := by kernel_rfl
@[go_sem] theorem ic149 : isIfc Tryz.prog 149 = false := by kernel_rfl
@[go_sem] theorem by149 : bytesOf Tryz.prog 149 = some 24 := by kernel_rfl
@[go_sem] theorem bt149 : isBytesT Tryz.prog 149 = true := by kernel_rfl
@[go_sem] theorem ze149 : zeroOf Tryz.prog 149 = some (.slice none 0 0) := by kernel_rfl
@[go_sem] theorem sz150 : szOf Tryz.prog 150 = some 1 := by kernel_rfl
@[go_sem] theorem ag150 : aggOf Tryz.prog 150 = some false := by kernel_rfl
@[go_sem] theorem es150 : elemS Tryz.prog 150 = none := by kernel_rfl
@[go_sem] theorem ha150 : hasT Tryz.prog 150 = true := by kernel_rfl
@[go_sem] theorem ic150 : isIfc Tryz.prog 150 = false := by kernel_rfl
@[go_sem] theorem by150 : bytesOf Tryz.prog 150 = some 8 := by kernel_rfl
@[go_sem] theorem ip150 : isPtrT Tryz.prog 150 = true := by kernel_rfl
@[go_sem] theorem ze150 : zeroOf Tryz.prog 150 = some (.pointer none) := by kernel_rfl
@[go_sem] theorem sz151 : szOf Tryz.prog 151 = some 1 := by kernel_rfl
@[go_sem] theorem ag151 : aggOf Tryz.prog 151 = some false := by kernel_rfl
@[go_sem] theorem es151 : elemS Tryz.prog 151 = none := by kernel_rfl
@[go_sem] theorem ha151 : hasT Tryz.prog 151 = true := by kernel_rfl
@[go_sem] theorem ic151 : isIfc Tryz.prog 151 = false := by kernel_rfl
@[go_sem] theorem by151 : bytesOf Tryz.prog 151 = some 0 := by kernel_rfl
@[go_sem] theorem sz152 : szOf Tryz.prog 152 = some 1 := by kernel_rfl
@[go_sem] theorem ag152 : aggOf Tryz.prog 152 = some false := by kernel_rfl
@[go_sem] theorem es152 : elemS Tryz.prog 152 = none := by kernel_rfl
@[go_sem] theorem ha152 : hasT Tryz.prog 152 = true := by kernel_rfl
@[go_sem] theorem ic152 : isIfc Tryz.prog 152 = false := by kernel_rfl
@[go_sem] theorem by152 : bytesOf Tryz.prog 152 = some 8 := by kernel_rfl
@[go_sem] theorem ze152 : zeroOf Tryz.prog 152 = some .nilFunc := by kernel_rfl
@[go_sem] theorem sz153 : szOf Tryz.prog 153 = some 1 := by kernel_rfl
@[go_sem] theorem ag153 : aggOf Tryz.prog 153 = some false := by kernel_rfl
@[go_sem] theorem es153 : elemS Tryz.prog 153 = none := by kernel_rfl
@[go_sem] theorem ha153 : hasT Tryz.prog 153 = true := by kernel_rfl
@[go_sem] theorem ic153 : isIfc Tryz.prog 153 = false := by kernel_rfl
@[go_sem] theorem by153 : bytesOf Tryz.prog 153 = some 8 := by kernel_rfl
@[go_sem] theorem ze153 : zeroOf Tryz.prog 153 = some .nilFunc := by kernel_rfl
@[go_sem] theorem sz154 : szOf Tryz.prog 154 = some 1 := by kernel_rfl
@[go_sem] theorem ag154 : aggOf Tryz.prog 154 = some false := by kernel_rfl
@[go_sem] theorem es154 : elemS Tryz.prog 154 = none := by kernel_rfl
@[go_sem] theorem ha154 : hasT Tryz.prog 154 = true := by kernel_rfl
@[go_sem] theorem ic154 : isIfc Tryz.prog 154 = false := by kernel_rfl
@[go_sem] theorem by154 : bytesOf Tryz.prog 154 = some 8 := by kernel_rfl
@[go_sem] theorem ze154 : zeroOf Tryz.prog 154 = some .nilFunc := by kernel_rfl
@[go_sem] theorem sz155 : szOf Tryz.prog 155 = some 1 := by kernel_rfl
@[go_sem] theorem ag155 : aggOf Tryz.prog 155 = some false := by kernel_rfl
@[go_sem] theorem es155 : elemS Tryz.prog 155 = none := by kernel_rfl
@[go_sem] theorem ha155 : hasT Tryz.prog 155 = true := by kernel_rfl
@[go_sem] theorem ic155 : isIfc Tryz.prog 155 = false := by kernel_rfl
@[go_sem] theorem by155 : bytesOf Tryz.prog 155 = some 8 := by kernel_rfl
@[go_sem] theorem ze155 : zeroOf Tryz.prog 155 = some .nilFunc := by kernel_rfl
@[go_sem] theorem sz156 : szOf Tryz.prog 156 = some 1 := by kernel_rfl
@[go_sem] theorem ag156 : aggOf Tryz.prog 156 = some false := by kernel_rfl
@[go_sem] theorem es156 : elemS Tryz.prog 156 = some 3 := by kernel_rfl
@[go_sem] theorem ha156 : hasT Tryz.prog 156 = true := by kernel_rfl
@[go_sem] theorem ic156 : isIfc Tryz.prog 156 = false := by kernel_rfl
@[go_sem] theorem by156 : bytesOf Tryz.prog 156 = some 24 := by kernel_rfl
@[go_sem] theorem ze156 : zeroOf Tryz.prog 156 = some (.slice none 0 0) := by kernel_rfl
@[go_sem] theorem sz157 : szOf Tryz.prog 157 = some 24 := by kernel_rfl
@[go_sem] theorem ag157 : aggOf Tryz.prog 157 = some true := by kernel_rfl
@[go_sem] theorem es157 : elemS Tryz.prog 157 = none := by kernel_rfl
@[go_sem] theorem ea157 : elemA Tryz.prog 157 = some (24, 5) := by kernel_rfl
@[go_sem] theorem ha157 : hasT Tryz.prog 157 = true := by kernel_rfl
@[go_sem] theorem ic157 : isIfc Tryz.prog 157 = false := by kernel_rfl
@[go_sem] theorem by157 : bytesOf Tryz.prog 157 = some 24 := by kernel_rfl
@[go_sem] theorem ze157 : zeroOf Tryz.prog 157 = some (.agg #[(.int .u8 0), (.int .u8 0), (.int .u8 0), (.int .u8 0), (.int .u8 0), (.int .u8 0), (.int .u8 0), (.int .u8 0), (.int .u8 0), (.int .u8 0), (.int .u8 0), (.int .u8 0), (.int .u8 0), (.int .u8 0), (.int .u8 0), (.int .u8 0), (.int .u8 0), (.int .u8 0), (.int .u8 0), (.int .u8 0), (.int .u8 0), (.int .u8 0), (.int .u8 0), (.int .u8 0)]) := by kernel_rfl
@[go_sem] theorem sz158 : szOf Tryz.prog 158 = some 1 := by kernel_rfl
@[go_sem] theorem ag158 : aggOf Tryz.prog 158 = some false := by kernel_rfl
@[go_sem] theorem es158 : elemS Tryz.prog 158 = none := by kernel_rfl
@[go_sem] theorem ha158 : hasT Tryz.prog 158 = true := by kernel_rfl
@[go_sem] theorem ic158 : isIfc Tryz.prog 158 = false := by kernel_rfl
@[go_sem] theorem by158 : bytesOf Tryz.prog 158 = some 8 := by kernel_rfl
@[go_sem] theorem ze158 : zeroOf Tryz.prog 158 = some .nilFunc := by kernel_rfl
@[go_sem] theorem sz159 : szOf Tryz.prog 159 = some 1 := by kernel_rfl
@[go_sem] theorem ag159 : aggOf Tryz.prog 159 = some false := by kernel_rfl
@[go_sem] theorem es159 : elemS Tryz.prog 159 = none := by kernel_rfl
@[go_sem] theorem ha159 : hasT Tryz.prog 159 = true := by kernel_rfl
@[go_sem] theorem ic159 : isIfc Tryz.prog 159 = false := by kernel_rfl
@[go_sem] theorem by159 : bytesOf Tryz.prog 159 = some 0 := by kernel_rfl
@[go_sem] theorem sz160 : szOf Tryz.prog 160 = some 1 := by kernel_rfl
@[go_sem] theorem ag160 : aggOf Tryz.prog 160 = some false := by kernel_rfl
@[go_sem] theorem es160 : elemS Tryz.prog 160 = none := by kernel_rfl
@[go_sem] theorem ha160 : hasT Tryz.prog 160 = true := by kernel_rfl
@[go_sem] theorem ic160 : isIfc Tryz.prog 160 = false := by kernel_rfl
@[go_sem] theorem by160 : bytesOf Tryz.prog 160 = some 8 := by kernel_rfl
@[go_sem] theorem ze160 : zeroOf Tryz.prog 160 = some .nilFunc := by kernel_rfl
@[go_sem] theorem sz161 : szOf Tryz.prog 161 = some 1 := by kernel_rfl
@[go_sem] theorem ag161 : aggOf Tryz.prog 161 = some false := by kernel_rfl
@[go_sem] theorem es161 : elemS Tryz.prog 161 = none := by kernel_rfl
@[go_sem] theorem ha161 : hasT Tryz.prog 161 = true := by kernel_rfl
@[go_sem] theorem ic161 : isIfc Tryz.prog 161 = false := by kernel_rfl
@[go_sem] theorem by161 : bytesOf Tryz.prog 161 = some 8 := by kernel_rfl
@[go_sem] theorem ze161 : zeroOf Tryz.prog 161 = some .nilFunc := by kernel_rfl
@[go_sem] theorem sz162 : szOf Tryz.prog 162 = some 1 := by kernel_rfl
@[go_sem] theorem ag162 : aggOf Tryz.prog 162 = some false := by kernel_rfl
@[go_sem] theorem es162 : elemS Tryz.prog 162 = none := by kernel_rfl
@[go_sem] theorem ha162 : hasT Tryz.prog 162 = true := by kernel_rfl
@[go_sem] theorem ic162 : isIfc Tryz.prog 162 = false := by kernel_rfl
@[go_sem] theorem by162 : bytesOf Tryz.prog 162 = some 8 := by kernel_rfl
@[go_sem] theorem ze162 : zeroOf Tryz.prog 162 = some .nilFunc := by kernel_rfl
@[go_sem] theorem sz163 : szOf Tryz.prog 163 = some 20 := by kernel_rfl
@[go_sem] theorem ag163 : aggOf Tryz.prog 163 = some true := by kernel_rfl
@[go_sem] theorem es163 : elemS Tryz.prog 163 = none := by kernel_rfl
@[go_sem] theorem ea163 : elemA Tryz.prog 163 = some (20, 134) := by kernel_rfl
@[go_sem] theorem ha163 : hasT Tryz.prog 163 = true := by kernel_rfl
@[go_sem] theorem ic163 : isIfc Tryz.prog 163 = false := by kernel_rfl
@[go_sem] theorem by163 : bytesOf Tryz.prog 163 = some 160 := by kernel_rfl
@[go_sem] theorem ze163 : zeroOf Tryz.prog 163 = some (.agg #[(.int .u64 0), (.int .u64 0), (.int .u64 0), (.int .u64 0), (.int .u64 0), (.int .u64 0), (.int .u64 0), (.int .u64 0), (.int .u64 0), (.int .u64 0), (.int .u64 0), (.int .u64 0), (.int .u64 0), (.int .u64 0), (.int .u64 0), (.int .u64 0), (.int .u64 0), (.int .u64 0), (.int .u64 0), (.int .u64 0)]) := by kernel_rfl
@[go_sem] theorem sz164 : szOf Tryz.prog 164 = some 65 := by kernel_rfl
@[go_sem] theorem ag164 : aggOf Tryz.prog 164 = some true := by kernel_rfl
@[go_sem] theorem es164 : elemS Tryz.prog 164 = none := by kernel_rfl
@[go_sem] theorem ea164 : elemA Tryz.prog 164 = some (65, 5) := by kernel_rfl
@[go_sem] theorem ha164 : hasT Tryz.prog 164 = true := by kernel_rfl
@[go_sem] theorem ic164 : isIfc Tryz.prog 164 = false := by kernel_rfl
@[go_sem] theorem by164 : bytesOf Tryz.prog 164 = some 65 := by kernel_rfl
@[go_sem] theorem ze164 : zeroOf Tryz.prog 164 = some (.agg #[(.int .u8 0), (.int .u8 0), (.int .u8 0), (.int .u8 0), (.int .u8 0), (.int .u8 0), (.int .u8 0), (.int .u8 0), (.int .u8 0), (.int .u8 0), (.int .u8 0), (.int .u8 0), (.int .u8 0), (.int .u8 0), (.int .u8 0), (.int .u8 0), (.int .u8 0), (.int .u8 0), (.int .u8 0), (.int .u8 0), (.int .u8 0), (.int .u8 0), (.int .u8 0), (.int .u8 0), (.int .u8 0), (.int .u8 0), (.int .u8 0), (.int .u8 0), (.int .u8 0), (.int .u8 0), (.int .u8 0), (.int .u8 0), (.int .u8 0), (.int .u8 0), (.int .u8 0), (.int .u8 0), (.int .u8 0), (.int .u8 0), (.int .u8 0), (.int .u8 0), (.int .u8 0), (.int .u8 0), (.int .u8 0), (.int .u8 0), (.int .u8 0), (.int .u8 0), (.int .u8 0), (.int .u8 0), (.int .u8 0), (.int .u8 0), (.int .u8 0), (.int .u8 0), (.int .u8 0), (.int .u8 0), (.int .u8 0), (.int .u8 0), (.int .u8 0), (.int .u8 0), (.int .u8 0), (.int .u8 0), (.int .u8 0), (.int .u8 0), (.int .u8 0), (.int .u8 0), (.int .u8 0)]) := by kernel_rfl
@[go_sem] theorem sz165 : szOf Tryz.prog 165 = some 1 := by kernel_rfl
@[go_sem] theorem ag165 : aggOf Tryz.prog 165 = some false := by kernel_rfl
@[go_sem] theorem es165 : elemS Tryz.prog 165 = none := by kernel_rfl
@[go_sem] theorem ha165 : hasT Tryz.prog 165 = true := by kernel_rfl
@[go_sem] theorem ic165 : isIfc Tryz.prog 165 = false := by kernel_rfl
@[go_sem] theorem by165 : bytesOf Tryz.prog 165 = some 8 := by kernel_rfl
@[go_sem] theorem ze165 : zeroOf Tryz.prog 165 = some .nilFunc := by kernel_rfl
@[go_sem] theorem sz166 : szOf Tryz.prog 166 = some 32 := by kernel_rfl
@[go_sem] theorem ag166 : aggOf Tryz.prog 166 = some true := by kernel_rfl
@[go_sem] theorem es166 : elemS Tryz.prog 166 = none := by kernel_rfl
@[go_sem] theorem ea166 : elemA Tryz.prog 166 = some (32, 5) := by kernel_rfl
@[go_sem] theorem ha166 : hasT Tryz.prog 166 = true := by kernel_rfl
@[go_sem] theorem ic166 : isIfc Tryz.prog 166 = false := by kernel_rfl
@[go_sem] theorem by166 : bytesOf Tryz.prog 166 = some 32 := by kernel_rfl
@[go_sem] theorem ze166 : zeroOf Tryz.prog 166 = some (.agg #[(.int .u8 0), (.int .u8 0), (.int .u8 0), (.int .u8 0), (.int .u8 0), (.int .u8 0), (.int .u8 0), (.int .u8 0), (.int .u8 0), (.int .u8 0), (.int .u8 0), (.int .u8 0), (.int .u8 0), (.int .u8 0), (.int .u8 0), (.int .u8 0), (.int .u8 0), (.int .u8 0), (.int .u8 0), (.int .u8 0), (.int .u8 0), (.int .u8 0), (.int .u8 0), (.int .u8 0), (.int .u8 0), (.int .u8 0), (.int .u8 0), (.int .u8 0), (.int .u8 0), (.int .u8 0), (.int .u8 0), (.int .u8 0)]) := by kernel_rfl
@[go_sem] theorem sz167 : szOf Tryz.prog 167 = some 64 := by kernel_rfl
@[go_sem] theorem ag167 : aggOf Tryz.prog 167 = some true := by kernel_rfl
@[go_sem] theorem es167 : elemS Tryz.prog 167 = none := by kernel_rfl
@[go_sem] theorem ea167 : elemA Tryz.prog 167 = some (64, 5) := by kernel_rfl
@[go_sem] theorem ha167 : hasT Tryz.prog 167 = true := by kernel_rfl
@[go_sem] theorem ic167 : isIfc Tryz.prog 167 = false := by kernel_rfl
@[go_sem] theorem by167 : bytesOf Tryz.prog 167 = some 64 := by kernel_rfl
@[go_sem] theorem ze167 : zeroOf Tryz.prog 167 = some (.agg #[(.int .u8 0), (.int .u8 0), (.int .u8 0), (.int .u8 0), (.int .u8 0), (.int .u8 0), (.int .u8 0), (.int .u8 0), (.int .u8 0), (.int .u8 0), (.int .u8 0), (.int .u8 0), (.int .u8 0), (.int .u8 0), (.int .u8 0), (.int .u8 0), (.int .u8 0), (.int .u8 0), (.int .u8 0), (.int .u8 0), (.int .u8 0), (.int .u8 0), (.int .u8 0), (.int .u8 0), (.int .u8 0), (.int .u8 0), (.int .u8 0), (.int .u8 0), (.int .u8 0), (.int .u8 0), (.int .u8 0), (.int .u8 0), (.int .u8 0), (.int .u8 0), (.int .u8 0), (.int .u8 0), (.int .u8 0), (.int .u8 0), (.int .u8 0), (.int .u8 0), (.int .u8 0), (.int .u8 0), (.int .u8 0), (.int .u8 0), (.int .u8 0), (.int .u8 0), (.int .u8 0), (.int .u8 0), (.int .u8 0), (.int .u8 0), (.int .u8 0), (.int .u8 0), (.int .u8 0), (.int .u8 0), (.int .u8 0), (.int .u8 0), (.int .u8 0), (.int .u8 0), (.int .u8 0), (.int .u8 0), (.int .u8 0), (.int .u8 0), (.int .u8 0), (.int .u8 0)]) := by kernel_rfl
@[go_sem] theorem sz168 : szOf Tryz.prog 168 = some 1 := by kernel_rfl
@[go_sem] theorem ag168 : aggOf Tryz.prog 168 = some false := by kernel_rfl
@[go_sem] theorem es168 : elemS Tryz.prog 168 = none := by kernel_rfl
@[go_sem] theorem ha168 : hasT Tryz.prog 168 = true := by kernel_rfl
@[go_sem] theorem ic168 : isIfc Tryz.prog 168 = false := by kernel_rfl
@[go_sem] theorem by168 : bytesOf Tryz.prog 168 = some 8 := by kernel_rfl
@[go_sem] theorem ze168 : zeroOf Tryz.prog 168 = some .nilFunc := by kernel_rfl
@[go_sem] theorem sz169 : szOf Tryz.prog 169 = some 4 := by kernel_rfl
@[go_sem] theorem ag169 : aggOf Tryz.prog 169 = some true := by kernel_rfl
@[go_sem] theorem fl169_0 : fldOf Tryz.prog 169 0 = some (0, 17) := by kernel_rfl
@[go_sem] theorem fl169_1 : fldOf Tryz.prog 169 1 = some (1, 17) := by kernel_rfl
@[go_sem] theorem fl169_2 : fldOf Tryz.prog 169 2 = some (2, 17) := by kernel_rfl
@[go_sem] theorem fl169_3 : fldOf Tryz.prog 169 3 = some (3, 9) := by kernel_rfl
@[go_sem] theorem es169 : elemS Tryz.prog 169 = none := by kernel_rfl
@[go_sem] theorem ha169 : hasT Tryz.prog 169 = true := by kernel_rfl
@[go_sem] theorem ic169 : isIfc Tryz.prog 169 = false := by kernel_rfl
@[go_sem] theorem pl169 : placesOf Tryz.prog 169 = some [(0, 1), (1, 1), (2, 1), (3, 1)] := by kernel_rfl
@[go_sem] theorem by169 : bytesOf Tryz.prog 169 = some 40 := by kernel_rfl
@[go_sem] theorem ze169 : zeroOf Tryz.prog 169 = some (.agg #[(.pointer none), (.pointer none), (.pointer none), (.string ByteArray.empty)]) := by kernel_rfl
@[go_sem] theorem sz170 : szOf Tryz.prog 170 = some 4 := by kernel_rfl
@[go_sem] theorem ag170 : aggOf Tryz.prog 170 = some true := by kernel_rfl
@[go_sem] theorem fl170_0 : fldOf Tryz.prog 170 0 = some (0, 17) := by kernel_rfl
@[go_sem] theorem fl170_1 : fldOf Tryz.prog 170 1 = some (1, 17) := by kernel_rfl
@[go_sem] theorem fl170_2 : fldOf Tryz.prog 170 2 = some (2, 17) := by kernel_rfl
@[go_sem] theorem fl170_3 : fldOf Tryz.prog 170 3 = some (3, 9) := by kernel_rfl
@[go_sem] theorem es170 : elemS Tryz.prog 170 = none := by kernel_rfl
@[go_sem] theorem ha170 : hasT Tryz.prog 170 = true := by kernel_rfl
@[go_sem] theorem ic170 : isIfc Tryz.prog 170 = false := by kernel_rfl
@[go_sem] theorem pl170 : placesOf Tryz.prog 170 = some [(0, 1), (1, 1), (2, 1), (3, 1)] := by kernel_rfl
@[go_sem] theorem by170 : bytesOf Tryz.prog 170 = some 40 := by kernel_rfl
@[go_sem] theorem ze170 : zeroOf Tryz.prog 170 = some (.agg #[(.pointer none), (.pointer none), (.pointer none), (.string ByteArray.empty)]) := by kernel_rfl
@[go_sem] theorem sz171 : szOf Tryz.prog 171 = some 0 := by kernel_rfl
@[go_sem] theorem ag171 : aggOf Tryz.prog 171 = some true := by kernel_rfl
@[go_sem] theorem es171 : elemS Tryz.prog 171 = none := by kernel_rfl
@[go_sem] theorem ea171 : elemA Tryz.prog 171 = some (0, 16) := by kernel_rfl
@[go_sem] theorem ha171 : hasT Tryz.prog 171 = true := by kernel_rfl
@[go_sem] theorem ic171 : isIfc Tryz.prog 171 = false := by kernel_rfl
@[go_sem] theorem by171 : bytesOf Tryz.prog 171 = some 0 := by kernel_rfl
@[go_sem] theorem sz172 : szOf Tryz.prog 172 = some 0 := by kernel_rfl
@[go_sem] theorem ag172 : aggOf Tryz.prog 172 = some true := by kernel_rfl
@[go_sem] theorem fl172_0 : fldOf Tryz.prog 172 0 = some (0, 171) := by kernel_rfl
@[go_sem] theorem es172 : elemS Tryz.prog 172 = none := by kernel_rfl
@[go_sem] theorem ha172 : hasT Tryz.prog 172 = true := by kernel_rfl
@[go_sem] theorem ic172 : isIfc Tryz.prog 172 = false := by kernel_rfl
@[go_sem] theorem pl172 : placesOf Tryz.prog 172 = some [(0, 0)] := by kernel_rfl
@[go_sem] theorem by172 : bytesOf Tryz.prog 172 = some 0 := by kernel_rfl
@[go_sem] theorem sz173 : szOf Tryz.prog 173 = some 0 := by kernel_rfl
@[go_sem] theorem ag173 : aggOf Tryz.prog 173 = some true := by kernel_rfl
@[go_sem] theorem fl173_0 : fldOf Tryz.prog 173 0 = some (0, 171) := by kernel_rfl
@[go_sem] theorem es173 : elemS Tryz.prog 173 = none := by kernel_rfl
@[go_sem] theorem ha173 : hasT Tryz.prog 173 = true := by kernel_rfl
@[go_sem] theorem ic173 : isIfc Tryz.prog 173 = false := by kernel_rfl
@[go_sem] theorem pl173 : placesOf Tryz.prog 173 = some [(0, 0)] := by kernel_rfl
@[go_sem] theorem by173 : bytesOf Tryz.prog 173 = some 0 := by kernel_rfl
@[go_sem] theorem sz174 : szOf Tryz.prog 174 = some 1 := by kernel_rfl
@[go_sem] theorem ag174 : aggOf Tryz.prog 174 = some false := by kernel_rfl
@[go_sem] theorem es174 : elemS Tryz.prog 174 = none := by kernel_rfl
@[go_sem] theorem ha174 : hasT Tryz.prog 174 = true := by kernel_rfl
@[go_sem] theorem ic174 : isIfc Tryz.prog 174 = false := by kernel_rfl
@[go_sem] theorem by174 : bytesOf Tryz.prog 174 = some 8 := by kernel_rfl
@[go_sem] theorem ze174 : zeroOf Tryz.prog 174 = some .nilFunc := by kernel_rfl
@[go_sem] theorem sz175 : szOf Tryz.prog 175 = some 1 := by kernel_rfl
@[go_sem] theorem ag175 : aggOf Tryz.prog 175 = some false := by kernel_rfl
@[go_sem] theorem es175 : elemS Tryz.prog 175 = none := by kernel_rfl
@[go_sem] theorem ha175 : hasT Tryz.prog 175 = true := by kernel_rfl
@[go_sem] theorem ic175 : isIfc Tryz.prog 175 = false := by kernel_rfl
@[go_sem] theorem io175 : intOfT Tryz.prog 175 = some .u8 := by kernel_rfl
@[go_sem] theorem by175 : bytesOf Tryz.prog 175 = some 1 := by kernel_rfl
@[go_sem] theorem ze175 : zeroOf Tryz.prog 175 = some (.int .u8 0) := by kernel_rfl
@[go_sem] theorem sz176 : szOf Tryz.prog 176 = some 1 := by kernel_rfl
@[go_sem] theorem ag176 : aggOf Tryz.prog 176 = some false := by kernel_rfl
@[go_sem] theorem es176 : elemS Tryz.prog 176 = none := by kernel_rfl
@[go_sem] theorem ha176 : hasT Tryz.prog 176 = true := by kernel_rfl
@[go_sem] theorem ic176 : isIfc Tryz.prog 176 = false := by kernel_rfl
@[go_sem] theorem io176 : intOfT Tryz.prog 176 = some .u8 := by kernel_rfl
@[go_sem] theorem by176 : bytesOf Tryz.prog 176 = some 1 := by kernel_rfl
@[go_sem] theorem ze176 : zeroOf Tryz.prog 176 = some (.int .u8 0) := by kernel_rfl
@[go_sem] theorem sz177 : szOf Tryz.prog 177 = some 1 := by kernel_rfl
@[go_sem] theorem ag177 : aggOf Tryz.prog 177 = some false := by kernel_rfl
@[go_sem] theorem es177 : elemS Tryz.prog 177 = none := by kernel_rfl
@[go_sem] theorem ha177 : hasT Tryz.prog 177 = true := by kernel_rfl
@[go_sem] theorem ic177 : isIfc Tryz.prog 177 = false := by kernel_rfl
@[go_sem] theorem by177 : bytesOf Tryz.prog 177 = some 8 := by kernel_rfl
@[go_sem] theorem ze177 : zeroOf Tryz.prog 177 = some .nilFunc := by kernel_rfl
@[go_sem] theorem sz178 : szOf Tryz.prog 178 = some 1 := by kernel_rfl
@[go_sem] theorem ag178 : aggOf Tryz.prog 178 = some false := by kernel_rfl
@[go_sem] theorem es178 : elemS Tryz.prog 178 = none := by kernel_rfl
@[go_sem] theorem ha178 : hasT Tryz.prog 178 = true := by kernel_rfl
@[go_sem] theorem ic178 : isIfc Tryz.prog 178 = false := by kernel_rfl
@[go_sem] theorem by178 : bytesOf Tryz.prog 178 = some 8 := by kernel_rfl
@[go_sem] theorem ip178 : isPtrT Tryz.prog 178 = true := by kernel_rfl
@[go_sem] theorem ze178 : zeroOf Tryz.prog 178 = some (.pointer none) := by kernel_rfl
@[go_sem] theorem sz179 : szOf Tryz.prog 179 = some 1 := by kernel_rfl
@[go_sem] theorem ag179 : aggOf Tryz.prog 179 = some false := by kernel_rfl
@[go_sem] theorem es179 : elemS Tryz.prog 179 = none := by kernel_rfl
@[go_sem] theorem ha179 : hasT Tryz.prog 179 = true := by kernel_rfl
@[go_sem] theorem ic179 : isIfc Tryz.prog 179 = false := by kernel_rfl
@[go_sem] theorem io179 : intOfT Tryz.prog 179 = some .i32 := by kernel_rfl
@[go_sem] theorem by179 : bytesOf Tryz.prog 179 = some 4 := by kernel_rfl
@[go_sem] theorem ze179 : zeroOf Tryz.prog 179 = some (.int .i32 0) := by kernel_rfl
@[go_sem] theorem sz180 : szOf Tryz.prog 180 = some 1 := by kernel_rfl
@[go_sem] theorem ag180 : aggOf Tryz.prog 180 = some false := by kernel_rfl
@[go_sem] theorem es180 : elemS Tryz.prog 180 = none := by kernel_rfl
@[go_sem] theorem ha180 : hasT Tryz.prog 180 = true := by kernel_rfl
@[go_sem] theorem ic180 : isIfc Tryz.prog 180 = false := by kernel_rfl
@[go_sem] theorem io180 : intOfT Tryz.prog 180 = some .i32 := by kernel_rfl
@[go_sem] theorem by180 : bytesOf Tryz.prog 180 = some 4 := by kernel_rfl
@[go_sem] theorem ze180 : zeroOf Tryz.prog 180 = some (.int .i32 0) := by kernel_rfl
@[go_sem] theorem sz181 : szOf Tryz.prog 181 = some 11 := by kernel_rfl
@[go_sem] theorem ag181 : aggOf Tryz.prog 181 = some true := by kernel_rfl
@[go_sem] theorem fl181_0 : fldOf Tryz.prog 181 0 = some (0, 12) := by kernel_rfl
@[go_sem] theorem fl181_1 : fldOf Tryz.prog 181 1 = some (1, 12) := by kernel_rfl
@[go_sem] theorem fl181_2 : fldOf Tryz.prog 181 2 = some (2, 132) := by kernel_rfl
@[go_sem] theorem fl181_3 : fldOf Tryz.prog 181 3 = some (3, 175) := by kernel_rfl
@[go_sem] theorem fl181_4 : fldOf Tryz.prog 181 4 = some (4, 5) := by kernel_rfl
@[go_sem] theorem fl181_5 : fldOf Tryz.prog 181 5 = some (5, 5) := by kernel_rfl
@[go_sem] theorem fl181_6 : fldOf Tryz.prog 181 6 = some (6, 176) := by kernel_rfl
@[go_sem] theorem fl181_7 : fldOf Tryz.prog 181 7 = some (7, 177) := by kernel_rfl
@[go_sem] theorem fl181_8 : fldOf Tryz.prog 181 8 = some (8, 178) := by kernel_rfl
@[go_sem] theorem fl181_9 : fldOf Tryz.prog 181 9 = some (9, 179) := by kernel_rfl
@[go_sem] theorem fl181_10 : fldOf Tryz.prog 181 10 = some (10, 180) := by kernel_rfl
@[go_sem] theorem es181 : elemS Tryz.prog 181 = none := by kernel_rfl
@[go_sem] theorem ha181 : hasT Tryz.prog 181 = true := by kernel_rfl
@[go_sem] theorem ic181 : isIfc Tryz.prog 181 = false := by kernel_rfl
@[go_sem] theorem pl181 : placesOf Tryz.prog 181 = some [(0, 1), (1, 1), (2, 1), (3, 1), (4, 1), (5, 1), (6, 1), (7, 1), (8, 1), (9, 1), (10, 1)] := by kernel_rfl
@[go_sem] theorem by181 : bytesOf Tryz.prog 181 = some 48 := by kernel_rfl
@[go_sem] theorem ze181 : zeroOf Tryz.prog 181 = some (.agg #[(.int .u64 0), (.int .u64 0), (.int .u32 0), (.int .u8 0), (.int .u8 0), (.int .u8 0), (.int .u8 0), .nilFunc, (.pointer none), (.int .i32 0), (.int .i32 0)]) := by kernel_rfl
@[go_sem] theorem sz182 : szOf Tryz.prog 182 = some 11 := by kernel_rfl
@[go_sem] theorem ag182 : aggOf Tryz.prog 182 = some true := by kernel_rfl
@[go_sem] theorem fl182_0 : fldOf Tryz.prog 182 0 = some (0, 12) := by kernel_rfl
@[go_sem] theorem fl182_1 : fldOf Tryz.prog 182 1 = some (1, 12) := by kernel_rfl
@[go_sem] theorem fl182_2 : fldOf Tryz.prog 182 2 = some (2, 132) := by kernel_rfl
@[go_sem] theorem fl182_3 : fldOf Tryz.prog 182 3 = some (3, 175) := by kernel_rfl
@[go_sem] theorem fl182_4 : fldOf Tryz.prog 182 4 = some (4, 5) := by kernel_rfl
@[go_sem] theorem fl182_5 : fldOf Tryz.prog 182 5 = some (5, 5) := by kernel_rfl
@[go_sem] theorem fl182_6 : fldOf Tryz.prog 182 6 = some (6, 176) := by kernel_rfl
@[go_sem] theorem fl182_7 : fldOf Tryz.prog 182 7 = some (7, 177) := by kernel_rfl
@[go_sem] theorem fl182_8 : fldOf Tryz.prog 182 8 = some (8, 178) := by kernel_rfl
@[go_sem] theorem fl182_9 : fldOf Tryz.prog 182 9 = some (9, 179) := by kernel_rfl
@[go_sem] theorem fl182_10 : fldOf Tryz.prog 182 10 = some (10, 180) := by kernel_rfl
@[go_sem] theorem es182 : elemS Tryz.prog 182 = none := by kernel_rfl
@[go_sem] theorem ha182 : hasT Tryz.prog 182 = true := by kernel_rfl
@[go_sem] theorem ic182 : isIfc Tryz.prog 182 = false := by kernel_rfl
@[go_sem] theorem pl182 : placesOf Tryz.prog 182 = some [(0, 1), (1, 1), (2, 1), (3, 1), (4, 1), (5, 1), (6, 1), (7, 1), (8, 1), (9, 1), (10, 1)] := by kernel_rfl
@[go_sem] theorem by182 : bytesOf Tryz.prog 182 = some 48 := by kernel_rfl
@[go_sem] theorem ze182 : zeroOf Tryz.prog 182 = some (.agg #[(.int .u64 0), (.int .u64 0), (.int .u32 0), (.int .u8 0), (.int .u8 0), (.int .u8 0), (.int .u8 0), .nilFunc, (.pointer none), (.int .i32 0), (.int .i32 0)]) := by kernel_rfl
@[go_sem] theorem sz183 : szOf Tryz.prog 183 = some 1 := by kernel_rfl
@[go_sem] theorem ag183 : aggOf Tryz.prog 183 = some false := by kernel_rfl
@[go_sem] theorem es183 : elemS Tryz.prog 183 = none := by kernel_rfl
@[go_sem] theorem ha183 : hasT Tryz.prog 183 = true := by kernel_rfl
@[go_sem] theorem ic183 : isIfc Tryz.prog 183 = false := by kernel_rfl
@[go_sem] theorem by183 : bytesOf Tryz.prog 183 = some 8 := by kernel_rfl
@[go_sem] theorem ze183 : zeroOf Tryz.prog 183 = some (.pointer none) := by kernel_rfl
end Go.Proofs.T
