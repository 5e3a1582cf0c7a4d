/- A part of the proof, under no conditions of its own: F10. -/
import Derived.Test.YtmmfjicebmeamaaXE
import Derived.Test.YtmmfjicebmeamaaXH
import Derived.Test.YtmmfjicebmeamaaProg
namespace Go.Proofs.T
open Go Go.Ab Go.RowKit

noncomputable def E : Ctx := { P := Try.prog, A := fun _ => True, glob := fun _ => .any, hglob := fun _ _ _ _ _ _ => .any _, mixed := by kernel_rfl }
@[go_sem] theorem E_P : E.P = Try.prog := rfl
@[go_sem] theorem rnd_P : E.rnd.P = Try.prog := rfl
@[go_sem] theorem sz0 : szOf Try.prog 0 = some 1 := by kernel_rfl
@[go_sem] theorem ag0 : aggOf Try.prog 0 = some false := by kernel_rfl
@[go_sem] theorem es0 : elemS Try.prog 0 = none := by kernel_rfl
@[go_sem] theorem ha0 : hasT Try.prog 0 = true := by kernel_rfl
@[go_sem] theorem ic0 : isIfc Try.prog 0 = false := by kernel_rfl
@[go_sem] theorem by0 : bytesOf Try.prog 0 = some 0 := by kernel_rfl
@[go_sem] theorem sz1 : szOf Try.prog 1 = some 1 := by kernel_rfl
@[go_sem] theorem ag1 : aggOf Try.prog 1 = some false := by kernel_rfl
@[go_sem] theorem es1 : elemS Try.prog 1 = none := by kernel_rfl
@[go_sem] theorem ha1 : hasT Try.prog 1 = true := by kernel_rfl
@[go_sem] theorem ic1 : isIfc Try.prog 1 = false := by kernel_rfl
@[go_sem] theorem by1 : bytesOf Try.prog 1 = some 8 := by kernel_rfl
@[go_sem] theorem ze1 : zeroOf Try.prog 1 = some .nilFunc := by kernel_rfl
@[go_sem] theorem sz2 : szOf Try.prog 2 = some 1 := by kernel_rfl
@[go_sem] theorem ag2 : aggOf Try.prog 2 = some false := by kernel_rfl
@[go_sem] theorem es2 : elemS Try.prog 2 = none := by kernel_rfl
@[go_sem] theorem ha2 : hasT Try.prog 2 = true := by kernel_rfl
@[go_sem] theorem ic2 : isIfc Try.prog 2 = false := by kernel_rfl
@[go_sem] theorem io2 : intOfT Try.prog 2 = some .i64 := by kernel_rfl
@[go_sem] theorem by2 : bytesOf Try.prog 2 = some 8 := by kernel_rfl
@[go_sem] theorem ze2 : zeroOf Try.prog 2 = some (.int .i64 0) := by kernel_rfl
@[go_sem] theorem sz3 : szOf Try.prog 3 = some 1 := by kernel_rfl
@[go_sem] theorem ag3 : aggOf Try.prog 3 = some false := by kernel_rfl
@[go_sem] theorem es3 : elemS Try.prog 3 = none := by kernel_rfl
@[go_sem] theorem ha3 : hasT Try.prog 3 = true := by kernel_rfl
@[go_sem] theorem ic3 : isIfc Try.prog 3 = false := by kernel_rfl
@[go_sem] theorem io3 : intOfT Try.prog 3 = some .i64 := by kernel_rfl
@[go_sem] theorem by3 : bytesOf Try.prog 3 = some 8 := by kernel_rfl
@[go_sem] theorem ze3 : zeroOf Try.prog 3 = some (.int .i64 0) := by kernel_rfl
@[go_sem] theorem sz4 : szOf Try.prog 4 = some 1 := by kernel_rfl
@[go_sem] theorem ag4 : aggOf Try.prog 4 = some false := by kernel_rfl
@[go_sem] theorem es4 : elemS Try.prog 4 = none := by kernel_rfl
@[go_sem] theorem ha4 : hasT Try.prog 4 = true := by kernel_rfl
@[go_sem] theorem ic4 : isIfc Try.prog 4 = false := by kernel_rfl
@[go_sem] theorem by4 : bytesOf Try.prog 4 = some 1 := by kernel_rfl
@[go_sem] theorem ib4 : isBoolT Try.prog 4 = true := by kernel_rfl
@[go_sem] theorem ze4 : zeroOf Try.prog 4 = some (.bool false) := by kernel_rfl
@[go_sem] theorem sz5 : szOf Try.prog 5 = some 1 := by kernel_rfl
@[go_sem] theorem ag5 : aggOf Try.prog 5 = some false := by kernel_rfl
@[go_sem] theorem es5 : elemS Try.prog 5 = none := by kernel_rfl
@[go_sem] theorem ha5 : hasT Try.prog 5 = true := by kernel_rfl
@[go_sem] theorem ic5 : isIfc Try.prog 5 = false := by kernel_rfl
@[go_sem] theorem io5 : intOfT Try.prog 5 = some .u8 := by kernel_rfl
@[go_sem] theorem by5 : bytesOf Try.prog 5 = some 1 := by kernel_rfl
@[go_sem] theorem ze5 : zeroOf Try.prog 5 = some (.int .u8 0) := by kernel_rfl
@[go_sem] theorem sz6 : szOf Try.prog 6 = some 1 := by kernel_rfl
@[go_sem] theorem ag6 : aggOf Try.prog 6 = some false := by kernel_rfl
@[go_sem] theorem es6 : elemS Try.prog 6 = none := by kernel_rfl
@[go_sem] theorem ha6 : hasT Try.prog 6 = true := by kernel_rfl
@[go_sem] theorem ic6 : isIfc Try.prog 6 = false := by kernel_rfl
@[go_sem] theorem io6 : intOfT Try.prog 6 = some .u8 := by kernel_rfl
@[go_sem] theorem by6 : bytesOf Try.prog 6 = some 1 := by kernel_rfl
@[go_sem] theorem ze6 : zeroOf Try.prog 6 = some (.int .u8 0) := by kernel_rfl
@[go_sem] theorem sz7 : szOf Try.prog 7 = some 4 := by kernel_rfl
@[go_sem] theorem ag7 : aggOf Try.prog 7 = some true := by kernel_rfl
@[go_sem] theorem fl7_0 : fldOf Try.prog 7 0 = some (0, 2) := by kernel_rfl
@[go_sem] theorem fl7_1 : fldOf Try.prog 7 1 = some (1, 3) := by kernel_rfl
@[go_sem] theorem fl7_2 : fldOf Try.prog 7 2 = some (2, 4) := by kernel_rfl
@[go_sem] theorem fl7_3 : fldOf Try.prog 7 3 = some (3, 6) := by kernel_rfl
@[go_sem] theorem es7 : elemS Try.prog 7 = none := by kernel_rfl
@[go_sem] theorem ha7 : hasT Try.prog 7 = true := by kernel_rfl
@[go_sem] theorem ic7 : isIfc Try.prog 7 = false := by kernel_rfl
@[go_sem] theorem pl7 : placesOf Try.prog 7 = some [(0, 1), (1, 1), (2, 1), (3, 1)] := by kernel_rfl
@[go_sem] theorem by7 : bytesOf Try.prog 7 = some 24 := by kernel_rfl
@[go_sem] theorem ze7 : zeroOf Try.prog 7 = some (.agg #[(.int .i64 0), (.int .i64 0), (.bool false), (.int .u8 0)]) := by kernel_rfl
@[go_sem] theorem sz8 : szOf Try.prog 8 = some 4 := by kernel_rfl
@[go_sem] theorem ag8 : aggOf Try.prog 8 = some true := by kernel_rfl
@[go_sem] theorem fl8_0 : fldOf Try.prog 8 0 = some (0, 2) := by kernel_rfl
@[go_sem] theorem fl8_1 : fldOf Try.prog 8 1 = some (1, 3) := by kernel_rfl
@[go_sem] theorem fl8_2 : fldOf Try.prog 8 2 = some (2, 4) := by kernel_rfl
@[go_sem] theorem fl8_3 : fldOf Try.prog 8 3 = some (3, 6) := by kernel_rfl
@[go_sem] theorem es8 : elemS Try.prog 8 = none := by kernel_rfl
@[go_sem] theorem ha8 : hasT Try.prog 8 = true := by kernel_rfl
@[go_sem] theorem ic8 : isIfc Try.prog 8 = false := by kernel_rfl
@[go_sem] theorem pl8 : placesOf Try.prog 8 = some [(0, 1), (1, 1), (2, 1), (3, 1)] := by kernel_rfl
@[go_sem] theorem by8 : bytesOf Try.prog 8 = some 24 := by kernel_rfl
@[go_sem] theorem ze8 : zeroOf Try.prog 8 = some (.agg #[(.int .i64 0), (.int .i64 0), (.bool false), (.int .u8 0)]) := by kernel_rfl
@[go_sem] theorem sz9 : szOf Try.prog 9 = some 1 := by kernel_rfl
@[go_sem] theorem ag9 : aggOf Try.prog 9 = some false := by kernel_rfl
@[go_sem] theorem es9 : elemS Try.prog 9 = none := by kernel_rfl
@[go_sem] theorem ha9 : hasT Try.prog 9 = true := by kernel_rfl
@[go_sem] theorem st9 : isStr Try.prog 9 = true := by kernel_rfl
@[go_sem] theorem ic9 : isIfc Try.prog 9 = false := by kernel_rfl
@[go_sem] theorem by9 : bytesOf Try.prog 9 = some 16 := by kernel_rfl
@[go_sem] theorem ze9 : zeroOf Try.prog 9 = some (.string ByteArray.empty) := by kernel_rfl
@[go_sem] theorem sz10 : szOf Try.prog 10 = some 1 := by kernel_rfl
@[go_sem] theorem ag10 : aggOf Try.prog 10 = some false := by kernel_rfl
@[go_sem] theorem es10 : elemS Try.prog 10 = none := by kernel_rfl
@[go_sem] theorem ha10 : hasT Try.prog 10 = true := by kernel_rfl
@[go_sem] theorem st10 : isStr Try.prog 10 = true := by kernel_rfl
@[go_sem] theorem ic10 : isIfc Try.prog 10 = false := by kernel_rfl
@[go_sem] theorem by10 : bytesOf Try.prog 10 = some 16 := by kernel_rfl
@[go_sem] theorem ze10 : zeroOf Try.prog 10 = some (.string ByteArray.empty) := by kernel_rfl
@[go_sem] theorem sz11 : szOf Try.prog 11 = some 1 := by kernel_rfl
@[go_sem] theorem ag11 : aggOf Try.prog 11 = some false := by kernel_rfl
@[go_sem] theorem es11 : elemS Try.prog 11 = none := by kernel_rfl
@[go_sem] theorem ha11 : hasT Try.prog 11 = true := by kernel_rfl
@[go_sem] theorem st11 : isStr Try.prog 11 = true := by kernel_rfl
@[go_sem] theorem ic11 : isIfc Try.prog 11 = false := by kernel_rfl
@[go_sem] theorem by11 : bytesOf Try.prog 11 = some 16 := by kernel_rfl
@[go_sem] theorem ze11 : zeroOf Try.prog 11 = some (.string ByteArray.empty) := by kernel_rfl
@[go_sem] theorem sz12 : szOf Try.prog 12 = some 1 := by kernel_rfl
@[go_sem] theorem ag12 : aggOf Try.prog 12 = some false := by kernel_rfl
@[go_sem] theorem es12 : elemS Try.prog 12 = none := by kernel_rfl
@[go_sem] theorem ha12 : hasT Try.prog 12 = true := by kernel_rfl
@[go_sem] theorem ic12 : isIfc Try.prog 12 = false := by kernel_rfl
@[go_sem] theorem io12 : intOfT Try.prog 12 = some .u64 := by kernel_rfl
@[go_sem] theorem by12 : bytesOf Try.prog 12 = some 8 := by kernel_rfl
@[go_sem] theorem ze12 : zeroOf Try.prog 12 = some (.int .u64 0) := by kernel_rfl
@[go_sem] theorem sz13 : szOf Try.prog 13 = some 2 := by kernel_rfl
@[go_sem] theorem ag13 : aggOf Try.prog 13 = some true := by kernel_rfl
@[go_sem] theorem fl13_0 : fldOf Try.prog 13 0 = some (0, 9) := by kernel_rfl
@[go_sem] theorem fl13_1 : fldOf Try.prog 13 1 = some (1, 12) := by kernel_rfl
@[go_sem] theorem es13 : elemS Try.prog 13 = none := by kernel_rfl
@[go_sem] theorem ha13 : hasT Try.prog 13 = true := by kernel_rfl
@[go_sem] theorem ic13 : isIfc Try.prog 13 = false := by kernel_rfl
@[go_sem] theorem pl13 : placesOf Try.prog 13 = some [(0, 1), (1, 1)] := by kernel_rfl
@[go_sem] theorem by13 : bytesOf Try.prog 13 = some 24 := by kernel_rfl
@[go_sem] theorem ze13 : zeroOf Try.prog 13 = some (.agg #[(.string ByteArray.empty), (.int .u64 0)]) := by kernel_rfl
@[go_sem] theorem sz14 : szOf Try.prog 14 = some 2 := by kernel_rfl
@[go_sem] theorem ag14 : aggOf Try.prog 14 = some true := by kernel_rfl
@[go_sem] theorem fl14_0 : fldOf Try.prog 14 0 = some (0, 9) := by kernel_rfl
@[go_sem] theorem fl14_1 : fldOf Try.prog 14 1 = some (1, 12) := by kernel_rfl
@[go_sem] theorem es14 : elemS Try.prog 14 = none := by kernel_rfl
@[go_sem] theorem ha14 : hasT Try.prog 14 = true := by kernel_rfl
@[go_sem] theorem ic14 : isIfc Try.prog 14 = false := by kernel_rfl
@[go_sem] theorem pl14 : placesOf Try.prog 14 = some [(0, 1), (1, 1)] := by kernel_rfl
@[go_sem] theorem by14 : bytesOf Try.prog 14 = some 24 := by kernel_rfl
@[go_sem] theorem ze14 : zeroOf Try.prog 14 = some (.agg #[(.string ByteArray.empty), (.int .u64 0)]) := by kernel_rfl
@[go_sem] theorem sz15 : szOf Try.prog 15 = some 1 := by kernel_rfl
@[go_sem] theorem ag15 : aggOf Try.prog 15 = some false := by kernel_rfl
@[go_sem] theorem es15 : elemS Try.prog 15 = none := by kernel_rfl
@[go_sem] theorem ha15 : hasT Try.prog 15 = true := by kernel_rfl
@[go_sem] theorem ic15 : isIfc Try.prog 15 = false := by kernel_rfl
@[go_sem] theorem by15 : bytesOf Try.prog 15 = some 8 := by kernel_rfl
@[go_sem] theorem ip15 : isPtrT Try.prog 15 = true := by kernel_rfl
@[go_sem] theorem ze15 : zeroOf Try.prog 15 = some (.pointer none) := by kernel_rfl
@[go_sem] theorem sz16 : szOf Try.prog 16 = some 1 := by kernel_rfl
@[go_sem] theorem ag16 : aggOf Try.prog 16 = some false := by kernel_rfl
@[go_sem] theorem es16 : elemS Try.prog 16 = none := by kernel_rfl
@[go_sem] theorem ha16 : hasT Try.prog 16 = true := by kernel_rfl
@[go_sem] theorem ic16 : isIfc Try.prog 16 = false := by kernel_rfl
@[go_sem] theorem by16 : bytesOf Try.prog 16 = some 8 := by kernel_rfl
@[go_sem] theorem ip16 : isPtrT Try.prog 16 = true := by kernel_rfl
@[go_sem] theorem ze16 : zeroOf Try.prog 16 = some (.pointer none) := by kernel_rfl
@[go_sem] theorem sz17 : szOf Try.prog 17 = some 1 := by kernel_rfl
@[go_sem] theorem ag17 : aggOf Try.prog 17 = some false := by kernel_rfl
@[go_sem] theorem es17 : elemS Try.prog 17 = none := by kernel_rfl
@[go_sem] theorem ha17 : hasT Try.prog 17 = true := by kernel_rfl
@[go_sem] theorem ic17 : isIfc Try.prog 17 = false := by kernel_rfl
@[go_sem] theorem by17 : bytesOf Try.prog 17 = some 8 := by kernel_rfl
@[go_sem] theorem ip17 : isPtrT Try.prog 17 = true := by kernel_rfl
@[go_sem] theorem ze17 : zeroOf Try.prog 17 = some (.pointer none) := by kernel_rfl
@[go_sem] theorem sz18 : szOf Try.prog 18 = some 1 := by kernel_rfl
@[go_sem] theorem ag18 : aggOf Try.prog 18 = some true := by kernel_rfl
@[go_sem] theorem fl18_0 : fldOf Try.prog 18 0 = some (0, 17) := by kernel_rfl
@[go_sem] theorem es18 : elemS Try.prog 18 = none := by kernel_rfl
@[go_sem] theorem ha18 : hasT Try.prog 18 = true := by kernel_rfl
@[go_sem] theorem ic18 : isIfc Try.prog 18 = false := by kernel_rfl
@[go_sem] theorem pl18 : placesOf Try.prog 18 = some [(0, 1)] := by kernel_rfl
@[go_sem] theorem by18 : bytesOf Try.prog 18 = some 8 := by kernel_rfl
@[go_sem] theorem ze18 : zeroOf Try.prog 18 = some (.agg #[(.pointer none)]) := by kernel_rfl
@[go_sem] theorem sz19 : szOf Try.prog 19 = some 1 := by kernel_rfl
@[go_sem] theorem ag19 : aggOf Try.prog 19 = some true := by kernel_rfl
@[go_sem] theorem fl19_0 : fldOf Try.prog 19 0 = some (0, 17) := by kernel_rfl
@[go_sem] theorem es19 : elemS Try.prog 19 = none := by kernel_rfl
@[go_sem] theorem ha19 : hasT Try.prog 19 = true := by kernel_rfl
@[go_sem] theorem ic19 : isIfc Try.prog 19 = false := by kernel_rfl
@[go_sem] theorem pl19 : placesOf Try.prog 19 = some [(0, 1)] := by kernel_rfl
@[go_sem] theorem by19 : bytesOf Try.prog 19 = some 8 := by kernel_rfl
@[go_sem] theorem ze19 : zeroOf Try.prog 19 = some (.agg #[(.pointer none)]) := by kernel_rfl
@[go_sem] theorem sz20 : szOf Try.prog 20 = some 1 := by kernel_rfl
@[go_sem] theorem ag20 : aggOf Try.prog 20 = some false := by kernel_rfl
@[go_sem] theorem es20 : elemS Try.prog 20 = none := by kernel_rfl
@[go_sem] theorem ha20 : hasT Try.prog 20 = true := by kernel_rfl
@[go_sem] theorem ic20 : isIfc Try.prog 20 = true := by kernel_rfl
@[go_sem] theorem by20 : bytesOf Try.prog 20 = some 16 := by kernel_rfl
@[go_sem] theorem ze20 : zeroOf Try.prog 20 = some .nilIface := by kernel_rfl
@[go_sem] theorem sz21 : szOf Try.prog 21 = some 1 := by kernel_rfl
@[go_sem] theorem ag21 : aggOf Try.prog 21 = some false := by kernel_rfl
@[go_sem] theorem es21 : elemS Try.prog 21 = none := by kernel_rfl
@[go_sem] theorem ha21 : hasT Try.prog 21 = true := by kernel_rfl
@[go_sem] theorem ic21 : isIfc Try.prog 21 = false := by kernel_rfl
@[go_sem] theorem io21 : intOfT Try.prog 21 = some .i32 := by kernel_rfl
@[go_sem] theorem by21 : bytesOf Try.prog 21 = some 4 := by kernel_rfl
@[go_sem] theorem ze21 : zeroOf Try.prog 21 = some (.int .i32 0) := by kernel_rfl
@[go_sem] theorem sz22 : szOf Try.prog 22 = some 1 := by kernel_rfl
@[go_sem] theorem ag22 : aggOf Try.prog 22 = some false := by kernel_rfl
@[go_sem] theorem es22 : elemS Try.prog 22 = none := by kernel_rfl
@[go_sem] theorem ha22 : hasT Try.prog 22 = true := by kernel_rfl
@[go_sem] theorem ic22 : isIfc Try.prog 22 = false := by kernel_rfl
@[go_sem] theorem io22 : intOfT Try.prog 22 = some .u64 := by kernel_rfl
@[go_sem] theorem by22 : bytesOf Try.prog 22 = some 8 := by kernel_rfl
@[go_sem] theorem ze22 : zeroOf Try.prog 22 = some (.int .u64 0) := by kernel_rfl
@[go_sem] theorem sz23 : szOf Try.prog 23 = some 1 := by kernel_rfl
@[go_sem] theorem ag23 : aggOf Try.prog 23 = some false := by kernel_rfl
@[go_sem] theorem es23 : elemS Try.prog 23 = none := by kernel_rfl
@[go_sem] theorem ha23 : hasT Try.prog 23 = true := by kernel_rfl
@[go_sem] theorem ic23 : isIfc Try.prog 23 = false := by kernel_rfl
@[go_sem] theorem by23 : bytesOf Try.prog 23 = some 8 := by kernel_rfl
@[go_sem] theorem ze23 : zeroOf Try.prog 23 = some .nilFunc := by kernel_rfl
@[go_sem] theorem sz24 : szOf Try.prog 24 = some 1 := by kernel_rfl
@[go_sem] theorem ag24 : aggOf Try.prog 24 = some false := by kernel_rfl
@[go_sem] theorem es24 : elemS Try.prog 24 = none := by kernel_rfl
@[go_sem] theorem ha24 : hasT Try.prog 24 = true := by kernel_rfl
@[go_sem] theorem ic24 : isIfc Try.prog 24 = false := by kernel_rfl
@[go_sem] theorem by24 : bytesOf Try.prog 24 = some 8 := by kernel_rfl
@[go_sem] theorem ze24 : zeroOf Try.prog 24 = some .nilFunc := by kernel_rfl
@[go_sem] theorem sz25 : szOf Try.prog 25 = some 1 := by kernel_rfl
@[go_sem] theorem ag25 : aggOf Try.prog 25 = some false := by kernel_rfl
@[go_sem] theorem es25 : elemS Try.prog 25 = none := by kernel_rfl
@[go_sem] theorem ha25 : hasT Try.prog 25 = true := by kernel_rfl
@[go_sem] theorem ic25 : isIfc Try.prog 25 = false := by kernel_rfl
@[go_sem] theorem by25 : bytesOf Try.prog 25 = some 8 := by kernel_rfl
@[go_sem] theorem ze25 : zeroOf Try.prog 25 = some .nilFunc := by kernel_rfl
@[go_sem] theorem sz26 : szOf Try.prog 26 = some 1 := by kernel_rfl
@[go_sem] theorem ag26 : aggOf Try.prog 26 = some false := by kernel_rfl
@[go_sem] theorem es26 : elemS Try.prog 26 = none := by kernel_rfl
@[go_sem] theorem ha26 : hasT Try.prog 26 = true := by kernel_rfl
@[go_sem] theorem ic26 : isIfc Try.prog 26 = false := by kernel_rfl
@[go_sem] theorem by26 : bytesOf Try.prog 26 = some 8 := by kernel_rfl
@[go_sem] theorem ze26 : zeroOf Try.prog 26 = some .nilFunc := by kernel_rfl
@[go_sem] theorem sz27 : szOf Try.prog 27 = some 1 := by kernel_rfl
@[go_sem] theorem ag27 : aggOf Try.prog 27 = some false := by kernel_rfl
@[go_sem] theorem es27 : elemS Try.prog 27 = none := by kernel_rfl
@[go_sem] theorem ha27 : hasT Try.prog 27 = true := by kernel_rfl
@[go_sem] theorem ic27 : isIfc Try.prog 27 = false := by kernel_rfl
@[go_sem] theorem by27 : bytesOf Try.prog 27 = some 8 := by kernel_rfl
@[go_sem] theorem ze27 : zeroOf Try.prog 27 = some .nilFunc := by kernel_rfl
@[go_sem] theorem sz28 : szOf Try.prog 28 = some 1 := by kernel_rfl
@[go_sem] theorem ag28 : aggOf Try.prog 28 = some false := by kernel_rfl
@[go_sem] theorem es28 : elemS Try.prog 28 = some 83 := by kernel_rfl
@[go_sem] theorem ha28 : hasT Try.prog 28 = true := by kernel_rfl
@[go_sem] theorem ic28 : isIfc Try.prog 28 = false := by kernel_rfl
@[go_sem] theorem by28 : bytesOf Try.prog 28 = some 24 := by kernel_rfl
@[go_sem] theorem ze28 : zeroOf Try.prog 28 = some (.slice none 0 0) := by kernel_rfl
@[go_sem] theorem sz29 : szOf Try.prog 29 = some 1 := by kernel_rfl
@[go_sem] theorem ag29 : aggOf Try.prog 29 = some false := by kernel_rfl
@[go_sem] theorem es29 : elemS Try.prog 29 = some 85 := by kernel_rfl
@[go_sem] theorem ha29 : hasT Try.prog 29 = true := by kernel_rfl
@[go_sem] theorem ic29 : isIfc Try.prog 29 = false := by kernel_rfl
@[go_sem] theorem by29 : bytesOf Try.prog 29 = some 24 := by kernel_rfl
@[go_sem] theorem ze29 : zeroOf Try.prog 29 = some (.slice none 0 0) := by kernel_rfl
@[go_sem] theorem sz30 : szOf Try.prog 30 = some 1 := by kernel_rfl
@[go_sem] theorem ag30 : aggOf Try.prog 30 = some false := by kernel_rfl
@[go_sem] theorem es30 : elemS Try.prog 30 = some 36 := by kernel_rfl
@[go_sem] theorem ha30 : hasT Try.prog 30 = true := by kernel_rfl
@[go_sem] theorem ic30 : isIfc Try.prog 30 = false := by kernel_rfl
@[go_sem] theorem by30 : bytesOf Try.prog 30 = some 24 := by kernel_rfl
@[go_sem] theorem ze30 : zeroOf Try.prog 30 = some (.slice none 0 0) := by kernel_rfl
@[go_sem] theorem sz31 : szOf Try.prog 31 = some 1 := by kernel_rfl
@[go_sem] theorem ag31 : aggOf Try.prog 31 = some false := by kernel_rfl
@[go_sem] theorem es31 : elemS Try.prog 31 = some 9 := by kernel_rfl
@[go_sem] theorem ha31 : hasT Try.prog 31 = true := by kernel_rfl
@[go_sem] theorem ic31 : isIfc Try.prog 31 = false := by kernel_rfl
@[go_sem] theorem by31 : bytesOf Try.prog 31 = some 24 := by kernel_rfl
@[go_sem] theorem ze31 : zeroOf Try.prog 31 = some (.slice none 0 0) := by kernel_rfl
@[go_sem] theorem sz32 : szOf Try.prog 32 = some 1 := by kernel_rfl
@[go_sem] theorem ag32 : aggOf Try.prog 32 = some false := by kernel_rfl
@[go_sem] theorem es32 : elemS Try.prog 32 = some 34 := by kernel_rfl
@[go_sem] theorem ha32 : hasT Try.prog 32 = true := by kernel_rfl
@[go_sem] theorem ic32 : isIfc Try.prog 32 = false := by kernel_rfl
@[go_sem] theorem by32 : bytesOf Try.prog 32 = some 24 := by kernel_rfl
@[go_sem] theorem ze32 : zeroOf Try.prog 32 = some (.slice none 0 0) := by kernel_rfl
@[go_sem] theorem sz33 : szOf Try.prog 33 = some 3 := by kernel_rfl
@[go_sem] theorem ag33 : aggOf Try.prog 33 = some true := by kernel_rfl
@[go_sem] theorem fl33_0 : fldOf Try.prog 33 0 = some (0, 9) := by kernel_rfl
@[go_sem] theorem fl33_1 : fldOf Try.prog 33 1 = some (1, 32) := by kernel_rfl
@[go_sem] theorem fl33_2 : fldOf Try.prog 33 2 = some (2, 3) := by kernel_rfl
@[go_sem] theorem es33 : elemS Try.prog 33 = none := by kernel_rfl
@[go_sem] theorem ha33 : hasT Try.prog 33 = true := by kernel_rfl
@[go_sem] theorem ic33 : isIfc Try.prog 33 = false := by kernel_rfl
@[go_sem] theorem pl33 : placesOf Try.prog 33 = some [(0, 1), (1, 1), (2, 1)] := by kernel_rfl
@[go_sem] theorem by33 : bytesOf Try.prog 33 = some 48 := by kernel_rfl
@[go_sem] theorem ze33 : zeroOf Try.prog 33 = some (.agg #[(.string ByteArray.empty), (.slice none 0 0), (.int .i64 0)]) := by kernel_rfl
@[go_sem] theorem sz34 : szOf Try.prog 34 = some 3 := by kernel_rfl
@[go_sem] theorem ag34 : aggOf Try.prog 34 = some true := by kernel_rfl
@[go_sem] theorem fl34_0 : fldOf Try.prog 34 0 = some (0, 9) := by kernel_rfl
@[go_sem] theorem fl34_1 : fldOf Try.prog 34 1 = some (1, 32) := by kernel_rfl
@[go_sem] theorem fl34_2 : fldOf Try.prog 34 2 = some (2, 3) := by kernel_rfl
@[go_sem] theorem es34 : elemS Try.prog 34 = none := by kernel_rfl
@[go_sem] theorem ha34 : hasT Try.prog 34 = true := by kernel_rfl
@[go_sem] theorem ic34 : isIfc Try.prog 34 = false := by kernel_rfl
@[go_sem] theorem pl34 : placesOf Try.prog 34 = some [(0, 1), (1, 1), (2, 1)] := by kernel_rfl
@[go_sem] theorem by34 : bytesOf Try.prog 34 = some 48 := by kernel_rfl
@[go_sem] theorem ze34 : zeroOf Try.prog 34 = some (.agg #[(.string ByteArray.empty), (.slice none 0 0), (.int .i64 0)]) := by kernel_rfl
@[go_sem] theorem sz35 : szOf Try.prog 35 = some 7 := by kernel_rfl
@[go_sem] theorem ag35 : aggOf Try.prog 35 = some true := by kernel_rfl
@[go_sem] theorem fl35_0 : fldOf Try.prog 35 0 = some (0, 9) := by kernel_rfl
@[go_sem] theorem fl35_1 : fldOf Try.prog 35 1 = some (1, 28) := by kernel_rfl
@[go_sem] theorem fl35_2 : fldOf Try.prog 35 2 = some (2, 29) := by kernel_rfl
@[go_sem] theorem fl35_3 : fldOf Try.prog 35 3 = some (3, 34) := by kernel_rfl
@[go_sem] theorem fl35_4 : fldOf Try.prog 35 4 = some (6, 3) := by kernel_rfl
@[go_sem] theorem es35 : elemS Try.prog 35 = none := by kernel_rfl
@[go_sem] theorem ha35 : hasT Try.prog 35 = true := by kernel_rfl
@[go_sem] theorem ic35 : isIfc Try.prog 35 = false := by kernel_rfl
@[go_sem] theorem pl35 : placesOf Try.prog 35 = some [(0, 1), (1, 1), (2, 1), (3, 3), (6, 1)] := by kernel_rfl
@[go_sem] theorem by35 : bytesOf Try.prog 35 = some 120 := by kernel_rfl
@[go_sem] theorem ze35 : zeroOf Try.prog 35 = some (.agg #[(.string ByteArray.empty), (.slice none 0 0), (.slice none 0 0), (.string ByteArray.empty), (.slice none 0 0), (.int .i64 0), (.int .i64 0)]) := by kernel_rfl
@[go_sem] theorem sz36 : szOf Try.prog 36 = some 7 := by kernel_rfl
@[go_sem] theorem ag36 : aggOf Try.prog 36 = some true := by kernel_rfl
@[go_sem] theorem fl36_0 : fldOf Try.prog 36 0 = some (0, 9) := by kernel_rfl
@[go_sem] theorem fl36_1 : fldOf Try.prog 36 1 = some (1, 28) := by kernel_rfl
@[go_sem] theorem fl36_2 : fldOf Try.prog 36 2 = some (2, 29) := by kernel_rfl
@[go_sem] theorem fl36_3 : fldOf Try.prog 36 3 = some (3, 34) := by kernel_rfl
@[go_sem] theorem fl36_4 : fldOf Try.prog 36 4 = some (6, 3) := by kernel_rfl
@[go_sem] theorem es36 : elemS Try.prog 36 = none := by kernel_rfl
@[go_sem] theorem ha36 : hasT Try.prog 36 = true := by kernel_rfl
@[go_sem] theorem ic36 : isIfc Try.prog 36 = false := by kernel_rfl
@[go_sem] theorem pl36 : placesOf Try.prog 36 = some [(0, 1), (1, 1), (2, 1), (3, 3), (6, 1)] := by kernel_rfl
@[go_sem] theorem by36 : bytesOf Try.prog 36 = some 120 := by kernel_rfl
@[go_sem] theorem ze36 : zeroOf Try.prog 36 = some (.agg #[(.string ByteArray.empty), (.slice none 0 0), (.slice none 0 0), (.string ByteArray.empty), (.slice none 0 0), (.int .i64 0), (.int .i64 0)]) := by kernel_rfl
@[go_sem] theorem sz37 : szOf Try.prog 37 = some 1 := by kernel_rfl
@[go_sem] theorem ag37 : aggOf Try.prog 37 = some false := by kernel_rfl
@[go_sem] theorem es37 : elemS Try.prog 37 = some 39 := by kernel_rfl
@[go_sem] theorem ha37 : hasT Try.prog 37 = true := by kernel_rfl
@[go_sem] theorem ic37 : isIfc Try.prog 37 = false := by kernel_rfl
@[go_sem] theorem by37 : bytesOf Try.prog 37 = some 24 := by kernel_rfl
@[go_sem] theorem ze37 : zeroOf Try.prog 37 = some (.slice none 0 0) := by kernel_rfl
@[go_sem] theorem sz38 : szOf Try.prog 38 = some 8 := by kernel_rfl
@[go_sem] theorem ag38 : aggOf Try.prog 38 = some true := by kernel_rfl
@[go_sem] theorem fl38_0 : fldOf Try.prog 38 0 = some (0, 3) := by kernel_rfl
@[go_sem] theorem fl38_1 : fldOf Try.prog 38 1 = some (1, 9) := by kernel_rfl
@[go_sem] theorem fl38_2 : fldOf Try.prog 38 2 = some (2, 34) := by kernel_rfl
@[go_sem] theorem fl38_3 : fldOf Try.prog 38 3 = some (5, 32) := by kernel_rfl
@[go_sem] theorem fl38_4 : fldOf Try.prog 38 4 = some (6, 37) := by kernel_rfl
@[go_sem] theorem fl38_5 : fldOf Try.prog 38 5 = some (7, 3) := by kernel_rfl
@[go_sem] theorem es38 : elemS Try.prog 38 = none := by kernel_rfl
@[go_sem] theorem ha38 : hasT Try.prog 38 = true := by kernel_rfl
@[go_sem] theorem ic38 : isIfc Try.prog 38 = false := by kernel_rfl
@[go_sem] theorem pl38 : placesOf Try.prog 38 = some [(0, 1), (1, 1), (2, 3), (5, 1), (6, 1), (7, 1)] := by kernel_rfl
@[go_sem] theorem by38 : bytesOf Try.prog 38 = some 128 := by kernel_rfl
@[go_sem] theorem ze38 : zeroOf Try.prog 38 = some (.agg #[(.int .i64 0), (.string ByteArray.empty), (.string ByteArray.empty), (.slice none 0 0), (.int .i64 0), (.slice none 0 0), (.slice none 0 0), (.int .i64 0)]) := by kernel_rfl
@[go_sem] theorem sz39 : szOf Try.prog 39 = some 8 := by kernel_rfl
@[go_sem] theorem ag39 : aggOf Try.prog 39 = some true := by kernel_rfl
@[go_sem] theorem fl39_0 : fldOf Try.prog 39 0 = some (0, 3) := by kernel_rfl
@[go_sem] theorem fl39_1 : fldOf Try.prog 39 1 = some (1, 9) := by kernel_rfl
@[go_sem] theorem fl39_2 : fldOf Try.prog 39 2 = some (2, 34) := by kernel_rfl
@[go_sem] theorem fl39_3 : fldOf Try.prog 39 3 = some (5, 32) := by kernel_rfl
@[go_sem] theorem fl39_4 : fldOf Try.prog 39 4 = some (6, 37) := by kernel_rfl
@[go_sem] theorem fl39_5 : fldOf Try.prog 39 5 = some (7, 3) := by kernel_rfl
@[go_sem] theorem es39 : elemS Try.prog 39 = none := by kernel_rfl
@[go_sem] theorem ha39 : hasT Try.prog 39 = true := by kernel_rfl
@[go_sem] theorem ic39 : isIfc Try.prog 39 = false := by kernel_rfl
@[go_sem] theorem pl39 : placesOf Try.prog 39 = some [(0, 1), (1, 1), (2, 3), (5, 1), (6, 1), (7, 1)] := by kernel_rfl
@[go_sem] theorem by39 : bytesOf Try.prog 39 = some 128 := by kernel_rfl
@[go_sem] theorem ze39 : zeroOf Try.prog 39 = some (.agg #[(.int .i64 0), (.string ByteArray.empty), (.string ByteArray.empty), (.slice none 0 0), (.int .i64 0), (.slice none 0 0), (.slice none 0 0), (.int .i64 0)]) := by kernel_rfl
@[go_sem] theorem sz40 : szOf Try.prog 40 = some 23 := by kernel_rfl
@[go_sem] theorem ag40 : aggOf Try.prog 40 = some true := by kernel_rfl
@[go_sem] theorem fl40_0 : fldOf Try.prog 40 0 = some (0, 3) := by kernel_rfl
@[go_sem] theorem fl40_1 : fldOf Try.prog 40 1 = some (1, 9) := by kernel_rfl
@[go_sem] theorem fl40_2 : fldOf Try.prog 40 2 = some (2, 28) := by kernel_rfl
@[go_sem] theorem fl40_3 : fldOf Try.prog 40 3 = some (3, 29) := by kernel_rfl
@[go_sem] theorem fl40_4 : fldOf Try.prog 40 4 = some (4, 30) := by kernel_rfl
@[go_sem] theorem fl40_5 : fldOf Try.prog 40 5 = some (5, 9) := by kernel_rfl
@[go_sem] theorem fl40_6 : fldOf Try.prog 40 6 = some (6, 31) := by kernel_rfl
@[go_sem] theorem fl40_7 : fldOf Try.prog 40 7 = some (7, 36) := by kernel_rfl
@[go_sem] theorem fl40_8 : fldOf Try.prog 40 8 = some (14, 39) := by kernel_rfl
@[go_sem] theorem fl40_9 : fldOf Try.prog 40 9 = some (22, 3) := by kernel_rfl
@[go_sem] theorem es40 : elemS Try.prog 40 = none := by kernel_rfl
@[go_sem] theorem ha40 : hasT Try.prog 40 = true := by kernel_rfl
@[go_sem] theorem ic40 : isIfc Try.prog 40 = false := by kernel_rfl
@[go_sem] theorem pl40 : placesOf Try.prog 40 = some [(0, 1), (1, 1), (2, 1), (3, 1), (4, 1), (5, 1), (6, 1), (7, 7), (14, 8), (22, 1)] := by kernel_rfl
@[go_sem] theorem by40 : bytesOf Try.prog 40 = some 392 := by kernel_rfl
@[go_sem] theorem ze40 : zeroOf Try.prog 40 = some (.agg #[(.int .i64 0), (.string ByteArray.empty), (.slice none 0 0), (.slice none 0 0), (.slice none 0 0), (.string ByteArray.empty), (.slice none 0 0), (.string ByteArray.empty), (.slice none 0 0), (.slice none 0 0), (.string ByteArray.empty), (.slice none 0 0), (.int .i64 0), (.int .i64 0), (.int .i64 0), (.string ByteArray.empty), (.string ByteArray.empty), (.slice none 0 0), (.int .i64 0), (.slice none 0 0), (.slice none 0 0), (.int .i64 0), (.int .i64 0)]) := by kernel_rfl
@[go_sem] theorem sz41 : szOf Try.prog 41 = some 23 := by kernel_rfl
@[go_sem] theorem ag41 : aggOf Try.prog 41 = some true := by kernel_rfl
@[go_sem] theorem fl41_0 : fldOf Try.prog 41 0 = some (0, 3) := by kernel_rfl
@[go_sem] theorem fl41_1 : fldOf Try.prog 41 1 = some (1, 9) := by kernel_rfl
@[go_sem] theorem fl41_2 : fldOf Try.prog 41 2 = some (2, 28) := by kernel_rfl
@[go_sem] theorem fl41_3 : fldOf Try.prog 41 3 = some (3, 29) := by kernel_rfl
@[go_sem] theorem fl41_4 : fldOf Try.prog 41 4 = some (4, 30) := by kernel_rfl
@[go_sem] theorem fl41_5 : fldOf Try.prog 41 5 = some (5, 9) := by kernel_rfl
@[go_sem] theorem fl41_6 : fldOf Try.prog 41 6 = some (6, 31) := by kernel_rfl
@[go_sem] theorem fl41_7 : fldOf Try.prog 41 7 = some (7, 36) := by kernel_rfl
@[go_sem] theorem fl41_8 : fldOf Try.prog 41 8 = some (14, 39) := by kernel_rfl
@[go_sem] theorem fl41_9 : fldOf Try.prog 41 9 = some (22, 3) := by kernel_rfl
@[go_sem] theorem es41 : elemS Try.prog 41 = none := by kernel_rfl
@[go_sem] theorem ha41 : hasT Try.prog 41 = true := by kernel_rfl
@[go_sem] theorem ic41 : isIfc Try.prog 41 = false := by kernel_rfl
@[go_sem] theorem pl41 : placesOf Try.prog 41 = some [(0, 1), (1, 1), (2, 1), (3, 1), (4, 1), (5, 1), (6, 1), (7, 7), (14, 8), (22, 1)] := by kernel_rfl
@[go_sem] theorem by41 : bytesOf Try.prog 41 = some 392 := by kernel_rfl
@[go_sem] theorem ze41 : zeroOf Try.prog 41 = some (.agg #[(.int .i64 0), (.string ByteArray.empty), (.slice none 0 0), (.slice none 0 0), (.slice none 0 0), (.string ByteArray.empty), (.slice none 0 0), (.string ByteArray.empty), (.slice none 0 0), (.slice none 0 0), (.string ByteArray.empty), (.slice none 0 0), (.int .i64 0), (.int .i64 0), (.int .i64 0), (.string ByteArray.empty), (.string ByteArray.empty), (.slice none 0 0), (.int .i64 0), (.slice none 0 0), (.slice none 0 0), (.int .i64 0), (.int .i64 0)]) := by kernel_rfl
@[go_sem] theorem sz42 : szOf Try.prog 42 = some 1 := by kernel_rfl
@[go_sem] theorem ag42 : aggOf Try.prog 42 = some false := by kernel_rfl
@[go_sem] theorem es42 : elemS Try.prog 42 = some 41 := by kernel_rfl
@[go_sem] theorem ha42 : hasT Try.prog 42 = true := by kernel_rfl
@[go_sem] theorem ic42 : isIfc Try.prog 42 = false := by kernel_rfl
@[go_sem] theorem by42 : bytesOf Try.prog 42 = some 24 := by kernel_rfl
@[go_sem] theorem ze42 : zeroOf Try.prog 42 = some (.slice none 0 0) := by kernel_rfl
@[go_sem] theorem sz43 : szOf Try.prog 43 = some 9 := by kernel_rfl
@[go_sem] theorem ag43 : aggOf Try.prog 43 = some true := by kernel_rfl
@[go_sem] theorem fl43_0 : fldOf Try.prog 43 0 = some (0, 42) := by kernel_rfl
@[go_sem] theorem fl43_1 : fldOf Try.prog 43 1 = some (1, 39) := by kernel_rfl
@[go_sem] theorem es43 : elemS Try.prog 43 = none := by kernel_rfl
@[go_sem] theorem ha43 : hasT Try.prog 43 = true := by kernel_rfl
@[go_sem] theorem ic43 : isIfc Try.prog 43 = false := by kernel_rfl
@[go_sem] theorem pl43 : placesOf Try.prog 43 = some [(0, 1), (1, 8)] := by kernel_rfl
@[go_sem] theorem by43 : bytesOf Try.prog 43 = some 152 := by kernel_rfl
@[go_sem] theorem ze43 : zeroOf Try.prog 43 = some (.agg #[(.slice none 0 0), (.int .i64 0), (.string ByteArray.empty), (.string ByteArray.empty), (.slice none 0 0), (.int .i64 0), (.slice none 0 0), (.slice none 0 0), (.int .i64 0)]) := by kernel_rfl
@[go_sem] theorem sz44 : szOf Try.prog 44 = some 9 := by kernel_rfl
@[go_sem] theorem ag44 : aggOf Try.prog 44 = some true := by kernel_rfl
@[go_sem] theorem fl44_0 : fldOf Try.prog 44 0 = some (0, 42) := by kernel_rfl
@[go_sem] theorem fl44_1 : fldOf Try.prog 44 1 = some (1, 39) := by kernel_rfl
@[go_sem] theorem es44 : elemS Try.prog 44 = none := by kernel_rfl
@[go_sem] theorem ha44 : hasT Try.prog 44 = true := by kernel_rfl
@[go_sem] theorem ic44 : isIfc Try.prog 44 = false := by kernel_rfl
@[go_sem] theorem pl44 : placesOf Try.prog 44 = some [(0, 1), (1, 8)] := by kernel_rfl
@[go_sem] theorem by44 : bytesOf Try.prog 44 = some 152 := by kernel_rfl
@[go_sem] theorem ze44 : zeroOf Try.prog 44 = some (.agg #[(.slice none 0 0), (.int .i64 0), (.string ByteArray.empty), (.string ByteArray.empty), (.slice none 0 0), (.int .i64 0), (.slice none 0 0), (.slice none 0 0), (.int .i64 0)]) := by kernel_rfl
@[go_sem] theorem sz45 : szOf Try.prog 45 = some 1 := by kernel_rfl
@[go_sem] theorem ag45 : aggOf Try.prog 45 = some false := by kernel_rfl
@[go_sem] theorem es45 : elemS Try.prog 45 = none := by kernel_rfl
@[go_sem] theorem ha45 : hasT Try.prog 45 = true := by kernel_rfl
@[go_sem] theorem ic45 : isIfc Try.prog 45 = false := by kernel_rfl
@[go_sem] theorem by45 : bytesOf Try.prog 45 = some 8 := by kernel_rfl
@[go_sem] theorem ze45 : zeroOf Try.prog 45 = some .nilFunc := by kernel_rfl
@[go_sem] theorem sz46 : szOf Try.prog 46 = some 1 := by kernel_rfl
@[go_sem] theorem ag46 : aggOf Try.prog 46 = some false := by kernel_rfl
@[go_sem] theorem es46 : elemS Try.prog 46 = none := by kernel_rfl
@[go_sem] theorem ha46 : hasT Try.prog 46 = true := by kernel_rfl
@[go_sem] theorem ic46 : isIfc Try.prog 46 = false := by kernel_rfl
@[go_sem] theorem by46 : bytesOf Try.prog 46 = some 8 := by kernel_rfl
@[go_sem] theorem ze46 : zeroOf Try.prog 46 = some .nilFunc := by kernel_rfl
@[go_sem] theorem sz47 : szOf Try.prog 47 = some 1 := by kernel_rfl
@[go_sem] theorem ag47 : aggOf Try.prog 47 = some false := by kernel_rfl
@[go_sem] theorem es47 : elemS Try.prog 47 = none := by kernel_rfl
@[go_sem] theorem ha47 : hasT Try.prog 47 = true := by kernel_rfl
@[go_sem] theorem ic47 : isIfc Try.prog 47 = false := by kernel_rfl
@[go_sem] theorem by47 : bytesOf Try.prog 47 = some 8 := by kernel_rfl
@[go_sem] theorem mp47 : mapT Try.prog 47 = some (9, 4) := by kernel_rfl
@[go_sem] theorem ks9 : KS.of Try.prog 9 = some (.one .str) := by kernel_rfl
@[go_sem] theorem ze47 : zeroOf Try.prog 47 = some (.map none) := by kernel_rfl
@[go_sem] theorem sz48 : szOf Try.prog 48 = some 5 := by kernel_rfl
@[go_sem] theorem ag48 : aggOf Try.prog 48 = some true := by kernel_rfl
@[go_sem] theorem fl48_0 : fldOf Try.prog 48 0 = some (0, 3) := by kernel_rfl
@[go_sem] theorem fl48_1 : fldOf Try.prog 48 1 = some (1, 3) := by kernel_rfl
@[go_sem] theorem fl48_2 : fldOf Try.prog 48 2 = some (2, 3) := by kernel_rfl
@[go_sem] theorem fl48_3 : fldOf Try.prog 48 3 = some (3, 3) := by kernel_rfl
@[go_sem] theorem fl48_4 : fldOf Try.prog 48 4 = some (4, 47) := by kernel_rfl
@[go_sem] theorem es48 : elemS Try.prog 48 = none := by kernel_rfl
@[go_sem] theorem ha48 : hasT Try.prog 48 = true := by kernel_rfl
@[go_sem] theorem ic48 : isIfc Try.prog 48 = false := by kernel_rfl
@[go_sem] theorem pl48 : placesOf Try.prog 48 = some [(0, 1), (1, 1), (2, 1), (3, 1), (4, 1)] := by kernel_rfl
@[go_sem] theorem by48 : bytesOf Try.prog 48 = some 40 := by kernel_rfl
@[go_sem] theorem ze48 : zeroOf Try.prog 48 = some (.agg #[(.int .i64 0), (.int .i64 0), (.int .i64 0), (.int .i64 0), (.map none)]) := by kernel_rfl
@[go_sem] theorem sz49 : szOf Try.prog 49 = some 5 := by kernel_rfl
@[go_sem] theorem ag49 : aggOf Try.prog 49 = some true := by kernel_rfl
@[go_sem] theorem fl49_0 : fldOf Try.prog 49 0 = some (0, 3) := by kernel_rfl
@[go_sem] theorem fl49_1 : fldOf Try.prog 49 1 = some (1, 3) := by kernel_rfl
@[go_sem] theorem fl49_2 : fldOf Try.prog 49 2 = some (2, 3) := by kernel_rfl
@[go_sem] theorem fl49_3 : fldOf Try.prog 49 3 = some (3, 3) := by kernel_rfl
@[go_sem] theorem fl49_4 : fldOf Try.prog 49 4 = some (4, 47) := by kernel_rfl
@[go_sem] theorem es49 : elemS Try.prog 49 = none := by kernel_rfl
@[go_sem] theorem ha49 : hasT Try.prog 49 = true := by kernel_rfl
@[go_sem] theorem ic49 : isIfc Try.prog 49 = false := by kernel_rfl
@[go_sem] theorem pl49 : placesOf Try.prog 49 = some [(0, 1), (1, 1), (2, 1), (3, 1), (4, 1)] := by kernel_rfl
@[go_sem] theorem by49 : bytesOf Try.prog 49 = some 40 := by kernel_rfl
@[go_sem] theorem ze49 : zeroOf Try.prog 49 = some (.agg #[(.int .i64 0), (.int .i64 0), (.int .i64 0), (.int .i64 0), (.map none)]) := by kernel_rfl
@[go_sem] theorem sz50 : szOf Try.prog 50 = some 1 := by kernel_rfl
@[go_sem] theorem ag50 : aggOf Try.prog 50 = some false := by kernel_rfl
@[go_sem] theorem es50 : elemS Try.prog 50 = none := by kernel_rfl
@[go_sem] theorem ha50 : hasT Try.prog 50 = true := by kernel_rfl
@[go_sem] theorem ic50 : isIfc Try.prog 50 = false := by kernel_rfl
@[go_sem] theorem by50 : bytesOf Try.prog 50 = some 8 := by kernel_rfl
@[go_sem] theorem ze50 : zeroOf Try.prog 50 = some .nilFunc := by kernel_rfl
@[go_sem] theorem sz51 : szOf Try.prog 51 = some 1 := by kernel_rfl
@[go_sem] theorem ag51 : aggOf Try.prog 51 = some false := by kernel_rfl
@[go_sem] theorem es51 : elemS Try.prog 51 = some 57 := by kernel_rfl
@[go_sem] theorem ha51 : hasT Try.prog 51 = true := by kernel_rfl
@[go_sem] theorem ic51 : isIfc Try.prog 51 = false := by kernel_rfl
@[go_sem] theorem by51 : bytesOf Try.prog 51 = some 24 := by kernel_rfl
@[go_sem] theorem ze51 : zeroOf Try.prog 51 = some (.slice none 0 0) := by kernel_rfl
@[go_sem] theorem sz52 : szOf Try.prog 52 = some 1 := by kernel_rfl
@[go_sem] theorem ag52 : aggOf Try.prog 52 = some false := by kernel_rfl
@[go_sem] theorem es52 : elemS Try.prog 52 = none := by kernel_rfl
@[go_sem] theorem ha52 : hasT Try.prog 52 = true := by kernel_rfl
@[go_sem] theorem ic52 : isIfc Try.prog 52 = false := by kernel_rfl
@[go_sem] theorem by52 : bytesOf Try.prog 52 = some 8 := by kernel_rfl
@[go_sem] theorem ze52 : zeroOf Try.prog 52 = some .nilFunc := by kernel_rfl
@[go_sem] theorem sz53 : szOf Try.prog 53 = some 1 := by kernel_rfl
@[go_sem] theorem ag53 : aggOf Try.prog 53 = some false := by kernel_rfl
@[go_sem] theorem es53 : elemS Try.prog 53 = none := by kernel_rfl
@[go_sem] theorem ha53 : hasT Try.prog 53 = true := by kernel_rfl
@[go_sem] theorem ic53 : isIfc Try.prog 53 = false := by kernel_rfl
@[go_sem] theorem by53 : bytesOf Try.prog 53 = some 8 := by kernel_rfl
@[go_sem] theorem ze53 : zeroOf Try.prog 53 = some .nilFunc := by kernel_rfl
@[go_sem] theorem sz54 : szOf Try.prog 54 = some 1 := by kernel_rfl
@[go_sem] theorem ag54 : aggOf Try.prog 54 = some false := by kernel_rfl
@[go_sem] theorem es54 : elemS Try.prog 54 = none := by kernel_rfl
@[go_sem] theorem ha54 : hasT Try.prog 54 = true := by kernel_rfl
@[go_sem] theorem ic54 : isIfc Try.prog 54 = false := by kernel_rfl
@[go_sem] theorem by54 : bytesOf Try.prog 54 = some 8 := by kernel_rfl
@[go_sem] theorem ze54 : zeroOf Try.prog 54 = some .nilFunc := by kernel_rfl
@[go_sem] theorem sz55 : szOf Try.prog 55 = some 1 := by kernel_rfl
@[go_sem] theorem ag55 : aggOf Try.prog 55 = some false := by kernel_rfl
@[go_sem] theorem es55 : elemS Try.prog 55 = none := by kernel_rfl
@[go_sem] theorem ha55 : hasT Try.prog 55 = true := by kernel_rfl
@[go_sem] theorem ic55 : isIfc Try.prog 55 = false := by kernel_rfl
@[go_sem] theorem by55 : bytesOf Try.prog 55 = some 8 := by kernel_rfl
@[go_sem] theorem ze55 : zeroOf Try.prog 55 = some .nilFunc := by kernel_rfl
@[go_sem] theorem sz56 : szOf Try.prog 56 = some 3 := by kernel_rfl
@[go_sem] theorem ag56 : aggOf Try.prog 56 = some true := by kernel_rfl
@[go_sem] theorem fl56_0 : fldOf Try.prog 56 0 = some (0, 4) := by kernel_rfl
@[go_sem] theorem fl56_1 : fldOf Try.prog 56 1 = some (1, 9) := by kernel_rfl
@[go_sem] theorem fl56_2 : fldOf Try.prog 56 2 = some (2, 3) := by kernel_rfl
@[go_sem] theorem es56 : elemS Try.prog 56 = none := by kernel_rfl
@[go_sem] theorem ha56 : hasT Try.prog 56 = true := by kernel_rfl
@[go_sem] theorem ic56 : isIfc Try.prog 56 = false := by kernel_rfl
@[go_sem] theorem pl56 : placesOf Try.prog 56 = some [(0, 1), (1, 1), (2, 1)] := by kernel_rfl
@[go_sem] theorem by56 : bytesOf Try.prog 56 = some 32 := by kernel_rfl
@[go_sem] theorem ze56 : zeroOf Try.prog 56 = some (.agg #[(.bool false), (.string ByteArray.empty), (.int .i64 0)]) := by kernel_rfl
@[go_sem] theorem sz57 : szOf Try.prog 57 = some 3 := by kernel_rfl
@[go_sem] theorem ag57 : aggOf Try.prog 57 = some true := by kernel_rfl
@[go_sem] theorem fl57_0 : fldOf Try.prog 57 0 = some (0, 4) := by kernel_rfl
@[go_sem] theorem fl57_1 : fldOf Try.prog 57 1 = some (1, 9) := by kernel_rfl
@[go_sem] theorem fl57_2 : fldOf Try.prog 57 2 = some (2, 3) := by kernel_rfl
@[go_sem] theorem es57 : elemS Try.prog 57 = none := by kernel_rfl
@[go_sem] theorem ha57 : hasT Try.prog 57 = true := by kernel_rfl
@[go_sem] theorem ic57 : isIfc Try.prog 57 = false := by kernel_rfl
@[go_sem] theorem pl57 : placesOf Try.prog 57 = some [(0, 1), (1, 1), (2, 1)] := by kernel_rfl
@[go_sem] theorem by57 : bytesOf Try.prog 57 = some 32 := by kernel_rfl
@[go_sem] theorem ze57 : zeroOf Try.prog 57 = some (.agg #[(.bool false), (.string ByteArray.empty), (.int .i64 0)]) := by kernel_rfl
@[go_sem] theorem sz58 : szOf Try.prog 58 = some 1 := by kernel_rfl
@[go_sem] theorem ag58 : aggOf Try.prog 58 = some false := by kernel_rfl
@[go_sem] theorem es58 : elemS Try.prog 58 = none := by kernel_rfl
@[go_sem] theorem ha58 : hasT Try.prog 58 = true := by kernel_rfl
@[go_sem] theorem ic58 : isIfc Try.prog 58 = false := by kernel_rfl
@[go_sem] theorem by58 : bytesOf Try.prog 58 = some 8 := by kernel_rfl
@[go_sem] theorem ze58 : zeroOf Try.prog 58 = some .nilFunc := by kernel_rfl
@[go_sem] theorem sz59 : szOf Try.prog 59 = some 1 := by kernel_rfl
@[go_sem] theorem ag59 : aggOf Try.prog 59 = some false := by kernel_rfl
@[go_sem] theorem es59 : elemS Try.prog 59 = none := by kernel_rfl
@[go_sem] theorem ha59 : hasT Try.prog 59 = true := by kernel_rfl
@[go_sem] theorem ic59 : isIfc Try.prog 59 = false := by kernel_rfl
@[go_sem] theorem by59 : bytesOf Try.prog 59 = some 8 := by kernel_rfl
@[go_sem] theorem ze59 : zeroOf Try.prog 59 = some .nilFunc := by kernel_rfl
@[go_sem] theorem sz60 : szOf Try.prog 60 = some 1 := by kernel_rfl
@[go_sem] theorem ag60 : aggOf Try.prog 60 = some false := by kernel_rfl
@[go_sem] theorem es60 : elemS Try.prog 60 = none := by kernel_rfl
@[go_sem] theorem ha60 : hasT Try.prog 60 = true := by kernel_rfl
@[go_sem] theorem ic60 : isIfc Try.prog 60 = false := by kernel_rfl
@[go_sem] theorem by60 : bytesOf Try.prog 60 = some 8 := by kernel_rfl
@[go_sem] theorem ze60 : zeroOf Try.prog 60 = some .nilFunc := by kernel_rfl
@[go_sem] theorem sz61 : szOf Try.prog 61 = some 1 := by kernel_rfl
@[go_sem] theorem ag61 : aggOf Try.prog 61 = some false := by kernel_rfl
@[go_sem] theorem es61 : elemS Try.prog 61 = none := by kernel_rfl
@[go_sem] theorem ha61 : hasT Try.prog 61 = true := by kernel_rfl
@[go_sem] theorem ic61 : isIfc Try.prog 61 = false := by kernel_rfl
@[go_sem] theorem by61 : bytesOf Try.prog 61 = some 8 := by kernel_rfl
@[go_sem] theorem ze61 : zeroOf Try.prog 61 = some .nilFunc := by kernel_rfl
@[go_sem] theorem sz62 : szOf Try.prog 62 = some 1 := by kernel_rfl
@[go_sem] theorem ag62 : aggOf Try.prog 62 = some false := by kernel_rfl
@[go_sem] theorem es62 : elemS Try.prog 62 = none := by kernel_rfl
@[go_sem] theorem ha62 : hasT Try.prog 62 = true := by kernel_rfl
@[go_sem] theorem ic62 : isIfc Try.prog 62 = false := by kernel_rfl
@[go_sem] theorem by62 : bytesOf Try.prog 62 = some 8 := by kernel_rfl
@[go_sem] theorem ze62 : zeroOf Try.prog 62 = some .nilFunc := by kernel_rfl
@[go_sem] theorem sz63 : szOf Try.prog 63 = some 1 := by kernel_rfl
@[go_sem] theorem ag63 : aggOf Try.prog 63 = some false := by kernel_rfl
@[go_sem] theorem es63 : elemS Try.prog 63 = none := by kernel_rfl
@[go_sem] theorem ha63 : hasT Try.prog 63 = true := by kernel_rfl
@[go_sem] theorem ic63 : isIfc Try.prog 63 = false := by kernel_rfl
@[go_sem] theorem by63 : bytesOf Try.prog 63 = some 8 := by kernel_rfl
@[go_sem] theorem ze63 : zeroOf Try.prog 63 = some .nilFunc := by kernel_rfl
@[go_sem] theorem sz64 : szOf Try.prog 64 = some 1 := by kernel_rfl
@[go_sem] theorem ag64 : aggOf Try.prog 64 = some false := by kernel_rfl
@[go_sem] theorem es64 : elemS Try.prog 64 = none := by kernel_rfl
@[go_sem] theorem ha64 : hasT Try.prog 64 = true := by kernel_rfl
@[go_sem] theorem ic64 : isIfc Try.prog 64 = false := by kernel_rfl
@[go_sem] theorem by64 : bytesOf Try.prog 64 = some 8 := by kernel_rfl
@[go_sem] theorem ze64 : zeroOf Try.prog 64 = some .nilFunc := by kernel_rfl
@[go_sem] theorem sz65 : szOf Try.prog 65 = some 1 := by kernel_rfl
@[go_sem] theorem ag65 : aggOf Try.prog 65 = some false := by kernel_rfl
@[go_sem] theorem es65 : elemS Try.prog 65 = none := by kernel_rfl
@[go_sem] theorem ha65 : hasT Try.prog 65 = true := by kernel_rfl
@[go_sem] theorem ic65 : isIfc Try.prog 65 = false := by kernel_rfl
@[go_sem] theorem by65 : bytesOf Try.prog 65 = some 8 := by kernel_rfl
@[go_sem] theorem ze65 : zeroOf Try.prog 65 = some .nilFunc := by kernel_rfl
@[go_sem] theorem sz66 : szOf Try.prog 66 = some 1 := by kernel_rfl
@[go_sem] theorem ag66 : aggOf Try.prog 66 = some false := by kernel_rfl
@[go_sem] theorem es66 : elemS Try.prog 66 = none := by kernel_rfl
@[go_sem] theorem ha66 : hasT Try.prog 66 = true := by kernel_rfl
@[go_sem] theorem ic66 : isIfc Try.prog 66 = false := by kernel_rfl
@[go_sem] theorem by66 : bytesOf Try.prog 66 = some 8 := by kernel_rfl
@[go_sem] theorem ze66 : zeroOf Try.prog 66 = some .nilFunc := by kernel_rfl
@[go_sem] theorem sz67 : szOf Try.prog 67 = some 1 := by kernel_rfl
@[go_sem] theorem ag67 : aggOf Try.prog 67 = some false := by kernel_rfl
@[go_sem] theorem es67 : elemS Try.prog 67 = none := by kernel_rfl
@[go_sem] theorem ha67 : hasT Try.prog 67 = true := by kernel_rfl
@[go_sem] theorem ic67 : isIfc Try.prog 67 = false := by kernel_rfl
@[go_sem] theorem by67 : bytesOf Try.prog 67 = some 8 := by kernel_rfl
@[go_sem] theorem ze67 : zeroOf Try.prog 67 = some .nilFunc := by kernel_rfl
@[go_sem] theorem sz68 : szOf Try.prog 68 = some 1 := by kernel_rfl
@[go_sem] theorem ag68 : aggOf Try.prog 68 = some false := by kernel_rfl
@[go_sem] theorem es68 : elemS Try.prog 68 = none := by kernel_rfl
@[go_sem] theorem ha68 : hasT Try.prog 68 = true := by kernel_rfl
@[go_sem] theorem ic68 : isIfc Try.prog 68 = false := by kernel_rfl
@[go_sem] theorem by68 : bytesOf Try.prog 68 = some 8 := by kernel_rfl
@[go_sem] theorem ze68 : zeroOf Try.prog 68 = some .nilFunc := by kernel_rfl
@[go_sem] theorem sz69 : szOf Try.prog 69 = some 1 := by kernel_rfl
@[go_sem] theorem ag69 : aggOf Try.prog 69 = some false := by kernel_rfl
@[go_sem] theorem es69 : elemS Try.prog 69 = none := by kernel_rfl
@[go_sem] theorem ha69 : hasT Try.prog 69 = true := by kernel_rfl
@[go_sem] theorem ic69 : isIfc Try.prog 69 = false := by kernel_rfl
@[go_sem] theorem by69 : bytesOf Try.prog 69 = some 8 := by kernel_rfl
@[go_sem] theorem ze69 : zeroOf Try.prog 69 = some .nilFunc := by kernel_rfl
@[go_sem] theorem sz70 : szOf Try.prog 70 = some 1 := by kernel_rfl
@[go_sem] theorem ag70 : aggOf Try.prog 70 = some false := by kernel_rfl
@[go_sem] theorem es70 : elemS Try.prog 70 = none := by kernel_rfl
@[go_sem] theorem ha70 : hasT Try.prog 70 = true := by kernel_rfl
@[go_sem] theorem ic70 : isIfc Try.prog 70 = false := by kernel_rfl
@[go_sem] theorem by70 : bytesOf Try.prog 70 = some 8 := by kernel_rfl
@[go_sem] theorem ip70 : isPtrT Try.prog 70 = true := by kernel_rfl
@[go_sem] theorem ze70 : zeroOf Try.prog 70 = some (.pointer none) := by kernel_rfl
@[go_sem] theorem sz71 : szOf Try.prog 71 = some 1 := by kernel_rfl
@[go_sem] theorem ag71 : aggOf Try.prog 71 = some false := by kernel_rfl
@[go_sem] theorem es71 : elemS Try.prog 71 = none := by kernel_rfl
@[go_sem] theorem ha71 : hasT Try.prog 71 = true := by kernel_rfl
@[go_sem] theorem ic71 : isIfc Try.prog 71 = false := by kernel_rfl
@[go_sem] theorem by71 : bytesOf Try.prog 71 = some 8 := by kernel_rfl
@[go_sem] theorem ze71 : zeroOf Try.prog 71 = some .nilFunc := by kernel_rfl
@[go_sem] theorem sz72 : szOf Try.prog 72 = some 1 := by kernel_rfl
@[go_sem] theorem ag72 : aggOf Try.prog 72 = some false := by kernel_rfl
@[go_sem] theorem es72 : elemS Try.prog 72 = none := by kernel_rfl
@[go_sem] theorem ha72 : hasT Try.prog 72 = true := by kernel_rfl
@[go_sem] theorem ic72 : isIfc Try.prog 72 = false := by kernel_rfl
@[go_sem] theorem by72 : bytesOf Try.prog 72 = some 8 := by kernel_rfl
@[go_sem] theorem ze72 : zeroOf Try.prog 72 = some .nilFunc := by kernel_rfl
@[go_sem] theorem sz73 : szOf Try.prog 73 = some 1 := by kernel_rfl
@[go_sem] theorem ag73 : aggOf Try.prog 73 = some false := by kernel_rfl
@[go_sem] theorem es73 : elemS Try.prog 73 = none := by kernel_rfl
@[go_sem] theorem ha73 : hasT Try.prog 73 = true := by kernel_rfl
@[go_sem] theorem ic73 : isIfc Try.prog 73 = false := by kernel_rfl
@[go_sem] theorem by73 : bytesOf Try.prog 73 = some 8 := by kernel_rfl
@[go_sem] theorem ze73 : zeroOf Try.prog 73 = some .nilFunc := by kernel_rfl
@[go_sem] theorem sz74 : szOf Try.prog 74 = some 1 := by kernel_rfl
@[go_sem] theorem ag74 : aggOf Try.prog 74 = some false := by kernel_rfl
@[go_sem] theorem es74 : elemS Try.prog 74 = none := by kernel_rfl
@[go_sem] theorem ha74 : hasT Try.prog 74 = true := by kernel_rfl
@[go_sem] theorem ic74 : isIfc Try.prog 74 = false := by kernel_rfl
@[go_sem] theorem by74 : bytesOf Try.prog 74 = some 8 := by kernel_rfl
@[go_sem] theorem ze74 : zeroOf Try.prog 74 = some .nilFunc := by kernel_rfl
@[go_sem] theorem sz75 : szOf Try.prog 75 = some 1 := by kernel_rfl
@[go_sem] theorem ag75 : aggOf Try.prog 75 = some false := by kernel_rfl
@[go_sem] theorem es75 : elemS Try.prog 75 = none := by kernel_rfl
@[go_sem] theorem ha75 : hasT Try.prog 75 = true := by kernel_rfl
@[go_sem] theorem ic75 : isIfc Try.prog 75 = false := by kernel_rfl
@[go_sem] theorem by75 : bytesOf Try.prog 75 = some 8 := by kernel_rfl
@[go_sem] theorem ze75 : zeroOf Try.prog 75 = some .nilFunc := by kernel_rfl
@[go_sem] theorem sz76 : szOf Try.prog 76 = some 1 := by kernel_rfl
@[go_sem] theorem ag76 : aggOf Try.prog 76 = some false := by kernel_rfl
@[go_sem] theorem es76 : elemS Try.prog 76 = none := by kernel_rfl
@[go_sem] theorem ha76 : hasT Try.prog 76 = true := by kernel_rfl
@[go_sem] theorem ic76 : isIfc Try.prog 76 = false := by kernel_rfl
@[go_sem] theorem io76 : intOfT Try.prog 76 = some .u64 := by kernel_rfl
@[go_sem] theorem by76 : bytesOf Try.prog 76 = some 8 := by kernel_rfl
@[go_sem] theorem ze76 : zeroOf Try.prog 76 = some (.int .u64 0) := by kernel_rfl
@[go_sem] theorem sz77 : szOf Try.prog 77 = some 1 := by kernel_rfl
@[go_sem] theorem ag77 : aggOf Try.prog 77 = some false := by kernel_rfl
@[go_sem] theorem es77 : elemS Try.prog 77 = none := by kernel_rfl
@[go_sem] theorem ha77 : hasT Try.prog 77 = true := by kernel_rfl
@[go_sem] theorem ic77 : isIfc Try.prog 77 = false := by kernel_rfl
@[go_sem] theorem by77 : bytesOf Try.prog 77 = some 8 := by kernel_rfl
@[go_sem] theorem ze77 : zeroOf Try.prog 77 = some .nilFunc := by kernel_rfl
@[go_sem] theorem sz78 : szOf Try.prog 78 = some 1 := by kernel_rfl
@[go_sem] theorem ag78 : aggOf Try.prog 78 = some false := by kernel_rfl
@[go_sem] theorem es78 : elemS Try.prog 78 = none := by kernel_rfl
@[go_sem] theorem ha78 : hasT Try.prog 78 = true := by kernel_rfl
@[go_sem] theorem ic78 : isIfc Try.prog 78 = false := by kernel_rfl
@[go_sem] theorem by78 : bytesOf Try.prog 78 = some 8 := by kernel_rfl
@[go_sem] theorem ze78 : zeroOf Try.prog 78 = some .nilFunc := by kernel_rfl
@[go_sem] theorem sz79 : szOf Try.prog 79 = some 1 := by kernel_rfl
@[go_sem] theorem ag79 : aggOf Try.prog 79 = some false := by kernel_rfl
@[go_sem] theorem es79 : elemS Try.prog 79 = none := by kernel_rfl
@[go_sem] theorem ha79 : hasT Try.prog 79 = true := by kernel_rfl
@[go_sem] theorem ic79 : isIfc Try.prog 79 = false := by kernel_rfl
@[go_sem] theorem by79 : bytesOf Try.prog 79 = some 8 := by kernel_rfl
@[go_sem] theorem ze79 : zeroOf Try.prog 79 = some .nilFunc := by kernel_rfl
@[go_sem] theorem sz80 : szOf Try.prog 80 = some 1 := by kernel_rfl
@[go_sem] theorem ag80 : aggOf Try.prog 80 = some false := by kernel_rfl
@[go_sem] theorem es80 : elemS Try.prog 80 = some 32 := by kernel_rfl
@[go_sem] theorem ha80 : hasT Try.prog 80 = true := by kernel_rfl
@[go_sem] theorem ic80 : isIfc Try.prog 80 = false := by kernel_rfl
@[go_sem] theorem by80 : bytesOf Try.prog 80 = some 24 := by kernel_rfl
@[go_sem] theorem ze80 : zeroOf Try.prog 80 = some (.slice none 0 0) := by kernel_rfl
@[go_sem] theorem sz81 : szOf Try.prog 81 = some 1 := by kernel_rfl
@[go_sem] theorem ag81 : aggOf Try.prog 81 = some false := by kernel_rfl
@[go_sem] theorem es81 : elemS Try.prog 81 = none := by kernel_rfl
@[go_sem] theorem ha81 : hasT Try.prog 81 = true := by kernel_rfl
@[go_sem] theorem ic81 : isIfc Try.prog 81 = false := by kernel_rfl
@[go_sem] theorem by81 : bytesOf Try.prog 81 = some 8 := by kernel_rfl
@[go_sem] theorem ze81 : zeroOf Try.prog 81 = some .nilFunc := by kernel_rfl
@[go_sem] theorem sz82 : szOf Try.prog 82 = some 5 := by kernel_rfl
@[go_sem] theorem ag82 : aggOf Try.prog 82 = some true := by kernel_rfl
@[go_sem] theorem fl82_0 : fldOf Try.prog 82 0 = some (0, 9) := by kernel_rfl
@[go_sem] theorem fl82_1 : fldOf Try.prog 82 1 = some (1, 34) := by kernel_rfl
@[go_sem] theorem fl82_2 : fldOf Try.prog 82 2 = some (4, 3) := by kernel_rfl
@[go_sem] theorem es82 : elemS Try.prog 82 = none := by kernel_rfl
@[go_sem] theorem ha82 : hasT Try.prog 82 = true := by kernel_rfl
@[go_sem] theorem ic82 : isIfc Try.prog 82 = false := by kernel_rfl
@[go_sem] theorem pl82 : placesOf Try.prog 82 = some [(0, 1), (1, 3), (4, 1)] := by kernel_rfl
@[go_sem] theorem by82 : bytesOf Try.prog 82 = some 72 := by kernel_rfl
@[go_sem] theorem ze82 : zeroOf Try.prog 82 = some (.agg #[(.string ByteArray.empty), (.string ByteArray.empty), (.slice none 0 0), (.int .i64 0), (.int .i64 0)]) := by kernel_rfl
@[go_sem] theorem sz83 : szOf Try.prog 83 = some 5 := by kernel_rfl
@[go_sem] theorem ag83 : aggOf Try.prog 83 = some true := by kernel_rfl
@[go_sem] theorem fl83_0 : fldOf Try.prog 83 0 = some (0, 9) := by kernel_rfl
@[go_sem] theorem fl83_1 : fldOf Try.prog 83 1 = some (1, 34) := by kernel_rfl
@[go_sem] theorem fl83_2 : fldOf Try.prog 83 2 = some (4, 3) := by kernel_rfl
@[go_sem] theorem es83 : elemS Try.prog 83 = none := by kernel_rfl
@[go_sem] theorem ha83 : hasT Try.prog 83 = true := by kernel_rfl
@[go_sem] theorem ic83 : isIfc Try.prog 83 = false := by kernel_rfl
@[go_sem] theorem pl83 : placesOf Try.prog 83 = some [(0, 1), (1, 3), (4, 1)] := by kernel_rfl
@[go_sem] theorem by83 : bytesOf Try.prog 83 = some 72 := by kernel_rfl
@[go_sem] theorem ze83 : zeroOf Try.prog 83 = some (.agg #[(.string ByteArray.empty), (.string ByteArray.empty), (.slice none 0 0), (.int .i64 0), (.int .i64 0)]) := by kernel_rfl
@[go_sem] theorem sz84 : szOf Try.prog 84 = some 5 := by kernel_rfl
@[go_sem] theorem ag84 : aggOf Try.prog 84 = some true := by kernel_rfl
@[go_sem] theorem fl84_0 : fldOf Try.prog 84 0 = some (0, 9) := by kernel_rfl
@[go_sem] theorem fl84_1 : fldOf Try.prog 84 1 = some (1, 34) := by kernel_rfl
@[go_sem] theorem fl84_2 : fldOf Try.prog 84 2 = some (4, 3) := by kernel_rfl
@[go_sem] theorem es84 : elemS Try.prog 84 = none := by kernel_rfl
@[go_sem] theorem ha84 : hasT Try.prog 84 = true := by kernel_rfl
@[go_sem] theorem ic84 : isIfc Try.prog 84 = false := by kernel_rfl
@[go_sem] theorem pl84 : placesOf Try.prog 84 = some [(0, 1), (1, 3), (4, 1)] := by kernel_rfl
@[go_sem] theorem by84 : bytesOf Try.prog 84 = some 72 := by kernel_rfl
@[go_sem] theorem ze84 : zeroOf Try.prog 84 = some (.agg #[(.string ByteArray.empty), (.string ByteArray.empty), (.slice none 0 0), (.int .i64 0), (.int .i64 0)]) := by kernel_rfl
@[go_sem] theorem sz85 : szOf Try.prog 85 = some 5 := by kernel_rfl
@[go_sem] theorem ag85 : aggOf Try.prog 85 = some true := by kernel_rfl
@[go_sem] theorem fl85_0 : fldOf Try.prog 85 0 = some (0, 9) := by kernel_rfl
@[go_sem] theorem fl85_1 : fldOf Try.prog 85 1 = some (1, 34) := by kernel_rfl
@[go_sem] theorem fl85_2 : fldOf Try.prog 85 2 = some (4, 3) := by kernel_rfl
@[go_sem] theorem es85 : elemS Try.prog 85 = none := by kernel_rfl
@[go_sem] theorem ha85 : hasT Try.prog 85 = true := by kernel_rfl
@[go_sem] theorem ic85 : isIfc Try.prog 85 = false := by kernel_rfl
@[go_sem] theorem pl85 : placesOf Try.prog 85 = some [(0, 1), (1, 3), (4, 1)] := by kernel_rfl
@[go_sem] theorem by85 : bytesOf Try.prog 85 = some 72 := by kernel_rfl
@[go_sem] theorem ze85 : zeroOf Try.prog 85 = some (.agg #[(.string ByteArray.empty), (.string ByteArray.empty), (.slice none 0 0), (.int .i64 0), (.int .i64 0)]) := by kernel_rfl
@[go_sem] theorem sz86 : szOf Try.prog 86 = some 1 := by kernel_rfl
@[go_sem] theorem ag86 : aggOf Try.prog 86 = some false := by kernel_rfl
@[go_sem] theorem es86 : elemS Try.prog 86 = none := by kernel_rfl
@[go_sem] theorem ha86 : hasT Try.prog 86 = true := by kernel_rfl
@[go_sem] theorem ic86 : isIfc Try.prog 86 = false := by kernel_rfl
@[go_sem] theorem by86 : bytesOf Try.prog 86 = some 8 := by kernel_rfl
@[go_sem] theorem ze86 : zeroOf Try.prog 86 = some .nilFunc := by kernel_rfl
@[go_sem] theorem sz87 : szOf Try.prog 87 = some 1 := by kernel_rfl
@[go_sem] theorem ag87 : aggOf Try.prog 87 = some false := by kernel_rfl
@[go_sem] theorem es87 : elemS Try.prog 87 = none := by kernel_rfl
@[go_sem] theorem ha87 : hasT Try.prog 87 = true := by kernel_rfl
@[go_sem] theorem ic87 : isIfc Try.prog 87 = false := by kernel_rfl
@[go_sem] theorem by87 : bytesOf Try.prog 87 = some 8 := by kernel_rfl
@[go_sem] theorem ze87 : zeroOf Try.prog 87 = some .nilFunc := by kernel_rfl
@[go_sem] theorem sz88 : szOf Try.prog 88 = some 1 := by kernel_rfl
@[go_sem] theorem ag88 : aggOf Try.prog 88 = some false := by kernel_rfl
@[go_sem] theorem es88 : elemS Try.prog 88 = none := by kernel_rfl
@[go_sem] theorem ha88 : hasT Try.prog 88 = true := by kernel_rfl
@[go_sem] theorem ic88 : isIfc Try.prog 88 = false := by kernel_rfl
@[go_sem] theorem by88 : bytesOf Try.prog 88 = some 8 := by kernel_rfl
@[go_sem] theorem ze88 : zeroOf Try.prog 88 = some .nilFunc := by kernel_rfl
@[go_sem] theorem sz89 : szOf Try.prog 89 = some 1 := by kernel_rfl
@[go_sem] theorem ag89 : aggOf Try.prog 89 = some false := by kernel_rfl
@[go_sem] theorem es89 : elemS Try.prog 89 = none := by kernel_rfl
@[go_sem] theorem ha89 : hasT Try.prog 89 = true := by kernel_rfl
@[go_sem] theorem ic89 : isIfc Try.prog 89 = false := by kernel_rfl
@[go_sem] theorem by89 : bytesOf Try.prog 89 = some 8 := by kernel_rfl
@[go_sem] theorem ze89 : zeroOf Try.prog 89 = some .nilFunc := by kernel_rfl
@[go_sem] theorem sz90 : szOf Try.prog 90 = some 1 := by kernel_rfl
@[go_sem] theorem ag90 : aggOf Try.prog 90 = some false := by kernel_rfl
@[go_sem] theorem es90 : elemS Try.prog 90 = none := by kernel_rfl
@[go_sem] theorem ha90 : hasT Try.prog 90 = true := by kernel_rfl
@[go_sem] theorem ic90 : isIfc Try.prog 90 = false := by kernel_rfl
@[go_sem] theorem io90 : intOfT Try.prog 90 = some .i64 := by kernel_rfl
@[go_sem] theorem by90 : bytesOf Try.prog 90 = some 8 := by kernel_rfl
@[go_sem] theorem ze90 : zeroOf Try.prog 90 = some (.int .i64 0) := by kernel_rfl
@[go_sem] theorem sz91 : szOf Try.prog 91 = some 1 := by kernel_rfl
@[go_sem] theorem ag91 : aggOf Try.prog 91 = some false := by kernel_rfl
@[go_sem] theorem es91 : elemS Try.prog 91 = none := by kernel_rfl
@[go_sem] theorem ha91 : hasT Try.prog 91 = true := by kernel_rfl
@[go_sem] theorem ic91 : isIfc Try.prog 91 = false := by kernel_rfl
@[go_sem] theorem by91 : bytesOf Try.prog 91 = some 0 := by kernel_rfl
@[go_sem] theorem sz92 : szOf Try.prog 92 = some 1 := by kernel_rfl
@[go_sem] theorem ag92 : aggOf Try.prog 92 = some false := by kernel_rfl
@[go_sem] theorem es92 : elemS Try.prog 92 = none := by kernel_rfl
@[go_sem] theorem ha92 : hasT Try.prog 92 = true := by kernel_rfl
@[go_sem] theorem ic92 : isIfc Try.prog 92 = false := by kernel_rfl
@[go_sem] theorem by92 : bytesOf Try.prog 92 = some 8 := by kernel_rfl
@[go_sem] theorem ze92 : zeroOf Try.prog 92 = some .nilFunc := by kernel_rfl
@[go_sem] theorem sz93 : szOf Try.prog 93 = some 1 := by kernel_rfl
@[go_sem] theorem ag93 : aggOf Try.prog 93 = some false := by kernel_rfl
@[go_sem] theorem es93 : elemS Try.prog 93 = none := by kernel_rfl
@[go_sem] theorem ha93 : hasT Try.prog 93 = true := by kernel_rfl
@[go_sem] theorem ic93 : isIfc Try.prog 93 = false := by kernel_rfl
@[go_sem] theorem by93 : bytesOf Try.prog 93 = some 8 := by kernel_rfl
@[go_sem] theorem ze93 : zeroOf Try.prog 93 = some .nilFunc := by kernel_rfl
@[go_sem] theorem sz94 : szOf Try.prog 94 = some 1 := by kernel_rfl
@[go_sem] theorem ag94 : aggOf Try.prog 94 = some false := by kernel_rfl
@[go_sem] theorem es94 : elemS Try.prog 94 = none := by kernel_rfl
@[go_sem] theorem ha94 : hasT Try.prog 94 = true := by kernel_rfl
@[go_sem] theorem ic94 : isIfc Try.prog 94 = false := by kernel_rfl
@[go_sem] theorem by94 : bytesOf Try.prog 94 = some 8 := by kernel_rfl
@[go_sem] theorem ze94 : zeroOf Try.prog 94 = some .nilFunc := by kernel_rfl
@[go_sem] theorem sz95 : szOf Try.prog 95 = some 1 := by kernel_rfl
@[go_sem] theorem ag95 : aggOf Try.prog 95 = some false := by kernel_rfl
@[go_sem] theorem es95 : elemS Try.prog 95 = none := by kernel_rfl
@[go_sem] theorem ha95 : hasT Try.prog 95 = true := by kernel_rfl
@[go_sem] theorem ic95 : isIfc Try.prog 95 = false := by kernel_rfl
@[go_sem] theorem by95 : bytesOf Try.prog 95 = some 0 := by kernel_rfl
@[go_sem] theorem sz96 : szOf Try.prog 96 = some 1 := by kernel_rfl
@[go_sem] theorem ag96 : aggOf Try.prog 96 = some false := by kernel_rfl
@[go_sem] theorem es96 : elemS Try.prog 96 = none := by kernel_rfl
@[go_sem] theorem ha96 : hasT Try.prog 96 = true := by kernel_rfl
@[go_sem] theorem ic96 : isIfc Try.prog 96 = false := by kernel_rfl
@[go_sem] theorem by96 : bytesOf Try.prog 96 = some 8 := by kernel_rfl
@[go_sem] theorem ze96 : zeroOf Try.prog 96 = some .nilFunc := by kernel_rfl
@[go_sem] theorem sz97 : szOf Try.prog 97 = some 1 := by kernel_rfl
@[go_sem] theorem ag97 : aggOf Try.prog 97 = some false := by kernel_rfl
@[go_sem] theorem es97 : elemS Try.prog 97 = none := by kernel_rfl
@[go_sem] theorem ha97 : hasT Try.prog 97 = true := by kernel_rfl
@[go_sem] theorem ic97 : isIfc Try.prog 97 = false := by kernel_rfl
@[go_sem] theorem by97 : bytesOf Try.prog 97 = some 8 := by kernel_rfl
@[go_sem] theorem ze97 : zeroOf Try.prog 97 = some .nilFunc := by kernel_rfl
@[go_sem] theorem sz98 : szOf Try.prog 98 = some 1 := by kernel_rfl
@[go_sem] theorem ag98 : aggOf Try.prog 98 = some false := by kernel_rfl
@[go_sem] theorem es98 : elemS Try.prog 98 = none := by kernel_rfl
@[go_sem] theorem ha98 : hasT Try.prog 98 = true := by kernel_rfl
@[go_sem] theorem ic98 : isIfc Try.prog 98 = false := by kernel_rfl
@[go_sem] theorem io98 : intOfT Try.prog 98 = some .u32 := by kernel_rfl
@[go_sem] theorem by98 : bytesOf Try.prog 98 = some 4 := by kernel_rfl
@[go_sem] theorem ze98 : zeroOf Try.prog 98 = some (.int .u32 0) := by kernel_rfl
@[go_sem] theorem sz99 : szOf Try.prog 99 = some 1 := by kernel_rfl
@[go_sem] theorem ag99 : aggOf Try.prog 99 = some false := by kernel_rfl
@[go_sem] theorem es99 : elemS Try.prog 99 = none := by kernel_rfl
@[go_sem] theorem ha99 : hasT Try.prog 99 = true := by kernel_rfl
@[go_sem] theorem ic99 : isIfc Try.prog 99 = false := by kernel_rfl
@[go_sem] theorem by99 : bytesOf Try.prog 99 = some 8 := by kernel_rfl
@[go_sem] theorem ze99 : zeroOf Try.prog 99 = some .nilFunc := by kernel_rfl
@[go_sem] theorem sz100 : szOf Try.prog 100 = some 1 := by kernel_rfl
@[go_sem] theorem ag100 : aggOf Try.prog 100 = some false := by kernel_rfl
@[go_sem] theorem es100 : elemS Try.prog 100 = some 3 := by kernel_rfl
@[go_sem] theorem ha100 : hasT Try.prog 100 = true := by kernel_rfl
@[go_sem] theorem ic100 : isIfc Try.prog 100 = false := by kernel_rfl
@[go_sem] theorem by100 : bytesOf Try.prog 100 = some 24 := by kernel_rfl
@[go_sem] theorem ze100 : zeroOf Try.prog 100 = some (.slice none 0 0) := by kernel_rfl
@[go_sem] theorem sz101 : szOf Try.prog 101 = some 1 := by kernel_rfl
@[go_sem] theorem ag101 : aggOf Try.prog 101 = some false := by kernel_rfl
@[go_sem] theorem es101 : elemS Try.prog 101 = none := by kernel_rfl
@[go_sem] theorem ha101 : hasT Try.prog 101 = true := by kernel_rfl
@[go_sem] theorem ic101 : isIfc Try.prog 101 = false := by kernel_rfl
@[go_sem] theorem by101 : bytesOf Try.prog 101 = some 8 := by kernel_rfl
@[go_sem] theorem ze101 : zeroOf Try.prog 101 = some .nilFunc := by kernel_rfl
@[go_sem] theorem sz102 : szOf Try.prog 102 = some 1 := by kernel_rfl
@[go_sem] theorem ag102 : aggOf Try.prog 102 = some false := by kernel_rfl
@[go_sem] theorem es102 : elemS Try.prog 102 = none := by kernel_rfl
@[go_sem] theorem ha102 : hasT Try.prog 102 = true := by kernel_rfl
@[go_sem] theorem ic102 : isIfc Try.prog 102 = false := by kernel_rfl
@[go_sem] theorem by102 : bytesOf Try.prog 102 = some 8 := by kernel_rfl
@[go_sem] theorem ze102 : zeroOf Try.prog 102 = some .nilFunc := by kernel_rfl
@[go_sem] theorem sz103 : szOf Try.prog 103 = some 1 := by kernel_rfl
@[go_sem] theorem ag103 : aggOf Try.prog 103 = some false := by kernel_rfl
@[go_sem] theorem es103 : elemS Try.prog 103 = none := by kernel_rfl
@[go_sem] theorem ha103 : hasT Try.prog 103 = true := by kernel_rfl
@[go_sem] theorem ic103 : isIfc Try.prog 103 = false := by kernel_rfl
@[go_sem] theorem by103 : bytesOf Try.prog 103 = some 8 := by kernel_rfl
@[go_sem] theorem ze103 : zeroOf Try.prog 103 = some .nilFunc := by kernel_rfl
@[go_sem] theorem sz104 : szOf Try.prog 104 = some 1 := by kernel_rfl
@[go_sem] theorem ag104 : aggOf Try.prog 104 = some false := by kernel_rfl
@[go_sem] theorem es104 : elemS Try.prog 104 = none := by kernel_rfl
@[go_sem] theorem ha104 : hasT Try.prog 104 = true := by kernel_rfl
@[go_sem] theorem ic104 : isIfc Try.prog 104 = false := by kernel_rfl
@[go_sem] theorem by104 : bytesOf Try.prog 104 = some 8 := by kernel_rfl
@[go_sem] theorem ze104 : zeroOf Try.prog 104 = some .nilFunc := by kernel_rfl
@[go_sem] theorem sz105 : szOf Try.prog 105 = some 1 := by kernel_rfl
@[go_sem] theorem ag105 : aggOf Try.prog 105 = some false := by kernel_rfl
@[go_sem] theorem es105 : elemS Try.prog 105 = none := by kernel_rfl
@[go_sem] theorem ha105 : hasT Try.prog 105 = true := by kernel_rfl
@[go_sem] theorem ic105 : isIfc Try.prog 105 = false := by kernel_rfl
@[go_sem] theorem io105 : intOfT Try.prog 105 = some .u64 := by kernel_rfl
@[go_sem] theorem by105 : bytesOf Try.prog 105 = some 8 := by kernel_rfl
@[go_sem] theorem ze105 : zeroOf Try.prog 105 = some (.int .u64 0) := by kernel_rfl
@[go_sem] theorem sz106 : szOf Try.prog 106 = some 1 := by kernel_rfl
@[go_sem] theorem ag106 : aggOf Try.prog 106 = some false := by kernel_rfl
@[go_sem] theorem es106 : elemS Try.prog 106 = none := by kernel_rfl
@[go_sem] theorem ha106 : hasT Try.prog 106 = true := by kernel_rfl
@[go_sem] theorem ic106 : isIfc Try.prog 106 = false := by kernel_rfl
@[go_sem] theorem by106 : bytesOf Try.prog 106 = some 8 := by kernel_rfl
@[go_sem] theorem ze106 : zeroOf Try.prog 106 = some .nilFunc := by kernel_rfl
@[go_sem] theorem sz107 : szOf Try.prog 107 = some 1 := by kernel_rfl
@[go_sem] theorem ag107 : aggOf Try.prog 107 = some false := by kernel_rfl
@[go_sem] theorem es107 : elemS Try.prog 107 = none := by kernel_rfl
@[go_sem] theorem ha107 : hasT Try.prog 107 = true := by kernel_rfl
@[go_sem] theorem ic107 : isIfc Try.prog 107 = false := by kernel_rfl
@[go_sem] theorem by107 : bytesOf Try.prog 107 = some 8 := by kernel_rfl
@[go_sem] theorem ze107 : zeroOf Try.prog 107 = some .nilFunc := by kernel_rfl
@[go_sem] theorem sz108 : szOf Try.prog 108 = some 1 := by kernel_rfl
@[go_sem] theorem ag108 : aggOf Try.prog 108 = some false := by kernel_rfl
@[go_sem] theorem es108 : elemS Try.prog 108 = none := by kernel_rfl
@[go_sem] theorem ha108 : hasT Try.prog 108 = true := by kernel_rfl
@[go_sem] theorem ic108 : isIfc Try.prog 108 = false := by kernel_rfl
@[go_sem] theorem by108 : bytesOf Try.prog 108 = some 8 := by kernel_rfl
@[go_sem] theorem ze108 : zeroOf Try.prog 108 = some .nilFunc := by kernel_rfl
@[go_sem] theorem sz109 : szOf Try.prog 109 = some 1 := by kernel_rfl
@[go_sem] theorem ag109 : aggOf Try.prog 109 = some false := by kernel_rfl
@[go_sem] theorem es109 : elemS Try.prog 109 = none := by kernel_rfl
@[go_sem] theorem ha109 : hasT Try.prog 109 = true := by kernel_rfl
@[go_sem] theorem ic109 : isIfc Try.prog 109 = false := by kernel_rfl
@[go_sem] theorem by109 : bytesOf Try.prog 109 = some 8 := by kernel_rfl
@[go_sem] theorem ip109 : isPtrT Try.prog 109 = true := by kernel_rfl
@[go_sem] theorem ze109 : zeroOf Try.prog 109 = some (.pointer none) := by kernel_rfl
@[go_sem] theorem sz110 : szOf Try.prog 110 = some 1 := by kernel_rfl
@[go_sem] theorem ag110 : aggOf Try.prog 110 = some false := by kernel_rfl
@[go_sem] theorem es110 : elemS Try.prog 110 = none := by kernel_rfl
@[go_sem] theorem ha110 : hasT Try.prog 110 = true := by kernel_rfl
@[go_sem] theorem ic110 : isIfc Try.prog 110 = false := by kernel_rfl
@[go_sem] theorem by110 : bytesOf Try.prog 110 = some 8 := by kernel_rfl
@[go_sem] theorem ze110 : zeroOf Try.prog 110 = some .nilFunc := by kernel_rfl
@[go_sem] theorem sz111 : szOf Try.prog 111 = some 1 := by kernel_rfl
@[go_sem] theorem ag111 : aggOf Try.prog 111 = some false := by kernel_rfl
@[go_sem] theorem es111 : elemS Try.prog 111 = none := by kernel_rfl
@[go_sem] theorem ha111 : hasT Try.prog 111 = true := by kernel_rfl
@[go_sem] theorem ic111 : isIfc Try.prog 111 = false := by kernel_rfl
@[go_sem] theorem by111 : bytesOf Try.prog 111 = some 8 := by kernel_rfl
@[go_sem] theorem ze111 : zeroOf Try.prog 111 = some .nilFunc := by kernel_rfl
@[go_sem] theorem sz112 : szOf Try.prog 112 = some 1 := by kernel_rfl
@[go_sem] theorem ag112 : aggOf Try.prog 112 = some false := by kernel_rfl
@[go_sem] theorem es112 : elemS Try.prog 112 = none := by kernel_rfl
@[go_sem] theorem ha112 : hasT Try.prog 112 = true := by kernel_rfl
@[go_sem] theorem ic112 : isIfc Try.prog 112 = false := by kernel_rfl
@[go_sem] theorem by112 : bytesOf Try.prog 112 = some 8 := by kernel_rfl
@[go_sem] theorem ze112 : zeroOf Try.prog 112 = some .nilFunc := by kernel_rfl
@[go_sem] theorem sz113 : szOf Try.prog 113 = some 1 := by kernel_rfl
@[go_sem] theorem ag113 : aggOf Try.prog 113 = some false := by kernel_rfl
@[go_sem] theorem es113 : elemS Try.prog 113 = none := by kernel_rfl
@[go_sem] theorem ha113 : hasT Try.prog 113 = true := by kernel_rfl
@[go_sem] theorem ic113 : isIfc Try.prog 113 = false := by kernel_rfl
@[go_sem] theorem by113 : bytesOf Try.prog 113 = some 8 := by kernel_rfl
@[go_sem] theorem ip113 : isPtrT Try.prog 113 = true := by kernel_rfl
@[go_sem] theorem ze113 : zeroOf Try.prog 113 = some (.pointer none) := by kernel_rfl
@[go_sem] theorem sz114 : szOf Try.prog 114 = some 1 := by kernel_rfl
@[go_sem] theorem ag114 : aggOf Try.prog 114 = some false := by kernel_rfl
@[go_sem] theorem es114 : elemS Try.prog 114 = none := by kernel_rfl
@[go_sem] theorem ha114 : hasT Try.prog 114 = true := by kernel_rfl
@[go_sem] theorem ic114 : isIfc Try.prog 114 = false := by kernel_rfl
@[go_sem] theorem by114 : bytesOf Try.prog 114 = some 0 := by kernel_rfl
@[go_sem] theorem sz115 : szOf Try.prog 115 = some 1 := by kernel_rfl
@[go_sem] theorem ag115 : aggOf Try.prog 115 = some false := by kernel_rfl
@[go_sem] theorem es115 : elemS Try.prog 115 = none := by kernel_rfl
@[go_sem] theorem ha115 : hasT Try.prog 115 = true := by kernel_rfl
@[go_sem] theorem ic115 : isIfc Try.prog 115 = false := by kernel_rfl
@[go_sem] theorem by115 : bytesOf Try.prog 115 = some 8 := by kernel_rfl
@[go_sem] theorem ze115 : zeroOf Try.prog 115 = some .nilFunc := by kernel_rfl
@[go_sem] theorem sz116 : szOf Try.prog 116 = some 1 := by kernel_rfl
@[go_sem] theorem ag116 : aggOf Try.prog 116 = some false := by kernel_rfl
@[go_sem] theorem es116 : elemS Try.prog 116 = none := by kernel_rfl
@[go_sem] theorem ha116 : hasT Try.prog 116 = true := by kernel_rfl
@[go_sem] theorem ic116 : isIfc Try.prog 116 = false := by kernel_rfl
@[go_sem] theorem by116 : bytesOf Try.prog 116 = some 8 := by kernel_rfl
@[go_sem] theorem ze116 : zeroOf Try.prog 116 = some .nilFunc := by kernel_rfl
@[go_sem] theorem sz117 : szOf Try.prog 117 = some 4 := by kernel_rfl
@[go_sem] theorem ag117 : aggOf Try.prog 117 = some true := by kernel_rfl
@[go_sem] theorem fl117_0 : fldOf Try.prog 117 0 = some (0, 17) := by kernel_rfl
@[go_sem] theorem fl117_1 : fldOf Try.prog 117 1 = some (1, 17) := by kernel_rfl
@[go_sem] theorem fl117_2 : fldOf Try.prog 117 2 = some (2, 17) := by kernel_rfl
@[go_sem] theorem fl117_3 : fldOf Try.prog 117 3 = some (3, 9) := by kernel_rfl
@[go_sem] theorem es117 : elemS Try.prog 117 = none := by kernel_rfl
@[go_sem] theorem ha117 : hasT Try.prog 117 = true := by kernel_rfl
@[go_sem] theorem ic117 : isIfc Try.prog 117 = false := by kernel_rfl
@[go_sem] theorem pl117 : placesOf Try.prog 117 = some [(0, 1), (1, 1), (2, 1), (3, 1)] := by kernel_rfl
@[go_sem] theorem by117 : bytesOf Try.prog 117 = some 40 := by kernel_rfl
@[go_sem] theorem ze117 : zeroOf Try.prog 117 = some (.agg #[(.pointer none), (.pointer none), (.pointer none), (.string ByteArray.empty)]) := by kernel_rfl
@[go_sem] theorem sz118 : szOf Try.prog 118 = some 4 := by kernel_rfl
@[go_sem] theorem ag118 : aggOf Try.prog 118 = some true := by kernel_rfl
@[go_sem] theorem fl118_0 : fldOf Try.prog 118 0 = some (0, 17) := by kernel_rfl
@[go_sem] theorem fl118_1 : fldOf Try.prog 118 1 = some (1, 17) := by kernel_rfl
@[go_sem] theorem fl118_2 : fldOf Try.prog 118 2 = some (2, 17) := by kernel_rfl
@[go_sem] theorem fl118_3 : fldOf Try.prog 118 3 = some (3, 9) := by kernel_rfl
@[go_sem] theorem es118 : elemS Try.prog 118 = none := by kernel_rfl
@[go_sem] theorem ha118 : hasT Try.prog 118 = true := by kernel_rfl
@[go_sem] theorem ic118 : isIfc Try.prog 118 = false := by kernel_rfl
@[go_sem] theorem pl118 : placesOf Try.prog 118 = some [(0, 1), (1, 1), (2, 1), (3, 1)] := by kernel_rfl
@[go_sem] theorem by118 : bytesOf Try.prog 118 = some 40 := by kernel_rfl
@[go_sem] theorem ze118 : zeroOf Try.prog 118 = some (.agg #[(.pointer none), (.pointer none), (.pointer none), (.string ByteArray.empty)]) := by kernel_rfl
@[go_sem] theorem sz119 : szOf Try.prog 119 = some 0 := by kernel_rfl
@[go_sem] theorem ag119 : aggOf Try.prog 119 = some true := by kernel_rfl
@[go_sem] theorem es119 : elemS Try.prog 119 = none := by kernel_rfl
@[go_sem] theorem ea119 : elemA Try.prog 119 = some (0, 16) := by kernel_rfl
@[go_sem] theorem ha119 : hasT Try.prog 119 = true := by kernel_rfl
@[go_sem] theorem ic119 : isIfc Try.prog 119 = false := by kernel_rfl
@[go_sem] theorem by119 : bytesOf Try.prog 119 = some 0 := by kernel_rfl
@[go_sem] theorem sz120 : szOf Try.prog 120 = some 0 := by kernel_rfl
@[go_sem] theorem ag120 : aggOf Try.prog 120 = some true := by kernel_rfl
@[go_sem] theorem fl120_0 : fldOf Try.prog 120 0 = some (0, 119) := by kernel_rfl
@[go_sem] theorem es120 : elemS Try.prog 120 = none := by kernel_rfl
@[go_sem] theorem ha120 : hasT Try.prog 120 = true := by kernel_rfl
@[go_sem] theorem ic120 : isIfc Try.prog 120 = false := by kernel_rfl
@[go_sem] theorem pl120 : placesOf Try.prog 120 = some [(0, 0)] := by kernel_rfl
@[go_sem] theorem by120 : bytesOf Try.prog 120 = some 0 := by kernel_rfl
@[go_sem] theorem sz121 : szOf Try.prog 121 = some 0 := by kernel_rfl
@[go_sem] theorem ag121 : aggOf Try.prog 121 = some true := by kernel_rfl
@[go_sem] theorem fl121_0 : fldOf Try.prog 121 0 = some (0, 119) := by kernel_rfl
@[go_sem] theorem es121 : elemS Try.prog 121 = none := by kernel_rfl
@[go_sem] theorem ha121 : hasT Try.prog 121 = true := by kernel_rfl
@[go_sem] theorem ic121 : isIfc Try.prog 121 = false := by kernel_rfl
@[go_sem] theorem pl121 : placesOf Try.prog 121 = some [(0, 0)] := by kernel_rfl
@[go_sem] theorem by121 : bytesOf Try.prog 121 = some 0 := by kernel_rfl
@[go_sem] theorem sz122 : szOf Try.prog 122 = some 1 := by kernel_rfl
@[go_sem] theorem ag122 : aggOf Try.prog 122 = some false := by kernel_rfl
@[go_sem] theorem es122 : elemS Try.prog 122 = none := by kernel_rfl
@[go_sem] theorem ha122 : hasT Try.prog 122 = true := by kernel_rfl
@[go_sem] theorem ic122 : isIfc Try.prog 122 = false := by kernel_rfl
@[go_sem] theorem by122 : bytesOf Try.prog 122 = some 8 := by kernel_rfl
@[go_sem] theorem ze122 : zeroOf Try.prog 122 = some .nilFunc := by kernel_rfl
@[go_sem] theorem sz123 : szOf Try.prog 123 = some 1 := by kernel_rfl
@[go_sem] theorem ag123 : aggOf Try.prog 123 = some false := by kernel_rfl
@[go_sem] theorem es123 : elemS Try.prog 123 = none := by kernel_rfl
@[go_sem] theorem ha123 : hasT Try.prog 123 = true := by kernel_rfl
@[go_sem] theorem ic123 : isIfc Try.prog 123 = false := by kernel_rfl
@[go_sem] theorem io123 : intOfT Try.prog 123 = some .u8 := by kernel_rfl
@[go_sem] theorem by123 : bytesOf Try.prog 123 = some 1 := by kernel_rfl
@[go_sem] theorem ze123 : zeroOf Try.prog 123 = some (.int .u8 0) := by kernel_rfl
@[go_sem] theorem sz124 : szOf Try.prog 124 = some 1 := by kernel_rfl
@[go_sem] theorem ag124 : aggOf Try.prog 124 = some false := by kernel_rfl
@[go_sem] theorem es124 : elemS Try.prog 124 = none := by kernel_rfl
@[go_sem] theorem ha124 : hasT Try.prog 124 = true := by kernel_rfl
@[go_sem] theorem ic124 : isIfc Try.prog 124 = false := by kernel_rfl
@[go_sem] theorem io124 : intOfT Try.prog 124 = some .u8 := by kernel_rfl
@[go_sem] theorem by124 : bytesOf Try.prog 124 = some 1 := by kernel_rfl
@[go_sem] theorem ze124 : zeroOf Try.prog 124 = some (.int .u8 0) := by kernel_rfl
@[go_sem] theorem sz125 : szOf Try.prog 125 = some 1 := by kernel_rfl
@[go_sem] theorem ag125 : aggOf Try.prog 125 = some false := by kernel_rfl
@[go_sem] theorem es125 : elemS Try.prog 125 = none := by kernel_rfl
@[go_sem] theorem ha125 : hasT Try.prog 125 = true := by kernel_rfl
@[go_sem] theorem ic125 : isIfc Try.prog 125 = false := by kernel_rfl
@[go_sem] theorem by125 : bytesOf Try.prog 125 = some 8 := by kernel_rfl
@[go_sem] theorem ze125 : zeroOf Try.prog 125 = some .nilFunc := by kernel_rfl
@[go_sem] theorem sz126 : szOf Try.prog 126 = some 1 := by kernel_rfl
@[go_sem] theorem ag126 : aggOf Try.prog 126 = some false := by kernel_rfl
@[go_sem] theorem es126 : elemS Try.prog 126 = none := by kernel_rfl
@[go_sem] theorem ha126 : hasT Try.prog 126 = true := by kernel_rfl
@[go_sem] theorem ic126 : isIfc Try.prog 126 = false := by kernel_rfl
@[go_sem] theorem by126 : bytesOf Try.prog 126 = some 8 := by kernel_rfl
@[go_sem] theorem ip126 : isPtrT Try.prog 126 = true := by kernel_rfl
@[go_sem] theorem ze126 : zeroOf Try.prog 126 = some (.pointer none) := by kernel_rfl
@[go_sem] theorem sz127 : szOf Try.prog 127 = some 1 := by kernel_rfl
@[go_sem] theorem ag127 : aggOf Try.prog 127 = some false := by kernel_rfl
@[go_sem] theorem es127 : elemS Try.prog 127 = none := by kernel_rfl
@[go_sem] theorem ha127 : hasT Try.prog 127 = true := by kernel_rfl
@[go_sem] theorem ic127 : isIfc Try.prog 127 = false := by kernel_rfl
@[go_sem] theorem io127 : intOfT Try.prog 127 = some .i32 := by kernel_rfl
@[go_sem] theorem by127 : bytesOf Try.prog 127 = some 4 := by kernel_rfl
@[go_sem] theorem ze127 : zeroOf Try.prog 127 = some (.int .i32 0) := by kernel_rfl
@[go_sem] theorem sz128 : szOf Try.prog 128 = some 1 := by kernel_rfl
@[go_sem] theorem ag128 : aggOf Try.prog 128 = some false := by kernel_rfl
@[go_sem] theorem es128 : elemS Try.prog 128 = none := by kernel_rfl
@[go_sem] theorem ha128 : hasT Try.prog 128 = true := by kernel_rfl
@[go_sem] theorem ic128 : isIfc Try.prog 128 = false := by kernel_rfl
@[go_sem] theorem io128 : intOfT Try.prog 128 = some .i32 := by kernel_rfl
@[go_sem] theorem by128 : bytesOf Try.prog 128 = some 4 := by kernel_rfl
@[go_sem] theorem ze128 : zeroOf Try.prog 128 = some (.int .i32 0) := by kernel_rfl
@[go_sem] theorem sz129 : szOf Try.prog 129 = some 11 := by kernel_rfl
@[go_sem] theorem ag129 : aggOf Try.prog 129 = some true := by kernel_rfl
@[go_sem] theorem fl129_0 : fldOf Try.prog 129 0 = some (0, 12) := by kernel_rfl
@[go_sem] theorem fl129_1 : fldOf Try.prog 129 1 = some (1, 12) := by kernel_rfl
@[go_sem] theorem fl129_2 : fldOf Try.prog 129 2 = some (2, 98) := by kernel_rfl
@[go_sem] theorem fl129_3 : fldOf Try.prog 129 3 = some (3, 123) := by kernel_rfl
@[go_sem] theorem fl129_4 : fldOf Try.prog 129 4 = some (4, 5) := by kernel_rfl
@[go_sem] theorem fl129_5 : fldOf Try.prog 129 5 = some (5, 5) := by kernel_rfl
@[go_sem] theorem fl129_6 : fldOf Try.prog 129 6 = some (6, 124) := by kernel_rfl
@[go_sem] theorem fl129_7 : fldOf Try.prog 129 7 = some (7, 125) := by kernel_rfl
@[go_sem] theorem fl129_8 : fldOf Try.prog 129 8 = some (8, 126) := by kernel_rfl
@[go_sem] theorem fl129_9 : fldOf Try.prog 129 9 = some (9, 127) := by kernel_rfl
@[go_sem] theorem fl129_10 : fldOf Try.prog 129 10 = some (10, 128) := by kernel_rfl
@[go_sem] theorem es129 : elemS Try.prog 129 = none := by kernel_rfl
@[go_sem] theorem ha129 : hasT Try.prog 129 = true := by kernel_rfl
@[go_sem] theorem ic129 : isIfc Try.prog 129 = false := by kernel_rfl
@[go_sem] theorem pl129 : placesOf Try.prog 129 = some [(0, 1), (1, 1), (2, 1), (3, 1), (4, 1), (5, 1), (6, 1), (7, 1), (8, 1), (9, 1), (10, 1)] := by kernel_rfl
@[go_sem] theorem by129 : bytesOf Try.prog 129 = some 48 := by kernel_rfl
@[go_sem] theorem ze129 : zeroOf Try.prog 129 = some (.agg #[(.int .u64 0), (.int .u64 0), (.int .u32 0), (.int .u8 0), (.int .u8 0), (.int .u8 0), (.int .u8 0), .nilFunc, (.pointer none), (.int .i32 0), (.int .i32 0)]) := by kernel_rfl
@[go_sem] theorem sz130 : szOf Try.prog 130 = some 11 := by kernel_rfl
@[go_sem] theorem ag130 : aggOf Try.prog 130 = some true := by kernel_rfl
@[go_sem] theorem fl130_0 : fldOf Try.prog 130 0 = some (0, 12) := by kernel_rfl
@[go_sem] theorem fl130_1 : fldOf Try.prog 130 1 = some (1, 12) := by kernel_rfl
@[go_sem] theorem fl130_2 : fldOf Try.prog 130 2 = some (2, 98) := by kernel_rfl
@[go_sem] theorem fl130_3 : fldOf Try.prog 130 3 = some (3, 123) := by kernel_rfl
@[go_sem] theorem fl130_4 : fldOf Try.prog 130 4 = some (4, 5) := by kernel_rfl
@[go_sem] theorem fl130_5 : fldOf Try.prog 130 5 = some (5, 5) := by kernel_rfl
@[go_sem] theorem fl130_6 : fldOf Try.prog 130 6 = some (6, 124) := by kernel_rfl
@[go_sem] theorem fl130_7 : fldOf Try.prog 130 7 = some (7, 125) := by kernel_rfl
@[go_sem] theorem fl130_8 : fldOf Try.prog 130 8 = some (8, 126) := by kernel_rfl
@[go_sem] theorem fl130_9 : fldOf Try.prog 130 9 = some (9, 127) := by kernel_rfl
@[go_sem] theorem fl130_10 : fldOf Try.prog 130 10 = some (10, 128) := by kernel_rfl
@[go_sem] theorem es130 : elemS Try.prog 130 = none := by kernel_rfl
@[go_sem] theorem ha130 : hasT Try.prog 130 = true := by kernel_rfl
@[go_sem] theorem ic130 : isIfc Try.prog 130 = false := by kernel_rfl
@[go_sem] theorem pl130 : placesOf Try.prog 130 = some [(0, 1), (1, 1), (2, 1), (3, 1), (4, 1), (5, 1), (6, 1), (7, 1), (8, 1), (9, 1), (10, 1)] := by kernel_rfl
@[go_sem] theorem by130 : bytesOf Try.prog 130 = some 48 := by kernel_rfl
@[go_sem] theorem ze130 : zeroOf Try.prog 130 = some (.agg #[(.int .u64 0), (.int .u64 0), (.int .u32 0), (.int .u8 0), (.int .u8 0), (.int .u8 0), (.int .u8 0), .nilFunc, (.pointer none), (.int .i32 0), (.int .i32 0)]) := by kernel_rfl
@[go_sem] theorem sz131 : szOf Try.prog 131 = some 1 := by kernel_rfl
@[go_sem] theorem ag131 : aggOf Try.prog 131 = some false := by kernel_rfl
@[go_sem] theorem es131 : elemS Try.prog 131 = none := by kernel_rfl
@[go_sem] theorem ha131 : hasT Try.prog 131 = true := by kernel_rfl
@[go_sem] theorem ic131 : isIfc Try.prog 131 = false := by kernel_rfl
@[go_sem] theorem by131 : bytesOf Try.prog 131 = some 8 := by kernel_rfl
@[go_sem] theorem ze131 : zeroOf Try.prog 131 = some (.pointer none) := by kernel_rfl
end Go.Proofs.T
