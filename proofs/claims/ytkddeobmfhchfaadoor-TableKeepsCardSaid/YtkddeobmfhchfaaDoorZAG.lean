/- A part of the proof, under no conditions of its own: ZAG. -/
import Derived.Test.YtkddeobmfhchfaaDoorZAF
import Derived.Lib.ItoaNum
import Derived.Test.YtkddeobmfhchfaaDoorProg
namespace Go.Proofs.T
open Go Go.Ab Go.RowKit

noncomputable def E : Ctx := { P := Tryd.prog, A := fun w => Lib.TabIs Tryd.prog w "internal/strconv.uint64pow10" .u64 Lib.pow10Tab, glob := fun _ => .any, hglob := fun _ _ _ _ _ _ => .any _, mixed := by kernel_rfl }
@[go_sem] theorem E_P : E.P = Tryd.prog := rfl
@[go_sem] theorem sz0 : szOf Tryd.prog 0 = some 1 := by kernel_rfl
@[go_sem] theorem ag0 : aggOf Tryd.prog 0 = some false := by kernel_rfl
@[go_sem] theorem es0 : elemS Tryd.prog 0 = none := by kernel_rfl
@[go_sem] theorem ha0 : hasT Tryd.prog 0 = true := by kernel_rfl
@[go_sem] theorem ic0 : isIfc Tryd.prog 0 = false := by kernel_rfl
@[go_sem] theorem by0 : bytesOf Tryd.prog 0 = some 0 := by kernel_rfl
@[go_sem] theorem ha1 : hasT Tryd.prog 1 = true := by kernel_rfl
@[go_sem] theorem sz2 : szOf Tryd.prog 2 = some 1 := by kernel_rfl
@[go_sem] theorem ag2 : aggOf Tryd.prog 2 = some false := by kernel_rfl
@[go_sem] theorem es2 : elemS Tryd.prog 2 = none := by kernel_rfl
@[go_sem] theorem ha2 : hasT Tryd.prog 2 = true := by kernel_rfl
@[go_sem] theorem ic2 : isIfc Tryd.prog 2 = false := by kernel_rfl
@[go_sem] theorem io2 : intOfT Tryd.prog 2 = some .i64 := by kernel_rfl
@[go_sem] theorem by2 : bytesOf Tryd.prog 2 = some 8 := by kernel_rfl
@[go_sem] theorem ze2 : zeroOf Tryd.prog 2 = some (.int .i64 0) := by kernel_rfl
@[go_sem] theorem sz3 : szOf Tryd.prog 3 = some 1 := by kernel_rfl
@[go_sem] theorem ag3 : aggOf Tryd.prog 3 = some false := by kernel_rfl
@[go_sem] theorem es3 : elemS Tryd.prog 3 = none := by kernel_rfl
@[go_sem] theorem ha3 : hasT Tryd.prog 3 = true := by kernel_rfl
@[go_sem] theorem ic3 : isIfc Tryd.prog 3 = false := by kernel_rfl
@[go_sem] theorem io3 : intOfT Tryd.prog 3 = some .i64 := by kernel_rfl
@[go_sem] theorem by3 : bytesOf Tryd.prog 3 = some 8 := by kernel_rfl
@[go_sem] theorem ze3 : zeroOf Tryd.prog 3 = some (.int .i64 0) := by kernel_rfl
@[go_sem] theorem sz4 : szOf Tryd.prog 4 = some 1 := by kernel_rfl
@[go_sem] theorem ag4 : aggOf Tryd.prog 4 = some false := by kernel_rfl
@[go_sem] theorem es4 : elemS Tryd.prog 4 = none := by kernel_rfl
@[go_sem] theorem ha4 : hasT Tryd.prog 4 = true := by kernel_rfl
@[go_sem] theorem ic4 : isIfc Tryd.prog 4 = false := by kernel_rfl
@[go_sem] theorem by4 : bytesOf Tryd.prog 4 = some 1 := by kernel_rfl
@[go_sem] theorem ib4 : isBoolT Tryd.prog 4 = true := by kernel_rfl
@[go_sem] theorem ze4 : zeroOf Tryd.prog 4 = some (.bool false) := by kernel_rfl
@[go_sem] theorem sz5 : szOf Tryd.prog 5 = some 1 := by kernel_rfl
@[go_sem] theorem ag5 : aggOf Tryd.prog 5 = some false := by kernel_rfl
@[go_sem] theorem es5 : elemS Tryd.prog 5 = none := by kernel_rfl
@[go_sem] theorem ha5 : hasT Tryd.prog 5 = true := by kernel_rfl
@[go_sem] theorem ic5 : isIfc Tryd.prog 5 = false := by kernel_rfl
@[go_sem] theorem io5 : intOfT Tryd.prog 5 = some .u8 := by kernel_rfl
@[go_sem] theorem by5 : bytesOf Tryd.prog 5 = some 1 := by kernel_rfl
@[go_sem] theorem ze5 : zeroOf Tryd.prog 5 = some (.int .u8 0) := by kernel_rfl
@[go_sem] theorem sz9 : szOf Tryd.prog 9 = some 1 := by kernel_rfl
@[go_sem] theorem ag9 : aggOf Tryd.prog 9 = some false := by kernel_rfl
@[go_sem] theorem es9 : elemS Tryd.prog 9 = none := by kernel_rfl
@[go_sem] theorem ha9 : hasT Tryd.prog 9 = true := by kernel_rfl
@[go_sem] theorem st9 : isStr Tryd.prog 9 = true := by kernel_rfl
@[go_sem] theorem ic9 : isIfc Tryd.prog 9 = false := by kernel_rfl
@[go_sem] theorem by9 : bytesOf Tryd.prog 9 = some 16 := by kernel_rfl
@[go_sem] theorem ze9 : zeroOf Tryd.prog 9 = some (.string ByteArray.empty) := by kernel_rfl
@[go_sem] theorem sz20 : szOf Tryd.prog 20 = some 1 := by kernel_rfl
@[go_sem] theorem ag20 : aggOf Tryd.prog 20 = some false := by kernel_rfl
@[go_sem] theorem es20 : elemS Tryd.prog 20 = none := by kernel_rfl
@[go_sem] theorem ha20 : hasT Tryd.prog 20 = true := by kernel_rfl
@[go_sem] theorem ic20 : isIfc Tryd.prog 20 = true := by kernel_rfl
@[go_sem] theorem by20 : bytesOf Tryd.prog 20 = some 16 := by kernel_rfl
@[go_sem] theorem ze20 : zeroOf Tryd.prog 20 = some .nilIface := by kernel_rfl
@[go_sem] theorem sz22 : szOf Tryd.prog 22 = some 1 := by kernel_rfl
@[go_sem] theorem ag22 : aggOf Tryd.prog 22 = some false := by kernel_rfl
@[go_sem] theorem es22 : elemS Tryd.prog 22 = some 52 := by kernel_rfl
@[go_sem] theorem ha22 : hasT Tryd.prog 22 = true := by kernel_rfl
@[go_sem] theorem ic22 : isIfc Tryd.prog 22 = false := by kernel_rfl
@[go_sem] theorem by22 : bytesOf Tryd.prog 22 = some 24 := by kernel_rfl
@[go_sem] theorem ze22 : zeroOf Tryd.prog 22 = some (.slice none 0 0) := by kernel_rfl
@[go_sem] theorem sz23 : szOf Tryd.prog 23 = some 1 := by kernel_rfl
@[go_sem] theorem ag23 : aggOf Tryd.prog 23 = some false := by kernel_rfl
@[go_sem] theorem es23 : elemS Tryd.prog 23 = some 25 := by kernel_rfl
@[go_sem] theorem ha23 : hasT Tryd.prog 23 = true := by kernel_rfl
@[go_sem] theorem ic23 : isIfc Tryd.prog 23 = false := by kernel_rfl
@[go_sem] theorem by23 : bytesOf Tryd.prog 23 = some 24 := by kernel_rfl
@[go_sem] theorem ze23 : zeroOf Tryd.prog 23 = some (.slice none 0 0) := by kernel_rfl
@[go_sem] theorem sz25 : szOf Tryd.prog 25 = some 3 := by kernel_rfl
@[go_sem] theorem ag25 : aggOf Tryd.prog 25 = some true := by kernel_rfl
@[go_sem] theorem fl25_0 : fldOf Tryd.prog 25 0 = some (0, 9) := by kernel_rfl
@[go_sem] theorem fl25_1 : fldOf Tryd.prog 25 1 = some (1, 23) := by kernel_rfl
@[go_sem] theorem fl25_2 : fldOf Tryd.prog 25 2 = some (2, 3) := by kernel_rfl
@[go_sem] theorem es25 : elemS Tryd.prog 25 = none := by kernel_rfl
@[go_sem] theorem ha25 : hasT Tryd.prog 25 = true := by kernel_rfl
@[go_sem] theorem ic25 : isIfc Tryd.prog 25 = false := by kernel_rfl
@[go_sem] theorem pl25 : placesOf Tryd.prog 25 = some [(0, 1), (1, 1), (2, 1)] := by kernel_rfl
@[go_sem] theorem by25 : bytesOf Tryd.prog 25 = some 48 := by kernel_rfl
@[go_sem] theorem ze25 : zeroOf Tryd.prog 25 = some (.agg #[(.string ByteArray.empty), (.slice none 0 0), (.int .i64 0)]) := by kernel_rfl
@[go_sem] theorem sz26 : szOf Tryd.prog 26 = some 1 := by kernel_rfl
@[go_sem] theorem ag26 : aggOf Tryd.prog 26 = some false := by kernel_rfl
@[go_sem] theorem es26 : elemS Tryd.prog 26 = some 28 := by kernel_rfl
@[go_sem] theorem ha26 : hasT Tryd.prog 26 = true := by kernel_rfl
@[go_sem] theorem ic26 : isIfc Tryd.prog 26 = false := by kernel_rfl
@[go_sem] theorem by26 : bytesOf Tryd.prog 26 = some 24 := by kernel_rfl
@[go_sem] theorem ze26 : zeroOf Tryd.prog 26 = some (.slice none 0 0) := by kernel_rfl
@[go_sem] theorem sz28 : szOf Tryd.prog 28 = some 8 := by kernel_rfl
@[go_sem] theorem ag28 : aggOf Tryd.prog 28 = some true := by kernel_rfl
@[go_sem] theorem fl28_0 : fldOf Tryd.prog 28 0 = some (0, 3) := by kernel_rfl
@[go_sem] theorem fl28_1 : fldOf Tryd.prog 28 1 = some (1, 9) := by kernel_rfl
@[go_sem] theorem fl28_2 : fldOf Tryd.prog 28 2 = some (2, 25) := by kernel_rfl
@[go_sem] theorem fl28_3 : fldOf Tryd.prog 28 3 = some (5, 23) := by kernel_rfl
@[go_sem] theorem fl28_4 : fldOf Tryd.prog 28 4 = some (6, 26) := by kernel_rfl
@[go_sem] theorem fl28_5 : fldOf Tryd.prog 28 5 = some (7, 3) := by kernel_rfl
@[go_sem] theorem es28 : elemS Tryd.prog 28 = none := by kernel_rfl
@[go_sem] theorem ha28 : hasT Tryd.prog 28 = true := by kernel_rfl
@[go_sem] theorem ic28 : isIfc Tryd.prog 28 = false := by kernel_rfl
@[go_sem] theorem pl28 : placesOf Tryd.prog 28 = some [(0, 1), (1, 1), (2, 3), (5, 1), (6, 1), (7, 1)] := by kernel_rfl
@[go_sem] theorem by28 : bytesOf Tryd.prog 28 = some 128 := by kernel_rfl
@[go_sem] theorem ze28 : zeroOf Tryd.prog 28 = some (.agg #[(.int .i64 0), (.string ByteArray.empty), (.string ByteArray.empty), (.slice none 0 0), (.int .i64 0), (.slice none 0 0), (.slice none 0 0), (.int .i64 0)]) := by kernel_rfl
@[go_sem] theorem sz30 : szOf Tryd.prog 30 = some 9 := by kernel_rfl
@[go_sem] theorem ag30 : aggOf Tryd.prog 30 = some true := by kernel_rfl
@[go_sem] theorem fl30_0 : fldOf Tryd.prog 30 0 = some (0, 22) := by kernel_rfl
@[go_sem] theorem fl30_1 : fldOf Tryd.prog 30 1 = some (1, 28) := by kernel_rfl
@[go_sem] theorem es30 : elemS Tryd.prog 30 = none := by kernel_rfl
@[go_sem] theorem ha30 : hasT Tryd.prog 30 = true := by kernel_rfl
@[go_sem] theorem ic30 : isIfc Tryd.prog 30 = false := by kernel_rfl
@[go_sem] theorem pl30 : placesOf Tryd.prog 30 = some [(0, 1), (1, 8)] := by kernel_rfl
@[go_sem] theorem by30 : bytesOf Tryd.prog 30 = some 152 := by kernel_rfl
@[go_sem] theorem ze30 : zeroOf Tryd.prog 30 = some (.agg #[(.slice none 0 0), (.int .i64 0), (.string ByteArray.empty), (.string ByteArray.empty), (.slice none 0 0), (.int .i64 0), (.slice none 0 0), (.slice none 0 0), (.int .i64 0)]) := by kernel_rfl
@[go_sem] theorem sz34 : szOf Tryd.prog 34 = some 1 := by kernel_rfl
@[go_sem] theorem ag34 : aggOf Tryd.prog 34 = some false := by kernel_rfl
@[go_sem] theorem es34 : elemS Tryd.prog 34 = none := by kernel_rfl
@[go_sem] theorem ha34 : hasT Tryd.prog 34 = true := by kernel_rfl
@[go_sem] theorem ic34 : isIfc Tryd.prog 34 = false := by kernel_rfl
@[go_sem] theorem by34 : bytesOf Tryd.prog 34 = some 8 := by kernel_rfl
@[go_sem] theorem ip34 : isPtrT Tryd.prog 34 = true := by kernel_rfl
@[go_sem] theorem ze34 : zeroOf Tryd.prog 34 = some (.pointer none) := by kernel_rfl
@[go_sem] theorem sz36 : szOf Tryd.prog 36 = some 1 := by kernel_rfl
@[go_sem] theorem ag36 : aggOf Tryd.prog 36 = some false := by kernel_rfl
@[go_sem] theorem es36 : elemS Tryd.prog 36 = some 62 := by kernel_rfl
@[go_sem] theorem ha36 : hasT Tryd.prog 36 = true := by kernel_rfl
@[go_sem] theorem ic36 : isIfc Tryd.prog 36 = false := by kernel_rfl
@[go_sem] theorem by36 : bytesOf Tryd.prog 36 = some 24 := by kernel_rfl
@[go_sem] theorem ze36 : zeroOf Tryd.prog 36 = some (.slice none 0 0) := by kernel_rfl
@[go_sem] theorem sz37 : szOf Tryd.prog 37 = some 1 := by kernel_rfl
@[go_sem] theorem ag37 : aggOf Tryd.prog 37 = some false := by kernel_rfl
@[go_sem] theorem es37 : elemS Tryd.prog 37 = none := by kernel_rfl
@[go_sem] theorem ha37 : hasT Tryd.prog 37 = true := by kernel_rfl
@[go_sem] theorem ic37 : isIfc Tryd.prog 37 = false := by kernel_rfl
@[go_sem] theorem by37 : bytesOf Tryd.prog 37 = some 0 := by kernel_rfl
@[go_sem] theorem sz39 : szOf Tryd.prog 39 = some 1 := by kernel_rfl
@[go_sem] theorem ag39 : aggOf Tryd.prog 39 = some false := by kernel_rfl
@[go_sem] theorem es39 : elemS Tryd.prog 39 = some 50 := by kernel_rfl
@[go_sem] theorem ha39 : hasT Tryd.prog 39 = true := by kernel_rfl
@[go_sem] theorem ic39 : isIfc Tryd.prog 39 = false := by kernel_rfl
@[go_sem] theorem by39 : bytesOf Tryd.prog 39 = some 24 := by kernel_rfl
@[go_sem] theorem ze39 : zeroOf Tryd.prog 39 = some (.slice none 0 0) := by kernel_rfl
@[go_sem] theorem sz40 : szOf Tryd.prog 40 = some 1 := by kernel_rfl
@[go_sem] theorem ag40 : aggOf Tryd.prog 40 = some false := by kernel_rfl
@[go_sem] theorem es40 : elemS Tryd.prog 40 = none := by kernel_rfl
@[go_sem] theorem ha40 : hasT Tryd.prog 40 = true := by kernel_rfl
@[go_sem] theorem ic40 : isIfc Tryd.prog 40 = false := by kernel_rfl
@[go_sem] theorem by40 : bytesOf Tryd.prog 40 = some 0 := by kernel_rfl
@[go_sem] theorem sz46 : szOf Tryd.prog 46 = some 1 := by kernel_rfl
@[go_sem] theorem ag46 : aggOf Tryd.prog 46 = some false := by kernel_rfl
@[go_sem] theorem es46 : elemS Tryd.prog 46 = some 60 := by kernel_rfl
@[go_sem] theorem ha46 : hasT Tryd.prog 46 = true := by kernel_rfl
@[go_sem] theorem ic46 : isIfc Tryd.prog 46 = false := by kernel_rfl
@[go_sem] theorem by46 : bytesOf Tryd.prog 46 = some 24 := by kernel_rfl
@[go_sem] theorem ze46 : zeroOf Tryd.prog 46 = some (.slice none 0 0) := by kernel_rfl
@[go_sem] theorem sz48 : szOf Tryd.prog 48 = some 1 := by kernel_rfl
@[go_sem] theorem ag48 : aggOf Tryd.prog 48 = some false := by kernel_rfl
@[go_sem] theorem es48 : elemS Tryd.prog 48 = some 9 := by kernel_rfl
@[go_sem] theorem ha48 : hasT Tryd.prog 48 = true := by kernel_rfl
@[go_sem] theorem ic48 : isIfc Tryd.prog 48 = false := by kernel_rfl
@[go_sem] theorem by48 : bytesOf Tryd.prog 48 = some 24 := by kernel_rfl
@[go_sem] theorem ze48 : zeroOf Tryd.prog 48 = some (.slice none 0 0) := by kernel_rfl
@[go_sem] theorem sz50 : szOf Tryd.prog 50 = some 7 := by kernel_rfl
@[go_sem] theorem ag50 : aggOf Tryd.prog 50 = some true := by kernel_rfl
@[go_sem] theorem fl50_0 : fldOf Tryd.prog 50 0 = some (0, 9) := by kernel_rfl
@[go_sem] theorem fl50_1 : fldOf Tryd.prog 50 1 = some (1, 46) := by kernel_rfl
@[go_sem] theorem fl50_2 : fldOf Tryd.prog 50 2 = some (2, 36) := by kernel_rfl
@[go_sem] theorem fl50_3 : fldOf Tryd.prog 50 3 = some (3, 25) := by kernel_rfl
@[go_sem] theorem fl50_4 : fldOf Tryd.prog 50 4 = some (6, 3) := by kernel_rfl
@[go_sem] theorem es50 : elemS Tryd.prog 50 = none := by kernel_rfl
@[go_sem] theorem ha50 : hasT Tryd.prog 50 = true := by kernel_rfl
@[go_sem] theorem ic50 : isIfc Tryd.prog 50 = false := by kernel_rfl
@[go_sem] theorem pl50 : placesOf Tryd.prog 50 = some [(0, 1), (1, 1), (2, 1), (3, 3), (6, 1)] := by kernel_rfl
@[go_sem] theorem by50 : bytesOf Tryd.prog 50 = some 120 := by kernel_rfl
@[go_sem] theorem ze50 : zeroOf Tryd.prog 50 = some (.agg #[(.string ByteArray.empty), (.slice none 0 0), (.slice none 0 0), (.string ByteArray.empty), (.slice none 0 0), (.int .i64 0), (.int .i64 0)]) := by kernel_rfl
@[go_sem] theorem sz52 : szOf Tryd.prog 52 = some 23 := by kernel_rfl
@[go_sem] theorem ag52 : aggOf Tryd.prog 52 = some true := by kernel_rfl
@[go_sem] theorem fl52_0 : fldOf Tryd.prog 52 0 = some (0, 3) := by kernel_rfl
@[go_sem] theorem fl52_1 : fldOf Tryd.prog 52 1 = some (1, 9) := by kernel_rfl
@[go_sem] theorem fl52_2 : fldOf Tryd.prog 52 2 = some (2, 46) := by kernel_rfl
@[go_sem] theorem fl52_3 : fldOf Tryd.prog 52 3 = some (3, 36) := by kernel_rfl
@[go_sem] theorem fl52_4 : fldOf Tryd.prog 52 4 = some (4, 39) := by kernel_rfl
@[go_sem] theorem fl52_5 : fldOf Tryd.prog 52 5 = some (5, 9) := by kernel_rfl
@[go_sem] theorem fl52_6 : fldOf Tryd.prog 52 6 = some (6, 48) := by kernel_rfl
@[go_sem] theorem fl52_7 : fldOf Tryd.prog 52 7 = some (7, 50) := by kernel_rfl
@[go_sem] theorem fl52_8 : fldOf Tryd.prog 52 8 = some (14, 28) := by kernel_rfl
@[go_sem] theorem fl52_9 : fldOf Tryd.prog 52 9 = some (22, 3) := by kernel_rfl
@[go_sem] theorem es52 : elemS Tryd.prog 52 = none := by kernel_rfl
@[go_sem] theorem ha52 : hasT Tryd.prog 52 = true := by kernel_rfl
@[go_sem] theorem ic52 : isIfc Tryd.prog 52 = false := by kernel_rfl
@[go_sem] theorem pl52 : placesOf Tryd.prog 52 = some [(0, 1), (1, 1), (2, 1), (3, 1), (4, 1), (5, 1), (6, 1), (7, 7), (14, 8), (22, 1)] := by kernel_rfl
@[go_sem] theorem by52 : bytesOf Tryd.prog 52 = some 392 := by kernel_rfl
@[go_sem] theorem ze52 : zeroOf Tryd.prog 52 = some (.agg #[(.int .i64 0), (.string ByteArray.empty), (.slice none 0 0), (.slice none 0 0), (.slice none 0 0), (.string ByteArray.empty), (.slice none 0 0), (.string ByteArray.empty), (.slice none 0 0), (.slice none 0 0), (.string ByteArray.empty), (.slice none 0 0), (.int .i64 0), (.int .i64 0), (.int .i64 0), (.string ByteArray.empty), (.string ByteArray.empty), (.slice none 0 0), (.int .i64 0), (.slice none 0 0), (.slice none 0 0), (.int .i64 0), (.int .i64 0)]) := by kernel_rfl
@[go_sem] theorem sz60 : szOf Tryd.prog 60 = some 5 := by kernel_rfl
@[go_sem] theorem ag60 : aggOf Tryd.prog 60 = some true := by kernel_rfl
@[go_sem] theorem fl60_0 : fldOf Tryd.prog 60 0 = some (0, 9) := by kernel_rfl
@[go_sem] theorem fl60_1 : fldOf Tryd.prog 60 1 = some (1, 25) := by kernel_rfl
@[go_sem] theorem fl60_2 : fldOf Tryd.prog 60 2 = some (4, 3) := by kernel_rfl
@[go_sem] theorem es60 : elemS Tryd.prog 60 = none := by kernel_rfl
@[go_sem] theorem ha60 : hasT Tryd.prog 60 = true := by kernel_rfl
@[go_sem] theorem ic60 : isIfc Tryd.prog 60 = false := by kernel_rfl
@[go_sem] theorem pl60 : placesOf Tryd.prog 60 = some [(0, 1), (1, 3), (4, 1)] := by kernel_rfl
@[go_sem] theorem by60 : bytesOf Tryd.prog 60 = some 72 := by kernel_rfl
@[go_sem] theorem ze60 : zeroOf Tryd.prog 60 = some (.agg #[(.string ByteArray.empty), (.string ByteArray.empty), (.slice none 0 0), (.int .i64 0), (.int .i64 0)]) := by kernel_rfl
@[go_sem] theorem sz62 : szOf Tryd.prog 62 = some 5 := by kernel_rfl
@[go_sem] theorem ag62 : aggOf Tryd.prog 62 = some true := by kernel_rfl
@[go_sem] theorem fl62_0 : fldOf Tryd.prog 62 0 = some (0, 9) := by kernel_rfl
@[go_sem] theorem fl62_1 : fldOf Tryd.prog 62 1 = some (1, 25) := by kernel_rfl
@[go_sem] theorem fl62_2 : fldOf Tryd.prog 62 2 = some (4, 3) := by kernel_rfl
@[go_sem] theorem es62 : elemS Tryd.prog 62 = none := by kernel_rfl
@[go_sem] theorem ha62 : hasT Tryd.prog 62 = true := by kernel_rfl
@[go_sem] theorem ic62 : isIfc Tryd.prog 62 = false := by kernel_rfl
@[go_sem] theorem pl62 : placesOf Tryd.prog 62 = some [(0, 1), (1, 3), (4, 1)] := by kernel_rfl
@[go_sem] theorem by62 : bytesOf Tryd.prog 62 = some 72 := by kernel_rfl
@[go_sem] theorem ze62 : zeroOf Tryd.prog 62 = some (.agg #[(.string ByteArray.empty), (.string ByteArray.empty), (.slice none 0 0), (.int .i64 0), (.int .i64 0)]) := by kernel_rfl
@[go_sem] theorem sz65 : szOf Tryd.prog 65 = some 1 := by kernel_rfl
@[go_sem] theorem ag65 : aggOf Tryd.prog 65 = some false := by kernel_rfl
@[go_sem] theorem es65 : elemS Tryd.prog 65 = none := by kernel_rfl
@[go_sem] theorem ha65 : hasT Tryd.prog 65 = true := by kernel_rfl
@[go_sem] theorem ic65 : isIfc Tryd.prog 65 = false := by kernel_rfl
@[go_sem] theorem by65 : bytesOf Tryd.prog 65 = some 0 := by kernel_rfl
@[go_sem] theorem sz74 : szOf Tryd.prog 74 = some 1 := by kernel_rfl
@[go_sem] theorem ag74 : aggOf Tryd.prog 74 = some false := by kernel_rfl
@[go_sem] theorem es74 : elemS Tryd.prog 74 = none := by kernel_rfl
@[go_sem] theorem ha74 : hasT Tryd.prog 74 = true := by kernel_rfl
@[go_sem] theorem ic74 : isIfc Tryd.prog 74 = false := by kernel_rfl
@[go_sem] theorem by74 : bytesOf Tryd.prog 74 = some 8 := by kernel_rfl
@[go_sem] theorem mp74 : mapT Tryd.prog 74 = some (78, 3) := by kernel_rfl
@[go_sem] theorem ks78 : KS.of Tryd.prog 78 = some (.agg [.str, .str]) := by kernel_rfl
@[go_sem] theorem ze74 : zeroOf Tryd.prog 74 = some (.map none) := by kernel_rfl
@[go_sem] theorem sz76 : szOf Tryd.prog 76 = some 10 := by kernel_rfl
@[go_sem] theorem ag76 : aggOf Tryd.prog 76 = some true := by kernel_rfl
@[go_sem] theorem fl76_0 : fldOf Tryd.prog 76 0 = some (0, 30) := by kernel_rfl
@[go_sem] theorem fl76_1 : fldOf Tryd.prog 76 1 = some (9, 74) := by kernel_rfl
@[go_sem] theorem es76 : elemS Tryd.prog 76 = none := by kernel_rfl
@[go_sem] theorem ha76 : hasT Tryd.prog 76 = true := by kernel_rfl
@[go_sem] theorem ic76 : isIfc Tryd.prog 76 = false := by kernel_rfl
@[go_sem] theorem pl76 : placesOf Tryd.prog 76 = some [(0, 9), (9, 1)] := by kernel_rfl
@[go_sem] theorem by76 : bytesOf Tryd.prog 76 = some 160 := by kernel_rfl
@[go_sem] theorem ze76 : zeroOf Tryd.prog 76 = some (.agg #[(.slice none 0 0), (.int .i64 0), (.string ByteArray.empty), (.string ByteArray.empty), (.slice none 0 0), (.int .i64 0), (.slice none 0 0), (.slice none 0 0), (.int .i64 0), (.map none)]) := by kernel_rfl
@[go_sem] theorem sz78 : szOf Tryd.prog 78 = some 2 := by kernel_rfl
@[go_sem] theorem ag78 : aggOf Tryd.prog 78 = some true := by kernel_rfl
@[go_sem] theorem fl78_0 : fldOf Tryd.prog 78 0 = some (0, 9) := by kernel_rfl
@[go_sem] theorem fl78_1 : fldOf Tryd.prog 78 1 = some (1, 9) := by kernel_rfl
@[go_sem] theorem es78 : elemS Tryd.prog 78 = none := by kernel_rfl
@[go_sem] theorem ha78 : hasT Tryd.prog 78 = true := by kernel_rfl
@[go_sem] theorem ic78 : isIfc Tryd.prog 78 = false := by kernel_rfl
@[go_sem] theorem pl78 : placesOf Tryd.prog 78 = some [(0, 1), (1, 1)] := by kernel_rfl
@[go_sem] theorem by78 : bytesOf Tryd.prog 78 = some 32 := by kernel_rfl
@[go_sem] theorem eg78 : egOf Tryd.prog 78 = false := by kernel_rfl
@[go_sem] theorem ze78 : zeroOf Tryd.prog 78 = some (.agg #[(.string ByteArray.empty), (.string ByteArray.empty)]) := by kernel_rfl
@[go_sem] theorem sz79 : szOf Tryd.prog 79 = some 1 := by kernel_rfl
@[go_sem] theorem ag79 : aggOf Tryd.prog 79 = some false := by kernel_rfl
@[go_sem] theorem es79 : elemS Tryd.prog 79 = none := by kernel_rfl
@[go_sem] theorem ha79 : hasT Tryd.prog 79 = true := by kernel_rfl
@[go_sem] theorem ic79 : isIfc Tryd.prog 79 = false := by kernel_rfl
@[go_sem] theorem by79 : bytesOf Tryd.prog 79 = some 0 := by kernel_rfl
@[go_sem] theorem sz83 : szOf Tryd.prog 83 = some 1 := by kernel_rfl
@[go_sem] theorem ag83 : aggOf Tryd.prog 83 = some false := by kernel_rfl
@[go_sem] theorem es83 : elemS Tryd.prog 83 = none := by kernel_rfl
@[go_sem] theorem ha83 : hasT Tryd.prog 83 = true := by kernel_rfl
@[go_sem] theorem ic83 : isIfc Tryd.prog 83 = false := by kernel_rfl
@[go_sem] theorem by83 : bytesOf Tryd.prog 83 = some 8 := by kernel_rfl
@[go_sem] theorem mp83 : mapT Tryd.prog 83 = some (9, 4) := by kernel_rfl
@[go_sem] theorem ks9 : KS.of Tryd.prog 9 = some (.one .str) := by kernel_rfl
@[go_sem] theorem ze83 : zeroOf Tryd.prog 83 = some (.map none) := by kernel_rfl
@[go_sem] theorem sz85 : szOf Tryd.prog 85 = some 1 := by kernel_rfl
@[go_sem] theorem ag85 : aggOf Tryd.prog 85 = some false := by kernel_rfl
@[go_sem] theorem es85 : elemS Tryd.prog 85 = none := by kernel_rfl
@[go_sem] theorem ha85 : hasT Tryd.prog 85 = true := by kernel_rfl
@[go_sem] theorem ic85 : isIfc Tryd.prog 85 = false := by kernel_rfl
@[go_sem] theorem by85 : bytesOf Tryd.prog 85 = some 8 := by kernel_rfl
@[go_sem] theorem ze85 : zeroOf Tryd.prog 85 = some .nilFunc := by kernel_rfl
@[go_sem] theorem sz92 : szOf Tryd.prog 92 = some 1 := by kernel_rfl
@[go_sem] theorem ag92 : aggOf Tryd.prog 92 = some false := by kernel_rfl
@[go_sem] theorem es92 : elemS Tryd.prog 92 = none := by kernel_rfl
@[go_sem] theorem ha92 : hasT Tryd.prog 92 = true := by kernel_rfl
@[go_sem] theorem ic92 : isIfc Tryd.prog 92 = false := by kernel_rfl
@[go_sem] theorem by92 : bytesOf Tryd.prog 92 = some 8 := by kernel_rfl
@[go_sem] theorem ze92 : zeroOf Tryd.prog 92 = some .nilFunc := by kernel_rfl
@[go_sem] theorem sz99 : szOf Tryd.prog 99 = some 1 := by kernel_rfl
@[go_sem] theorem ag99 : aggOf Tryd.prog 99 = some false := by kernel_rfl
@[go_sem] theorem es99 : elemS Tryd.prog 99 = none := by kernel_rfl
@[go_sem] theorem ha99 : hasT Tryd.prog 99 = true := by kernel_rfl
@[go_sem] theorem ic99 : isIfc Tryd.prog 99 = false := by kernel_rfl
@[go_sem] theorem by99 : bytesOf Tryd.prog 99 = some 8 := by kernel_rfl
@[go_sem] theorem ze99 : zeroOf Tryd.prog 99 = some .nilFunc := by kernel_rfl
@[go_sem] theorem sz101 : szOf Tryd.prog 101 = some 1 := by kernel_rfl
@[go_sem] theorem ag101 : aggOf Tryd.prog 101 = some false := by kernel_rfl
@[go_sem] theorem es101 : elemS Tryd.prog 101 = none := by kernel_rfl
@[go_sem] theorem ha101 : hasT Tryd.prog 101 = true := by kernel_rfl
@[go_sem] theorem ic101 : isIfc Tryd.prog 101 = false := by kernel_rfl
@[go_sem] theorem by101 : bytesOf Tryd.prog 101 = some 8 := by kernel_rfl
@[go_sem] theorem ze101 : zeroOf Tryd.prog 101 = some .nilFunc := by kernel_rfl
@[go_sem] theorem sz109 : szOf Tryd.prog 109 = some 1 := by kernel_rfl
@[go_sem] theorem ag109 : aggOf Tryd.prog 109 = some false := by kernel_rfl
@[go_sem] theorem es109 : elemS Tryd.prog 109 = none := by kernel_rfl
@[go_sem] theorem ha109 : hasT Tryd.prog 109 = true := by kernel_rfl
@[go_sem] theorem ic109 : isIfc Tryd.prog 109 = false := by kernel_rfl
@[go_sem] theorem by109 : bytesOf Tryd.prog 109 = some 8 := by kernel_rfl
@[go_sem] theorem ze109 : zeroOf Tryd.prog 109 = some .nilFunc := by kernel_rfl
@[go_sem] theorem sz111 : szOf Tryd.prog 111 = some 1 := by kernel_rfl
@[go_sem] theorem ag111 : aggOf Tryd.prog 111 = some false := by kernel_rfl
@[go_sem] theorem es111 : elemS Tryd.prog 111 = none := by kernel_rfl
@[go_sem] theorem ha111 : hasT Tryd.prog 111 = true := by kernel_rfl
@[go_sem] theorem ic111 : isIfc Tryd.prog 111 = false := by kernel_rfl
@[go_sem] theorem by111 : bytesOf Tryd.prog 111 = some 8 := by kernel_rfl
@[go_sem] theorem ze111 : zeroOf Tryd.prog 111 = some .nilFunc := by kernel_rfl
@[go_sem] theorem sz116 : szOf Tryd.prog 116 = some 1 := by kernel_rfl
@[go_sem] theorem ag116 : aggOf Tryd.prog 116 = some false := by kernel_rfl
@[go_sem] theorem es116 : elemS Tryd.prog 116 = some 46 := by kernel_rfl
@[go_sem] theorem ha116 : hasT Tryd.prog 116 = true := by kernel_rfl
@[go_sem] theorem ic116 : isIfc Tryd.prog 116 = false := by kernel_rfl
@[go_sem] theorem by116 : bytesOf Tryd.prog 116 = some 24 := by kernel_rfl
@[go_sem] theorem ze116 : zeroOf Tryd.prog 116 = some (.slice none 0 0) := by kernel_rfl
@[go_sem] theorem sz120 : szOf Tryd.prog 120 = some 1 := by kernel_rfl
@[go_sem] theorem ag120 : aggOf Tryd.prog 120 = some false := by kernel_rfl
@[go_sem] theorem es120 : elemS Tryd.prog 120 = some 5 := by kernel_rfl
@[go_sem] theorem ha120 : hasT Tryd.prog 120 = true := by kernel_rfl
@[go_sem] theorem ic120 : isIfc Tryd.prog 120 = false := by kernel_rfl
@[go_sem] theorem by120 : bytesOf Tryd.prog 120 = some 24 := by kernel_rfl
@[go_sem] theorem bt120 : isBytesT Tryd.prog 120 = true := by kernel_rfl
@[go_sem] theorem ze120 : zeroOf Tryd.prog 120 = some (.slice none 0 0) := by kernel_rfl
@[go_sem] theorem sz122 : szOf Tryd.prog 122 = some 24 := by kernel_rfl
@[go_sem] theorem ag122 : aggOf Tryd.prog 122 = some true := by kernel_rfl
@[go_sem] theorem es122 : elemS Tryd.prog 122 = none := by kernel_rfl
@[go_sem] theorem ea122 : elemA Tryd.prog 122 = some (24, 5) := by kernel_rfl
@[go_sem] theorem ha122 : hasT Tryd.prog 122 = true := by kernel_rfl
@[go_sem] theorem ic122 : isIfc Tryd.prog 122 = false := by kernel_rfl
@[go_sem] theorem by122 : bytesOf Tryd.prog 122 = some 24 := by kernel_rfl
@[go_sem] theorem ze122 : zeroOf Tryd.prog 122 = some (.agg #[(.int .u8 0), (.int .u8 0), (.int .u8 0), (.int .u8 0), (.int .u8 0), (.int .u8 0), (.int .u8 0), (.int .u8 0), (.int .u8 0), (.int .u8 0), (.int .u8 0), (.int .u8 0), (.int .u8 0), (.int .u8 0), (.int .u8 0), (.int .u8 0), (.int .u8 0), (.int .u8 0), (.int .u8 0), (.int .u8 0), (.int .u8 0), (.int .u8 0), (.int .u8 0), (.int .u8 0)]) := by kernel_rfl
@[go_sem] theorem sz123 : szOf Tryd.prog 123 = some 1 := by kernel_rfl
@[go_sem] theorem ag123 : aggOf Tryd.prog 123 = some false := by kernel_rfl
@[go_sem] theorem es123 : elemS Tryd.prog 123 = none := by kernel_rfl
@[go_sem] theorem ha123 : hasT Tryd.prog 123 = true := by kernel_rfl
@[go_sem] theorem ic123 : isIfc Tryd.prog 123 = false := by kernel_rfl
@[go_sem] theorem io123 : intOfT Tryd.prog 123 = some .u64 := by kernel_rfl
@[go_sem] theorem by123 : bytesOf Tryd.prog 123 = some 8 := by kernel_rfl
@[go_sem] theorem ze123 : zeroOf Tryd.prog 123 = some (.int .u64 0) := by kernel_rfl
@[go_sem] theorem sz126 : szOf Tryd.prog 126 = some 1 := by kernel_rfl
@[go_sem] theorem ag126 : aggOf Tryd.prog 126 = some false := by kernel_rfl
@[go_sem] theorem es126 : elemS Tryd.prog 126 = none := by kernel_rfl
@[go_sem] theorem ha126 : hasT Tryd.prog 126 = true := by kernel_rfl
@[go_sem] theorem ic126 : isIfc Tryd.prog 126 = false := by kernel_rfl
@[go_sem] theorem by126 : bytesOf Tryd.prog 126 = some 0 := by kernel_rfl
@[go_sem] theorem sz130 : szOf Tryd.prog 130 = some 20 := by kernel_rfl
@[go_sem] theorem ag130 : aggOf Tryd.prog 130 = some true := by kernel_rfl
@[go_sem] theorem es130 : elemS Tryd.prog 130 = none := by kernel_rfl
@[go_sem] theorem ea130 : elemA Tryd.prog 130 = some (20, 123) := by kernel_rfl
@[go_sem] theorem ha130 : hasT Tryd.prog 130 = true := by kernel_rfl
@[go_sem] theorem ic130 : isIfc Tryd.prog 130 = false := by kernel_rfl
@[go_sem] theorem by130 : bytesOf Tryd.prog 130 = some 160 := by kernel_rfl
@[go_sem] theorem ze130 : zeroOf Tryd.prog 130 = some (.agg #[(.int .u64 0), (.int .u64 0), (.int .u64 0), (.int .u64 0), (.int .u64 0), (.int .u64 0), (.int .u64 0), (.int .u64 0), (.int .u64 0), (.int .u64 0), (.int .u64 0), (.int .u64 0), (.int .u64 0), (.int .u64 0), (.int .u64 0), (.int .u64 0), (.int .u64 0), (.int .u64 0), (.int .u64 0), (.int .u64 0)]) := by kernel_rfl
@[go_sem] theorem sz131 : szOf Tryd.prog 131 = some 1 := by kernel_rfl
@[go_sem] theorem ag131 : aggOf Tryd.prog 131 = some false := by kernel_rfl
@[go_sem] theorem es131 : elemS Tryd.prog 131 = none := by kernel_rfl
@[go_sem] theorem ha131 : hasT Tryd.prog 131 = true := by kernel_rfl
@[go_sem] theorem ic131 : isIfc Tryd.prog 131 = false := by kernel_rfl
@[go_sem] theorem io131 : intOfT Tryd.prog 131 = some .u32 := by kernel_rfl
@[go_sem] theorem by131 : bytesOf Tryd.prog 131 = some 4 := by kernel_rfl
@[go_sem] theorem ze131 : zeroOf Tryd.prog 131 = some (.int .u32 0) := by kernel_rfl
@[go_sem] theorem sz132 : szOf Tryd.prog 132 = some 65 := by kernel_rfl
@[go_sem] theorem ag132 : aggOf Tryd.prog 132 = some true := by kernel_rfl
@[go_sem] theorem es132 : elemS Tryd.prog 132 = none := by kernel_rfl
@[go_sem] theorem ea132 : elemA Tryd.prog 132 = some (65, 5) := by kernel_rfl
@[go_sem] theorem ha132 : hasT Tryd.prog 132 = true := by kernel_rfl
@[go_sem] theorem ic132 : isIfc Tryd.prog 132 = false := by kernel_rfl
@[go_sem] theorem by132 : bytesOf Tryd.prog 132 = some 65 := by kernel_rfl
@[go_sem] theorem ze132 : zeroOf Tryd.prog 132 = some (.agg #[(.int .u8 0), (.int .u8 0), (.int .u8 0), (.int .u8 0), (.int .u8 0), (.int .u8 0), (.int .u8 0), (.int .u8 0), (.int .u8 0), (.int .u8 0), (.int .u8 0), (.int .u8 0), (.int .u8 0), (.int .u8 0), (.int .u8 0), (.int .u8 0), (.int .u8 0), (.int .u8 0), (.int .u8 0), (.int .u8 0), (.int .u8 0), (.int .u8 0), (.int .u8 0), (.int .u8 0), (.int .u8 0), (.int .u8 0), (.int .u8 0), (.int .u8 0), (.int .u8 0), (.int .u8 0), (.int .u8 0), (.int .u8 0), (.int .u8 0), (.int .u8 0), (.int .u8 0), (.int .u8 0), (.int .u8 0), (.int .u8 0), (.int .u8 0), (.int .u8 0), (.int .u8 0), (.int .u8 0), (.int .u8 0), (.int .u8 0), (.int .u8 0), (.int .u8 0), (.int .u8 0), (.int .u8 0), (.int .u8 0), (.int .u8 0), (.int .u8 0), (.int .u8 0), (.int .u8 0), (.int .u8 0), (.int .u8 0), (.int .u8 0), (.int .u8 0), (.int .u8 0), (.int .u8 0), (.int .u8 0), (.int .u8 0), (.int .u8 0), (.int .u8 0), (.int .u8 0), (.int .u8 0)]) := by kernel_rfl
@[go_sem] theorem sz134 : szOf Tryd.prog 134 = some 1 := by kernel_rfl
@[go_sem] theorem ag134 : aggOf Tryd.prog 134 = some false := by kernel_rfl
@[go_sem] theorem es134 : elemS Tryd.prog 134 = none := by kernel_rfl
@[go_sem] theorem ha134 : hasT Tryd.prog 134 = true := by kernel_rfl
@[go_sem] theorem ic134 : isIfc Tryd.prog 134 = false := by kernel_rfl
@[go_sem] theorem io134 : intOfT Tryd.prog 134 = some .u64 := by kernel_rfl
@[go_sem] theorem by134 : bytesOf Tryd.prog 134 = some 8 := by kernel_rfl
@[go_sem] theorem ze134 : zeroOf Tryd.prog 134 = some (.int .u64 0) := by kernel_rfl
@[go_sem] theorem sz137 : szOf Tryd.prog 137 = some 32 := by kernel_rfl
@[go_sem] theorem ag137 : aggOf Tryd.prog 137 = some true := by kernel_rfl
@[go_sem] theorem es137 : elemS Tryd.prog 137 = none := by kernel_rfl
@[go_sem] theorem ea137 : elemA Tryd.prog 137 = some (32, 5) := by kernel_rfl
@[go_sem] theorem ha137 : hasT Tryd.prog 137 = true := by kernel_rfl
@[go_sem] theorem ic137 : isIfc Tryd.prog 137 = false := by kernel_rfl
@[go_sem] theorem by137 : bytesOf Tryd.prog 137 = some 32 := by kernel_rfl
@[go_sem] theorem ze137 : zeroOf Tryd.prog 137 = some (.agg #[(.int .u8 0), (.int .u8 0), (.int .u8 0), (.int .u8 0), (.int .u8 0), (.int .u8 0), (.int .u8 0), (.int .u8 0), (.int .u8 0), (.int .u8 0), (.int .u8 0), (.int .u8 0), (.int .u8 0), (.int .u8 0), (.int .u8 0), (.int .u8 0), (.int .u8 0), (.int .u8 0), (.int .u8 0), (.int .u8 0), (.int .u8 0), (.int .u8 0), (.int .u8 0), (.int .u8 0), (.int .u8 0), (.int .u8 0), (.int .u8 0), (.int .u8 0), (.int .u8 0), (.int .u8 0), (.int .u8 0), (.int .u8 0)]) := by kernel_rfl
@[go_sem] theorem sz138 : szOf Tryd.prog 138 = some 64 := by kernel_rfl
@[go_sem] theorem ag138 : aggOf Tryd.prog 138 = some true := by kernel_rfl
@[go_sem] theorem es138 : elemS Tryd.prog 138 = none := by kernel_rfl
@[go_sem] theorem ea138 : elemA Tryd.prog 138 = some (64, 5) := by kernel_rfl
@[go_sem] theorem ha138 : hasT Tryd.prog 138 = true := by kernel_rfl
@[go_sem] theorem ic138 : isIfc Tryd.prog 138 = false := by kernel_rfl
@[go_sem] theorem by138 : bytesOf Tryd.prog 138 = some 64 := by kernel_rfl
@[go_sem] theorem ze138 : zeroOf Tryd.prog 138 = some (.agg #[(.int .u8 0), (.int .u8 0), (.int .u8 0), (.int .u8 0), (.int .u8 0), (.int .u8 0), (.int .u8 0), (.int .u8 0), (.int .u8 0), (.int .u8 0), (.int .u8 0), (.int .u8 0), (.int .u8 0), (.int .u8 0), (.int .u8 0), (.int .u8 0), (.int .u8 0), (.int .u8 0), (.int .u8 0), (.int .u8 0), (.int .u8 0), (.int .u8 0), (.int .u8 0), (.int .u8 0), (.int .u8 0), (.int .u8 0), (.int .u8 0), (.int .u8 0), (.int .u8 0), (.int .u8 0), (.int .u8 0), (.int .u8 0), (.int .u8 0), (.int .u8 0), (.int .u8 0), (.int .u8 0), (.int .u8 0), (.int .u8 0), (.int .u8 0), (.int .u8 0), (.int .u8 0), (.int .u8 0), (.int .u8 0), (.int .u8 0), (.int .u8 0), (.int .u8 0), (.int .u8 0), (.int .u8 0), (.int .u8 0), (.int .u8 0), (.int .u8 0), (.int .u8 0), (.int .u8 0), (.int .u8 0), (.int .u8 0), (.int .u8 0), (.int .u8 0), (.int .u8 0), (.int .u8 0), (.int .u8 0), (.int .u8 0), (.int .u8 0), (.int .u8 0), (.int .u8 0)]) := by kernel_rfl
end Go.Proofs.T

namespace Go.Proofs.T
open Go Go.Ab Go.RowKit

mutual
def count : Ty → Nat → Nat
  | .mk nm xs _, n => countL xs (n + 1 + nm.size / 50)
def countL : List Ty → Nat → Nat
  | [], n => n
  | t :: r, n => if n ≤ 2000 then countL r (count t n) else n
end
theorem count_eq (t : Ty) (n : Nat) : count t n = countL t.args (n + 1 + t.name.size / 50) := by cases t; simp [count]
theorem countL_le {l : List Ty} {n : Nat} (h : 2000 < n) : countL l n = n := by cases l <;> simp [countL]; omega

def big : Nat := 184467440737097518
mutual
theorem count_bound : ∀ (t : Ty) (n : Nat), okTy t → count t n ≤ Nat.max n 2000 + big
  | .mk nm xs p, n, h => by
    simp only [count]
    simp only [okTy] at h
    have h1 : n + 1 + nm.size / 50 ≤ Nat.max n 2000 + big := by
      have : n ≤ Nat.max n 2000 := Nat.le_max_left ..
      unfold big; omega
    have := countL_bound xs (n + 1 + nm.size / 50) (Nat.max n 2000) h.2.2 (Nat.le_max_right ..) h1
    exact this
theorem countL_bound : ∀ (l : List Ty) (n m : Nat), okTys l → 2000 ≤ m → n ≤ m + big → countL l n ≤ m + big
  | [], n, m, _, h2, h => by simpa [countL] using h
  | t :: r, n, m, hk, h2, h => by
    simp only [countL]
    simp only [okTys] at hk
    split
    · rename_i hn
      refine countL_bound r _ m hk.2 h2 ?_
      have := count_bound t n hk.1
      have : Nat.max n 2000 = 2000 := Nat.max_eq_right hn
      omega
    · exact h
end

set_option maxRecDepth 10000 in
theorem count_calls : ∀ (t : Ty), okTy t → ∀ (n g d : Nat), n ≤ 4611686018427387904 → ACalls E 31 [encTy t, dN n] [] g d (dN (count t n)) [] := by
  refine Ty.ind fun t ih => ?_
  intro ht n g d hn
  obtain ⟨hs1, hs2, hs3⟩ := (okTy_iff t).1 ht
  refine acalls_of_awp (fn := Tryd.f31) (N := 32) Tryd.call31 Tryd.func31 rfl rfl (by simp) ?_
  simp only [go_sem]
  refine awp_seq_k (fun K1 hK1 => ?_)
  refine awp_plain 2 (by kernel_rfl) rfl (fun g0 hg0 => ?_)
  simp only [go_sem]
  refine hK1 _ ?_
  refine awp_seq_k (fun K2 hK2 => ?_)
  refine awp_plain 8 (by kernel_rfl) rfl (fun g1 hg1 => ?_)
  simp only [go_sem]
  try simp (disch := omega) only [wrapN, Int.tdiv_eq_ediv_of_nonneg]
  refine hK2 _ ?_
  refine awp_seq_k (fun K3 hK3 => ?_)
  refine awp_seq_k (fun K4 hK4 => ?_)
  refine awp_plain 1 (by kernel_rfl) rfl (fun g2 hg2 => ?_)
  simp only [go_sem]
  refine hK4 _ ?_
  refine awp_block ?_
  refine awp_loop (fun m s => ∃ k n', k ≤ t.args.length ∧ m = t.args.length - k ∧ n' ≤ 4611686018427387904 + big ∧ countL (t.args.drop k) n' = count t n ∧
      Le { env := [(1, dN n'), (2, .ptr ⟨g0, 2, 0⟩ 0), (5, dN k)], σ := [(⟨g0, 2, 0⟩, .box 25 (tyC t))] } s) t.args.length ?_ ?_
  · refine ⟨0, n + 1 + t.name.size / 50, Nat.zero_le _, rfl, by unfold big; omega, by rw [count_eq]; rfl, le_of ?_⟩
    simp only [go_sem, tyC]
    omega
  · rintro m s ⟨k, n', hk, rfl, hn', hc, hle⟩
    refine awp_keep hle ?_
    clear hle
    by_cases hlt : k < t.args.length
    · by_cases hle : (n' : Int) ≤ 2000
      · refine awp_seq_k (fun K5 hK5 => ?_)
        refine awp_seq_k (fun K6 hK6 => ?_)
        refine awp_plain 9 (by kernel_rfl) rfl (fun g3 hg3 => ?_)
        simp only [go_sem, tyC, hlt, hle]
        refine hK6 _ ?_
        refine awp_t rfl ?_
        refine awp_skip ?_
        refine hK5 _ ?_
        refine awp_seq_k (fun K7 hK7 => ?_)
        refine awp_block ?_
        refine awp_ops (by kernel_rfl) rfl (fun g5 hg5 ops5 KR5 hops5 hKR5 => ?_)
        refine aops_eval 6 hops5 ?_
        simp only [go_sem, getM hlt]
        refine aops_pure hops5 rfl rfl rfl (ih _ (List.getElem_mem _) (hs3 _ (List.getElem_mem _)) n' _ _ (by omega)) (CoL.refl _) ?_
        refine aops_last 1 hops5 ?_
        simp only [go_sem]
        refine hKR5 _ ?_
        refine hK7 _ ?_
        refine awp_plain 3 (by kernel_rfl) rfl (fun g4 hg4 => ?_)
        simp only [go_sem]
        try simp (disch := omega) only [wrapN]
        have e : countL (t.args.drop k) n' = countL (t.args.drop (k + 1)) (count t.args[k] n') := by
          rw [List.drop_eq_getElem_cons hlt]; simp only [countL]; rw [if_pos (by omega)]
        have e2 := count_bound t.args[k] n' (hs3 _ (List.getElem_mem _))
        have e3 : Nat.max n' 2000 ≤ 4611686018427387904 := Nat.max_le.2 ⟨by omega, by omega⟩
        refine ⟨_, ?_, k + 1, count t.args[k] n', hlt, rfl, ?_, by rw [← e]; exact hc, le_of ?_⟩
        · omega
        · omega
        simp only [go_sem, tyC]
        omega
      · refine awp_seq_k (fun K8 hK8 => ?_)
        refine awp_seq_k (fun K9 hK9 => ?_)
        refine awp_plain 9 (by kernel_rfl) rfl (fun g3 hg3 => ?_)
        simp only [go_sem, tyC, hlt, hle]
        refine hK9 _ ?_
        rw [countL_le (by omega)] at hc
        subst hc
        refine awp_f rfl ?_
        refine awp_exit ?_
        refine hK3 _ ?_
        refine awp_seq_k (fun K10 hK10 => ?_)
        refine awp_plain 2 (by kernel_rfl) rfl (fun g6 hg6 => ?_)
        simp only [go_sem]
        refine hK10 _ ?_
        refine awp_ret ?_
        refine ends_ev rfl ?_
        simp only [go_sem]
        exact Co.refl _
    · refine awp_seq_k (fun K11 hK11 => ?_)
      refine awp_seq_k (fun K12 hK12 => ?_)
      refine awp_plain 9 (by kernel_rfl) rfl (fun g3 hg3 => ?_)
      simp only [go_sem, tyC, hlt]
      refine hK12 _ ?_
      rw [List.drop_eq_nil_of_le (by omega)] at hc
      simp only [countL] at hc
      subst hc
      refine awp_f rfl ?_
      refine awp_exit ?_
      refine hK3 _ ?_
      refine awp_seq_k (fun K13 hK13 => ?_)
      refine awp_plain 2 (by kernel_rfl) rfl (fun g6 hg6 => ?_)
      simp only [go_sem]
      refine hK13 _ ?_
      refine awp_ret ?_
      refine ends_ev rfl ?_
      simp only [go_sem]
      exact Co.refl _
end Go.Proofs.T


namespace Go.Proofs.T
open Go Go.Ab Go.RowKit

/-! ## Comparing -/

def cmpL : List UInt8 → List UInt8 → Int
  | [], [] => 0
  | [], _ :: _ => -1
  | _ :: _, [] => 1
  | a :: x, b :: y => if a < b then -1 else if b < a then 1 else cmpL x y

def cmpS (a b : Str) : Int := cmpL a.data.toList b.data.toList

theorem cmpL_zero : ∀ {x y : List UInt8}, cmpL x y = 0 ↔ x = y
  | [], [] => by simp [cmpL]
  | [], _ :: _ => by simp [cmpL]
  | _ :: _, [] => by simp [cmpL]
  | a :: x, b :: y => by
    simp only [cmpL]
    split
    · rename_i h; simp; rintro rfl; exact absurd h (by simp)
    · split
      · rename_i h; simp; rintro rfl; exact absurd h (by simp)
      · rename_i h1 h2
        have : a = b := by
          apply UInt8.le_antisymm
          · exact UInt8.not_lt.1 h2
          · exact UInt8.not_lt.1 h1
        subst this
        simp [cmpL_zero (x := x) (y := y)]

theorem cmpS_zero {a b : Str} : cmpS a b = 0 ↔ a = b := by
  unfold cmpS
  rw [cmpL_zero, Array.toList_inj]
  constructor
  · intro h; cases a; cases b; simp_all
  · rintro rfl; rfl

theorem str_get {s : Str} {k : Nat} (h : k < s.size) : s[k]? = some (s.data.toList[k]'h) := by
  have : s[k]? = some s[k] := getElem?_pos s k h
  rw [this]; rfl

set_option maxRecDepth 10000 in
theorem compareS_calls (a b : Str) (ha : a.size ≤ 9223372036854775807) (g d : Nat) :
    ACalls E 85 [encS a, encS b] [] g d (dI (cmpS a b)) [] := by
  refine acalls_of_awp (fn := Tryd.f85) (N := 42) Tryd.call85 Tryd.func85 rfl rfl (by simp) ?_
  simp only [go_sem]
  refine awp_seq_k (fun K1 hK1 => ?_)
  refine awp_plain 1 (by kernel_rfl) rfl (fun g0 hg0 => ?_)
  simp only [go_sem]
  refine hK1 _ ?_
  refine awp_seq_k (fun K2 hK2 => ?_)
  refine awp_seq_k (fun K3 hK3 => ?_)
  refine awp_plain 1 (by kernel_rfl) rfl (fun g1 hg1 => ?_)
  simp only [go_sem]
  refine hK3 _ ?_
  refine awp_block ?_
  refine awp_loop (fun m s => ∃ k, k ≤ a.size ∧ k ≤ b.size ∧ m = a.size - k ∧ cmpL (a.data.toList.drop k) (b.data.toList.drop k) = cmpS a b ∧
      Le { env := [(0, encS a), (1, encS b), (5, dN k)], σ := [] } s) a.size ?_ ?_
  · refine ⟨0, Nat.zero_le _, Nat.zero_le _, rfl, rfl, le_of ?_⟩
    simp only [go_sem]
    trivial
  · rintro m s ⟨k, hka, hkb, rfl, hc, hle⟩
    refine awp_keep hle ?_
    clear hle
    by_cases ha : k < a.size
    · by_cases hb : k < b.size
      · rw [List.drop_eq_getElem_cons (show k < a.data.toList.length from ha), List.drop_eq_getElem_cons (show k < b.data.toList.length from hb)] at hc
        simp only [cmpL] at hc
        refine awp_seq_k (fun K4 hK4 => ?_)
        refine awp_seq_k (fun K5 hK5 => ?_)
        refine awp_plain 10 (by kernel_rfl) rfl (fun g2 hg2 => ?_)
        simp only [go_sem, ha, hb]
        refine hK5 _ ?_
        refine awp_t rfl ?_
        refine awp_skip ?_
        refine hK4 _ ?_
        refine awp_seq_k (fun K6 hK6 => ?_)
        refine awp_block ?_
        refine awp_seq_k (fun K7 hK7 => ?_)
        refine awp_seq_k (fun K8 hK8 => ?_)
        have h0 : (0 : Int) ≤ k := by omega
        by_cases h1 : a.data.toList[k] < b.data.toList[k]
        · rw [if_pos h1] at hc
          have h1' : (a.data.toList[k].toNat : Int) < b.data.toList[k].toNat := by exact_mod_cast UInt8.lt_iff_toNat_lt.1 h1
          refine awp_anyq (by kernel_rfl) rfl (fun g4 hg4 ops4 KR4 hops4 hKR4 => ?_)
          refine qrun_last 7 hops4 ?_
          simp only [go_sem, h0, Int.toNat_natCast, str_get ha, str_get hb, h1']
          refine hKR4 _ ?_
          refine hK8 _ ?_
          refine awp_t rfl ?_
          refine awp_seq_k (fun K9 hK9 => ?_)
          refine awp_plain 1 (by kernel_rfl) rfl (fun g5 hg5 => ?_)
          simp only [go_sem]
          refine hK9 _ ?_
          refine awp_ret ?_
          rw [← hc]
          refine ends_ev rfl ?_
          simp only [go_sem]
          exact Co.refl _
        · rw [if_neg h1] at hc
          have h1' : ¬ (a.data.toList[k].toNat : Int) < b.data.toList[k].toNat := fun h => h1 (UInt8.lt_iff_toNat_lt.2 (by exact_mod_cast h))
          refine awp_anyq (by kernel_rfl) rfl (fun g4 hg4 ops4 KR4 hops4 hKR4 => ?_)
          refine qrun_last 7 hops4 ?_
          simp only [go_sem, h0, Int.toNat_natCast, str_get ha, str_get hb, h1']
          refine hKR4 _ ?_
          refine hK8 _ ?_
          refine awp_f rfl ?_
          refine awp_skip ?_
          refine hK7 _ ?_
          refine awp_seq_k (fun K10 hK10 => ?_)
          by_cases h2 : b.data.toList[k] < a.data.toList[k]
          · rw [if_pos h2] at hc
            have h2' : (b.data.toList[k].toNat : Int) < a.data.toList[k].toNat := by exact_mod_cast UInt8.lt_iff_toNat_lt.1 h2
            refine awp_anyq (by kernel_rfl) rfl (fun g6 hg6 ops6 KR6 hops6 hKR6 => ?_)
            refine qrun_last 7 hops6 ?_
            simp only [go_sem, h0, Int.toNat_natCast, str_get ha, str_get hb, h2']
            refine hKR6 _ ?_
            refine hK10 _ ?_
            refine awp_t rfl ?_
            refine awp_seq_k (fun K11 hK11 => ?_)
            refine awp_plain 1 (by kernel_rfl) rfl (fun g7 hg7 => ?_)
            simp only [go_sem]
            refine hK11 _ ?_
            refine awp_ret ?_
            rw [← hc]
            refine ends_ev rfl ?_
            simp only [go_sem]
            exact Co.refl _
          · rw [if_neg h2] at hc
            have h2' : ¬ (b.data.toList[k].toNat : Int) < a.data.toList[k].toNat := fun h => h2 (UInt8.lt_iff_toNat_lt.2 (by exact_mod_cast h))
            refine awp_anyq (by kernel_rfl) rfl (fun g6 hg6 ops6 KR6 hops6 hKR6 => ?_)
            refine qrun_last 7 hops6 ?_
            simp only [go_sem, h0, Int.toNat_natCast, str_get ha, str_get hb, h2']
            refine hKR6 _ ?_
            refine hK10 _ ?_
            refine awp_f rfl ?_
            refine awp_skip ?_
            refine hK6 _ ?_
            refine awp_plain 3 (by kernel_rfl) rfl (fun g3 hg3 => ?_)
            simp only [go_sem]
            try simp (disch := omega) only [wrapN]
            refine ⟨_, ?_, k + 1, ha, hb, rfl, hc, le_of ?_⟩
            · omega
            simp only [go_sem]
            omega
      · have : k = b.size := by omega
        subst this
        rw [List.drop_eq_getElem_cons (show b.size < a.data.toList.length from ha), List.drop_eq_nil_of_le (show b.data.toList.length ≤ b.size from Nat.le_refl _)] at hc
        simp only [cmpL] at hc
        have h3 : ¬ a.size < b.size := by omega
        have h4 : b.size < a.size := ha
        refine awp_seq_k (fun K12 hK12 => ?_)
        refine awp_seq_k (fun K13 hK13 => ?_)
        refine awp_plain 10 (by kernel_rfl) rfl (fun g2 hg2 => ?_)
        simp only [go_sem, ha, hb]
        refine hK13 _ ?_
        refine awp_f rfl ?_
        refine awp_exit ?_
        refine hK2 _ ?_
        refine awp_seq_k (fun K14 hK14 => ?_)
        refine awp_seq_k (fun K15 hK15 => ?_)
        refine awp_plain 5 (by kernel_rfl) rfl (fun g8 hg8 => ?_)
        simp only [go_sem, h3]
        refine hK15 _ ?_
        refine awp_f rfl ?_
        refine awp_skip ?_
        refine hK14 _ ?_
        refine awp_seq_k (fun K16 hK16 => ?_)
        refine awp_seq_k (fun K17 hK17 => ?_)
        refine awp_plain 5 (by kernel_rfl) rfl (fun g10 hg10 => ?_)
        simp only [go_sem, h4]
        refine hK17 _ ?_
        refine awp_t rfl ?_
        refine awp_seq_k (fun K18 hK18 => ?_)
        refine awp_plain 1 (by kernel_rfl) rfl (fun g11 hg11 => ?_)
        simp only [go_sem]
        refine hK18 _ ?_
        refine awp_ret ?_
        rw [← hc]
        refine ends_ev rfl ?_
        simp only [go_sem]
        exact Co.refl _
    · have : k = a.size := by omega
      subst this
      rw [List.drop_eq_nil_of_le (show a.data.toList.length ≤ a.size from Nat.le_refl _)] at hc
      refine awp_seq_k (fun K19 hK19 => ?_)
      refine awp_seq_k (fun K20 hK20 => ?_)
      refine awp_plain 10 (by kernel_rfl) rfl (fun g2 hg2 => ?_)
      simp only [go_sem, ha]
      refine hK20 _ ?_
      refine awp_f rfl ?_
      refine awp_exit ?_
      refine hK2 _ ?_
      refine awp_seq_k (fun K21 hK21 => ?_)
      refine awp_seq_k (fun K22 hK22 => ?_)
      by_cases hb : a.size < b.size
      · rw [List.drop_eq_getElem_cons (show a.size < b.data.toList.length from hb)] at hc
        simp only [cmpL] at hc
        refine awp_plain 5 (by kernel_rfl) rfl (fun g8 hg8 => ?_)
        simp only [go_sem, hb]
        refine hK22 _ ?_
        refine awp_t rfl ?_
        refine awp_seq_k (fun K23 hK23 => ?_)
        refine awp_plain 1 (by kernel_rfl) rfl (fun g9 hg9 => ?_)
        simp only [go_sem]
        refine hK23 _ ?_
        refine awp_ret ?_
        rw [← hc]
        refine ends_ev rfl ?_
        simp only [go_sem]
        exact Co.refl _
      · have h4 : ¬ b.size < a.size := by omega
        rw [List.drop_eq_nil_of_le (show b.data.toList.length ≤ a.size from (by show b.size ≤ a.size; omega))] at hc
        simp only [cmpL] at hc
        refine awp_plain 5 (by kernel_rfl) rfl (fun g8 hg8 => ?_)
        simp only [go_sem, hb]
        refine hK22 _ ?_
        refine awp_f rfl ?_
        refine awp_skip ?_
        refine hK21 _ ?_
        refine awp_seq_k (fun K24 hK24 => ?_)
        refine awp_seq_k (fun K25 hK25 => ?_)
        refine awp_plain 5 (by kernel_rfl) rfl (fun g10 hg10 => ?_)
        simp only [go_sem, h4]
        refine hK25 _ ?_
        refine awp_f rfl ?_
        refine awp_skip ?_
        refine hK24 _ ?_
        refine awp_seq_k (fun K26 hK26 => ?_)
        refine awp_plain 1 (by kernel_rfl) rfl (fun g12 hg12 => ?_)
        simp only [go_sem]
        refine hK26 _ ?_
        refine awp_ret ?_
        rw [← hc]
        refine ends_ev rfl ?_
        simp only [go_sem]
        exact Co.refl _

end Go.Proofs.T


namespace Go.Proofs.T
open Go Go.Ab Go.RowKit

/-! ## Comparing types -/

mutual
def cmpTy : Ty → Ty → Int
  | .mk a x _, .mk b y _ => if cmpS a b = 0 then cmpTys x y else cmpS a b
def cmpTys : List Ty → List Ty → Int
  | [], [] => 0
  | [], _ :: _ => -1
  | _ :: _, [] => 1
  | t :: x, u :: y => if cmpTy t u = 0 then cmpTys x y else cmpTy t u
end
theorem cmpTy_eq (t u : Ty) : cmpTy t u = if cmpS t.name u.name = 0 then cmpTys t.args u.args else cmpS t.name u.name := by cases t; cases u; rw [cmpTy]; rfl

theorem ref04Compare_calls : ∀ t : Ty, okTy t → ∀ (u : Ty) (g d : Nat), ACalls E 79 [encTy t, encTy u] [] g d (dI (cmpTy t u)) [] := by
  refine Ty.ind fun t ih => ?_
  intro ht u g d
  obtain ⟨hs1, hs2, hs3⟩ := (okTy_iff t).1 ht
  rw [cmpTy_eq]
  refine acalls_of_awp (fn := Tryd.f79) (N := 59) Tryd.call79 Tryd.func79 rfl rfl (by simp) ?_
  simp only [go_sem]
  refine awp_seq_k (fun K1 hK1 => ?_)
  refine awp_plain 3 (by kernel_rfl) rfl (fun g0 hg0 => ?_)
  simp only [go_sem]
  refine hK1 _ ?_
  refine awp_seq_k (fun K2 hK2 => ?_)
  refine awp_seq_k (fun K3 hK3 => ?_)
  by_cases hn : t.name = u.name
  · have hcs := cmpS_zero.2 hn
    refine awp_plain 5 (by kernel_rfl) rfl (fun g1 hg1 => ?_)
    simp only [go_sem, hn]
    refine hK3 _ ?_
    refine awp_f rfl ?_
    refine awp_skip ?_
    refine hK2 _ ?_
    refine awp_seq_k (fun K4 hK4 => ?_)
    refine awp_seq_k (fun K5 hK5 => ?_)
    refine awp_plain 1 (by kernel_rfl) rfl (fun g3 hg3 => ?_)
    simp only [go_sem]
    refine hK5 _ ?_
    refine awp_block ?_
    refine awp_loop (fun m s => ∃ k, k ≤ t.args.length ∧ k ≤ u.args.length ∧ m = t.args.length - k ∧ cmpTys (t.args.drop k) (u.args.drop k) = cmpTys t.args u.args ∧
      Le { env := [(2, .ptr ⟨g0, 2, 0⟩ 0), (3, .ptr ⟨g0, 3, 0⟩ 0), (5, dN k)], σ := [(⟨g0, 2, 0⟩, .box 25 (tyC t)), (⟨g0, 3, 0⟩, .box 25 (tyC u))] } s) t.args.length ?_ ?_
    · refine ⟨0, Nat.zero_le _, Nat.zero_le _, rfl, rfl, le_of ?_⟩
      simp only [go_sem, tyC, hn]
      trivial
    · rintro m s ⟨k, hka, hkb, rfl, hc, hle⟩
      refine awp_keep hle ?_
      clear hle
      by_cases ha : k < t.args.length
      · by_cases hb : k < u.args.length
        · rw [List.drop_eq_getElem_cons ha, List.drop_eq_getElem_cons hb] at hc
          simp only [cmpTys] at hc
          refine awp_seq_k (fun K6 hK6 => ?_)
          refine awp_seq_k (fun K7 hK7 => ?_)
          refine awp_plain 12 (by kernel_rfl) rfl (fun g4 hg4 => ?_)
          simp only [go_sem, tyC, ha, hb]
          refine hK7 _ ?_
          refine awp_t rfl ?_
          refine awp_skip ?_
          refine hK6 _ ?_
          refine awp_seq_k (fun K8 hK8 => ?_)
          refine awp_block ?_
          refine awp_seq_k (fun K9 hK9 => ?_)
          refine awp_any 11 (by kernel_rfl) (by kernel_rfl) rfl (fun g6 hg6 ops6 KR6 hops6 hKR6 => ?_)
          refine qrun_eval 10 hops6 ?_
          simp only [go_sem, getM ha, getM hb]
          refine qrun_pure hops6 rfl rfl rfl (ih _ (List.getElem_mem ha) (hs3 _ (List.getElem_mem ha)) _ _ _) (CoL.refl _) rfl ?_
          refine qrun_last 0 hops6 ?_
          simp only [go_sem]
          refine aops_last 1 hops6 ?_
          simp only [go_sem]
          refine hKR6 _ ?_
          refine hK9 _ ?_
          refine awp_seq_k (fun K10 hK10 => ?_)
          by_cases h0 : cmpTy t.args[k] u.args[k] = 0
          · rw [if_pos h0] at hc
            refine awp_plain 2 (by kernel_rfl) rfl (fun g7 hg7 => ?_)
            simp only [go_sem, h0]
            refine hK10 _ ?_
            refine awp_f rfl ?_
            refine awp_skip ?_
            refine hK8 _ ?_
            refine awp_plain 3 (by kernel_rfl) rfl (fun g5 hg5 => ?_)
            simp only [go_sem]
            try simp (disch := omega) only [wrapN]
            refine ⟨_, ?_, k + 1, ha, hb, rfl, hc, le_of ?_⟩
            · omega
            simp only [go_sem, tyC]
            omega
          · rw [if_neg h0] at hc
            refine awp_plain 2 (by kernel_rfl) rfl (fun g7 hg7 => ?_)
            simp only [go_sem, h0]
            refine hK10 _ ?_
            refine awp_t rfl ?_
            refine awp_seq_k (fun K11 hK11 => ?_)
            refine awp_plain 2 (by kernel_rfl) rfl (fun g8 hg8 => ?_)
            simp only [go_sem]
            refine hK11 _ ?_
            refine awp_ret ?_
            rw [if_pos hcs, ← hc]
            refine ends_ev rfl ?_
            simp only [go_sem]
            exact Co.refl _
        · rw [List.drop_eq_getElem_cons ha, dropN u.args k (by omega)] at hc
          simp only [cmpTys] at hc
          have h3 : ¬ t.args.length < u.args.length := by omega
          have h4 : u.args.length < t.args.length := by omega
          refine awp_seq_k (fun K12 hK12 => ?_)
          refine awp_seq_k (fun K13 hK13 => ?_)
          refine awp_plain 12 (by kernel_rfl) rfl (fun g4 hg4 => ?_)
          simp only [go_sem, tyC, ha, hb]
          refine hK13 _ ?_
          refine awp_f rfl ?_
          refine awp_exit ?_
          refine hK4 _ ?_
          refine awp_seq_k (fun K14 hK14 => ?_)
          refine awp_seq_k (fun K15 hK15 => ?_)
          refine awp_plain 7 (by kernel_rfl) rfl (fun g9 hg9 => ?_)
          simp only [go_sem, h3]
          refine hK15 _ ?_
          refine awp_f rfl ?_
          refine awp_skip ?_
          refine hK14 _ ?_
          refine awp_seq_k (fun K16 hK16 => ?_)
          refine awp_seq_k (fun K17 hK17 => ?_)
          refine awp_plain 7 (by kernel_rfl) rfl (fun g11 hg11 => ?_)
          simp only [go_sem, h4]
          refine hK17 _ ?_
          refine awp_t rfl ?_
          refine awp_seq_k (fun K18 hK18 => ?_)
          refine awp_plain 1 (by kernel_rfl) rfl (fun g12 hg12 => ?_)
          simp only [go_sem]
          refine hK18 _ ?_
          refine awp_ret ?_
          rw [if_pos hcs, ← hc]
          refine ends_ev rfl ?_
          simp only [go_sem]
          exact Co.refl _
      · have : k = t.args.length := by omega
        subst this
        rw [List.drop_eq_nil_of_le (Nat.le_refl _)] at hc
        refine awp_seq_k (fun K19 hK19 => ?_)
        refine awp_seq_k (fun K20 hK20 => ?_)
        refine awp_plain 12 (by kernel_rfl) rfl (fun g4 hg4 => ?_)
        simp only [go_sem, tyC, ha]
        refine hK20 _ ?_
        refine awp_f rfl ?_
        refine awp_exit ?_
        refine hK4 _ ?_
        refine awp_seq_k (fun K21 hK21 => ?_)
        refine awp_seq_k (fun K22 hK22 => ?_)
        by_cases hb : t.args.length < u.args.length
        · rw [List.drop_eq_getElem_cons hb] at hc
          simp only [cmpTys] at hc
          refine awp_plain 7 (by kernel_rfl) rfl (fun g9 hg9 => ?_)
          simp only [go_sem, hb]
          refine hK22 _ ?_
          refine awp_t rfl ?_
          refine awp_seq_k (fun K23 hK23 => ?_)
          refine awp_plain 1 (by kernel_rfl) rfl (fun g10 hg10 => ?_)
          simp only [go_sem]
          refine hK23 _ ?_
          refine awp_ret ?_
          rw [if_pos hcs, ← hc]
          refine ends_ev rfl ?_
          simp only [go_sem]
          exact Co.refl _
        · rw [List.drop_eq_nil_of_le (by omega)] at hc
          simp only [cmpTys] at hc
          have h4 : ¬ u.args.length < t.args.length := by omega
          refine awp_plain 7 (by kernel_rfl) rfl (fun g9 hg9 => ?_)
          simp only [go_sem, hb]
          refine hK22 _ ?_
          refine awp_f rfl ?_
          refine awp_skip ?_
          refine hK21 _ ?_
          refine awp_seq_k (fun K24 hK24 => ?_)
          refine awp_seq_k (fun K25 hK25 => ?_)
          refine awp_plain 7 (by kernel_rfl) rfl (fun g11 hg11 => ?_)
          simp only [go_sem, h4]
          refine hK25 _ ?_
          refine awp_f rfl ?_
          refine awp_skip ?_
          refine hK24 _ ?_
          refine awp_seq_k (fun K26 hK26 => ?_)
          refine awp_plain 1 (by kernel_rfl) rfl (fun g13 hg13 => ?_)
          simp only [go_sem]
          refine hK26 _ ?_
          refine awp_ret ?_
          rw [if_pos hcs, ← hc]
          refine ends_ev rfl ?_
          simp only [go_sem]
          exact Co.refl _
  · refine awp_plain 5 (by kernel_rfl) rfl (fun g1 hg1 => ?_)
    simp only [go_sem, hn]
    refine hK3 _ ?_
    refine awp_t rfl ?_
    refine awp_seq_k (fun K27 hK27 => ?_)
    refine awp_ops (by kernel_rfl) rfl (fun g2 hg2 ops2 KR2 hops2 hKR2 => ?_)
    refine aops_eval 4 hops2 ?_
    simp only [go_sem]
    refine aops_pure hops2 rfl rfl rfl (compareS_calls _ _ hs1 _ _) (CoL.refl _) ?_
    refine aops_last 1 hops2 ?_
    simp only [go_sem]
    refine hKR2 _ ?_
    refine hK27 _ ?_
    refine awp_ret ?_
    rw [if_neg (fun h => hn (cmpS_zero.1 h))]
    refine ends_ev rfl ?_
    simp only [go_sem]
    exact Co.refl _

theorem ref04Same_calls (t u : Ty) (ht : okTy t) (g d : Nat) : ACalls E 65 [encTy t, encTy u] [] g d (dB (decide (cmpTy t u = 0))) [] := by
  refine acalls_of_awp (fn := Tryd.f65) (N := 9) Tryd.call65 Tryd.func65 rfl rfl (by simp) ?_
  simp only [go_sem]
  refine awp_seq_k (fun K1 hK1 => ?_)
  refine awp_plain 3 (by kernel_rfl) rfl (fun g0 hg0 => ?_)
  simp only [go_sem]
  refine hK1 _ ?_
  refine awp_seq_k (fun K2 hK2 => ?_)
  refine awp_ops (by kernel_rfl) rfl (fun g1 hg1 ops1 KR1 hops1 hKR1 => ?_)
  refine aops_eval 2 hops1 ?_
  simp only [go_sem]
  refine aops_pure hops1 rfl rfl rfl (ref04Compare_calls _ ht _ _ _) (CoL.refl _) ?_
  refine aops_last 2 hops1 ?_
  simp only [go_sem]
  refine hKR1 _ ?_
  refine hK2 _ ?_
  refine awp_ret ?_
  refine ends_ev rfl ?_
  simp only [go_sem]
  exact Co.refl _

mutual
def eqTy : Ty → Ty → Bool
  | .mk a x p, .mk b y q => decide (a = b) && (decide (p = q) && eqTys x y)
def eqTys : List Ty → List Ty → Bool
  | [], [] => true
  | [], _ :: _ => false
  | _ :: _, [] => false
  | t :: x, u :: y => eqTy t u && eqTys x y
end
theorem eqTy_eq (t u : Ty) : eqTy t u = (decide (t.name = u.name) && (decide (t.pos = u.pos) && eqTys t.args u.args)) := by cases t; cases u; rw [eqTy]; rfl

mutual
theorem eqTy_iff : ∀ (t u : Ty), eqTy t u = true ↔ t = u
  | .mk a x p, .mk b y q => by
    simp only [eqTy, eqTys_iff x y, Bool.and_eq_true, decide_eq_true_eq, Ty.mk.injEq]
    constructor
    · rintro ⟨rfl, rfl, rfl⟩; exact ⟨rfl, rfl, rfl⟩
    · rintro ⟨rfl, rfl, rfl⟩; exact ⟨rfl, rfl, rfl⟩
theorem eqTys_iff : ∀ (x y : List Ty), eqTys x y = true ↔ x = y
  | [], [] => by simp [eqTys]
  | [], _ :: _ => by simp [eqTys]
  | _ :: _, [] => by simp [eqTys]
  | t :: x, u :: y => by simp [eqTys, eqTy_iff t u, eqTys_iff x y]
end
theorem eqTys_length {x y : List Ty} (h : x.length ≠ y.length) : eqTys x y = false := by
  cases he : eqTys x y with
  | false => rfl
  | true => exact absurd (congrArg List.length ((eqTys_iff x y).1 he)) h

theorem ref04Equal_calls : ∀ t : Ty, okTy t → ∀ (u : Ty) (g d : Nat), ACalls E 66 [encTy t, encTy u] [] g d (dB (eqTy t u)) [] := by
  refine Ty.ind fun t ih => ?_
  intro ht u g d
  obtain ⟨hs1, hs2, hs3⟩ := (okTy_iff t).1 ht
  rw [eqTy_eq]
  refine acalls_of_awp (fn := Tryd.f66) (N := 46) Tryd.call66 Tryd.func66 rfl rfl (by simp) ?_
  simp only [go_sem]
  refine awp_seq_k (fun K1 hK1 => ?_)
  refine awp_plain 3 (by kernel_rfl) rfl (fun g0 hg0 => ?_)
  simp only [go_sem]
  refine hK1 _ ?_
  refine awp_seq_k (fun K2 hK2 => ?_)
  refine awp_seq_k (fun K3 hK3 => ?_)
  by_cases hn : t.name = u.name
  · by_cases hp : t.pos = u.pos
    · by_cases hl : t.args.length = u.args.length
      · have hl' : (t.args.length : Int) = u.args.length := by omega
        refine awp_plain 21 (by kernel_rfl) rfl (fun g1 hg1 => ?_)
        simp only [go_sem, hn, hp, hl']
        refine hK3 _ ?_
        refine awp_f rfl ?_
        refine awp_skip ?_
        refine hK2 _ ?_
        refine awp_seq_k (fun K4 hK4 => ?_)
        refine awp_seq_k (fun K5 hK5 => ?_)
        refine awp_plain 1 (by kernel_rfl) rfl (fun g3 hg3 => ?_)
        simp only [go_sem]
        refine hK5 _ ?_
        refine awp_block ?_
        refine awp_loop (fun m s => ∃ k, k ≤ t.args.length ∧ m = t.args.length - k ∧ eqTys (t.args.drop k) (u.args.drop k) = eqTys t.args u.args ∧
          Le { env := [(2, .ptr ⟨g0, 2, 0⟩ 0), (3, .ptr ⟨g0, 3, 0⟩ 0), (5, dN k)], σ := [(⟨g0, 2, 0⟩, .box 25 (tyC t)), (⟨g0, 3, 0⟩, .box 25 (tyC u))] } s) t.args.length ?_ ?_
        · refine ⟨0, Nat.zero_le _, rfl, rfl, le_of ?_⟩
          simp only [go_sem, tyC, hn, hp]
          trivial
        · rintro m s ⟨k, hka, rfl, hc, hle⟩
          refine awp_keep hle ?_
          clear hle
          by_cases ha : k < t.args.length
          · have hb : k < u.args.length := by omega
            rw [List.drop_eq_getElem_cons ha, List.drop_eq_getElem_cons hb] at hc
            simp only [eqTys] at hc
            refine awp_seq_k (fun K6 hK6 => ?_)
            refine awp_seq_k (fun K7 hK7 => ?_)
            refine awp_plain 5 (by kernel_rfl) rfl (fun g4 hg4 => ?_)
            simp only [go_sem, tyC, ha]
            refine hK7 _ ?_
            refine awp_t rfl ?_
            refine awp_skip ?_
            refine hK6 _ ?_
            refine awp_seq_k (fun K8 hK8 => ?_)
            refine awp_block ?_
            refine awp_seq_k (fun K9 hK9 => ?_)
            cases he : eqTy t.args[k] u.args[k] with
            | true =>
              rw [he, Bool.true_and] at hc
              refine awp_anyq (by kernel_rfl) rfl (fun g6 hg6 ops6 KR6 hops6 hKR6 => ?_)
              refine qrun_eval 10 hops6 ?_
              simp only [go_sem, getM ha, getM hb]
              refine qrun_pure hops6 rfl rfl rfl (he ▸ ih _ (List.getElem_mem ha) (hs3 _ (List.getElem_mem ha)) _ _ _) (CoL.refl _) rfl ?_
              refine qrun_last 1 hops6 ?_
              simp only [go_sem]
              refine hKR6 _ ?_
              refine hK9 _ ?_
              refine awp_f rfl ?_
              refine awp_skip ?_
              refine hK8 _ ?_
              refine awp_plain 3 (by kernel_rfl) rfl (fun g5 hg5 => ?_)
              simp only [go_sem]
              try simp (disch := omega) only [wrapN]
              refine ⟨_, ?_, k + 1, ha, rfl, hc, le_of ?_⟩
              · omega
              simp only [go_sem, tyC]
              omega
            | false =>
              rw [he, Bool.false_and] at hc
              refine awp_anyq (by kernel_rfl) rfl (fun g6 hg6 ops6 KR6 hops6 hKR6 => ?_)
              refine qrun_eval 10 hops6 ?_
              simp only [go_sem, getM ha, getM hb]
              refine qrun_pure hops6 rfl rfl rfl (he ▸ ih _ (List.getElem_mem ha) (hs3 _ (List.getElem_mem ha)) _ _ _) (CoL.refl _) rfl ?_
              refine qrun_last 1 hops6 ?_
              simp only [go_sem]
              refine hKR6 _ ?_
              refine hK9 _ ?_
              refine awp_t rfl ?_
              refine awp_seq_k (fun K10 hK10 => ?_)
              refine awp_plain 1 (by kernel_rfl) rfl (fun g7 hg7 => ?_)
              simp only [go_sem]
              refine hK10 _ ?_
              refine awp_ret ?_
              simp only [hn, hp, ← hc, decide_true, Bool.and_false]
              refine ends_ev rfl ?_
              simp only [go_sem]
              exact Co.refl _
          · rw [List.drop_eq_nil_of_le (by omega), List.drop_eq_nil_of_le (by omega)] at hc
            simp only [eqTys] at hc
            refine awp_seq_k (fun K11 hK11 => ?_)
            refine awp_seq_k (fun K12 hK12 => ?_)
            refine awp_plain 5 (by kernel_rfl) rfl (fun g4 hg4 => ?_)
            simp only [go_sem, tyC, ha]
            refine hK12 _ ?_
            refine awp_f rfl ?_
            refine awp_exit ?_
            refine hK4 _ ?_
            refine awp_seq_k (fun K13 hK13 => ?_)
            refine awp_plain 1 (by kernel_rfl) rfl (fun g8 hg8 => ?_)
            simp only [go_sem]
            refine hK13 _ ?_
            refine awp_ret ?_
            simp only [hn, hp, ← hc, decide_true, Bool.and_true]
            refine ends_ev rfl ?_
            simp only [go_sem]
            exact Co.refl _
      · have hl' : ¬ ((t.args.length : Int) = u.args.length) := by omega
        refine awp_plain 21 (by kernel_rfl) rfl (fun g1 hg1 => ?_)
        simp only [go_sem, hn, hp, hl']
        refine hK3 _ ?_
        refine awp_t rfl ?_
        refine awp_seq_k (fun K14 hK14 => ?_)
        refine awp_plain 1 (by kernel_rfl) rfl (fun g2 hg2 => ?_)
        simp only [go_sem]
        refine hK14 _ ?_
        refine awp_ret ?_
        simp only [eqTys_length hl, Bool.and_false]
        refine ends_ev rfl ?_
        simp only [go_sem]
        exact Co.refl _
    · refine awp_plain 21 (by kernel_rfl) rfl (fun g1 hg1 => ?_)
      simp only [go_sem, hn, hp]
      refine hK3 _ ?_
      refine awp_t rfl ?_
      refine awp_seq_k (fun K15 hK15 => ?_)
      refine awp_plain 1 (by kernel_rfl) rfl (fun g2 hg2 => ?_)
      simp only [go_sem]
      refine hK15 _ ?_
      refine awp_ret ?_
      simp only [hp, decide_false, Bool.and_false, Bool.false_and]
      refine ends_ev rfl ?_
      simp only [go_sem]
      exact Co.refl _
  · refine awp_plain 21 (by kernel_rfl) rfl (fun g1 hg1 => ?_)
    simp only [go_sem, hn]
    refine hK3 _ ?_
    refine awp_t rfl ?_
    refine awp_seq_k (fun K16 hK16 => ?_)
    refine awp_plain 1 (by kernel_rfl) rfl (fun g2 hg2 => ?_)
    simp only [go_sem]
    refine hK16 _ ?_
    refine awp_ret ?_
    simp only [hn, decide_false, Bool.false_and]
    refine ends_ev rfl ?_
    simp only [go_sem]
    exact Co.refl _

end Go.Proofs.T


namespace Go.Proofs.T
open Go Go.Ab Go.RowKit

/-! ## Names of formals -/

theorem names_calls (l : List Formal) (hl : l.length ≤ 1000000) (g d : Nat) : ACalls E 35 [slFm l] [] g d (slS (l.map (·.name))) [] := by
  refine acalls_of_awp (fn := Tryd.f35) (N := 19) Tryd.call35 Tryd.func35 rfl rfl (by simp) ?_
  simp only [go_sem]
  refine awp_seq_k (fun K1 hK1 => ?_)
  refine awp_plain 1 (by kernel_rfl) rfl (fun g0 hg0 => ?_)
  simp only [go_sem]
  refine hK1 _ ?_
  refine awp_seq_k (fun K2 hK2 => ?_)
  refine awp_plain 1 (by kernel_rfl) rfl (fun g1 hg1 => ?_)
  simp only [go_sem]
  refine hK2 _ ?_
  refine awp_seq_k (fun K3 hK3 => ?_)
  refine awp_seq_k (fun K4 hK4 => ?_)
  refine awp_plain 3 (by kernel_rfl) rfl (fun g2 hg2 => ?_)
  simp only [go_sem]
  refine hK4 _ ?_
  refine awp_block ?_
  refine awp_nil 3 9 1 rfl fun gn hgn => ?_
  refine awp_loop (fun m s => ∃ k a i, k ≤ l.length ∧ m = l.length - k ∧
      Le { env := [(6, slFm l), (7, dN l.length), (8, dN k), (3, .own ⟨a, i, 0⟩ k)], σ := [(⟨a, i, 0⟩, .arr 9 1 ((l.take k).map fun f => encS f.name))] } s) l.length ?_ ?_
  · refine ⟨0, gn, 0, Nat.zero_le _, rfl, le_of ?_⟩
    simp only [go_sem]
    trivial
  · rintro m s ⟨k, a, i, hk, rfl, hle⟩
    refine awp_keep hle ?_
    clear hle
    by_cases h : k < l.length
    · refine awp_seq_k (fun K5 hK5 => ?_)
      refine awp_plain 1 (by kernel_rfl) rfl (fun g3 hg3 => ?_)
      simp only [go_sem, h]
      refine hK5 _ ?_
      refine awp_seq_k (fun K6 hK6 => ?_)
      refine awp_t rfl ?_
      refine awp_skip ?_
      refine hK6 _ ?_
      refine awp_seq_k (fun K7 hK7 => ?_)
      refine awp_block ?_
      refine awp_seq_k (fun K8 hK8 => ?_)
      refine awp_plain 4 (by kernel_rfl) rfl (fun g4 hg4 => ?_)
      simp only [go_sem, getM h]
      refine hK8 _ ?_
      have hn4_a : g4 ≠ a := fresh_g hg4 i 0 (by simp [go_sem])
      refine awp_ops (by kernel_rfl) rfl (fun g5 hg5 ops5 KR5 hops5 hKR5 => ?_)
      refine aops_eval 4 hops5 ?_
      simp only [go_sem, Ne.symm hn4_a]
      refine aops_app hops5 rfl rfl rfl rfl rfl es48 sz9 by9 ze9 rfl (by decide) ?_
      simp only [go_sem, List.length_take_of_le (Nat.le_of_lt h), hn4_a]
      first | refine ⟨⟨by omega, by omega⟩, ?_⟩ | skip
      refine aops_last 1 hops5 ?_
      simp only [go_sem]
      refine hKR5 _ ?_
      refine hK7 _ ?_
      refine awp_plain 2 (by kernel_rfl) rfl (fun g6 hg6 => ?_)
      simp only [go_sem]
      try simp (disch := omega) only [wrapN]
      refine ⟨_, ?_, k + 1, g5, 16, h, rfl, le_of ?_⟩
      · omega
      simp only [go_sem, ← takeM _ h]
      omega
    · refine awp_seq_k (fun K9 hK9 => ?_)
      refine awp_plain 1 (by kernel_rfl) rfl (fun g3 hg3 => ?_)
      simp only [go_sem, h]
      refine hK9 _ ?_
      refine awp_seq_k (fun K10 hK10 => ?_)
      refine awp_f rfl ?_
      refine awp_exit ?_
      refine hK3 _ ?_
      refine awp_seq_k (fun K11 hK11 => ?_)
      refine awp_plain 2 (by kernel_rfl) rfl (fun g7 hg7 => ?_)
      simp only [go_sem]
      refine hK11 _ ?_
      refine awp_ret ?_
      have : k = l.length := by omega
      subst this
      refine ret_frz ⟨a, i, 0⟩ ?_
      simp only [go_sem]
      refine ends_ev rfl ?_
      simp only [go_sem]
      exact Co.of_eq (by simp [Function.comp_def, encS])

end Go.Proofs.T

