/-
  The table of types of this seat, told lemma by lemma (written by gentypes.py out of the translation).
-/
import Derived.Test.YtfdlcefiidanlaaProg
import Derived.Test.YtfdlcefiidanlaaAL18
set_option linter.unusedSimpArgs false
set_option maxRecDepth 10000
namespace Go.Proofs.Ytfdlcefiidanlaa.T
open Go Go.AL
theorem sz1 : tsz Try.prog 1 = some 1 := by kernel_rfl
theorem by1 : tby Try.prog 1 = some 8 := by kernel_rfl
theorem ag1 : tagg Try.prog 1 = some false := by kernel_rfl
theorem sl1 : tsl Try.prog 1 = none := by kernel_rfl
theorem ar1 : tarr Try.prog 1 = none := by kernel_rfl
theorem pt1 : tptr Try.prog 1 = none := by kernel_rfl
theorem un1 : (Try.prog.underlying 1).isSome = true := by kernel_rfl
theorem po1 : tpos Try.prog 1 = true := by kernel_rfl
def z1 : AV := .val .nilFunc
theorem zo1 : ZeroOK Try.prog 1 z1 := ZeroOK.mk (.nilFunc) (by kernel_rfl) (by kernel_rfl) (by kernel_rfl) (by kernel_rfl)
theorem sz2 : tsz Try.prog 2 = some 1 := by kernel_rfl
theorem by2 : tby Try.prog 2 = some 8 := by kernel_rfl
theorem ag2 : tagg Try.prog 2 = some false := by kernel_rfl
theorem sl2 : tsl Try.prog 2 = none := by kernel_rfl
theorem ar2 : tarr Try.prog 2 = none := by kernel_rfl
theorem pt2 : tptr Try.prog 2 = none := by kernel_rfl
theorem in2 : tint Try.prog 2 = some .i64 := by kernel_rfl
theorem un2 : (Try.prog.underlying 2).isSome = true := by kernel_rfl
theorem po2 : tpos Try.prog 2 = true := by kernel_rfl
def z2 : AV := .val (.int .i64 0)
theorem zo2 : ZeroOK Try.prog 2 z2 := ZeroOK.mk (.int .i64 0) (by kernel_rfl) (by kernel_rfl) (by kernel_rfl) (by kernel_rfl)
theorem sz3 : tsz Try.prog 3 = some 1 := by kernel_rfl
theorem by3 : tby Try.prog 3 = some 8 := by kernel_rfl
theorem ag3 : tagg Try.prog 3 = some false := by kernel_rfl
theorem sl3 : tsl Try.prog 3 = none := by kernel_rfl
theorem ar3 : tarr Try.prog 3 = none := by kernel_rfl
theorem pt3 : tptr Try.prog 3 = none := by kernel_rfl
theorem in3 : tint Try.prog 3 = some .i64 := by kernel_rfl
theorem un3 : (Try.prog.underlying 3).isSome = true := by kernel_rfl
theorem po3 : tpos Try.prog 3 = true := by kernel_rfl
def z3 : AV := .val (.int .i64 0)
theorem zo3 : ZeroOK Try.prog 3 z3 := ZeroOK.mk (.int .i64 0) (by kernel_rfl) (by kernel_rfl) (by kernel_rfl) (by kernel_rfl)
theorem sz4 : tsz Try.prog 4 = some 1 := by kernel_rfl
theorem by4 : tby Try.prog 4 = some 1 := by kernel_rfl
theorem ag4 : tagg Try.prog 4 = some false := by kernel_rfl
theorem sl4 : tsl Try.prog 4 = none := by kernel_rfl
theorem ar4 : tarr Try.prog 4 = none := by kernel_rfl
theorem pt4 : tptr Try.prog 4 = none := by kernel_rfl
theorem un4 : (Try.prog.underlying 4).isSome = true := by kernel_rfl
theorem tb4 : tbool Try.prog 4 = some () := by kernel_rfl
theorem po4 : tpos Try.prog 4 = true := by kernel_rfl
def z4 : AV := .val (.bool false)
theorem zo4 : ZeroOK Try.prog 4 z4 := ZeroOK.mk (.bool false) (by kernel_rfl) (by kernel_rfl) (by kernel_rfl) (by kernel_rfl)
theorem sz5 : tsz Try.prog 5 = some 1 := by kernel_rfl
theorem by5 : tby Try.prog 5 = some 1 := by kernel_rfl
theorem ag5 : tagg Try.prog 5 = some false := by kernel_rfl
theorem sl5 : tsl Try.prog 5 = none := by kernel_rfl
theorem ar5 : tarr Try.prog 5 = none := by kernel_rfl
theorem pt5 : tptr Try.prog 5 = none := by kernel_rfl
theorem in5 : tint Try.prog 5 = some .u8 := by kernel_rfl
theorem un5 : (Try.prog.underlying 5).isSome = true := by kernel_rfl
theorem po5 : tpos Try.prog 5 = true := by kernel_rfl
def z5 : AV := .val (.int .u8 0)
theorem zo5 : ZeroOK Try.prog 5 z5 := ZeroOK.mk (.int .u8 0) (by kernel_rfl) (by kernel_rfl) (by kernel_rfl) (by kernel_rfl)
theorem sz6 : tsz Try.prog 6 = some 1 := by kernel_rfl
theorem by6 : tby Try.prog 6 = some 1 := by kernel_rfl
theorem ag6 : tagg Try.prog 6 = some false := by kernel_rfl
theorem sl6 : tsl Try.prog 6 = none := by kernel_rfl
theorem ar6 : tarr Try.prog 6 = none := by kernel_rfl
theorem pt6 : tptr Try.prog 6 = none := by kernel_rfl
theorem in6 : tint Try.prog 6 = some .u8 := by kernel_rfl
theorem un6 : (Try.prog.underlying 6).isSome = true := by kernel_rfl
theorem po6 : tpos Try.prog 6 = true := by kernel_rfl
def z6 : AV := .val (.int .u8 0)
theorem zo6 : ZeroOK Try.prog 6 z6 := ZeroOK.mk (.int .u8 0) (by kernel_rfl) (by kernel_rfl) (by kernel_rfl) (by kernel_rfl)
theorem sz7 : tsz Try.prog 7 = some 4 := by kernel_rfl
theorem by7 : tby Try.prog 7 = some 24 := by kernel_rfl
theorem ag7 : tagg Try.prog 7 = some true := by kernel_rfl
theorem sl7 : tsl Try.prog 7 = none := by kernel_rfl
theorem ar7 : tarr Try.prog 7 = none := by kernel_rfl
theorem pt7 : tptr Try.prog 7 = none := by kernel_rfl
theorem un7 : (Try.prog.underlying 7).isSome = true := by kernel_rfl
theorem fl7_0 : tfld Try.prog 7 0 = some (0, 2) := by kernel_rfl
theorem fl7_1 : tfld Try.prog 7 1 = some (1, 3) := by kernel_rfl
theorem fl7_2 : tfld Try.prog 7 2 = some (2, 4) := by kernel_rfl
theorem fl7_3 : tfld Try.prog 7 3 = some (3, 6) := by kernel_rfl
theorem fs7 : tflds Try.prog 7 = true := by kernel_rfl
theorem po7 : tpos Try.prog 7 = true := by kernel_rfl
theorem tq7 : teq Try.prog 7 = true := by kernel_rfl
def z7 : AV := .agg 4 [.val (.int .i64 0), .val (.int .i64 0), .val (.bool false), .val (.int .u8 0)]
theorem zo7 : ZeroOK Try.prog 7 z7 := ZeroOK.mk (.agg #[.int .i64 0, .int .i64 0, .bool false, .int .u8 0]) (by kernel_rfl) (by kernel_rfl) (by kernel_rfl) (by kernel_rfl)
theorem sz8 : tsz Try.prog 8 = some 4 := by kernel_rfl
theorem by8 : tby Try.prog 8 = some 24 := by kernel_rfl
theorem ag8 : tagg Try.prog 8 = some true := by kernel_rfl
theorem sl8 : tsl Try.prog 8 = none := by kernel_rfl
theorem ar8 : tarr Try.prog 8 = none := by kernel_rfl
theorem pt8 : tptr Try.prog 8 = none := by kernel_rfl
theorem un8 : (Try.prog.underlying 8).isSome = true := by kernel_rfl
theorem fl8_0 : tfld Try.prog 8 0 = some (0, 2) := by kernel_rfl
theorem fl8_1 : tfld Try.prog 8 1 = some (1, 3) := by kernel_rfl
theorem fl8_2 : tfld Try.prog 8 2 = some (2, 4) := by kernel_rfl
theorem fl8_3 : tfld Try.prog 8 3 = some (3, 6) := by kernel_rfl
theorem fs8 : tflds Try.prog 8 = true := by kernel_rfl
theorem po8 : tpos Try.prog 8 = true := by kernel_rfl
theorem tq8 : teq Try.prog 8 = true := by kernel_rfl
def z8 : AV := .agg 4 [.val (.int .i64 0), .val (.int .i64 0), .val (.bool false), .val (.int .u8 0)]
theorem zo8 : ZeroOK Try.prog 8 z8 := ZeroOK.mk (.agg #[.int .i64 0, .int .i64 0, .bool false, .int .u8 0]) (by kernel_rfl) (by kernel_rfl) (by kernel_rfl) (by kernel_rfl)
theorem sz9 : tsz Try.prog 9 = some 1 := by kernel_rfl
theorem by9 : tby Try.prog 9 = some 16 := by kernel_rfl
theorem ag9 : tagg Try.prog 9 = some false := by kernel_rfl
theorem sl9 : tsl Try.prog 9 = none := by kernel_rfl
theorem ar9 : tarr Try.prog 9 = none := by kernel_rfl
theorem pt9 : tptr Try.prog 9 = none := by kernel_rfl
theorem st9 : tstr Try.prog 9 = some () := by kernel_rfl
theorem un9 : (Try.prog.underlying 9).isSome = true := by kernel_rfl
theorem po9 : tpos Try.prog 9 = true := by kernel_rfl
def z9 : AV := .val (.string ByteArray.empty)
theorem zo9 : ZeroOK Try.prog 9 z9 := ZeroOK.mk (.string ByteArray.empty) (by kernel_rfl) (by kernel_rfl) (by kernel_rfl) (by kernel_rfl)
theorem sz10 : tsz Try.prog 10 = some 1 := by kernel_rfl
theorem by10 : tby Try.prog 10 = some 16 := by kernel_rfl
theorem ag10 : tagg Try.prog 10 = some false := by kernel_rfl
theorem sl10 : tsl Try.prog 10 = none := by kernel_rfl
theorem ar10 : tarr Try.prog 10 = none := by kernel_rfl
theorem pt10 : tptr Try.prog 10 = none := by kernel_rfl
theorem st10 : tstr Try.prog 10 = some () := by kernel_rfl
theorem un10 : (Try.prog.underlying 10).isSome = true := by kernel_rfl
theorem po10 : tpos Try.prog 10 = true := by kernel_rfl
def z10 : AV := .val (.string ByteArray.empty)
theorem zo10 : ZeroOK Try.prog 10 z10 := ZeroOK.mk (.string ByteArray.empty) (by kernel_rfl) (by kernel_rfl) (by kernel_rfl) (by kernel_rfl)
theorem sz11 : tsz Try.prog 11 = some 1 := by kernel_rfl
theorem by11 : tby Try.prog 11 = some 16 := by kernel_rfl
theorem ag11 : tagg Try.prog 11 = some false := by kernel_rfl
theorem sl11 : tsl Try.prog 11 = none := by kernel_rfl
theorem ar11 : tarr Try.prog 11 = none := by kernel_rfl
theorem pt11 : tptr Try.prog 11 = none := by kernel_rfl
theorem st11 : tstr Try.prog 11 = some () := by kernel_rfl
theorem un11 : (Try.prog.underlying 11).isSome = true := by kernel_rfl
theorem po11 : tpos Try.prog 11 = true := by kernel_rfl
def z11 : AV := .val (.string ByteArray.empty)
theorem zo11 : ZeroOK Try.prog 11 z11 := ZeroOK.mk (.string ByteArray.empty) (by kernel_rfl) (by kernel_rfl) (by kernel_rfl) (by kernel_rfl)
theorem sz12 : tsz Try.prog 12 = some 1 := by kernel_rfl
theorem by12 : tby Try.prog 12 = some 8 := by kernel_rfl
theorem ag12 : tagg Try.prog 12 = some false := by kernel_rfl
theorem sl12 : tsl Try.prog 12 = none := by kernel_rfl
theorem ar12 : tarr Try.prog 12 = none := by kernel_rfl
theorem pt12 : tptr Try.prog 12 = none := by kernel_rfl
theorem in12 : tint Try.prog 12 = some .u64 := by kernel_rfl
theorem un12 : (Try.prog.underlying 12).isSome = true := by kernel_rfl
theorem po12 : tpos Try.prog 12 = true := by kernel_rfl
def z12 : AV := .val (.int .u64 0)
theorem zo12 : ZeroOK Try.prog 12 z12 := ZeroOK.mk (.int .u64 0) (by kernel_rfl) (by kernel_rfl) (by kernel_rfl) (by kernel_rfl)
theorem sz13 : tsz Try.prog 13 = some 2 := by kernel_rfl
theorem by13 : tby Try.prog 13 = some 24 := by kernel_rfl
theorem ag13 : tagg Try.prog 13 = some true := by kernel_rfl
theorem sl13 : tsl Try.prog 13 = none := by kernel_rfl
theorem ar13 : tarr Try.prog 13 = none := by kernel_rfl
theorem pt13 : tptr Try.prog 13 = none := by kernel_rfl
theorem un13 : (Try.prog.underlying 13).isSome = true := by kernel_rfl
theorem fl13_0 : tfld Try.prog 13 0 = some (0, 9) := by kernel_rfl
theorem fl13_1 : tfld Try.prog 13 1 = some (1, 12) := by kernel_rfl
theorem fs13 : tflds Try.prog 13 = true := by kernel_rfl
theorem po13 : tpos Try.prog 13 = true := by kernel_rfl
theorem tq13 : teq Try.prog 13 = true := by kernel_rfl
def z13 : AV := .agg 2 [.val (.string ByteArray.empty), .val (.int .u64 0)]
theorem zo13 : ZeroOK Try.prog 13 z13 := ZeroOK.mk (.agg #[.string ByteArray.empty, .int .u64 0]) (by kernel_rfl) (by kernel_rfl) (by kernel_rfl) (by kernel_rfl)
theorem sz14 : tsz Try.prog 14 = some 2 := by kernel_rfl
theorem by14 : tby Try.prog 14 = some 24 := by kernel_rfl
theorem ag14 : tagg Try.prog 14 = some true := by kernel_rfl
theorem sl14 : tsl Try.prog 14 = none := by kernel_rfl
theorem ar14 : tarr Try.prog 14 = none := by kernel_rfl
theorem pt14 : tptr Try.prog 14 = none := by kernel_rfl
theorem un14 : (Try.prog.underlying 14).isSome = true := by kernel_rfl
theorem fl14_0 : tfld Try.prog 14 0 = some (0, 9) := by kernel_rfl
theorem fl14_1 : tfld Try.prog 14 1 = some (1, 12) := by kernel_rfl
theorem fs14 : tflds Try.prog 14 = true := by kernel_rfl
theorem po14 : tpos Try.prog 14 = true := by kernel_rfl
theorem tq14 : teq Try.prog 14 = true := by kernel_rfl
def z14 : AV := .agg 2 [.val (.string ByteArray.empty), .val (.int .u64 0)]
theorem zo14 : ZeroOK Try.prog 14 z14 := ZeroOK.mk (.agg #[.string ByteArray.empty, .int .u64 0]) (by kernel_rfl) (by kernel_rfl) (by kernel_rfl) (by kernel_rfl)
theorem sz15 : tsz Try.prog 15 = some 1 := by kernel_rfl
theorem by15 : tby Try.prog 15 = some 8 := by kernel_rfl
theorem ag15 : tagg Try.prog 15 = some false := by kernel_rfl
theorem sl15 : tsl Try.prog 15 = none := by kernel_rfl
theorem ar15 : tarr Try.prog 15 = none := by kernel_rfl
theorem pt15 : tptr Try.prog 15 = some 100 := by kernel_rfl
theorem un15 : (Try.prog.underlying 15).isSome = true := by kernel_rfl
theorem po15 : tpos Try.prog 15 = true := by kernel_rfl
def z15 : AV := .val (.pointer none)
theorem zo15 : ZeroOK Try.prog 15 z15 := ZeroOK.mk (.pointer none) (by kernel_rfl) (by kernel_rfl) (by kernel_rfl) (by kernel_rfl)
theorem sz16 : tsz Try.prog 16 = some 1 := by kernel_rfl
theorem by16 : tby Try.prog 16 = some 8 := by kernel_rfl
theorem ag16 : tagg Try.prog 16 = some false := by kernel_rfl
theorem sl16 : tsl Try.prog 16 = none := by kernel_rfl
theorem ar16 : tarr Try.prog 16 = none := by kernel_rfl
theorem pt16 : tptr Try.prog 16 = some 103 := by kernel_rfl
theorem un16 : (Try.prog.underlying 16).isSome = true := by kernel_rfl
theorem po16 : tpos Try.prog 16 = true := by kernel_rfl
def z16 : AV := .val (.pointer none)
theorem zo16 : ZeroOK Try.prog 16 z16 := ZeroOK.mk (.pointer none) (by kernel_rfl) (by kernel_rfl) (by kernel_rfl) (by kernel_rfl)
theorem sz17 : tsz Try.prog 17 = some 1 := by kernel_rfl
theorem by17 : tby Try.prog 17 = some 8 := by kernel_rfl
theorem ag17 : tagg Try.prog 17 = some false := by kernel_rfl
theorem sl17 : tsl Try.prog 17 = none := by kernel_rfl
theorem ar17 : tarr Try.prog 17 = none := by kernel_rfl
theorem pt17 : tptr Try.prog 17 = some 111 := by kernel_rfl
theorem un17 : (Try.prog.underlying 17).isSome = true := by kernel_rfl
theorem po17 : tpos Try.prog 17 = true := by kernel_rfl
def z17 : AV := .val (.pointer none)
theorem zo17 : ZeroOK Try.prog 17 z17 := ZeroOK.mk (.pointer none) (by kernel_rfl) (by kernel_rfl) (by kernel_rfl) (by kernel_rfl)
theorem sz18 : tsz Try.prog 18 = some 1 := by kernel_rfl
theorem by18 : tby Try.prog 18 = some 8 := by kernel_rfl
theorem ag18 : tagg Try.prog 18 = some true := by kernel_rfl
theorem sl18 : tsl Try.prog 18 = none := by kernel_rfl
theorem ar18 : tarr Try.prog 18 = none := by kernel_rfl
theorem pt18 : tptr Try.prog 18 = none := by kernel_rfl
theorem un18 : (Try.prog.underlying 18).isSome = true := by kernel_rfl
theorem fl18_0 : tfld Try.prog 18 0 = some (0, 17) := by kernel_rfl
theorem fs18 : tflds Try.prog 18 = true := by kernel_rfl
theorem po18 : tpos Try.prog 18 = true := by kernel_rfl
def z18 : AV := .agg 1 [.val (.pointer none)]
theorem zo18 : ZeroOK Try.prog 18 z18 := ZeroOK.mk (.agg #[.pointer none]) (by kernel_rfl) (by kernel_rfl) (by kernel_rfl) (by kernel_rfl)
theorem sz19 : tsz Try.prog 19 = some 1 := by kernel_rfl
theorem by19 : tby Try.prog 19 = some 8 := by kernel_rfl
theorem ag19 : tagg Try.prog 19 = some true := by kernel_rfl
theorem sl19 : tsl Try.prog 19 = none := by kernel_rfl
theorem ar19 : tarr Try.prog 19 = none := by kernel_rfl
theorem pt19 : tptr Try.prog 19 = none := by kernel_rfl
theorem un19 : (Try.prog.underlying 19).isSome = true := by kernel_rfl
theorem fl19_0 : tfld Try.prog 19 0 = some (0, 17) := by kernel_rfl
theorem fs19 : tflds Try.prog 19 = true := by kernel_rfl
theorem po19 : tpos Try.prog 19 = true := by kernel_rfl
def z19 : AV := .agg 1 [.val (.pointer none)]
theorem zo19 : ZeroOK Try.prog 19 z19 := ZeroOK.mk (.agg #[.pointer none]) (by kernel_rfl) (by kernel_rfl) (by kernel_rfl) (by kernel_rfl)
theorem sz20 : tsz Try.prog 20 = some 1 := by kernel_rfl
theorem by20 : tby Try.prog 20 = some 16 := by kernel_rfl
theorem ag20 : tagg Try.prog 20 = some false := by kernel_rfl
theorem sl20 : tsl Try.prog 20 = none := by kernel_rfl
theorem ar20 : tarr Try.prog 20 = none := by kernel_rfl
theorem pt20 : tptr Try.prog 20 = none := by kernel_rfl
theorem un20 : (Try.prog.underlying 20).isSome = true := by kernel_rfl
theorem po20 : tpos Try.prog 20 = true := by kernel_rfl
def z20 : AV := .val .nilIface
theorem zo20 : ZeroOK Try.prog 20 z20 := ZeroOK.mk (.nilIface) (by kernel_rfl) (by kernel_rfl) (by kernel_rfl) (by kernel_rfl)
theorem sz21 : tsz Try.prog 21 = some 1 := by kernel_rfl
theorem by21 : tby Try.prog 21 = some 4 := by kernel_rfl
theorem ag21 : tagg Try.prog 21 = some false := by kernel_rfl
theorem sl21 : tsl Try.prog 21 = none := by kernel_rfl
theorem ar21 : tarr Try.prog 21 = none := by kernel_rfl
theorem pt21 : tptr Try.prog 21 = none := by kernel_rfl
theorem in21 : tint Try.prog 21 = some .i32 := by kernel_rfl
theorem un21 : (Try.prog.underlying 21).isSome = true := by kernel_rfl
theorem po21 : tpos Try.prog 21 = true := by kernel_rfl
def z21 : AV := .val (.int .i32 0)
theorem zo21 : ZeroOK Try.prog 21 z21 := ZeroOK.mk (.int .i32 0) (by kernel_rfl) (by kernel_rfl) (by kernel_rfl) (by kernel_rfl)
theorem sz22 : tsz Try.prog 22 = some 1 := by kernel_rfl
theorem by22 : tby Try.prog 22 = some 24 := by kernel_rfl
theorem ag22 : tagg Try.prog 22 = some false := by kernel_rfl
theorem sl22 : tsl Try.prog 22 = some 26 := by kernel_rfl
theorem ar22 : tarr Try.prog 22 = none := by kernel_rfl
theorem pt22 : tptr Try.prog 22 = none := by kernel_rfl
theorem un22 : (Try.prog.underlying 22).isSome = true := by kernel_rfl
theorem po22 : tpos Try.prog 22 = true := by kernel_rfl
def z22 : AV := .sl 11 [] 1
theorem zo22 : ZeroOK Try.prog 22 z22 := ZeroOK.mk (.slice none 0 0) (by kernel_rfl) (by kernel_rfl) (by kernel_rfl) (by kernel_rfl)
theorem sz23 : tsz Try.prog 23 = some 1 := by kernel_rfl
theorem by23 : tby Try.prog 23 = some 8 := by kernel_rfl
theorem ag23 : tagg Try.prog 23 = some false := by kernel_rfl
theorem sl23 : tsl Try.prog 23 = none := by kernel_rfl
theorem ar23 : tarr Try.prog 23 = none := by kernel_rfl
theorem pt23 : tptr Try.prog 23 = none := by kernel_rfl
theorem un23 : (Try.prog.underlying 23).isSome = true := by kernel_rfl
theorem po23 : tpos Try.prog 23 = true := by kernel_rfl
def z23 : AV := .val .nilFunc
theorem zo23 : ZeroOK Try.prog 23 z23 := ZeroOK.mk (.nilFunc) (by kernel_rfl) (by kernel_rfl) (by kernel_rfl) (by kernel_rfl)
theorem sz24 : tsz Try.prog 24 = some 1 := by kernel_rfl
theorem by24 : tby Try.prog 24 = some 8 := by kernel_rfl
theorem ag24 : tagg Try.prog 24 = some false := by kernel_rfl
theorem sl24 : tsl Try.prog 24 = none := by kernel_rfl
theorem ar24 : tarr Try.prog 24 = none := by kernel_rfl
theorem pt24 : tptr Try.prog 24 = none := by kernel_rfl
theorem in24 : tint Try.prog 24 = some .i64 := by kernel_rfl
theorem un24 : (Try.prog.underlying 24).isSome = true := by kernel_rfl
theorem po24 : tpos Try.prog 24 = true := by kernel_rfl
def z24 : AV := .val (.int .i64 0)
theorem zo24 : ZeroOK Try.prog 24 z24 := ZeroOK.mk (.int .i64 0) (by kernel_rfl) (by kernel_rfl) (by kernel_rfl) (by kernel_rfl)
theorem sz25 : tsz Try.prog 25 = some 11 := by kernel_rfl
theorem by25 : tby Try.prog 25 = some 88 := by kernel_rfl
theorem ag25 : tagg Try.prog 25 = some true := by kernel_rfl
theorem sl25 : tsl Try.prog 25 = none := by kernel_rfl
theorem ar25 : tarr Try.prog 25 = none := by kernel_rfl
theorem pt25 : tptr Try.prog 25 = none := by kernel_rfl
theorem un25 : (Try.prog.underlying 25).isSome = true := by kernel_rfl
theorem fl25_0 : tfld Try.prog 25 0 = some (0, 24) := by kernel_rfl
theorem fl25_1 : tfld Try.prog 25 1 = some (1, 3) := by kernel_rfl
theorem fl25_2 : tfld Try.prog 25 2 = some (2, 3) := by kernel_rfl
theorem fl25_3 : tfld Try.prog 25 3 = some (3, 3) := by kernel_rfl
theorem fl25_4 : tfld Try.prog 25 4 = some (4, 2) := by kernel_rfl
theorem fl25_5 : tfld Try.prog 25 5 = some (5, 2) := by kernel_rfl
theorem fl25_6 : tfld Try.prog 25 6 = some (6, 2) := by kernel_rfl
theorem fl25_7 : tfld Try.prog 25 7 = some (7, 2) := by kernel_rfl
theorem fl25_8 : tfld Try.prog 25 8 = some (8, 2) := by kernel_rfl
theorem fl25_9 : tfld Try.prog 25 9 = some (9, 3) := by kernel_rfl
theorem fl25_10 : tfld Try.prog 25 10 = some (10, 3) := by kernel_rfl
theorem fs25 : tflds Try.prog 25 = true := by kernel_rfl
theorem po25 : tpos Try.prog 25 = true := by kernel_rfl
theorem tq25 : teq Try.prog 25 = true := by kernel_rfl
theorem tc25 : tcmp Try.prog 25 = some [(0, 24), (1, 3), (2, 3), (3, 3), (4, 2), (5, 2), (6, 2), (7, 2), (8, 2), (9, 3), (10, 3)] := by kernel_rfl
def z25 : AV := .agg 11 [.val (.int .i64 0), .val (.int .i64 0), .val (.int .i64 0), .val (.int .i64 0), .val (.int .i64 0), .val (.int .i64 0), .val (.int .i64 0), .val (.int .i64 0), .val (.int .i64 0), .val (.int .i64 0), .val (.int .i64 0)]
theorem zo25 : ZeroOK Try.prog 25 z25 := ZeroOK.mk (.agg #[.int .i64 0, .int .i64 0, .int .i64 0, .int .i64 0, .int .i64 0, .int .i64 0, .int .i64 0, .int .i64 0, .int .i64 0, .int .i64 0, .int .i64 0]) (by kernel_rfl) (by kernel_rfl) (by kernel_rfl) (by kernel_rfl)
theorem sz26 : tsz Try.prog 26 = some 11 := by kernel_rfl
theorem by26 : tby Try.prog 26 = some 88 := by kernel_rfl
theorem ag26 : tagg Try.prog 26 = some true := by kernel_rfl
theorem sl26 : tsl Try.prog 26 = none := by kernel_rfl
theorem ar26 : tarr Try.prog 26 = none := by kernel_rfl
theorem pt26 : tptr Try.prog 26 = none := by kernel_rfl
theorem un26 : (Try.prog.underlying 26).isSome = true := by kernel_rfl
theorem fl26_0 : tfld Try.prog 26 0 = some (0, 24) := by kernel_rfl
theorem fl26_1 : tfld Try.prog 26 1 = some (1, 3) := by kernel_rfl
theorem fl26_2 : tfld Try.prog 26 2 = some (2, 3) := by kernel_rfl
theorem fl26_3 : tfld Try.prog 26 3 = some (3, 3) := by kernel_rfl
theorem fl26_4 : tfld Try.prog 26 4 = some (4, 2) := by kernel_rfl
theorem fl26_5 : tfld Try.prog 26 5 = some (5, 2) := by kernel_rfl
theorem fl26_6 : tfld Try.prog 26 6 = some (6, 2) := by kernel_rfl
theorem fl26_7 : tfld Try.prog 26 7 = some (7, 2) := by kernel_rfl
theorem fl26_8 : tfld Try.prog 26 8 = some (8, 2) := by kernel_rfl
theorem fl26_9 : tfld Try.prog 26 9 = some (9, 3) := by kernel_rfl
theorem fl26_10 : tfld Try.prog 26 10 = some (10, 3) := by kernel_rfl
theorem fs26 : tflds Try.prog 26 = true := by kernel_rfl
theorem po26 : tpos Try.prog 26 = true := by kernel_rfl
theorem tq26 : teq Try.prog 26 = true := by kernel_rfl
theorem tc26 : tcmp Try.prog 26 = some [(0, 24), (1, 3), (2, 3), (3, 3), (4, 2), (5, 2), (6, 2), (7, 2), (8, 2), (9, 3), (10, 3)] := by kernel_rfl
def z26 : AV := .agg 11 [.val (.int .i64 0), .val (.int .i64 0), .val (.int .i64 0), .val (.int .i64 0), .val (.int .i64 0), .val (.int .i64 0), .val (.int .i64 0), .val (.int .i64 0), .val (.int .i64 0), .val (.int .i64 0), .val (.int .i64 0)]
theorem zo26 : ZeroOK Try.prog 26 z26 := ZeroOK.mk (.agg #[.int .i64 0, .int .i64 0, .int .i64 0, .int .i64 0, .int .i64 0, .int .i64 0, .int .i64 0, .int .i64 0, .int .i64 0, .int .i64 0, .int .i64 0]) (by kernel_rfl) (by kernel_rfl) (by kernel_rfl) (by kernel_rfl)
theorem sz27 : tsz Try.prog 27 = some 1 := by kernel_rfl
theorem by27 : tby Try.prog 27 = some 24 := by kernel_rfl
theorem ag27 : tagg Try.prog 27 = some false := by kernel_rfl
theorem sl27 : tsl Try.prog 27 = some 3 := by kernel_rfl
theorem ar27 : tarr Try.prog 27 = none := by kernel_rfl
theorem pt27 : tptr Try.prog 27 = none := by kernel_rfl
theorem un27 : (Try.prog.underlying 27).isSome = true := by kernel_rfl
theorem po27 : tpos Try.prog 27 = true := by kernel_rfl
def z27 : AV := .sl 1 [] 1
theorem zo27 : ZeroOK Try.prog 27 z27 := ZeroOK.mk (.slice none 0 0) (by kernel_rfl) (by kernel_rfl) (by kernel_rfl) (by kernel_rfl)
theorem sz28 : tsz Try.prog 28 = some 1 := by kernel_rfl
theorem by28 : tby Try.prog 28 = some 8 := by kernel_rfl
theorem ag28 : tagg Try.prog 28 = some false := by kernel_rfl
theorem sl28 : tsl Try.prog 28 = none := by kernel_rfl
theorem ar28 : tarr Try.prog 28 = none := by kernel_rfl
theorem pt28 : tptr Try.prog 28 = none := by kernel_rfl
theorem un28 : (Try.prog.underlying 28).isSome = true := by kernel_rfl
theorem po28 : tpos Try.prog 28 = true := by kernel_rfl
def z28 : AV := .val .nilFunc
theorem zo28 : ZeroOK Try.prog 28 z28 := ZeroOK.mk (.nilFunc) (by kernel_rfl) (by kernel_rfl) (by kernel_rfl) (by kernel_rfl)
theorem sz29 : tsz Try.prog 29 = some 1 := by kernel_rfl
theorem by29 : tby Try.prog 29 = some 8 := by kernel_rfl
theorem ag29 : tagg Try.prog 29 = some false := by kernel_rfl
theorem sl29 : tsl Try.prog 29 = none := by kernel_rfl
theorem ar29 : tarr Try.prog 29 = none := by kernel_rfl
theorem pt29 : tptr Try.prog 29 = none := by kernel_rfl
theorem un29 : (Try.prog.underlying 29).isSome = true := by kernel_rfl
theorem po29 : tpos Try.prog 29 = true := by kernel_rfl
def z29 : AV := .val .nilFunc
theorem zo29 : ZeroOK Try.prog 29 z29 := ZeroOK.mk (.nilFunc) (by kernel_rfl) (by kernel_rfl) (by kernel_rfl) (by kernel_rfl)
theorem sz31 : tsz Try.prog 31 = some 1 := by kernel_rfl
theorem by31 : tby Try.prog 31 = some 8 := by kernel_rfl
theorem ag31 : tagg Try.prog 31 = some false := by kernel_rfl
theorem sl31 : tsl Try.prog 31 = none := by kernel_rfl
theorem ar31 : tarr Try.prog 31 = none := by kernel_rfl
theorem pt31 : tptr Try.prog 31 = none := by kernel_rfl
theorem un31 : (Try.prog.underlying 31).isSome = true := by kernel_rfl
theorem po31 : tpos Try.prog 31 = true := by kernel_rfl
def z31 : AV := .val .nilFunc
theorem zo31 : ZeroOK Try.prog 31 z31 := ZeroOK.mk (.nilFunc) (by kernel_rfl) (by kernel_rfl) (by kernel_rfl) (by kernel_rfl)
theorem sz32 : tsz Try.prog 32 = some 1 := by kernel_rfl
theorem by32 : tby Try.prog 32 = some 8 := by kernel_rfl
theorem ag32 : tagg Try.prog 32 = some false := by kernel_rfl
theorem sl32 : tsl Try.prog 32 = none := by kernel_rfl
theorem ar32 : tarr Try.prog 32 = none := by kernel_rfl
theorem pt32 : tptr Try.prog 32 = none := by kernel_rfl
theorem un32 : (Try.prog.underlying 32).isSome = true := by kernel_rfl
theorem po32 : tpos Try.prog 32 = true := by kernel_rfl
def z32 : AV := .val .nilFunc
theorem zo32 : ZeroOK Try.prog 32 z32 := ZeroOK.mk (.nilFunc) (by kernel_rfl) (by kernel_rfl) (by kernel_rfl) (by kernel_rfl)
theorem sz33 : tsz Try.prog 33 = some 1 := by kernel_rfl
theorem by33 : tby Try.prog 33 = some 8 := by kernel_rfl
theorem ag33 : tagg Try.prog 33 = some false := by kernel_rfl
theorem sl33 : tsl Try.prog 33 = none := by kernel_rfl
theorem ar33 : tarr Try.prog 33 = none := by kernel_rfl
theorem pt33 : tptr Try.prog 33 = none := by kernel_rfl
theorem un33 : (Try.prog.underlying 33).isSome = true := by kernel_rfl
theorem po33 : tpos Try.prog 33 = true := by kernel_rfl
def z33 : AV := .val .nilFunc
theorem zo33 : ZeroOK Try.prog 33 z33 := ZeroOK.mk (.nilFunc) (by kernel_rfl) (by kernel_rfl) (by kernel_rfl) (by kernel_rfl)
theorem sz34 : tsz Try.prog 34 = some 1 := by kernel_rfl
theorem by34 : tby Try.prog 34 = some 24 := by kernel_rfl
theorem ag34 : tagg Try.prog 34 = some false := by kernel_rfl
theorem sl34 : tsl Try.prog 34 = some 5 := by kernel_rfl
theorem ar34 : tarr Try.prog 34 = none := by kernel_rfl
theorem pt34 : tptr Try.prog 34 = none := by kernel_rfl
theorem un34 : (Try.prog.underlying 34).isSome = true := by kernel_rfl
theorem po34 : tpos Try.prog 34 = true := by kernel_rfl
def z34 : AV := .sl 1 [] 1
theorem zo34 : ZeroOK Try.prog 34 z34 := ZeroOK.mk (.slice none 0 0) (by kernel_rfl) (by kernel_rfl) (by kernel_rfl) (by kernel_rfl)
theorem sz35 : tsz Try.prog 35 = some 1 := by kernel_rfl
theorem by35 : tby Try.prog 35 = some 24 := by kernel_rfl
theorem ag35 : tagg Try.prog 35 = some true := by kernel_rfl
theorem sl35 : tsl Try.prog 35 = none := by kernel_rfl
theorem ar35 : tarr Try.prog 35 = none := by kernel_rfl
theorem pt35 : tptr Try.prog 35 = none := by kernel_rfl
theorem un35 : (Try.prog.underlying 35).isSome = true := by kernel_rfl
theorem fl35_0 : tfld Try.prog 35 0 = some (0, 34) := by kernel_rfl
theorem fs35 : tflds Try.prog 35 = true := by kernel_rfl
theorem po35 : tpos Try.prog 35 = true := by kernel_rfl
def z35 : AV := .agg 1 [.sl 1 [] 1]
theorem zo35 : ZeroOK Try.prog 35 z35 := ZeroOK.mk (.agg #[.slice none 0 0]) (by kernel_rfl) (by kernel_rfl) (by kernel_rfl) (by kernel_rfl)
theorem sz36 : tsz Try.prog 36 = some 1 := by kernel_rfl
theorem by36 : tby Try.prog 36 = some 24 := by kernel_rfl
theorem ag36 : tagg Try.prog 36 = some true := by kernel_rfl
theorem sl36 : tsl Try.prog 36 = none := by kernel_rfl
theorem ar36 : tarr Try.prog 36 = none := by kernel_rfl
theorem pt36 : tptr Try.prog 36 = none := by kernel_rfl
theorem un36 : (Try.prog.underlying 36).isSome = true := by kernel_rfl
theorem fl36_0 : tfld Try.prog 36 0 = some (0, 34) := by kernel_rfl
theorem fs36 : tflds Try.prog 36 = true := by kernel_rfl
theorem po36 : tpos Try.prog 36 = true := by kernel_rfl
def z36 : AV := .agg 1 [.sl 1 [] 1]
theorem zo36 : ZeroOK Try.prog 36 z36 := ZeroOK.mk (.agg #[.slice none 0 0]) (by kernel_rfl) (by kernel_rfl) (by kernel_rfl) (by kernel_rfl)
theorem sz37 : tsz Try.prog 37 = some 1 := by kernel_rfl
theorem by37 : tby Try.prog 37 = some 8 := by kernel_rfl
theorem ag37 : tagg Try.prog 37 = some false := by kernel_rfl
theorem sl37 : tsl Try.prog 37 = none := by kernel_rfl
theorem ar37 : tarr Try.prog 37 = none := by kernel_rfl
theorem pt37 : tptr Try.prog 37 = some 36 := by kernel_rfl
theorem un37 : (Try.prog.underlying 37).isSome = true := by kernel_rfl
theorem po37 : tpos Try.prog 37 = true := by kernel_rfl
def z37 : AV := .val (.pointer none)
theorem zo37 : ZeroOK Try.prog 37 z37 := ZeroOK.mk (.pointer none) (by kernel_rfl) (by kernel_rfl) (by kernel_rfl) (by kernel_rfl)
theorem sz38 : tsz Try.prog 38 = some 1 := by kernel_rfl
theorem by38 : tby Try.prog 38 = some 8 := by kernel_rfl
theorem ag38 : tagg Try.prog 38 = some false := by kernel_rfl
theorem sl38 : tsl Try.prog 38 = none := by kernel_rfl
theorem ar38 : tarr Try.prog 38 = none := by kernel_rfl
theorem pt38 : tptr Try.prog 38 = none := by kernel_rfl
theorem un38 : (Try.prog.underlying 38).isSome = true := by kernel_rfl
theorem po38 : tpos Try.prog 38 = true := by kernel_rfl
def z38 : AV := .val .nilFunc
theorem zo38 : ZeroOK Try.prog 38 z38 := ZeroOK.mk (.nilFunc) (by kernel_rfl) (by kernel_rfl) (by kernel_rfl) (by kernel_rfl)
theorem sz39 : tsz Try.prog 39 = some 1 := by kernel_rfl
theorem by39 : tby Try.prog 39 = some 8 := by kernel_rfl
theorem ag39 : tagg Try.prog 39 = some false := by kernel_rfl
theorem sl39 : tsl Try.prog 39 = none := by kernel_rfl
theorem ar39 : tarr Try.prog 39 = none := by kernel_rfl
theorem pt39 : tptr Try.prog 39 = none := by kernel_rfl
theorem un39 : (Try.prog.underlying 39).isSome = true := by kernel_rfl
theorem po39 : tpos Try.prog 39 = true := by kernel_rfl
def z39 : AV := .val .nilFunc
theorem zo39 : ZeroOK Try.prog 39 z39 := ZeroOK.mk (.nilFunc) (by kernel_rfl) (by kernel_rfl) (by kernel_rfl) (by kernel_rfl)
theorem sz40 : tsz Try.prog 40 = some 1 := by kernel_rfl
theorem by40 : tby Try.prog 40 = some 8 := by kernel_rfl
theorem ag40 : tagg Try.prog 40 = some false := by kernel_rfl
theorem sl40 : tsl Try.prog 40 = none := by kernel_rfl
theorem ar40 : tarr Try.prog 40 = none := by kernel_rfl
theorem pt40 : tptr Try.prog 40 = none := by kernel_rfl
theorem un40 : (Try.prog.underlying 40).isSome = true := by kernel_rfl
theorem po40 : tpos Try.prog 40 = true := by kernel_rfl
def z40 : AV := .val .nilFunc
theorem zo40 : ZeroOK Try.prog 40 z40 := ZeroOK.mk (.nilFunc) (by kernel_rfl) (by kernel_rfl) (by kernel_rfl) (by kernel_rfl)
theorem sz41 : tsz Try.prog 41 = some 32 := by kernel_rfl
theorem by41 : tby Try.prog 41 = some 32 := by kernel_rfl
theorem ag41 : tagg Try.prog 41 = some true := by kernel_rfl
theorem sl41 : tsl Try.prog 41 = none := by kernel_rfl
theorem ar41 : tarr Try.prog 41 = some (32, 5) := by kernel_rfl
theorem pt41 : tptr Try.prog 41 = none := by kernel_rfl
theorem un41 : (Try.prog.underlying 41).isSome = true := by kernel_rfl
theorem po41 : tpos Try.prog 41 = true := by kernel_rfl
theorem tq41 : teq Try.prog 41 = true := by kernel_rfl
def z41 : AV := .vec 1 (List.replicate 32 (.val (.int .u8 0)))
theorem zo41 : ZeroOK Try.prog 41 z41 := ZeroOK.mk (.agg #[.int .u8 0, .int .u8 0, .int .u8 0, .int .u8 0, .int .u8 0, .int .u8 0, .int .u8 0, .int .u8 0, .int .u8 0, .int .u8 0, .int .u8 0, .int .u8 0, .int .u8 0, .int .u8 0, .int .u8 0, .int .u8 0, .int .u8 0, .int .u8 0, .int .u8 0, .int .u8 0, .int .u8 0, .int .u8 0, .int .u8 0, .int .u8 0, .int .u8 0, .int .u8 0, .int .u8 0, .int .u8 0, .int .u8 0, .int .u8 0, .int .u8 0, .int .u8 0]) (by kernel_rfl) (by kernel_rfl) (by kernel_rfl) (by kernel_rfl)
theorem sz42 : tsz Try.prog 42 = some 32 := by kernel_rfl
theorem by42 : tby Try.prog 42 = some 32 := by kernel_rfl
theorem ag42 : tagg Try.prog 42 = some true := by kernel_rfl
theorem sl42 : tsl Try.prog 42 = none := by kernel_rfl
theorem ar42 : tarr Try.prog 42 = some (32, 5) := by kernel_rfl
theorem pt42 : tptr Try.prog 42 = none := by kernel_rfl
theorem un42 : (Try.prog.underlying 42).isSome = true := by kernel_rfl
theorem po42 : tpos Try.prog 42 = true := by kernel_rfl
theorem tq42 : teq Try.prog 42 = true := by kernel_rfl
def z42 : AV := .vec 1 (List.replicate 32 (.val (.int .u8 0)))
theorem zo42 : ZeroOK Try.prog 42 z42 := ZeroOK.mk (.agg #[.int .u8 0, .int .u8 0, .int .u8 0, .int .u8 0, .int .u8 0, .int .u8 0, .int .u8 0, .int .u8 0, .int .u8 0, .int .u8 0, .int .u8 0, .int .u8 0, .int .u8 0, .int .u8 0, .int .u8 0, .int .u8 0, .int .u8 0, .int .u8 0, .int .u8 0, .int .u8 0, .int .u8 0, .int .u8 0, .int .u8 0, .int .u8 0, .int .u8 0, .int .u8 0, .int .u8 0, .int .u8 0, .int .u8 0, .int .u8 0, .int .u8 0, .int .u8 0]) (by kernel_rfl) (by kernel_rfl) (by kernel_rfl) (by kernel_rfl)
theorem sz43 : tsz Try.prog 43 = some 1 := by kernel_rfl
theorem by43 : tby Try.prog 43 = some 8 := by kernel_rfl
theorem ag43 : tagg Try.prog 43 = some false := by kernel_rfl
theorem sl43 : tsl Try.prog 43 = none := by kernel_rfl
theorem ar43 : tarr Try.prog 43 = none := by kernel_rfl
theorem pt43 : tptr Try.prog 43 = none := by kernel_rfl
theorem un43 : (Try.prog.underlying 43).isSome = true := by kernel_rfl
theorem po43 : tpos Try.prog 43 = true := by kernel_rfl
def z43 : AV := .val .nilFunc
theorem zo43 : ZeroOK Try.prog 43 z43 := ZeroOK.mk (.nilFunc) (by kernel_rfl) (by kernel_rfl) (by kernel_rfl) (by kernel_rfl)
theorem sz44 : tsz Try.prog 44 = some 1 := by kernel_rfl
theorem by44 : tby Try.prog 44 = some 8 := by kernel_rfl
theorem ag44 : tagg Try.prog 44 = some false := by kernel_rfl
theorem sl44 : tsl Try.prog 44 = none := by kernel_rfl
theorem ar44 : tarr Try.prog 44 = none := by kernel_rfl
theorem pt44 : tptr Try.prog 44 = none := by kernel_rfl
theorem un44 : (Try.prog.underlying 44).isSome = true := by kernel_rfl
theorem po44 : tpos Try.prog 44 = true := by kernel_rfl
def z44 : AV := .val .nilFunc
theorem zo44 : ZeroOK Try.prog 44 z44 := ZeroOK.mk (.nilFunc) (by kernel_rfl) (by kernel_rfl) (by kernel_rfl) (by kernel_rfl)
theorem sz45 : tsz Try.prog 45 = some 1 := by kernel_rfl
theorem by45 : tby Try.prog 45 = some 8 := by kernel_rfl
theorem ag45 : tagg Try.prog 45 = some false := by kernel_rfl
theorem sl45 : tsl Try.prog 45 = none := by kernel_rfl
theorem ar45 : tarr Try.prog 45 = none := by kernel_rfl
theorem pt45 : tptr Try.prog 45 = none := by kernel_rfl
theorem un45 : (Try.prog.underlying 45).isSome = true := by kernel_rfl
theorem po45 : tpos Try.prog 45 = true := by kernel_rfl
def z45 : AV := .val .nilFunc
theorem zo45 : ZeroOK Try.prog 45 z45 := ZeroOK.mk (.nilFunc) (by kernel_rfl) (by kernel_rfl) (by kernel_rfl) (by kernel_rfl)
theorem sz46 : tsz Try.prog 46 = some 2 := by kernel_rfl
theorem by46 : tby Try.prog 46 = some 16 := by kernel_rfl
theorem ag46 : tagg Try.prog 46 = some true := by kernel_rfl
theorem sl46 : tsl Try.prog 46 = none := by kernel_rfl
theorem ar46 : tarr Try.prog 46 = none := by kernel_rfl
theorem pt46 : tptr Try.prog 46 = none := by kernel_rfl
theorem un46 : (Try.prog.underlying 46).isSome = true := by kernel_rfl
theorem fl46_0 : tfld Try.prog 46 0 = some (0, 3) := by kernel_rfl
theorem fl46_1 : tfld Try.prog 46 1 = some (1, 2) := by kernel_rfl
theorem fs46 : tflds Try.prog 46 = true := by kernel_rfl
theorem po46 : tpos Try.prog 46 = true := by kernel_rfl
theorem tq46 : teq Try.prog 46 = true := by kernel_rfl
theorem tc46 : tcmp Try.prog 46 = some [(0, 3), (1, 2)] := by kernel_rfl
def z46 : AV := .agg 2 [.val (.int .i64 0), .val (.int .i64 0)]
theorem zo46 : ZeroOK Try.prog 46 z46 := ZeroOK.mk (.agg #[.int .i64 0, .int .i64 0]) (by kernel_rfl) (by kernel_rfl) (by kernel_rfl) (by kernel_rfl)
theorem sz47 : tsz Try.prog 47 = some 2 := by kernel_rfl
theorem by47 : tby Try.prog 47 = some 16 := by kernel_rfl
theorem ag47 : tagg Try.prog 47 = some true := by kernel_rfl
theorem sl47 : tsl Try.prog 47 = none := by kernel_rfl
theorem ar47 : tarr Try.prog 47 = none := by kernel_rfl
theorem pt47 : tptr Try.prog 47 = none := by kernel_rfl
theorem un47 : (Try.prog.underlying 47).isSome = true := by kernel_rfl
theorem fl47_0 : tfld Try.prog 47 0 = some (0, 3) := by kernel_rfl
theorem fl47_1 : tfld Try.prog 47 1 = some (1, 2) := by kernel_rfl
theorem fs47 : tflds Try.prog 47 = true := by kernel_rfl
theorem po47 : tpos Try.prog 47 = true := by kernel_rfl
theorem tq47 : teq Try.prog 47 = true := by kernel_rfl
theorem tc47 : tcmp Try.prog 47 = some [(0, 3), (1, 2)] := by kernel_rfl
def z47 : AV := .agg 2 [.val (.int .i64 0), .val (.int .i64 0)]
theorem zo47 : ZeroOK Try.prog 47 z47 := ZeroOK.mk (.agg #[.int .i64 0, .int .i64 0]) (by kernel_rfl) (by kernel_rfl) (by kernel_rfl) (by kernel_rfl)
theorem sz48 : tsz Try.prog 48 = some 12 := by kernel_rfl
theorem by48 : tby Try.prog 48 = some 96 := by kernel_rfl
theorem ag48 : tagg Try.prog 48 = some true := by kernel_rfl
theorem sl48 : tsl Try.prog 48 = none := by kernel_rfl
theorem ar48 : tarr Try.prog 48 = none := by kernel_rfl
theorem pt48 : tptr Try.prog 48 = none := by kernel_rfl
theorem un48 : (Try.prog.underlying 48).isSome = true := by kernel_rfl
theorem fl48_0 : tfld Try.prog 48 0 = some (0, 3) := by kernel_rfl
theorem fl48_1 : tfld Try.prog 48 1 = some (1, 2) := by kernel_rfl
theorem fl48_2 : tfld Try.prog 48 2 = some (2, 2) := by kernel_rfl
theorem fl48_3 : tfld Try.prog 48 3 = some (3, 3) := by kernel_rfl
theorem fl48_4 : tfld Try.prog 48 4 = some (4, 3) := by kernel_rfl
theorem fl48_5 : tfld Try.prog 48 5 = some (5, 2) := by kernel_rfl
theorem fl48_6 : tfld Try.prog 48 6 = some (6, 3) := by kernel_rfl
theorem fl48_7 : tfld Try.prog 48 7 = some (7, 3) := by kernel_rfl
theorem fl48_8 : tfld Try.prog 48 8 = some (8, 3) := by kernel_rfl
theorem fl48_9 : tfld Try.prog 48 9 = some (9, 3) := by kernel_rfl
theorem fl48_10 : tfld Try.prog 48 10 = some (10, 47) := by kernel_rfl
theorem fs48 : tflds Try.prog 48 = true := by kernel_rfl
theorem po48 : tpos Try.prog 48 = true := by kernel_rfl
theorem tq48 : teq Try.prog 48 = true := by kernel_rfl
theorem tc48 : tcmp Try.prog 48 = some [(0, 3), (1, 2), (2, 2), (3, 3), (4, 3), (5, 2), (6, 3), (7, 3), (8, 3), (9, 3), (10, 47)] := by kernel_rfl
def z48 : AV := .agg 12 [.val (.int .i64 0), .val (.int .i64 0), .val (.int .i64 0), .val (.int .i64 0), .val (.int .i64 0), .val (.int .i64 0), .val (.int .i64 0), .val (.int .i64 0), .val (.int .i64 0), .val (.int .i64 0), .agg 2 [.val (.int .i64 0), .val (.int .i64 0)]]
theorem zo48 : ZeroOK Try.prog 48 z48 := ZeroOK.mk (.agg #[.int .i64 0, .int .i64 0, .int .i64 0, .int .i64 0, .int .i64 0, .int .i64 0, .int .i64 0, .int .i64 0, .int .i64 0, .int .i64 0, .int .i64 0, .int .i64 0]) (by kernel_rfl) (by kernel_rfl) (by kernel_rfl) (by kernel_rfl)
theorem sz49 : tsz Try.prog 49 = some 12 := by kernel_rfl
theorem by49 : tby Try.prog 49 = some 96 := by kernel_rfl
theorem ag49 : tagg Try.prog 49 = some true := by kernel_rfl
theorem sl49 : tsl Try.prog 49 = none := by kernel_rfl
theorem ar49 : tarr Try.prog 49 = none := by kernel_rfl
theorem pt49 : tptr Try.prog 49 = none := by kernel_rfl
theorem un49 : (Try.prog.underlying 49).isSome = true := by kernel_rfl
theorem fl49_0 : tfld Try.prog 49 0 = some (0, 3) := by kernel_rfl
theorem fl49_1 : tfld Try.prog 49 1 = some (1, 2) := by kernel_rfl
theorem fl49_2 : tfld Try.prog 49 2 = some (2, 2) := by kernel_rfl
theorem fl49_3 : tfld Try.prog 49 3 = some (3, 3) := by kernel_rfl
theorem fl49_4 : tfld Try.prog 49 4 = some (4, 3) := by kernel_rfl
theorem fl49_5 : tfld Try.prog 49 5 = some (5, 2) := by kernel_rfl
theorem fl49_6 : tfld Try.prog 49 6 = some (6, 3) := by kernel_rfl
theorem fl49_7 : tfld Try.prog 49 7 = some (7, 3) := by kernel_rfl
theorem fl49_8 : tfld Try.prog 49 8 = some (8, 3) := by kernel_rfl
theorem fl49_9 : tfld Try.prog 49 9 = some (9, 3) := by kernel_rfl
theorem fl49_10 : tfld Try.prog 49 10 = some (10, 47) := by kernel_rfl
theorem fs49 : tflds Try.prog 49 = true := by kernel_rfl
theorem po49 : tpos Try.prog 49 = true := by kernel_rfl
theorem tq49 : teq Try.prog 49 = true := by kernel_rfl
theorem tc49 : tcmp Try.prog 49 = some [(0, 3), (1, 2), (2, 2), (3, 3), (4, 3), (5, 2), (6, 3), (7, 3), (8, 3), (9, 3), (10, 47)] := by kernel_rfl
def z49 : AV := .agg 12 [.val (.int .i64 0), .val (.int .i64 0), .val (.int .i64 0), .val (.int .i64 0), .val (.int .i64 0), .val (.int .i64 0), .val (.int .i64 0), .val (.int .i64 0), .val (.int .i64 0), .val (.int .i64 0), .agg 2 [.val (.int .i64 0), .val (.int .i64 0)]]
theorem zo49 : ZeroOK Try.prog 49 z49 := ZeroOK.mk (.agg #[.int .i64 0, .int .i64 0, .int .i64 0, .int .i64 0, .int .i64 0, .int .i64 0, .int .i64 0, .int .i64 0, .int .i64 0, .int .i64 0, .int .i64 0, .int .i64 0]) (by kernel_rfl) (by kernel_rfl) (by kernel_rfl) (by kernel_rfl)
theorem sz50 : tsz Try.prog 50 = some 1 := by kernel_rfl
theorem by50 : tby Try.prog 50 = some 24 := by kernel_rfl
theorem ag50 : tagg Try.prog 50 = some false := by kernel_rfl
theorem sl50 : tsl Try.prog 50 = some 55 := by kernel_rfl
theorem ar50 : tarr Try.prog 50 = none := by kernel_rfl
theorem pt50 : tptr Try.prog 50 = none := by kernel_rfl
theorem un50 : (Try.prog.underlying 50).isSome = true := by kernel_rfl
theorem po50 : tpos Try.prog 50 = true := by kernel_rfl
def z50 : AV := .sl 4 [] 1
theorem zo50 : ZeroOK Try.prog 50 z50 := ZeroOK.mk (.slice none 0 0) (by kernel_rfl) (by kernel_rfl) (by kernel_rfl) (by kernel_rfl)
theorem sz51 : tsz Try.prog 51 = some 1 := by kernel_rfl
theorem by51 : tby Try.prog 51 = some 8 := by kernel_rfl
theorem ag51 : tagg Try.prog 51 = some false := by kernel_rfl
theorem sl51 : tsl Try.prog 51 = none := by kernel_rfl
theorem ar51 : tarr Try.prog 51 = none := by kernel_rfl
theorem pt51 : tptr Try.prog 51 = none := by kernel_rfl
theorem un51 : (Try.prog.underlying 51).isSome = true := by kernel_rfl
theorem po51 : tpos Try.prog 51 = true := by kernel_rfl
def z51 : AV := .val .nilFunc
theorem zo51 : ZeroOK Try.prog 51 z51 := ZeroOK.mk (.nilFunc) (by kernel_rfl) (by kernel_rfl) (by kernel_rfl) (by kernel_rfl)
theorem sz52 : tsz Try.prog 52 = some 1 := by kernel_rfl
theorem by52 : tby Try.prog 52 = some 8 := by kernel_rfl
theorem ag52 : tagg Try.prog 52 = some false := by kernel_rfl
theorem sl52 : tsl Try.prog 52 = none := by kernel_rfl
theorem ar52 : tarr Try.prog 52 = none := by kernel_rfl
theorem pt52 : tptr Try.prog 52 = none := by kernel_rfl
theorem un52 : (Try.prog.underlying 52).isSome = true := by kernel_rfl
theorem po52 : tpos Try.prog 52 = true := by kernel_rfl
def z52 : AV := .val .nilFunc
theorem zo52 : ZeroOK Try.prog 52 z52 := ZeroOK.mk (.nilFunc) (by kernel_rfl) (by kernel_rfl) (by kernel_rfl) (by kernel_rfl)
theorem sz53 : tsz Try.prog 53 = some 1 := by kernel_rfl
theorem by53 : tby Try.prog 53 = some 8 := by kernel_rfl
theorem ag53 : tagg Try.prog 53 = some false := by kernel_rfl
theorem sl53 : tsl Try.prog 53 = none := by kernel_rfl
theorem ar53 : tarr Try.prog 53 = none := by kernel_rfl
theorem pt53 : tptr Try.prog 53 = none := by kernel_rfl
theorem un53 : (Try.prog.underlying 53).isSome = true := by kernel_rfl
theorem po53 : tpos Try.prog 53 = true := by kernel_rfl
def z53 : AV := .val .nilFunc
theorem zo53 : ZeroOK Try.prog 53 z53 := ZeroOK.mk (.nilFunc) (by kernel_rfl) (by kernel_rfl) (by kernel_rfl) (by kernel_rfl)
theorem sz54 : tsz Try.prog 54 = some 4 := by kernel_rfl
theorem by54 : tby Try.prog 54 = some 48 := by kernel_rfl
theorem ag54 : tagg Try.prog 54 = some true := by kernel_rfl
theorem sl54 : tsl Try.prog 54 = none := by kernel_rfl
theorem ar54 : tarr Try.prog 54 = none := by kernel_rfl
theorem pt54 : tptr Try.prog 54 = none := by kernel_rfl
theorem un54 : (Try.prog.underlying 54).isSome = true := by kernel_rfl
theorem fl54_0 : tfld Try.prog 54 0 = some (0, 3) := by kernel_rfl
theorem fl54_1 : tfld Try.prog 54 1 = some (1, 3) := by kernel_rfl
theorem fl54_2 : tfld Try.prog 54 2 = some (2, 2) := by kernel_rfl
theorem fl54_3 : tfld Try.prog 54 3 = some (3, 34) := by kernel_rfl
theorem fs54 : tflds Try.prog 54 = true := by kernel_rfl
theorem po54 : tpos Try.prog 54 = true := by kernel_rfl
def z54 : AV := .agg 4 [.val (.int .i64 0), .val (.int .i64 0), .val (.int .i64 0), .sl 1 [] 1]
theorem zo54 : ZeroOK Try.prog 54 z54 := ZeroOK.mk (.agg #[.int .i64 0, .int .i64 0, .int .i64 0, .slice none 0 0]) (by kernel_rfl) (by kernel_rfl) (by kernel_rfl) (by kernel_rfl)
theorem sz55 : tsz Try.prog 55 = some 4 := by kernel_rfl
theorem by55 : tby Try.prog 55 = some 48 := by kernel_rfl
theorem ag55 : tagg Try.prog 55 = some true := by kernel_rfl
theorem sl55 : tsl Try.prog 55 = none := by kernel_rfl
theorem ar55 : tarr Try.prog 55 = none := by kernel_rfl
theorem pt55 : tptr Try.prog 55 = none := by kernel_rfl
theorem un55 : (Try.prog.underlying 55).isSome = true := by kernel_rfl
theorem fl55_0 : tfld Try.prog 55 0 = some (0, 3) := by kernel_rfl
theorem fl55_1 : tfld Try.prog 55 1 = some (1, 3) := by kernel_rfl
theorem fl55_2 : tfld Try.prog 55 2 = some (2, 2) := by kernel_rfl
theorem fl55_3 : tfld Try.prog 55 3 = some (3, 34) := by kernel_rfl
theorem fs55 : tflds Try.prog 55 = true := by kernel_rfl
theorem po55 : tpos Try.prog 55 = true := by kernel_rfl
def z55 : AV := .agg 4 [.val (.int .i64 0), .val (.int .i64 0), .val (.int .i64 0), .sl 1 [] 1]
theorem zo55 : ZeroOK Try.prog 55 z55 := ZeroOK.mk (.agg #[.int .i64 0, .int .i64 0, .int .i64 0, .slice none 0 0]) (by kernel_rfl) (by kernel_rfl) (by kernel_rfl) (by kernel_rfl)
theorem sz57 : tsz Try.prog 57 = some 1 := by kernel_rfl
theorem by57 : tby Try.prog 57 = some 8 := by kernel_rfl
theorem ag57 : tagg Try.prog 57 = some false := by kernel_rfl
theorem sl57 : tsl Try.prog 57 = none := by kernel_rfl
theorem ar57 : tarr Try.prog 57 = none := by kernel_rfl
theorem pt57 : tptr Try.prog 57 = none := by kernel_rfl
theorem un57 : (Try.prog.underlying 57).isSome = true := by kernel_rfl
theorem po57 : tpos Try.prog 57 = true := by kernel_rfl
def z57 : AV := .val .nilFunc
theorem zo57 : ZeroOK Try.prog 57 z57 := ZeroOK.mk (.nilFunc) (by kernel_rfl) (by kernel_rfl) (by kernel_rfl) (by kernel_rfl)
theorem sz59 : tsz Try.prog 59 = some 1 := by kernel_rfl
theorem by59 : tby Try.prog 59 = some 8 := by kernel_rfl
theorem ag59 : tagg Try.prog 59 = some false := by kernel_rfl
theorem sl59 : tsl Try.prog 59 = none := by kernel_rfl
theorem ar59 : tarr Try.prog 59 = none := by kernel_rfl
theorem pt59 : tptr Try.prog 59 = none := by kernel_rfl
theorem un59 : (Try.prog.underlying 59).isSome = true := by kernel_rfl
theorem po59 : tpos Try.prog 59 = true := by kernel_rfl
def z59 : AV := .val .nilFunc
theorem zo59 : ZeroOK Try.prog 59 z59 := ZeroOK.mk (.nilFunc) (by kernel_rfl) (by kernel_rfl) (by kernel_rfl) (by kernel_rfl)
theorem sz60 : tsz Try.prog 60 = some 1 := by kernel_rfl
theorem by60 : tby Try.prog 60 = some 8 := by kernel_rfl
theorem ag60 : tagg Try.prog 60 = some false := by kernel_rfl
theorem sl60 : tsl Try.prog 60 = none := by kernel_rfl
theorem ar60 : tarr Try.prog 60 = none := by kernel_rfl
theorem pt60 : tptr Try.prog 60 = none := by kernel_rfl
theorem un60 : (Try.prog.underlying 60).isSome = true := by kernel_rfl
theorem po60 : tpos Try.prog 60 = true := by kernel_rfl
def z60 : AV := .val .nilFunc
theorem zo60 : ZeroOK Try.prog 60 z60 := ZeroOK.mk (.nilFunc) (by kernel_rfl) (by kernel_rfl) (by kernel_rfl) (by kernel_rfl)
theorem sz61 : tsz Try.prog 61 = some 1 := by kernel_rfl
theorem by61 : tby Try.prog 61 = some 8 := by kernel_rfl
theorem ag61 : tagg Try.prog 61 = some false := by kernel_rfl
theorem sl61 : tsl Try.prog 61 = none := by kernel_rfl
theorem ar61 : tarr Try.prog 61 = none := by kernel_rfl
theorem pt61 : tptr Try.prog 61 = none := by kernel_rfl
theorem un61 : (Try.prog.underlying 61).isSome = true := by kernel_rfl
theorem po61 : tpos Try.prog 61 = true := by kernel_rfl
def z61 : AV := .val .nilFunc
theorem zo61 : ZeroOK Try.prog 61 z61 := ZeroOK.mk (.nilFunc) (by kernel_rfl) (by kernel_rfl) (by kernel_rfl) (by kernel_rfl)
theorem sz62 : tsz Try.prog 62 = some 1 := by kernel_rfl
theorem by62 : tby Try.prog 62 = some 8 := by kernel_rfl
theorem ag62 : tagg Try.prog 62 = some false := by kernel_rfl
theorem sl62 : tsl Try.prog 62 = none := by kernel_rfl
theorem ar62 : tarr Try.prog 62 = none := by kernel_rfl
theorem pt62 : tptr Try.prog 62 = none := by kernel_rfl
theorem un62 : (Try.prog.underlying 62).isSome = true := by kernel_rfl
theorem po62 : tpos Try.prog 62 = true := by kernel_rfl
def z62 : AV := .val .nilFunc
theorem zo62 : ZeroOK Try.prog 62 z62 := ZeroOK.mk (.nilFunc) (by kernel_rfl) (by kernel_rfl) (by kernel_rfl) (by kernel_rfl)
theorem sz63 : tsz Try.prog 63 = some 1 := by kernel_rfl
theorem by63 : tby Try.prog 63 = some 8 := by kernel_rfl
theorem ag63 : tagg Try.prog 63 = some false := by kernel_rfl
theorem sl63 : tsl Try.prog 63 = none := by kernel_rfl
theorem ar63 : tarr Try.prog 63 = none := by kernel_rfl
theorem pt63 : tptr Try.prog 63 = none := by kernel_rfl
theorem un63 : (Try.prog.underlying 63).isSome = true := by kernel_rfl
theorem po63 : tpos Try.prog 63 = true := by kernel_rfl
def z63 : AV := .val .nilFunc
theorem zo63 : ZeroOK Try.prog 63 z63 := ZeroOK.mk (.nilFunc) (by kernel_rfl) (by kernel_rfl) (by kernel_rfl) (by kernel_rfl)
theorem sz64 : tsz Try.prog 64 = some 1 := by kernel_rfl
theorem by64 : tby Try.prog 64 = some 8 := by kernel_rfl
theorem ag64 : tagg Try.prog 64 = some false := by kernel_rfl
theorem sl64 : tsl Try.prog 64 = none := by kernel_rfl
theorem ar64 : tarr Try.prog 64 = none := by kernel_rfl
theorem pt64 : tptr Try.prog 64 = none := by kernel_rfl
theorem un64 : (Try.prog.underlying 64).isSome = true := by kernel_rfl
theorem po64 : tpos Try.prog 64 = true := by kernel_rfl
def z64 : AV := .val .nilFunc
theorem zo64 : ZeroOK Try.prog 64 z64 := ZeroOK.mk (.nilFunc) (by kernel_rfl) (by kernel_rfl) (by kernel_rfl) (by kernel_rfl)
theorem sz65 : tsz Try.prog 65 = some 1 := by kernel_rfl
theorem by65 : tby Try.prog 65 = some 8 := by kernel_rfl
theorem ag65 : tagg Try.prog 65 = some false := by kernel_rfl
theorem sl65 : tsl Try.prog 65 = none := by kernel_rfl
theorem ar65 : tarr Try.prog 65 = none := by kernel_rfl
theorem pt65 : tptr Try.prog 65 = none := by kernel_rfl
theorem un65 : (Try.prog.underlying 65).isSome = true := by kernel_rfl
theorem po65 : tpos Try.prog 65 = true := by kernel_rfl
def z65 : AV := .val .nilFunc
theorem zo65 : ZeroOK Try.prog 65 z65 := ZeroOK.mk (.nilFunc) (by kernel_rfl) (by kernel_rfl) (by kernel_rfl) (by kernel_rfl)
theorem sz66 : tsz Try.prog 66 = some 1 := by kernel_rfl
theorem by66 : tby Try.prog 66 = some 8 := by kernel_rfl
theorem ag66 : tagg Try.prog 66 = some false := by kernel_rfl
theorem sl66 : tsl Try.prog 66 = none := by kernel_rfl
theorem ar66 : tarr Try.prog 66 = none := by kernel_rfl
theorem pt66 : tptr Try.prog 66 = none := by kernel_rfl
theorem un66 : (Try.prog.underlying 66).isSome = true := by kernel_rfl
theorem po66 : tpos Try.prog 66 = true := by kernel_rfl
def z66 : AV := .val .nilFunc
theorem zo66 : ZeroOK Try.prog 66 z66 := ZeroOK.mk (.nilFunc) (by kernel_rfl) (by kernel_rfl) (by kernel_rfl) (by kernel_rfl)
theorem sz67 : tsz Try.prog 67 = some 1 := by kernel_rfl
theorem by67 : tby Try.prog 67 = some 8 := by kernel_rfl
theorem ag67 : tagg Try.prog 67 = some false := by kernel_rfl
theorem sl67 : tsl Try.prog 67 = none := by kernel_rfl
theorem ar67 : tarr Try.prog 67 = none := by kernel_rfl
theorem pt67 : tptr Try.prog 67 = none := by kernel_rfl
theorem in67 : tint Try.prog 67 = some .u64 := by kernel_rfl
theorem un67 : (Try.prog.underlying 67).isSome = true := by kernel_rfl
theorem po67 : tpos Try.prog 67 = true := by kernel_rfl
def z67 : AV := .val (.int .u64 0)
theorem zo67 : ZeroOK Try.prog 67 z67 := ZeroOK.mk (.int .u64 0) (by kernel_rfl) (by kernel_rfl) (by kernel_rfl) (by kernel_rfl)
theorem sz68 : tsz Try.prog 68 = some 1 := by kernel_rfl
theorem by68 : tby Try.prog 68 = some 8 := by kernel_rfl
theorem ag68 : tagg Try.prog 68 = some false := by kernel_rfl
theorem sl68 : tsl Try.prog 68 = none := by kernel_rfl
theorem ar68 : tarr Try.prog 68 = none := by kernel_rfl
theorem pt68 : tptr Try.prog 68 = none := by kernel_rfl
theorem in68 : tint Try.prog 68 = some .u64 := by kernel_rfl
theorem un68 : (Try.prog.underlying 68).isSome = true := by kernel_rfl
theorem po68 : tpos Try.prog 68 = true := by kernel_rfl
def z68 : AV := .val (.int .u64 0)
theorem zo68 : ZeroOK Try.prog 68 z68 := ZeroOK.mk (.int .u64 0) (by kernel_rfl) (by kernel_rfl) (by kernel_rfl) (by kernel_rfl)
theorem sz69 : tsz Try.prog 69 = some 1 := by kernel_rfl
theorem by69 : tby Try.prog 69 = some 8 := by kernel_rfl
theorem ag69 : tagg Try.prog 69 = some false := by kernel_rfl
theorem sl69 : tsl Try.prog 69 = none := by kernel_rfl
theorem ar69 : tarr Try.prog 69 = none := by kernel_rfl
theorem pt69 : tptr Try.prog 69 = none := by kernel_rfl
theorem un69 : (Try.prog.underlying 69).isSome = true := by kernel_rfl
theorem po69 : tpos Try.prog 69 = true := by kernel_rfl
def z69 : AV := .val .nilFunc
theorem zo69 : ZeroOK Try.prog 69 z69 := ZeroOK.mk (.nilFunc) (by kernel_rfl) (by kernel_rfl) (by kernel_rfl) (by kernel_rfl)
theorem sz70 : tsz Try.prog 70 = some 1 := by kernel_rfl
theorem by70 : tby Try.prog 70 = some 24 := by kernel_rfl
theorem ag70 : tagg Try.prog 70 = some false := by kernel_rfl
theorem sl70 : tsl Try.prog 70 = some 34 := by kernel_rfl
theorem ar70 : tarr Try.prog 70 = none := by kernel_rfl
theorem pt70 : tptr Try.prog 70 = none := by kernel_rfl
theorem un70 : (Try.prog.underlying 70).isSome = true := by kernel_rfl
theorem po70 : tpos Try.prog 70 = true := by kernel_rfl
def z70 : AV := .sl 1 [] 1
theorem zo70 : ZeroOK Try.prog 70 z70 := ZeroOK.mk (.slice none 0 0) (by kernel_rfl) (by kernel_rfl) (by kernel_rfl) (by kernel_rfl)
theorem sz71 : tsz Try.prog 71 = some 1 := by kernel_rfl
theorem by71 : tby Try.prog 71 = some 8 := by kernel_rfl
theorem ag71 : tagg Try.prog 71 = some false := by kernel_rfl
theorem sl71 : tsl Try.prog 71 = none := by kernel_rfl
theorem ar71 : tarr Try.prog 71 = none := by kernel_rfl
theorem pt71 : tptr Try.prog 71 = none := by kernel_rfl
theorem un71 : (Try.prog.underlying 71).isSome = true := by kernel_rfl
theorem po71 : tpos Try.prog 71 = true := by kernel_rfl
def z71 : AV := .val .nilFunc
theorem zo71 : ZeroOK Try.prog 71 z71 := ZeroOK.mk (.nilFunc) (by kernel_rfl) (by kernel_rfl) (by kernel_rfl) (by kernel_rfl)
theorem sz72 : tsz Try.prog 72 = some 1 := by kernel_rfl
theorem by72 : tby Try.prog 72 = some 8 := by kernel_rfl
theorem ag72 : tagg Try.prog 72 = some false := by kernel_rfl
theorem sl72 : tsl Try.prog 72 = none := by kernel_rfl
theorem ar72 : tarr Try.prog 72 = none := by kernel_rfl
theorem pt72 : tptr Try.prog 72 = none := by kernel_rfl
theorem un72 : (Try.prog.underlying 72).isSome = true := by kernel_rfl
theorem po72 : tpos Try.prog 72 = true := by kernel_rfl
def z72 : AV := .val .nilFunc
theorem zo72 : ZeroOK Try.prog 72 z72 := ZeroOK.mk (.nilFunc) (by kernel_rfl) (by kernel_rfl) (by kernel_rfl) (by kernel_rfl)
theorem sz73 : tsz Try.prog 73 = some 1 := by kernel_rfl
theorem by73 : tby Try.prog 73 = some 8 := by kernel_rfl
theorem ag73 : tagg Try.prog 73 = some false := by kernel_rfl
theorem sl73 : tsl Try.prog 73 = none := by kernel_rfl
theorem ar73 : tarr Try.prog 73 = none := by kernel_rfl
theorem pt73 : tptr Try.prog 73 = none := by kernel_rfl
theorem un73 : (Try.prog.underlying 73).isSome = true := by kernel_rfl
theorem po73 : tpos Try.prog 73 = true := by kernel_rfl
def z73 : AV := .val .nilFunc
theorem zo73 : ZeroOK Try.prog 73 z73 := ZeroOK.mk (.nilFunc) (by kernel_rfl) (by kernel_rfl) (by kernel_rfl) (by kernel_rfl)
theorem sz74 : tsz Try.prog 74 = some 1 := by kernel_rfl
theorem by74 : tby Try.prog 74 = some 8 := by kernel_rfl
theorem ag74 : tagg Try.prog 74 = some false := by kernel_rfl
theorem sl74 : tsl Try.prog 74 = none := by kernel_rfl
theorem ar74 : tarr Try.prog 74 = none := by kernel_rfl
theorem pt74 : tptr Try.prog 74 = none := by kernel_rfl
theorem un74 : (Try.prog.underlying 74).isSome = true := by kernel_rfl
theorem po74 : tpos Try.prog 74 = true := by kernel_rfl
def z74 : AV := .val .nilFunc
theorem zo74 : ZeroOK Try.prog 74 z74 := ZeroOK.mk (.nilFunc) (by kernel_rfl) (by kernel_rfl) (by kernel_rfl) (by kernel_rfl)
theorem sz75 : tsz Try.prog 75 = some 1 := by kernel_rfl
theorem by75 : tby Try.prog 75 = some 8 := by kernel_rfl
theorem ag75 : tagg Try.prog 75 = some false := by kernel_rfl
theorem sl75 : tsl Try.prog 75 = none := by kernel_rfl
theorem ar75 : tarr Try.prog 75 = none := by kernel_rfl
theorem pt75 : tptr Try.prog 75 = some 92 := by kernel_rfl
theorem un75 : (Try.prog.underlying 75).isSome = true := by kernel_rfl
theorem po75 : tpos Try.prog 75 = true := by kernel_rfl
def z75 : AV := .val (.pointer none)
theorem zo75 : ZeroOK Try.prog 75 z75 := ZeroOK.mk (.pointer none) (by kernel_rfl) (by kernel_rfl) (by kernel_rfl) (by kernel_rfl)
theorem sz76 : tsz Try.prog 76 = some 1 := by kernel_rfl
theorem by76 : tby Try.prog 76 = some 8 := by kernel_rfl
theorem ag76 : tagg Try.prog 76 = some false := by kernel_rfl
theorem sl76 : tsl Try.prog 76 = none := by kernel_rfl
theorem ar76 : tarr Try.prog 76 = none := by kernel_rfl
theorem pt76 : tptr Try.prog 76 = none := by kernel_rfl
theorem un76 : (Try.prog.underlying 76).isSome = true := by kernel_rfl
theorem po76 : tpos Try.prog 76 = true := by kernel_rfl
def z76 : AV := .val .nilFunc
theorem zo76 : ZeroOK Try.prog 76 z76 := ZeroOK.mk (.nilFunc) (by kernel_rfl) (by kernel_rfl) (by kernel_rfl) (by kernel_rfl)
theorem sz77 : tsz Try.prog 77 = some 1 := by kernel_rfl
theorem by77 : tby Try.prog 77 = some 8 := by kernel_rfl
theorem ag77 : tagg Try.prog 77 = some false := by kernel_rfl
theorem sl77 : tsl Try.prog 77 = none := by kernel_rfl
theorem ar77 : tarr Try.prog 77 = none := by kernel_rfl
theorem pt77 : tptr Try.prog 77 = none := by kernel_rfl
theorem un77 : (Try.prog.underlying 77).isSome = true := by kernel_rfl
theorem po77 : tpos Try.prog 77 = true := by kernel_rfl
def z77 : AV := .val .nilFunc
theorem zo77 : ZeroOK Try.prog 77 z77 := ZeroOK.mk (.nilFunc) (by kernel_rfl) (by kernel_rfl) (by kernel_rfl) (by kernel_rfl)
theorem sz78 : tsz Try.prog 78 = some 1 := by kernel_rfl
theorem by78 : tby Try.prog 78 = some 8 := by kernel_rfl
theorem ag78 : tagg Try.prog 78 = some false := by kernel_rfl
theorem sl78 : tsl Try.prog 78 = none := by kernel_rfl
theorem ar78 : tarr Try.prog 78 = none := by kernel_rfl
theorem pt78 : tptr Try.prog 78 = none := by kernel_rfl
theorem un78 : (Try.prog.underlying 78).isSome = true := by kernel_rfl
theorem po78 : tpos Try.prog 78 = true := by kernel_rfl
def z78 : AV := .val .nilFunc
theorem zo78 : ZeroOK Try.prog 78 z78 := ZeroOK.mk (.nilFunc) (by kernel_rfl) (by kernel_rfl) (by kernel_rfl) (by kernel_rfl)
theorem sz79 : tsz Try.prog 79 = some 1 := by kernel_rfl
theorem by79 : tby Try.prog 79 = some 8 := by kernel_rfl
theorem ag79 : tagg Try.prog 79 = some false := by kernel_rfl
theorem sl79 : tsl Try.prog 79 = none := by kernel_rfl
theorem ar79 : tarr Try.prog 79 = none := by kernel_rfl
theorem pt79 : tptr Try.prog 79 = none := by kernel_rfl
theorem un79 : (Try.prog.underlying 79).isSome = true := by kernel_rfl
theorem po79 : tpos Try.prog 79 = true := by kernel_rfl
def z79 : AV := .val .nilFunc
theorem zo79 : ZeroOK Try.prog 79 z79 := ZeroOK.mk (.nilFunc) (by kernel_rfl) (by kernel_rfl) (by kernel_rfl) (by kernel_rfl)
theorem sz80 : tsz Try.prog 80 = some 1 := by kernel_rfl
theorem by80 : tby Try.prog 80 = some 8 := by kernel_rfl
theorem ag80 : tagg Try.prog 80 = some false := by kernel_rfl
theorem sl80 : tsl Try.prog 80 = none := by kernel_rfl
theorem ar80 : tarr Try.prog 80 = none := by kernel_rfl
theorem pt80 : tptr Try.prog 80 = none := by kernel_rfl
theorem un80 : (Try.prog.underlying 80).isSome = true := by kernel_rfl
theorem po80 : tpos Try.prog 80 = true := by kernel_rfl
def z80 : AV := .val .nilFunc
theorem zo80 : ZeroOK Try.prog 80 z80 := ZeroOK.mk (.nilFunc) (by kernel_rfl) (by kernel_rfl) (by kernel_rfl) (by kernel_rfl)
theorem sz81 : tsz Try.prog 81 = some 1 := by kernel_rfl
theorem by81 : tby Try.prog 81 = some 8 := by kernel_rfl
theorem ag81 : tagg Try.prog 81 = some false := by kernel_rfl
theorem sl81 : tsl Try.prog 81 = none := by kernel_rfl
theorem ar81 : tarr Try.prog 81 = none := by kernel_rfl
theorem pt81 : tptr Try.prog 81 = none := by kernel_rfl
theorem un81 : (Try.prog.underlying 81).isSome = true := by kernel_rfl
theorem po81 : tpos Try.prog 81 = true := by kernel_rfl
def z81 : AV := .val .nilFunc
theorem zo81 : ZeroOK Try.prog 81 z81 := ZeroOK.mk (.nilFunc) (by kernel_rfl) (by kernel_rfl) (by kernel_rfl) (by kernel_rfl)
theorem sz82 : tsz Try.prog 82 = some 1 := by kernel_rfl
theorem by82 : tby Try.prog 82 = some 4 := by kernel_rfl
theorem ag82 : tagg Try.prog 82 = some false := by kernel_rfl
theorem sl82 : tsl Try.prog 82 = none := by kernel_rfl
theorem ar82 : tarr Try.prog 82 = none := by kernel_rfl
theorem pt82 : tptr Try.prog 82 = none := by kernel_rfl
theorem in82 : tint Try.prog 82 = some .u32 := by kernel_rfl
theorem un82 : (Try.prog.underlying 82).isSome = true := by kernel_rfl
theorem po82 : tpos Try.prog 82 = true := by kernel_rfl
def z82 : AV := .val (.int .u32 0)
theorem zo82 : ZeroOK Try.prog 82 z82 := ZeroOK.mk (.int .u32 0) (by kernel_rfl) (by kernel_rfl) (by kernel_rfl) (by kernel_rfl)
theorem sz83 : tsz Try.prog 83 = some 8 := by kernel_rfl
theorem by83 : tby Try.prog 83 = some 32 := by kernel_rfl
theorem ag83 : tagg Try.prog 83 = some true := by kernel_rfl
theorem sl83 : tsl Try.prog 83 = none := by kernel_rfl
theorem ar83 : tarr Try.prog 83 = some (8, 82) := by kernel_rfl
theorem pt83 : tptr Try.prog 83 = none := by kernel_rfl
theorem un83 : (Try.prog.underlying 83).isSome = true := by kernel_rfl
theorem po83 : tpos Try.prog 83 = true := by kernel_rfl
theorem tq83 : teq Try.prog 83 = true := by kernel_rfl
def z83 : AV := .vec 1 (List.replicate 8 (.val (.int .u32 0)))
theorem zo83 : ZeroOK Try.prog 83 z83 := ZeroOK.mk (.agg #[.int .u32 0, .int .u32 0, .int .u32 0, .int .u32 0, .int .u32 0, .int .u32 0, .int .u32 0, .int .u32 0]) (by kernel_rfl) (by kernel_rfl) (by kernel_rfl) (by kernel_rfl)
theorem sz84 : tsz Try.prog 84 = some 8 := by kernel_rfl
theorem by84 : tby Try.prog 84 = some 32 := by kernel_rfl
theorem ag84 : tagg Try.prog 84 = some true := by kernel_rfl
theorem sl84 : tsl Try.prog 84 = none := by kernel_rfl
theorem ar84 : tarr Try.prog 84 = some (8, 82) := by kernel_rfl
theorem pt84 : tptr Try.prog 84 = none := by kernel_rfl
theorem un84 : (Try.prog.underlying 84).isSome = true := by kernel_rfl
theorem po84 : tpos Try.prog 84 = true := by kernel_rfl
theorem tq84 : teq Try.prog 84 = true := by kernel_rfl
def z84 : AV := .vec 1 (List.replicate 8 (.val (.int .u32 0)))
theorem zo84 : ZeroOK Try.prog 84 z84 := ZeroOK.mk (.agg #[.int .u32 0, .int .u32 0, .int .u32 0, .int .u32 0, .int .u32 0, .int .u32 0, .int .u32 0, .int .u32 0]) (by kernel_rfl) (by kernel_rfl) (by kernel_rfl) (by kernel_rfl)
theorem sz85 : tsz Try.prog 85 = some 1 := by kernel_rfl
theorem by85 : tby Try.prog 85 = some 8 := by kernel_rfl
theorem ag85 : tagg Try.prog 85 = some false := by kernel_rfl
theorem sl85 : tsl Try.prog 85 = none := by kernel_rfl
theorem ar85 : tarr Try.prog 85 = none := by kernel_rfl
theorem pt85 : tptr Try.prog 85 = none := by kernel_rfl
theorem un85 : (Try.prog.underlying 85).isSome = true := by kernel_rfl
theorem po85 : tpos Try.prog 85 = true := by kernel_rfl
def z85 : AV := .val .nilFunc
theorem zo85 : ZeroOK Try.prog 85 z85 := ZeroOK.mk (.nilFunc) (by kernel_rfl) (by kernel_rfl) (by kernel_rfl) (by kernel_rfl)
theorem sz86 : tsz Try.prog 86 = some 64 := by kernel_rfl
theorem by86 : tby Try.prog 86 = some 256 := by kernel_rfl
theorem ag86 : tagg Try.prog 86 = some true := by kernel_rfl
theorem sl86 : tsl Try.prog 86 = none := by kernel_rfl
theorem ar86 : tarr Try.prog 86 = some (64, 82) := by kernel_rfl
theorem pt86 : tptr Try.prog 86 = none := by kernel_rfl
theorem un86 : (Try.prog.underlying 86).isSome = true := by kernel_rfl
theorem po86 : tpos Try.prog 86 = true := by kernel_rfl
theorem tq86 : teq Try.prog 86 = true := by kernel_rfl
def z86 : AV := .vec 1 (List.replicate 64 (.val (.int .u32 0)))
theorem zo86 : ZeroOK Try.prog 86 z86 := ZeroOK.mk (.agg #[.int .u32 0, .int .u32 0, .int .u32 0, .int .u32 0, .int .u32 0, .int .u32 0, .int .u32 0, .int .u32 0, .int .u32 0, .int .u32 0, .int .u32 0, .int .u32 0, .int .u32 0, .int .u32 0, .int .u32 0, .int .u32 0, .int .u32 0, .int .u32 0, .int .u32 0, .int .u32 0, .int .u32 0, .int .u32 0, .int .u32 0, .int .u32 0, .int .u32 0, .int .u32 0, .int .u32 0, .int .u32 0, .int .u32 0, .int .u32 0, .int .u32 0, .int .u32 0, .int .u32 0, .int .u32 0, .int .u32 0, .int .u32 0, .int .u32 0, .int .u32 0, .int .u32 0, .int .u32 0, .int .u32 0, .int .u32 0, .int .u32 0, .int .u32 0, .int .u32 0, .int .u32 0, .int .u32 0, .int .u32 0, .int .u32 0, .int .u32 0, .int .u32 0, .int .u32 0, .int .u32 0, .int .u32 0, .int .u32 0, .int .u32 0, .int .u32 0, .int .u32 0, .int .u32 0, .int .u32 0, .int .u32 0, .int .u32 0, .int .u32 0, .int .u32 0]) (by kernel_rfl) (by kernel_rfl) (by kernel_rfl) (by kernel_rfl)
theorem sz87 : tsz Try.prog 87 = some 1 := by kernel_rfl
theorem by87 : tby Try.prog 87 = some 8 := by kernel_rfl
theorem ag87 : tagg Try.prog 87 = some false := by kernel_rfl
theorem sl87 : tsl Try.prog 87 = none := by kernel_rfl
theorem ar87 : tarr Try.prog 87 = none := by kernel_rfl
theorem pt87 : tptr Try.prog 87 = none := by kernel_rfl
theorem un87 : (Try.prog.underlying 87).isSome = true := by kernel_rfl
theorem po87 : tpos Try.prog 87 = true := by kernel_rfl
def z87 : AV := .val .nilFunc
theorem zo87 : ZeroOK Try.prog 87 z87 := ZeroOK.mk (.nilFunc) (by kernel_rfl) (by kernel_rfl) (by kernel_rfl) (by kernel_rfl)
theorem sz88 : tsz Try.prog 88 = some 1 := by kernel_rfl
theorem by88 : tby Try.prog 88 = some 8 := by kernel_rfl
theorem ag88 : tagg Try.prog 88 = some false := by kernel_rfl
theorem sl88 : tsl Try.prog 88 = none := by kernel_rfl
theorem ar88 : tarr Try.prog 88 = none := by kernel_rfl
theorem pt88 : tptr Try.prog 88 = none := by kernel_rfl
theorem un88 : (Try.prog.underlying 88).isSome = true := by kernel_rfl
theorem po88 : tpos Try.prog 88 = true := by kernel_rfl
def z88 : AV := .val .nilFunc
theorem zo88 : ZeroOK Try.prog 88 z88 := ZeroOK.mk (.nilFunc) (by kernel_rfl) (by kernel_rfl) (by kernel_rfl) (by kernel_rfl)
theorem sz89 : tsz Try.prog 89 = some 1 := by kernel_rfl
theorem by89 : tby Try.prog 89 = some 8 := by kernel_rfl
theorem ag89 : tagg Try.prog 89 = some false := by kernel_rfl
theorem sl89 : tsl Try.prog 89 = none := by kernel_rfl
theorem ar89 : tarr Try.prog 89 = none := by kernel_rfl
theorem pt89 : tptr Try.prog 89 = none := by kernel_rfl
theorem un89 : (Try.prog.underlying 89).isSome = true := by kernel_rfl
theorem po89 : tpos Try.prog 89 = true := by kernel_rfl
def z89 : AV := .val .nilFunc
theorem zo89 : ZeroOK Try.prog 89 z89 := ZeroOK.mk (.nilFunc) (by kernel_rfl) (by kernel_rfl) (by kernel_rfl) (by kernel_rfl)
theorem sz90 : tsz Try.prog 90 = some 1 := by kernel_rfl
theorem by90 : tby Try.prog 90 = some 8 := by kernel_rfl
theorem ag90 : tagg Try.prog 90 = some false := by kernel_rfl
theorem sl90 : tsl Try.prog 90 = none := by kernel_rfl
theorem ar90 : tarr Try.prog 90 = none := by kernel_rfl
theorem pt90 : tptr Try.prog 90 = some 86 := by kernel_rfl
theorem un90 : (Try.prog.underlying 90).isSome = true := by kernel_rfl
theorem po90 : tpos Try.prog 90 = true := by kernel_rfl
def z90 : AV := .val (.pointer none)
theorem zo90 : ZeroOK Try.prog 90 z90 := ZeroOK.mk (.pointer none) (by kernel_rfl) (by kernel_rfl) (by kernel_rfl) (by kernel_rfl)
theorem sz91 : tsz Try.prog 91 = some 2 := by kernel_rfl
theorem by91 : tby Try.prog 91 = some 32 := by kernel_rfl
theorem ag91 : tagg Try.prog 91 = some true := by kernel_rfl
theorem sl91 : tsl Try.prog 91 = none := by kernel_rfl
theorem ar91 : tarr Try.prog 91 = none := by kernel_rfl
theorem pt91 : tptr Try.prog 91 = none := by kernel_rfl
theorem un91 : (Try.prog.underlying 91).isSome = true := by kernel_rfl
theorem fl91_0 : tfld Try.prog 91 0 = some (0, 34) := by kernel_rfl
theorem fl91_1 : tfld Try.prog 91 1 = some (1, 24) := by kernel_rfl
theorem fs91 : tflds Try.prog 91 = true := by kernel_rfl
theorem po91 : tpos Try.prog 91 = true := by kernel_rfl
def z91 : AV := .agg 2 [.sl 1 [] 1, .val (.int .i64 0)]
theorem zo91 : ZeroOK Try.prog 91 z91 := ZeroOK.mk (.agg #[.slice none 0 0, .int .i64 0]) (by kernel_rfl) (by kernel_rfl) (by kernel_rfl) (by kernel_rfl)
theorem sz92 : tsz Try.prog 92 = some 2 := by kernel_rfl
theorem by92 : tby Try.prog 92 = some 32 := by kernel_rfl
theorem ag92 : tagg Try.prog 92 = some true := by kernel_rfl
theorem sl92 : tsl Try.prog 92 = none := by kernel_rfl
theorem ar92 : tarr Try.prog 92 = none := by kernel_rfl
theorem pt92 : tptr Try.prog 92 = none := by kernel_rfl
theorem un92 : (Try.prog.underlying 92).isSome = true := by kernel_rfl
theorem fl92_0 : tfld Try.prog 92 0 = some (0, 34) := by kernel_rfl
theorem fl92_1 : tfld Try.prog 92 1 = some (1, 24) := by kernel_rfl
theorem fs92 : tflds Try.prog 92 = true := by kernel_rfl
theorem po92 : tpos Try.prog 92 = true := by kernel_rfl
def z92 : AV := .agg 2 [.sl 1 [] 1, .val (.int .i64 0)]
theorem zo92 : ZeroOK Try.prog 92 z92 := ZeroOK.mk (.agg #[.slice none 0 0, .int .i64 0]) (by kernel_rfl) (by kernel_rfl) (by kernel_rfl) (by kernel_rfl)
theorem sz93 : tsz Try.prog 93 = some 1 := by kernel_rfl
theorem by93 : tby Try.prog 93 = some 8 := by kernel_rfl
theorem ag93 : tagg Try.prog 93 = some false := by kernel_rfl
theorem sl93 : tsl Try.prog 93 = none := by kernel_rfl
theorem ar93 : tarr Try.prog 93 = none := by kernel_rfl
theorem pt93 : tptr Try.prog 93 = none := by kernel_rfl
theorem un93 : (Try.prog.underlying 93).isSome = true := by kernel_rfl
theorem po93 : tpos Try.prog 93 = true := by kernel_rfl
def z93 : AV := .val .nilFunc
theorem zo93 : ZeroOK Try.prog 93 z93 := ZeroOK.mk (.nilFunc) (by kernel_rfl) (by kernel_rfl) (by kernel_rfl) (by kernel_rfl)
theorem sz94 : tsz Try.prog 94 = some 1 := by kernel_rfl
theorem by94 : tby Try.prog 94 = some 8 := by kernel_rfl
theorem ag94 : tagg Try.prog 94 = some false := by kernel_rfl
theorem sl94 : tsl Try.prog 94 = none := by kernel_rfl
theorem ar94 : tarr Try.prog 94 = none := by kernel_rfl
theorem pt94 : tptr Try.prog 94 = some 84 := by kernel_rfl
theorem un94 : (Try.prog.underlying 94).isSome = true := by kernel_rfl
theorem po94 : tpos Try.prog 94 = true := by kernel_rfl
def z94 : AV := .val (.pointer none)
theorem zo94 : ZeroOK Try.prog 94 z94 := ZeroOK.mk (.pointer none) (by kernel_rfl) (by kernel_rfl) (by kernel_rfl) (by kernel_rfl)
theorem sz95 : tsz Try.prog 95 = some 1 := by kernel_rfl
theorem by95 : tby Try.prog 95 = some 8 := by kernel_rfl
theorem ag95 : tagg Try.prog 95 = some false := by kernel_rfl
theorem sl95 : tsl Try.prog 95 = none := by kernel_rfl
theorem ar95 : tarr Try.prog 95 = none := by kernel_rfl
theorem pt95 : tptr Try.prog 95 = none := by kernel_rfl
theorem un95 : (Try.prog.underlying 95).isSome = true := by kernel_rfl
theorem po95 : tpos Try.prog 95 = true := by kernel_rfl
def z95 : AV := .val .nilFunc
theorem zo95 : ZeroOK Try.prog 95 z95 := ZeroOK.mk (.nilFunc) (by kernel_rfl) (by kernel_rfl) (by kernel_rfl) (by kernel_rfl)
theorem sz96 : tsz Try.prog 96 = some 1 := by kernel_rfl
theorem by96 : tby Try.prog 96 = some 8 := by kernel_rfl
theorem ag96 : tagg Try.prog 96 = some false := by kernel_rfl
theorem sl96 : tsl Try.prog 96 = none := by kernel_rfl
theorem ar96 : tarr Try.prog 96 = none := by kernel_rfl
theorem pt96 : tptr Try.prog 96 = none := by kernel_rfl
theorem un96 : (Try.prog.underlying 96).isSome = true := by kernel_rfl
theorem po96 : tpos Try.prog 96 = true := by kernel_rfl
def z96 : AV := .val .nilFunc
theorem zo96 : ZeroOK Try.prog 96 z96 := ZeroOK.mk (.nilFunc) (by kernel_rfl) (by kernel_rfl) (by kernel_rfl) (by kernel_rfl)
theorem sz97 : tsz Try.prog 97 = some 1 := by kernel_rfl
theorem by97 : tby Try.prog 97 = some 24 := by kernel_rfl
theorem ag97 : tagg Try.prog 97 = some false := by kernel_rfl
theorem sl97 : tsl Try.prog 97 = some 82 := by kernel_rfl
theorem ar97 : tarr Try.prog 97 = none := by kernel_rfl
theorem pt97 : tptr Try.prog 97 = none := by kernel_rfl
theorem un97 : (Try.prog.underlying 97).isSome = true := by kernel_rfl
theorem po97 : tpos Try.prog 97 = true := by kernel_rfl
def z97 : AV := .sl 1 [] 1
theorem zo97 : ZeroOK Try.prog 97 z97 := ZeroOK.mk (.slice none 0 0) (by kernel_rfl) (by kernel_rfl) (by kernel_rfl) (by kernel_rfl)
theorem sz98 : tsz Try.prog 98 = some 1 := by kernel_rfl
theorem by98 : tby Try.prog 98 = some 8 := by kernel_rfl
theorem ag98 : tagg Try.prog 98 = some false := by kernel_rfl
theorem sl98 : tsl Try.prog 98 = none := by kernel_rfl
theorem ar98 : tarr Try.prog 98 = none := by kernel_rfl
theorem pt98 : tptr Try.prog 98 = none := by kernel_rfl
theorem un98 : (Try.prog.underlying 98).isSome = true := by kernel_rfl
theorem po98 : tpos Try.prog 98 = true := by kernel_rfl
def z98 : AV := .val .nilFunc
theorem zo98 : ZeroOK Try.prog 98 z98 := ZeroOK.mk (.nilFunc) (by kernel_rfl) (by kernel_rfl) (by kernel_rfl) (by kernel_rfl)
theorem sz99 : tsz Try.prog 99 = some 4 := by kernel_rfl
theorem by99 : tby Try.prog 99 = some 40 := by kernel_rfl
theorem ag99 : tagg Try.prog 99 = some true := by kernel_rfl
theorem sl99 : tsl Try.prog 99 = none := by kernel_rfl
theorem ar99 : tarr Try.prog 99 = none := by kernel_rfl
theorem pt99 : tptr Try.prog 99 = none := by kernel_rfl
theorem un99 : (Try.prog.underlying 99).isSome = true := by kernel_rfl
theorem fl99_0 : tfld Try.prog 99 0 = some (0, 17) := by kernel_rfl
theorem fl99_1 : tfld Try.prog 99 1 = some (1, 17) := by kernel_rfl
theorem fl99_2 : tfld Try.prog 99 2 = some (2, 17) := by kernel_rfl
theorem fl99_3 : tfld Try.prog 99 3 = some (3, 9) := by kernel_rfl
theorem fs99 : tflds Try.prog 99 = true := by kernel_rfl
theorem po99 : tpos Try.prog 99 = true := by kernel_rfl
def z99 : AV := .agg 4 [.val (.pointer none), .val (.pointer none), .val (.pointer none), .val (.string ByteArray.empty)]
theorem zo99 : ZeroOK Try.prog 99 z99 := ZeroOK.mk (.agg #[.pointer none, .pointer none, .pointer none, .string ByteArray.empty]) (by kernel_rfl) (by kernel_rfl) (by kernel_rfl) (by kernel_rfl)
theorem sz100 : tsz Try.prog 100 = some 4 := by kernel_rfl
theorem by100 : tby Try.prog 100 = some 40 := by kernel_rfl
theorem ag100 : tagg Try.prog 100 = some true := by kernel_rfl
theorem sl100 : tsl Try.prog 100 = none := by kernel_rfl
theorem ar100 : tarr Try.prog 100 = none := by kernel_rfl
theorem pt100 : tptr Try.prog 100 = none := by kernel_rfl
theorem un100 : (Try.prog.underlying 100).isSome = true := by kernel_rfl
theorem fl100_0 : tfld Try.prog 100 0 = some (0, 17) := by kernel_rfl
theorem fl100_1 : tfld Try.prog 100 1 = some (1, 17) := by kernel_rfl
theorem fl100_2 : tfld Try.prog 100 2 = some (2, 17) := by kernel_rfl
theorem fl100_3 : tfld Try.prog 100 3 = some (3, 9) := by kernel_rfl
theorem fs100 : tflds Try.prog 100 = true := by kernel_rfl
theorem po100 : tpos Try.prog 100 = true := by kernel_rfl
def z100 : AV := .agg 4 [.val (.pointer none), .val (.pointer none), .val (.pointer none), .val (.string ByteArray.empty)]
theorem zo100 : ZeroOK Try.prog 100 z100 := ZeroOK.mk (.agg #[.pointer none, .pointer none, .pointer none, .string ByteArray.empty]) (by kernel_rfl) (by kernel_rfl) (by kernel_rfl) (by kernel_rfl)
theorem sz101 : tsz Try.prog 101 = some 0 := by kernel_rfl
theorem by101 : tby Try.prog 101 = some 0 := by kernel_rfl
theorem ag101 : tagg Try.prog 101 = some true := by kernel_rfl
theorem sl101 : tsl Try.prog 101 = none := by kernel_rfl
theorem ar101 : tarr Try.prog 101 = some (0, 16) := by kernel_rfl
theorem pt101 : tptr Try.prog 101 = none := by kernel_rfl
theorem un101 : (Try.prog.underlying 101).isSome = true := by kernel_rfl
def z101 : AV := .vec 1 (List.replicate 0 (.val (.pointer none)))
theorem zo101 : ZeroOK Try.prog 101 z101 := ZeroOK.mk (.agg #[]) (by kernel_rfl) (by kernel_rfl) (by kernel_rfl) (by kernel_rfl)
theorem sz102 : tsz Try.prog 102 = some 0 := by kernel_rfl
theorem by102 : tby Try.prog 102 = some 0 := by kernel_rfl
theorem ag102 : tagg Try.prog 102 = some true := by kernel_rfl
theorem sl102 : tsl Try.prog 102 = none := by kernel_rfl
theorem ar102 : tarr Try.prog 102 = none := by kernel_rfl
theorem pt102 : tptr Try.prog 102 = none := by kernel_rfl
theorem un102 : (Try.prog.underlying 102).isSome = true := by kernel_rfl
theorem fl102_0 : tfld Try.prog 102 0 = some (0, 101) := by kernel_rfl
theorem fs102 : tflds Try.prog 102 = true := by kernel_rfl
def z102 : AV := .agg 0 [.vec 1 (List.replicate 0 (.val (.pointer none)))]
theorem zo102 : ZeroOK Try.prog 102 z102 := ZeroOK.mk (.agg #[]) (by kernel_rfl) (by kernel_rfl) (by kernel_rfl) (by kernel_rfl)
theorem sz103 : tsz Try.prog 103 = some 0 := by kernel_rfl
theorem by103 : tby Try.prog 103 = some 0 := by kernel_rfl
theorem ag103 : tagg Try.prog 103 = some true := by kernel_rfl
theorem sl103 : tsl Try.prog 103 = none := by kernel_rfl
theorem ar103 : tarr Try.prog 103 = none := by kernel_rfl
theorem pt103 : tptr Try.prog 103 = none := by kernel_rfl
theorem un103 : (Try.prog.underlying 103).isSome = true := by kernel_rfl
theorem fl103_0 : tfld Try.prog 103 0 = some (0, 101) := by kernel_rfl
theorem fs103 : tflds Try.prog 103 = true := by kernel_rfl
def z103 : AV := .agg 0 [.vec 1 (List.replicate 0 (.val (.pointer none)))]
theorem zo103 : ZeroOK Try.prog 103 z103 := ZeroOK.mk (.agg #[]) (by kernel_rfl) (by kernel_rfl) (by kernel_rfl) (by kernel_rfl)
theorem sz104 : tsz Try.prog 104 = some 1 := by kernel_rfl
theorem by104 : tby Try.prog 104 = some 1 := by kernel_rfl
theorem ag104 : tagg Try.prog 104 = some false := by kernel_rfl
theorem sl104 : tsl Try.prog 104 = none := by kernel_rfl
theorem ar104 : tarr Try.prog 104 = none := by kernel_rfl
theorem pt104 : tptr Try.prog 104 = none := by kernel_rfl
theorem in104 : tint Try.prog 104 = some .u8 := by kernel_rfl
theorem un104 : (Try.prog.underlying 104).isSome = true := by kernel_rfl
theorem po104 : tpos Try.prog 104 = true := by kernel_rfl
def z104 : AV := .val (.int .u8 0)
theorem zo104 : ZeroOK Try.prog 104 z104 := ZeroOK.mk (.int .u8 0) (by kernel_rfl) (by kernel_rfl) (by kernel_rfl) (by kernel_rfl)
theorem sz105 : tsz Try.prog 105 = some 1 := by kernel_rfl
theorem by105 : tby Try.prog 105 = some 1 := by kernel_rfl
theorem ag105 : tagg Try.prog 105 = some false := by kernel_rfl
theorem sl105 : tsl Try.prog 105 = none := by kernel_rfl
theorem ar105 : tarr Try.prog 105 = none := by kernel_rfl
theorem pt105 : tptr Try.prog 105 = none := by kernel_rfl
theorem in105 : tint Try.prog 105 = some .u8 := by kernel_rfl
theorem un105 : (Try.prog.underlying 105).isSome = true := by kernel_rfl
theorem po105 : tpos Try.prog 105 = true := by kernel_rfl
def z105 : AV := .val (.int .u8 0)
theorem zo105 : ZeroOK Try.prog 105 z105 := ZeroOK.mk (.int .u8 0) (by kernel_rfl) (by kernel_rfl) (by kernel_rfl) (by kernel_rfl)
theorem sz106 : tsz Try.prog 106 = some 1 := by kernel_rfl
theorem by106 : tby Try.prog 106 = some 8 := by kernel_rfl
theorem ag106 : tagg Try.prog 106 = some false := by kernel_rfl
theorem sl106 : tsl Try.prog 106 = none := by kernel_rfl
theorem ar106 : tarr Try.prog 106 = none := by kernel_rfl
theorem pt106 : tptr Try.prog 106 = none := by kernel_rfl
theorem un106 : (Try.prog.underlying 106).isSome = true := by kernel_rfl
theorem po106 : tpos Try.prog 106 = true := by kernel_rfl
def z106 : AV := .val .nilFunc
theorem zo106 : ZeroOK Try.prog 106 z106 := ZeroOK.mk (.nilFunc) (by kernel_rfl) (by kernel_rfl) (by kernel_rfl) (by kernel_rfl)
theorem sz107 : tsz Try.prog 107 = some 1 := by kernel_rfl
theorem by107 : tby Try.prog 107 = some 8 := by kernel_rfl
theorem ag107 : tagg Try.prog 107 = some false := by kernel_rfl
theorem sl107 : tsl Try.prog 107 = none := by kernel_rfl
theorem ar107 : tarr Try.prog 107 = none := by kernel_rfl
theorem pt107 : tptr Try.prog 107 = some 5 := by kernel_rfl
theorem un107 : (Try.prog.underlying 107).isSome = true := by kernel_rfl
theorem po107 : tpos Try.prog 107 = true := by kernel_rfl
def z107 : AV := .val (.pointer none)
theorem zo107 : ZeroOK Try.prog 107 z107 := ZeroOK.mk (.pointer none) (by kernel_rfl) (by kernel_rfl) (by kernel_rfl) (by kernel_rfl)
theorem sz108 : tsz Try.prog 108 = some 1 := by kernel_rfl
theorem by108 : tby Try.prog 108 = some 4 := by kernel_rfl
theorem ag108 : tagg Try.prog 108 = some false := by kernel_rfl
theorem sl108 : tsl Try.prog 108 = none := by kernel_rfl
theorem ar108 : tarr Try.prog 108 = none := by kernel_rfl
theorem pt108 : tptr Try.prog 108 = none := by kernel_rfl
theorem in108 : tint Try.prog 108 = some .i32 := by kernel_rfl
theorem un108 : (Try.prog.underlying 108).isSome = true := by kernel_rfl
theorem po108 : tpos Try.prog 108 = true := by kernel_rfl
def z108 : AV := .val (.int .i32 0)
theorem zo108 : ZeroOK Try.prog 108 z108 := ZeroOK.mk (.int .i32 0) (by kernel_rfl) (by kernel_rfl) (by kernel_rfl) (by kernel_rfl)
theorem sz109 : tsz Try.prog 109 = some 1 := by kernel_rfl
theorem by109 : tby Try.prog 109 = some 4 := by kernel_rfl
theorem ag109 : tagg Try.prog 109 = some false := by kernel_rfl
theorem sl109 : tsl Try.prog 109 = none := by kernel_rfl
theorem ar109 : tarr Try.prog 109 = none := by kernel_rfl
theorem pt109 : tptr Try.prog 109 = none := by kernel_rfl
theorem in109 : tint Try.prog 109 = some .i32 := by kernel_rfl
theorem un109 : (Try.prog.underlying 109).isSome = true := by kernel_rfl
theorem po109 : tpos Try.prog 109 = true := by kernel_rfl
def z109 : AV := .val (.int .i32 0)
theorem zo109 : ZeroOK Try.prog 109 z109 := ZeroOK.mk (.int .i32 0) (by kernel_rfl) (by kernel_rfl) (by kernel_rfl) (by kernel_rfl)
theorem sz110 : tsz Try.prog 110 = some 11 := by kernel_rfl
theorem by110 : tby Try.prog 110 = some 48 := by kernel_rfl
theorem ag110 : tagg Try.prog 110 = some true := by kernel_rfl
theorem sl110 : tsl Try.prog 110 = none := by kernel_rfl
theorem ar110 : tarr Try.prog 110 = none := by kernel_rfl
theorem pt110 : tptr Try.prog 110 = none := by kernel_rfl
theorem un110 : (Try.prog.underlying 110).isSome = true := by kernel_rfl
theorem fl110_0 : tfld Try.prog 110 0 = some (0, 12) := by kernel_rfl
theorem fl110_1 : tfld Try.prog 110 1 = some (1, 12) := by kernel_rfl
theorem fl110_2 : tfld Try.prog 110 2 = some (2, 82) := by kernel_rfl
theorem fl110_3 : tfld Try.prog 110 3 = some (3, 104) := by kernel_rfl
theorem fl110_4 : tfld Try.prog 110 4 = some (4, 5) := by kernel_rfl
theorem fl110_5 : tfld Try.prog 110 5 = some (5, 5) := by kernel_rfl
theorem fl110_6 : tfld Try.prog 110 6 = some (6, 105) := by kernel_rfl
theorem fl110_7 : tfld Try.prog 110 7 = some (7, 106) := by kernel_rfl
theorem fl110_8 : tfld Try.prog 110 8 = some (8, 107) := by kernel_rfl
theorem fl110_9 : tfld Try.prog 110 9 = some (9, 108) := by kernel_rfl
theorem fl110_10 : tfld Try.prog 110 10 = some (10, 109) := by kernel_rfl
theorem fs110 : tflds Try.prog 110 = true := by kernel_rfl
theorem po110 : tpos Try.prog 110 = true := by kernel_rfl
def z110 : AV := .agg 11 [.val (.int .u64 0), .val (.int .u64 0), .val (.int .u32 0), .val (.int .u8 0), .val (.int .u8 0), .val (.int .u8 0), .val (.int .u8 0), .val .nilFunc, .val (.pointer none), .val (.int .i32 0), .val (.int .i32 0)]
theorem zo110 : ZeroOK Try.prog 110 z110 := ZeroOK.mk (.agg #[.int .u64 0, .int .u64 0, .int .u32 0, .int .u8 0, .int .u8 0, .int .u8 0, .int .u8 0, .nilFunc, .pointer none, .int .i32 0, .int .i32 0]) (by kernel_rfl) (by kernel_rfl) (by kernel_rfl) (by kernel_rfl)
theorem sz111 : tsz Try.prog 111 = some 11 := by kernel_rfl
theorem by111 : tby Try.prog 111 = some 48 := by kernel_rfl
theorem ag111 : tagg Try.prog 111 = some true := by kernel_rfl
theorem sl111 : tsl Try.prog 111 = none := by kernel_rfl
theorem ar111 : tarr Try.prog 111 = none := by kernel_rfl
theorem pt111 : tptr Try.prog 111 = none := by kernel_rfl
theorem un111 : (Try.prog.underlying 111).isSome = true := by kernel_rfl
theorem fl111_0 : tfld Try.prog 111 0 = some (0, 12) := by kernel_rfl
theorem fl111_1 : tfld Try.prog 111 1 = some (1, 12) := by kernel_rfl
theorem fl111_2 : tfld Try.prog 111 2 = some (2, 82) := by kernel_rfl
theorem fl111_3 : tfld Try.prog 111 3 = some (3, 104) := by kernel_rfl
theorem fl111_4 : tfld Try.prog 111 4 = some (4, 5) := by kernel_rfl
theorem fl111_5 : tfld Try.prog 111 5 = some (5, 5) := by kernel_rfl
theorem fl111_6 : tfld Try.prog 111 6 = some (6, 105) := by kernel_rfl
theorem fl111_7 : tfld Try.prog 111 7 = some (7, 106) := by kernel_rfl
theorem fl111_8 : tfld Try.prog 111 8 = some (8, 107) := by kernel_rfl
theorem fl111_9 : tfld Try.prog 111 9 = some (9, 108) := by kernel_rfl
theorem fl111_10 : tfld Try.prog 111 10 = some (10, 109) := by kernel_rfl
theorem fs111 : tflds Try.prog 111 = true := by kernel_rfl
theorem po111 : tpos Try.prog 111 = true := by kernel_rfl
def z111 : AV := .agg 11 [.val (.int .u64 0), .val (.int .u64 0), .val (.int .u32 0), .val (.int .u8 0), .val (.int .u8 0), .val (.int .u8 0), .val (.int .u8 0), .val .nilFunc, .val (.pointer none), .val (.int .i32 0), .val (.int .i32 0)]
theorem zo111 : ZeroOK Try.prog 111 z111 := ZeroOK.mk (.agg #[.int .u64 0, .int .u64 0, .int .u32 0, .int .u8 0, .int .u8 0, .int .u8 0, .int .u8 0, .nilFunc, .pointer none, .int .i32 0, .int .i32 0]) (by kernel_rfl) (by kernel_rfl) (by kernel_rfl) (by kernel_rfl)
theorem sz112 : tsz Try.prog 112 = some 1 := by kernel_rfl
theorem by112 : tby Try.prog 112 = some 8 := by kernel_rfl
theorem ag112 : tagg Try.prog 112 = some false := by kernel_rfl
theorem sl112 : tsl Try.prog 112 = none := by kernel_rfl
theorem ar112 : tarr Try.prog 112 = none := by kernel_rfl
theorem pt112 : tptr Try.prog 112 = none := by kernel_rfl
theorem un112 : (Try.prog.underlying 112).isSome = true := by kernel_rfl
theorem po112 : tpos Try.prog 112 = true := by kernel_rfl
def zl : List (Nat × AV) := [(1, z1), (2, z2), (3, z3), (4, z4), (5, z5), (6, z6), (7, z7), (8, z8), (9, z9), (10, z10), (11, z11), (12, z12), (13, z13), (14, z14), (15, z15), (16, z16), (17, z17), (18, z18), (19, z19), (20, z20), (21, z21), (22, z22), (23, z23), (24, z24), (25, z25), (26, z26), (27, z27), (28, z28), (29, z29), (31, z31), (32, z32), (33, z33), (34, z34), (35, z35), (36, z36), (37, z37), (38, z38), (39, z39), (40, z40), (41, z41), (42, z42), (43, z43), (44, z44), (45, z45), (46, z46), (47, z47), (48, z48), (49, z49), (50, z50), (51, z51), (52, z52), (53, z53), (54, z54), (55, z55), (57, z57), (59, z59), (60, z60), (61, z61), (62, z62), (63, z63), (64, z64), (65, z65), (66, z66), (67, z67), (68, z68), (69, z69), (70, z70), (71, z71), (72, z72), (73, z73), (74, z74), (75, z75), (76, z76), (77, z77), (78, z78), (79, z79), (80, z80), (81, z81), (82, z82), (83, z83), (84, z84), (85, z85), (86, z86), (87, z87), (88, z88), (89, z89), (90, z90), (91, z91), (92, z92), (93, z93), (94, z94), (95, z95), (96, z96), (97, z97), (98, z98), (99, z99), (100, z100), (101, z101), (102, z102), (103, z103), (104, z104), (105, z105), (106, z106), (107, z107), (108, z108), (109, z109), (110, z110), (111, z111)]
theorem zl_ok : zAll Try.prog zl := ⟨zo1, zo2, zo3, zo4, zo5, zo6, zo7, zo8, zo9, zo10, zo11, zo12, zo13, zo14, zo15, zo16, zo17, zo18, zo19, zo20, zo21, zo22, zo23, zo24, zo25, zo26, zo27, zo28, zo29, zo31, zo32, zo33, zo34, zo35, zo36, zo37, zo38, zo39, zo40, zo41, zo42, zo43, zo44, zo45, zo46, zo47, zo48, zo49, zo50, zo51, zo52, zo53, zo54, zo55, zo57, zo59, zo60, zo61, zo62, zo63, zo64, zo65, zo66, zo67, zo68, zo69, zo70, zo71, zo72, zo73, zo74, zo75, zo76, zo77, zo78, zo79, zo80, zo81, zo82, zo83, zo84, zo85, zo86, zo87, zo88, zo89, zo90, zo91, zo92, zo93, zo94, zo95, zo96, zo97, zo98, zo99, zo100, zo101, zo102, zo103, zo104, zo105, zo106, zo107, zo108, zo109, zo110, zo111, trivial⟩
/-- the program, its zero values -/
noncomputable def cx : Cx := ⟨Try.prog, zLook zl, zLook_ok zl_ok⟩
theorem cxP : cx.P = Try.prog := rfl
theorem zt1 : cx.zt 1 = some z1 := by kernel_rfl
theorem zt2 : cx.zt 2 = some z2 := by kernel_rfl
theorem zt3 : cx.zt 3 = some z3 := by kernel_rfl
theorem zt4 : cx.zt 4 = some z4 := by kernel_rfl
theorem zt5 : cx.zt 5 = some z5 := by kernel_rfl
theorem zt6 : cx.zt 6 = some z6 := by kernel_rfl
theorem zt7 : cx.zt 7 = some z7 := by kernel_rfl
theorem zt8 : cx.zt 8 = some z8 := by kernel_rfl
theorem zt9 : cx.zt 9 = some z9 := by kernel_rfl
theorem zt10 : cx.zt 10 = some z10 := by kernel_rfl
theorem zt11 : cx.zt 11 = some z11 := by kernel_rfl
theorem zt12 : cx.zt 12 = some z12 := by kernel_rfl
theorem zt13 : cx.zt 13 = some z13 := by kernel_rfl
theorem zt14 : cx.zt 14 = some z14 := by kernel_rfl
theorem zt15 : cx.zt 15 = some z15 := by kernel_rfl
theorem zt16 : cx.zt 16 = some z16 := by kernel_rfl
theorem zt17 : cx.zt 17 = some z17 := by kernel_rfl
theorem zt18 : cx.zt 18 = some z18 := by kernel_rfl
theorem zt19 : cx.zt 19 = some z19 := by kernel_rfl
theorem zt20 : cx.zt 20 = some z20 := by kernel_rfl
theorem zt21 : cx.zt 21 = some z21 := by kernel_rfl
theorem zt22 : cx.zt 22 = some z22 := by kernel_rfl
theorem zt23 : cx.zt 23 = some z23 := by kernel_rfl
theorem zt24 : cx.zt 24 = some z24 := by kernel_rfl
theorem zt25 : cx.zt 25 = some z25 := by kernel_rfl
theorem zt26 : cx.zt 26 = some z26 := by kernel_rfl
theorem zt27 : cx.zt 27 = some z27 := by kernel_rfl
theorem zt28 : cx.zt 28 = some z28 := by kernel_rfl
theorem zt29 : cx.zt 29 = some z29 := by kernel_rfl
theorem zt31 : cx.zt 31 = some z31 := by kernel_rfl
theorem zt32 : cx.zt 32 = some z32 := by kernel_rfl
theorem zt33 : cx.zt 33 = some z33 := by kernel_rfl
theorem zt34 : cx.zt 34 = some z34 := by kernel_rfl
theorem zt35 : cx.zt 35 = some z35 := by kernel_rfl
theorem zt36 : cx.zt 36 = some z36 := by kernel_rfl
theorem zt37 : cx.zt 37 = some z37 := by kernel_rfl
theorem zt38 : cx.zt 38 = some z38 := by kernel_rfl
theorem zt39 : cx.zt 39 = some z39 := by kernel_rfl
theorem zt40 : cx.zt 40 = some z40 := by kernel_rfl
theorem zt41 : cx.zt 41 = some z41 := by kernel_rfl
theorem zt42 : cx.zt 42 = some z42 := by kernel_rfl
theorem zt43 : cx.zt 43 = some z43 := by kernel_rfl
theorem zt44 : cx.zt 44 = some z44 := by kernel_rfl
theorem zt45 : cx.zt 45 = some z45 := by kernel_rfl
theorem zt46 : cx.zt 46 = some z46 := by kernel_rfl
theorem zt47 : cx.zt 47 = some z47 := by kernel_rfl
theorem zt48 : cx.zt 48 = some z48 := by kernel_rfl
theorem zt49 : cx.zt 49 = some z49 := by kernel_rfl
theorem zt50 : cx.zt 50 = some z50 := by kernel_rfl
theorem zt51 : cx.zt 51 = some z51 := by kernel_rfl
theorem zt52 : cx.zt 52 = some z52 := by kernel_rfl
theorem zt53 : cx.zt 53 = some z53 := by kernel_rfl
theorem zt54 : cx.zt 54 = some z54 := by kernel_rfl
theorem zt55 : cx.zt 55 = some z55 := by kernel_rfl
theorem zt57 : cx.zt 57 = some z57 := by kernel_rfl
theorem zt59 : cx.zt 59 = some z59 := by kernel_rfl
theorem zt60 : cx.zt 60 = some z60 := by kernel_rfl
theorem zt61 : cx.zt 61 = some z61 := by kernel_rfl
theorem zt62 : cx.zt 62 = some z62 := by kernel_rfl
theorem zt63 : cx.zt 63 = some z63 := by kernel_rfl
theorem zt64 : cx.zt 64 = some z64 := by kernel_rfl
theorem zt65 : cx.zt 65 = some z65 := by kernel_rfl
theorem zt66 : cx.zt 66 = some z66 := by kernel_rfl
theorem zt67 : cx.zt 67 = some z67 := by kernel_rfl
theorem zt68 : cx.zt 68 = some z68 := by kernel_rfl
theorem zt69 : cx.zt 69 = some z69 := by kernel_rfl
theorem zt70 : cx.zt 70 = some z70 := by kernel_rfl
theorem zt71 : cx.zt 71 = some z71 := by kernel_rfl
theorem zt72 : cx.zt 72 = some z72 := by kernel_rfl
theorem zt73 : cx.zt 73 = some z73 := by kernel_rfl
theorem zt74 : cx.zt 74 = some z74 := by kernel_rfl
theorem zt75 : cx.zt 75 = some z75 := by kernel_rfl
theorem zt76 : cx.zt 76 = some z76 := by kernel_rfl
theorem zt77 : cx.zt 77 = some z77 := by kernel_rfl
theorem zt78 : cx.zt 78 = some z78 := by kernel_rfl
theorem zt79 : cx.zt 79 = some z79 := by kernel_rfl
theorem zt80 : cx.zt 80 = some z80 := by kernel_rfl
theorem zt81 : cx.zt 81 = some z81 := by kernel_rfl
theorem zt82 : cx.zt 82 = some z82 := by kernel_rfl
theorem zt83 : cx.zt 83 = some z83 := by kernel_rfl
theorem zt84 : cx.zt 84 = some z84 := by kernel_rfl
theorem zt85 : cx.zt 85 = some z85 := by kernel_rfl
theorem zt86 : cx.zt 86 = some z86 := by kernel_rfl
theorem zt87 : cx.zt 87 = some z87 := by kernel_rfl
theorem zt88 : cx.zt 88 = some z88 := by kernel_rfl
theorem zt89 : cx.zt 89 = some z89 := by kernel_rfl
theorem zt90 : cx.zt 90 = some z90 := by kernel_rfl
theorem zt91 : cx.zt 91 = some z91 := by kernel_rfl
theorem zt92 : cx.zt 92 = some z92 := by kernel_rfl
theorem zt93 : cx.zt 93 = some z93 := by kernel_rfl
theorem zt94 : cx.zt 94 = some z94 := by kernel_rfl
theorem zt95 : cx.zt 95 = some z95 := by kernel_rfl
theorem zt96 : cx.zt 96 = some z96 := by kernel_rfl
theorem zt97 : cx.zt 97 = some z97 := by kernel_rfl
theorem zt98 : cx.zt 98 = some z98 := by kernel_rfl
theorem zt99 : cx.zt 99 = some z99 := by kernel_rfl
theorem zt100 : cx.zt 100 = some z100 := by kernel_rfl
theorem zt101 : cx.zt 101 = some z101 := by kernel_rfl
theorem zt102 : cx.zt 102 = some z102 := by kernel_rfl
theorem zt103 : cx.zt 103 = some z103 := by kernel_rfl
theorem zt104 : cx.zt 104 = some z104 := by kernel_rfl
theorem zt105 : cx.zt 105 = some z105 := by kernel_rfl
theorem zt106 : cx.zt 106 = some z106 := by kernel_rfl
theorem zt107 : cx.zt 107 = some z107 := by kernel_rfl
theorem zt108 : cx.zt 108 = some z108 := by kernel_rfl
theorem zt109 : cx.zt 109 = some z109 := by kernel_rfl
theorem zt110 : cx.zt 110 = some z110 := by kernel_rfl
theorem zt111 : cx.zt 111 = some z111 := by kernel_rfl
theorem t1 : type_of% (sz1) ∧ type_of% (by1) ∧ type_of% (ag1) ∧ type_of% (sl1) ∧ type_of% (ar1) ∧ type_of% (pt1) ∧ type_of% (un1) ∧ type_of% (po1) ∧ type_of% (zt1) ∧ type_of% (@z1.eq_1) :=
  ⟨sz1, by1, ag1, sl1, ar1, pt1, un1, po1, zt1, @z1.eq_1⟩
theorem t2 : type_of% (sz2) ∧ type_of% (by2) ∧ type_of% (ag2) ∧ type_of% (sl2) ∧ type_of% (ar2) ∧ type_of% (pt2) ∧ type_of% (in2) ∧ type_of% (un2) ∧ type_of% (po2) ∧ type_of% (zt2) ∧ type_of% (@z2.eq_1) :=
  ⟨sz2, by2, ag2, sl2, ar2, pt2, in2, un2, po2, zt2, @z2.eq_1⟩
theorem t3 : type_of% (sz3) ∧ type_of% (by3) ∧ type_of% (ag3) ∧ type_of% (sl3) ∧ type_of% (ar3) ∧ type_of% (pt3) ∧ type_of% (in3) ∧ type_of% (un3) ∧ type_of% (po3) ∧ type_of% (zt3) ∧ type_of% (@z3.eq_1) :=
  ⟨sz3, by3, ag3, sl3, ar3, pt3, in3, un3, po3, zt3, @z3.eq_1⟩
theorem t4 : type_of% (sz4) ∧ type_of% (by4) ∧ type_of% (ag4) ∧ type_of% (sl4) ∧ type_of% (ar4) ∧ type_of% (pt4) ∧ type_of% (un4) ∧ type_of% (tb4) ∧ type_of% (po4) ∧ type_of% (zt4) ∧ type_of% (@z4.eq_1) :=
  ⟨sz4, by4, ag4, sl4, ar4, pt4, un4, tb4, po4, zt4, @z4.eq_1⟩
theorem t5 : type_of% (sz5) ∧ type_of% (by5) ∧ type_of% (ag5) ∧ type_of% (sl5) ∧ type_of% (ar5) ∧ type_of% (pt5) ∧ type_of% (in5) ∧ type_of% (un5) ∧ type_of% (po5) ∧ type_of% (zt5) ∧ type_of% (@z5.eq_1) :=
  ⟨sz5, by5, ag5, sl5, ar5, pt5, in5, un5, po5, zt5, @z5.eq_1⟩
theorem t6 : type_of% (sz6) ∧ type_of% (by6) ∧ type_of% (ag6) ∧ type_of% (sl6) ∧ type_of% (ar6) ∧ type_of% (pt6) ∧ type_of% (in6) ∧ type_of% (un6) ∧ type_of% (po6) ∧ type_of% (zt6) ∧ type_of% (@z6.eq_1) :=
  ⟨sz6, by6, ag6, sl6, ar6, pt6, in6, un6, po6, zt6, @z6.eq_1⟩
theorem t7 : type_of% (sz7) ∧ type_of% (by7) ∧ type_of% (ag7) ∧ type_of% (sl7) ∧ type_of% (ar7) ∧ type_of% (pt7) ∧ type_of% (un7) ∧ type_of% (fl7_0) ∧ type_of% (fl7_1) ∧ type_of% (fl7_2) ∧ type_of% (fl7_3) ∧ type_of% (fs7) ∧ type_of% (po7) ∧ type_of% (tq7) ∧ type_of% (zt7) ∧ type_of% (@z7.eq_1) :=
  ⟨sz7, by7, ag7, sl7, ar7, pt7, un7, fl7_0, fl7_1, fl7_2, fl7_3, fs7, po7, tq7, zt7, @z7.eq_1⟩
theorem t8 : type_of% (sz8) ∧ type_of% (by8) ∧ type_of% (ag8) ∧ type_of% (sl8) ∧ type_of% (ar8) ∧ type_of% (pt8) ∧ type_of% (un8) ∧ type_of% (fl8_0) ∧ type_of% (fl8_1) ∧ type_of% (fl8_2) ∧ type_of% (fl8_3) ∧ type_of% (fs8) ∧ type_of% (po8) ∧ type_of% (tq8) ∧ type_of% (zt8) ∧ type_of% (@z8.eq_1) :=
  ⟨sz8, by8, ag8, sl8, ar8, pt8, un8, fl8_0, fl8_1, fl8_2, fl8_3, fs8, po8, tq8, zt8, @z8.eq_1⟩
theorem t9 : type_of% (sz9) ∧ type_of% (by9) ∧ type_of% (ag9) ∧ type_of% (sl9) ∧ type_of% (ar9) ∧ type_of% (pt9) ∧ type_of% (st9) ∧ type_of% (un9) ∧ type_of% (po9) ∧ type_of% (zt9) ∧ type_of% (@z9.eq_1) :=
  ⟨sz9, by9, ag9, sl9, ar9, pt9, st9, un9, po9, zt9, @z9.eq_1⟩
theorem t10 : type_of% (sz10) ∧ type_of% (by10) ∧ type_of% (ag10) ∧ type_of% (sl10) ∧ type_of% (ar10) ∧ type_of% (pt10) ∧ type_of% (st10) ∧ type_of% (un10) ∧ type_of% (po10) ∧ type_of% (zt10) ∧ type_of% (@z10.eq_1) :=
  ⟨sz10, by10, ag10, sl10, ar10, pt10, st10, un10, po10, zt10, @z10.eq_1⟩
theorem t11 : type_of% (sz11) ∧ type_of% (by11) ∧ type_of% (ag11) ∧ type_of% (sl11) ∧ type_of% (ar11) ∧ type_of% (pt11) ∧ type_of% (st11) ∧ type_of% (un11) ∧ type_of% (po11) ∧ type_of% (zt11) ∧ type_of% (@z11.eq_1) :=
  ⟨sz11, by11, ag11, sl11, ar11, pt11, st11, un11, po11, zt11, @z11.eq_1⟩
theorem t12 : type_of% (sz12) ∧ type_of% (by12) ∧ type_of% (ag12) ∧ type_of% (sl12) ∧ type_of% (ar12) ∧ type_of% (pt12) ∧ type_of% (in12) ∧ type_of% (un12) ∧ type_of% (po12) ∧ type_of% (zt12) ∧ type_of% (@z12.eq_1) :=
  ⟨sz12, by12, ag12, sl12, ar12, pt12, in12, un12, po12, zt12, @z12.eq_1⟩
theorem t13 : type_of% (sz13) ∧ type_of% (by13) ∧ type_of% (ag13) ∧ type_of% (sl13) ∧ type_of% (ar13) ∧ type_of% (pt13) ∧ type_of% (un13) ∧ type_of% (fl13_0) ∧ type_of% (fl13_1) ∧ type_of% (fs13) ∧ type_of% (po13) ∧ type_of% (tq13) ∧ type_of% (zt13) ∧ type_of% (@z13.eq_1) :=
  ⟨sz13, by13, ag13, sl13, ar13, pt13, un13, fl13_0, fl13_1, fs13, po13, tq13, zt13, @z13.eq_1⟩
theorem t14 : type_of% (sz14) ∧ type_of% (by14) ∧ type_of% (ag14) ∧ type_of% (sl14) ∧ type_of% (ar14) ∧ type_of% (pt14) ∧ type_of% (un14) ∧ type_of% (fl14_0) ∧ type_of% (fl14_1) ∧ type_of% (fs14) ∧ type_of% (po14) ∧ type_of% (tq14) ∧ type_of% (zt14) ∧ type_of% (@z14.eq_1) :=
  ⟨sz14, by14, ag14, sl14, ar14, pt14, un14, fl14_0, fl14_1, fs14, po14, tq14, zt14, @z14.eq_1⟩
theorem t15 : type_of% (sz15) ∧ type_of% (by15) ∧ type_of% (ag15) ∧ type_of% (sl15) ∧ type_of% (ar15) ∧ type_of% (pt15) ∧ type_of% (un15) ∧ type_of% (po15) ∧ type_of% (zt15) ∧ type_of% (@z15.eq_1) :=
  ⟨sz15, by15, ag15, sl15, ar15, pt15, un15, po15, zt15, @z15.eq_1⟩
theorem t16 : type_of% (sz16) ∧ type_of% (by16) ∧ type_of% (ag16) ∧ type_of% (sl16) ∧ type_of% (ar16) ∧ type_of% (pt16) ∧ type_of% (un16) ∧ type_of% (po16) ∧ type_of% (zt16) ∧ type_of% (@z16.eq_1) :=
  ⟨sz16, by16, ag16, sl16, ar16, pt16, un16, po16, zt16, @z16.eq_1⟩
theorem t17 : type_of% (sz17) ∧ type_of% (by17) ∧ type_of% (ag17) ∧ type_of% (sl17) ∧ type_of% (ar17) ∧ type_of% (pt17) ∧ type_of% (un17) ∧ type_of% (po17) ∧ type_of% (zt17) ∧ type_of% (@z17.eq_1) :=
  ⟨sz17, by17, ag17, sl17, ar17, pt17, un17, po17, zt17, @z17.eq_1⟩
theorem t18 : type_of% (sz18) ∧ type_of% (by18) ∧ type_of% (ag18) ∧ type_of% (sl18) ∧ type_of% (ar18) ∧ type_of% (pt18) ∧ type_of% (un18) ∧ type_of% (fl18_0) ∧ type_of% (fs18) ∧ type_of% (po18) ∧ type_of% (zt18) ∧ type_of% (@z18.eq_1) :=
  ⟨sz18, by18, ag18, sl18, ar18, pt18, un18, fl18_0, fs18, po18, zt18, @z18.eq_1⟩
theorem t19 : type_of% (sz19) ∧ type_of% (by19) ∧ type_of% (ag19) ∧ type_of% (sl19) ∧ type_of% (ar19) ∧ type_of% (pt19) ∧ type_of% (un19) ∧ type_of% (fl19_0) ∧ type_of% (fs19) ∧ type_of% (po19) ∧ type_of% (zt19) ∧ type_of% (@z19.eq_1) :=
  ⟨sz19, by19, ag19, sl19, ar19, pt19, un19, fl19_0, fs19, po19, zt19, @z19.eq_1⟩
theorem t20 : type_of% (sz20) ∧ type_of% (by20) ∧ type_of% (ag20) ∧ type_of% (sl20) ∧ type_of% (ar20) ∧ type_of% (pt20) ∧ type_of% (un20) ∧ type_of% (po20) ∧ type_of% (zt20) ∧ type_of% (@z20.eq_1) :=
  ⟨sz20, by20, ag20, sl20, ar20, pt20, un20, po20, zt20, @z20.eq_1⟩
theorem t21 : type_of% (sz21) ∧ type_of% (by21) ∧ type_of% (ag21) ∧ type_of% (sl21) ∧ type_of% (ar21) ∧ type_of% (pt21) ∧ type_of% (in21) ∧ type_of% (un21) ∧ type_of% (po21) ∧ type_of% (zt21) ∧ type_of% (@z21.eq_1) :=
  ⟨sz21, by21, ag21, sl21, ar21, pt21, in21, un21, po21, zt21, @z21.eq_1⟩
theorem t22 : type_of% (sz22) ∧ type_of% (by22) ∧ type_of% (ag22) ∧ type_of% (sl22) ∧ type_of% (ar22) ∧ type_of% (pt22) ∧ type_of% (un22) ∧ type_of% (po22) ∧ type_of% (zt22) ∧ type_of% (@z22.eq_1) :=
  ⟨sz22, by22, ag22, sl22, ar22, pt22, un22, po22, zt22, @z22.eq_1⟩
theorem t23 : type_of% (sz23) ∧ type_of% (by23) ∧ type_of% (ag23) ∧ type_of% (sl23) ∧ type_of% (ar23) ∧ type_of% (pt23) ∧ type_of% (un23) ∧ type_of% (po23) ∧ type_of% (zt23) ∧ type_of% (@z23.eq_1) :=
  ⟨sz23, by23, ag23, sl23, ar23, pt23, un23, po23, zt23, @z23.eq_1⟩
theorem t24 : type_of% (sz24) ∧ type_of% (by24) ∧ type_of% (ag24) ∧ type_of% (sl24) ∧ type_of% (ar24) ∧ type_of% (pt24) ∧ type_of% (in24) ∧ type_of% (un24) ∧ type_of% (po24) ∧ type_of% (zt24) ∧ type_of% (@z24.eq_1) :=
  ⟨sz24, by24, ag24, sl24, ar24, pt24, in24, un24, po24, zt24, @z24.eq_1⟩
theorem t25 : type_of% (sz25) ∧ type_of% (by25) ∧ type_of% (ag25) ∧ type_of% (sl25) ∧ type_of% (ar25) ∧ type_of% (pt25) ∧ type_of% (un25) ∧ type_of% (fl25_0) ∧ type_of% (fl25_1) ∧ type_of% (fl25_2) ∧ type_of% (fl25_3) ∧ type_of% (fl25_4) ∧ type_of% (fl25_5) ∧ type_of% (fl25_6) ∧ type_of% (fl25_7) ∧ type_of% (fl25_8) ∧ type_of% (fl25_9) ∧ type_of% (fl25_10) ∧ type_of% (fs25) ∧ type_of% (po25) ∧ type_of% (tq25) ∧ type_of% (tc25) ∧ type_of% (zt25) ∧ type_of% (@z25.eq_1) :=
  ⟨sz25, by25, ag25, sl25, ar25, pt25, un25, fl25_0, fl25_1, fl25_2, fl25_3, fl25_4, fl25_5, fl25_6, fl25_7, fl25_8, fl25_9, fl25_10, fs25, po25, tq25, tc25, zt25, @z25.eq_1⟩
theorem t26 : type_of% (sz26) ∧ type_of% (by26) ∧ type_of% (ag26) ∧ type_of% (sl26) ∧ type_of% (ar26) ∧ type_of% (pt26) ∧ type_of% (un26) ∧ type_of% (fl26_0) ∧ type_of% (fl26_1) ∧ type_of% (fl26_2) ∧ type_of% (fl26_3) ∧ type_of% (fl26_4) ∧ type_of% (fl26_5) ∧ type_of% (fl26_6) ∧ type_of% (fl26_7) ∧ type_of% (fl26_8) ∧ type_of% (fl26_9) ∧ type_of% (fl26_10) ∧ type_of% (fs26) ∧ type_of% (po26) ∧ type_of% (tq26) ∧ type_of% (tc26) ∧ type_of% (zt26) ∧ type_of% (@z26.eq_1) :=
  ⟨sz26, by26, ag26, sl26, ar26, pt26, un26, fl26_0, fl26_1, fl26_2, fl26_3, fl26_4, fl26_5, fl26_6, fl26_7, fl26_8, fl26_9, fl26_10, fs26, po26, tq26, tc26, zt26, @z26.eq_1⟩
theorem t27 : type_of% (sz27) ∧ type_of% (by27) ∧ type_of% (ag27) ∧ type_of% (sl27) ∧ type_of% (ar27) ∧ type_of% (pt27) ∧ type_of% (un27) ∧ type_of% (po27) ∧ type_of% (zt27) ∧ type_of% (@z27.eq_1) :=
  ⟨sz27, by27, ag27, sl27, ar27, pt27, un27, po27, zt27, @z27.eq_1⟩
theorem t28 : type_of% (sz28) ∧ type_of% (by28) ∧ type_of% (ag28) ∧ type_of% (sl28) ∧ type_of% (ar28) ∧ type_of% (pt28) ∧ type_of% (un28) ∧ type_of% (po28) ∧ type_of% (zt28) ∧ type_of% (@z28.eq_1) :=
  ⟨sz28, by28, ag28, sl28, ar28, pt28, un28, po28, zt28, @z28.eq_1⟩
theorem t29 : type_of% (sz29) ∧ type_of% (by29) ∧ type_of% (ag29) ∧ type_of% (sl29) ∧ type_of% (ar29) ∧ type_of% (pt29) ∧ type_of% (un29) ∧ type_of% (po29) ∧ type_of% (zt29) ∧ type_of% (@z29.eq_1) :=
  ⟨sz29, by29, ag29, sl29, ar29, pt29, un29, po29, zt29, @z29.eq_1⟩
theorem t31 : type_of% (sz31) ∧ type_of% (by31) ∧ type_of% (ag31) ∧ type_of% (sl31) ∧ type_of% (ar31) ∧ type_of% (pt31) ∧ type_of% (un31) ∧ type_of% (po31) ∧ type_of% (zt31) ∧ type_of% (@z31.eq_1) :=
  ⟨sz31, by31, ag31, sl31, ar31, pt31, un31, po31, zt31, @z31.eq_1⟩
theorem t32 : type_of% (sz32) ∧ type_of% (by32) ∧ type_of% (ag32) ∧ type_of% (sl32) ∧ type_of% (ar32) ∧ type_of% (pt32) ∧ type_of% (un32) ∧ type_of% (po32) ∧ type_of% (zt32) ∧ type_of% (@z32.eq_1) :=
  ⟨sz32, by32, ag32, sl32, ar32, pt32, un32, po32, zt32, @z32.eq_1⟩
theorem t33 : type_of% (sz33) ∧ type_of% (by33) ∧ type_of% (ag33) ∧ type_of% (sl33) ∧ type_of% (ar33) ∧ type_of% (pt33) ∧ type_of% (un33) ∧ type_of% (po33) ∧ type_of% (zt33) ∧ type_of% (@z33.eq_1) :=
  ⟨sz33, by33, ag33, sl33, ar33, pt33, un33, po33, zt33, @z33.eq_1⟩
theorem t34 : type_of% (sz34) ∧ type_of% (by34) ∧ type_of% (ag34) ∧ type_of% (sl34) ∧ type_of% (ar34) ∧ type_of% (pt34) ∧ type_of% (un34) ∧ type_of% (po34) ∧ type_of% (zt34) ∧ type_of% (@z34.eq_1) :=
  ⟨sz34, by34, ag34, sl34, ar34, pt34, un34, po34, zt34, @z34.eq_1⟩
theorem t35 : type_of% (sz35) ∧ type_of% (by35) ∧ type_of% (ag35) ∧ type_of% (sl35) ∧ type_of% (ar35) ∧ type_of% (pt35) ∧ type_of% (un35) ∧ type_of% (fl35_0) ∧ type_of% (fs35) ∧ type_of% (po35) ∧ type_of% (zt35) ∧ type_of% (@z35.eq_1) :=
  ⟨sz35, by35, ag35, sl35, ar35, pt35, un35, fl35_0, fs35, po35, zt35, @z35.eq_1⟩
theorem t36 : type_of% (sz36) ∧ type_of% (by36) ∧ type_of% (ag36) ∧ type_of% (sl36) ∧ type_of% (ar36) ∧ type_of% (pt36) ∧ type_of% (un36) ∧ type_of% (fl36_0) ∧ type_of% (fs36) ∧ type_of% (po36) ∧ type_of% (zt36) ∧ type_of% (@z36.eq_1) :=
  ⟨sz36, by36, ag36, sl36, ar36, pt36, un36, fl36_0, fs36, po36, zt36, @z36.eq_1⟩
theorem t37 : type_of% (sz37) ∧ type_of% (by37) ∧ type_of% (ag37) ∧ type_of% (sl37) ∧ type_of% (ar37) ∧ type_of% (pt37) ∧ type_of% (un37) ∧ type_of% (po37) ∧ type_of% (zt37) ∧ type_of% (@z37.eq_1) :=
  ⟨sz37, by37, ag37, sl37, ar37, pt37, un37, po37, zt37, @z37.eq_1⟩
theorem t38 : type_of% (sz38) ∧ type_of% (by38) ∧ type_of% (ag38) ∧ type_of% (sl38) ∧ type_of% (ar38) ∧ type_of% (pt38) ∧ type_of% (un38) ∧ type_of% (po38) ∧ type_of% (zt38) ∧ type_of% (@z38.eq_1) :=
  ⟨sz38, by38, ag38, sl38, ar38, pt38, un38, po38, zt38, @z38.eq_1⟩
theorem t39 : type_of% (sz39) ∧ type_of% (by39) ∧ type_of% (ag39) ∧ type_of% (sl39) ∧ type_of% (ar39) ∧ type_of% (pt39) ∧ type_of% (un39) ∧ type_of% (po39) ∧ type_of% (zt39) ∧ type_of% (@z39.eq_1) :=
  ⟨sz39, by39, ag39, sl39, ar39, pt39, un39, po39, zt39, @z39.eq_1⟩
theorem t40 : type_of% (sz40) ∧ type_of% (by40) ∧ type_of% (ag40) ∧ type_of% (sl40) ∧ type_of% (ar40) ∧ type_of% (pt40) ∧ type_of% (un40) ∧ type_of% (po40) ∧ type_of% (zt40) ∧ type_of% (@z40.eq_1) :=
  ⟨sz40, by40, ag40, sl40, ar40, pt40, un40, po40, zt40, @z40.eq_1⟩
theorem t41 : type_of% (sz41) ∧ type_of% (by41) ∧ type_of% (ag41) ∧ type_of% (sl41) ∧ type_of% (ar41) ∧ type_of% (pt41) ∧ type_of% (un41) ∧ type_of% (po41) ∧ type_of% (tq41) ∧ type_of% (zt41) ∧ type_of% (@z41.eq_1) :=
  ⟨sz41, by41, ag41, sl41, ar41, pt41, un41, po41, tq41, zt41, @z41.eq_1⟩
theorem t42 : type_of% (sz42) ∧ type_of% (by42) ∧ type_of% (ag42) ∧ type_of% (sl42) ∧ type_of% (ar42) ∧ type_of% (pt42) ∧ type_of% (un42) ∧ type_of% (po42) ∧ type_of% (tq42) ∧ type_of% (zt42) ∧ type_of% (@z42.eq_1) :=
  ⟨sz42, by42, ag42, sl42, ar42, pt42, un42, po42, tq42, zt42, @z42.eq_1⟩
theorem t43 : type_of% (sz43) ∧ type_of% (by43) ∧ type_of% (ag43) ∧ type_of% (sl43) ∧ type_of% (ar43) ∧ type_of% (pt43) ∧ type_of% (un43) ∧ type_of% (po43) ∧ type_of% (zt43) ∧ type_of% (@z43.eq_1) :=
  ⟨sz43, by43, ag43, sl43, ar43, pt43, un43, po43, zt43, @z43.eq_1⟩
theorem t44 : type_of% (sz44) ∧ type_of% (by44) ∧ type_of% (ag44) ∧ type_of% (sl44) ∧ type_of% (ar44) ∧ type_of% (pt44) ∧ type_of% (un44) ∧ type_of% (po44) ∧ type_of% (zt44) ∧ type_of% (@z44.eq_1) :=
  ⟨sz44, by44, ag44, sl44, ar44, pt44, un44, po44, zt44, @z44.eq_1⟩
theorem t45 : type_of% (sz45) ∧ type_of% (by45) ∧ type_of% (ag45) ∧ type_of% (sl45) ∧ type_of% (ar45) ∧ type_of% (pt45) ∧ type_of% (un45) ∧ type_of% (po45) ∧ type_of% (zt45) ∧ type_of% (@z45.eq_1) :=
  ⟨sz45, by45, ag45, sl45, ar45, pt45, un45, po45, zt45, @z45.eq_1⟩
theorem t46 : type_of% (sz46) ∧ type_of% (by46) ∧ type_of% (ag46) ∧ type_of% (sl46) ∧ type_of% (ar46) ∧ type_of% (pt46) ∧ type_of% (un46) ∧ type_of% (fl46_0) ∧ type_of% (fl46_1) ∧ type_of% (fs46) ∧ type_of% (po46) ∧ type_of% (tq46) ∧ type_of% (tc46) ∧ type_of% (zt46) ∧ type_of% (@z46.eq_1) :=
  ⟨sz46, by46, ag46, sl46, ar46, pt46, un46, fl46_0, fl46_1, fs46, po46, tq46, tc46, zt46, @z46.eq_1⟩
theorem t47 : type_of% (sz47) ∧ type_of% (by47) ∧ type_of% (ag47) ∧ type_of% (sl47) ∧ type_of% (ar47) ∧ type_of% (pt47) ∧ type_of% (un47) ∧ type_of% (fl47_0) ∧ type_of% (fl47_1) ∧ type_of% (fs47) ∧ type_of% (po47) ∧ type_of% (tq47) ∧ type_of% (tc47) ∧ type_of% (zt47) ∧ type_of% (@z47.eq_1) :=
  ⟨sz47, by47, ag47, sl47, ar47, pt47, un47, fl47_0, fl47_1, fs47, po47, tq47, tc47, zt47, @z47.eq_1⟩
theorem t48 : type_of% (sz48) ∧ type_of% (by48) ∧ type_of% (ag48) ∧ type_of% (sl48) ∧ type_of% (ar48) ∧ type_of% (pt48) ∧ type_of% (un48) ∧ type_of% (fl48_0) ∧ type_of% (fl48_1) ∧ type_of% (fl48_2) ∧ type_of% (fl48_3) ∧ type_of% (fl48_4) ∧ type_of% (fl48_5) ∧ type_of% (fl48_6) ∧ type_of% (fl48_7) ∧ type_of% (fl48_8) ∧ type_of% (fl48_9) ∧ type_of% (fl48_10) ∧ type_of% (fs48) ∧ type_of% (po48) ∧ type_of% (tq48) ∧ type_of% (tc48) ∧ type_of% (zt48) ∧ type_of% (@z48.eq_1) :=
  ⟨sz48, by48, ag48, sl48, ar48, pt48, un48, fl48_0, fl48_1, fl48_2, fl48_3, fl48_4, fl48_5, fl48_6, fl48_7, fl48_8, fl48_9, fl48_10, fs48, po48, tq48, tc48, zt48, @z48.eq_1⟩
theorem t49 : type_of% (sz49) ∧ type_of% (by49) ∧ type_of% (ag49) ∧ type_of% (sl49) ∧ type_of% (ar49) ∧ type_of% (pt49) ∧ type_of% (un49) ∧ type_of% (fl49_0) ∧ type_of% (fl49_1) ∧ type_of% (fl49_2) ∧ type_of% (fl49_3) ∧ type_of% (fl49_4) ∧ type_of% (fl49_5) ∧ type_of% (fl49_6) ∧ type_of% (fl49_7) ∧ type_of% (fl49_8) ∧ type_of% (fl49_9) ∧ type_of% (fl49_10) ∧ type_of% (fs49) ∧ type_of% (po49) ∧ type_of% (tq49) ∧ type_of% (tc49) ∧ type_of% (zt49) ∧ type_of% (@z49.eq_1) :=
  ⟨sz49, by49, ag49, sl49, ar49, pt49, un49, fl49_0, fl49_1, fl49_2, fl49_3, fl49_4, fl49_5, fl49_6, fl49_7, fl49_8, fl49_9, fl49_10, fs49, po49, tq49, tc49, zt49, @z49.eq_1⟩
theorem t50 : type_of% (sz50) ∧ type_of% (by50) ∧ type_of% (ag50) ∧ type_of% (sl50) ∧ type_of% (ar50) ∧ type_of% (pt50) ∧ type_of% (un50) ∧ type_of% (po50) ∧ type_of% (zt50) ∧ type_of% (@z50.eq_1) :=
  ⟨sz50, by50, ag50, sl50, ar50, pt50, un50, po50, zt50, @z50.eq_1⟩
theorem t51 : type_of% (sz51) ∧ type_of% (by51) ∧ type_of% (ag51) ∧ type_of% (sl51) ∧ type_of% (ar51) ∧ type_of% (pt51) ∧ type_of% (un51) ∧ type_of% (po51) ∧ type_of% (zt51) ∧ type_of% (@z51.eq_1) :=
  ⟨sz51, by51, ag51, sl51, ar51, pt51, un51, po51, zt51, @z51.eq_1⟩
theorem t52 : type_of% (sz52) ∧ type_of% (by52) ∧ type_of% (ag52) ∧ type_of% (sl52) ∧ type_of% (ar52) ∧ type_of% (pt52) ∧ type_of% (un52) ∧ type_of% (po52) ∧ type_of% (zt52) ∧ type_of% (@z52.eq_1) :=
  ⟨sz52, by52, ag52, sl52, ar52, pt52, un52, po52, zt52, @z52.eq_1⟩
theorem t53 : type_of% (sz53) ∧ type_of% (by53) ∧ type_of% (ag53) ∧ type_of% (sl53) ∧ type_of% (ar53) ∧ type_of% (pt53) ∧ type_of% (un53) ∧ type_of% (po53) ∧ type_of% (zt53) ∧ type_of% (@z53.eq_1) :=
  ⟨sz53, by53, ag53, sl53, ar53, pt53, un53, po53, zt53, @z53.eq_1⟩
theorem t54 : type_of% (sz54) ∧ type_of% (by54) ∧ type_of% (ag54) ∧ type_of% (sl54) ∧ type_of% (ar54) ∧ type_of% (pt54) ∧ type_of% (un54) ∧ type_of% (fl54_0) ∧ type_of% (fl54_1) ∧ type_of% (fl54_2) ∧ type_of% (fl54_3) ∧ type_of% (fs54) ∧ type_of% (po54) ∧ type_of% (zt54) ∧ type_of% (@z54.eq_1) :=
  ⟨sz54, by54, ag54, sl54, ar54, pt54, un54, fl54_0, fl54_1, fl54_2, fl54_3, fs54, po54, zt54, @z54.eq_1⟩
theorem t55 : type_of% (sz55) ∧ type_of% (by55) ∧ type_of% (ag55) ∧ type_of% (sl55) ∧ type_of% (ar55) ∧ type_of% (pt55) ∧ type_of% (un55) ∧ type_of% (fl55_0) ∧ type_of% (fl55_1) ∧ type_of% (fl55_2) ∧ type_of% (fl55_3) ∧ type_of% (fs55) ∧ type_of% (po55) ∧ type_of% (zt55) ∧ type_of% (@z55.eq_1) :=
  ⟨sz55, by55, ag55, sl55, ar55, pt55, un55, fl55_0, fl55_1, fl55_2, fl55_3, fs55, po55, zt55, @z55.eq_1⟩
theorem t57 : type_of% (sz57) ∧ type_of% (by57) ∧ type_of% (ag57) ∧ type_of% (sl57) ∧ type_of% (ar57) ∧ type_of% (pt57) ∧ type_of% (un57) ∧ type_of% (po57) ∧ type_of% (zt57) ∧ type_of% (@z57.eq_1) :=
  ⟨sz57, by57, ag57, sl57, ar57, pt57, un57, po57, zt57, @z57.eq_1⟩
theorem t59 : type_of% (sz59) ∧ type_of% (by59) ∧ type_of% (ag59) ∧ type_of% (sl59) ∧ type_of% (ar59) ∧ type_of% (pt59) ∧ type_of% (un59) ∧ type_of% (po59) ∧ type_of% (zt59) ∧ type_of% (@z59.eq_1) :=
  ⟨sz59, by59, ag59, sl59, ar59, pt59, un59, po59, zt59, @z59.eq_1⟩
theorem t60 : type_of% (sz60) ∧ type_of% (by60) ∧ type_of% (ag60) ∧ type_of% (sl60) ∧ type_of% (ar60) ∧ type_of% (pt60) ∧ type_of% (un60) ∧ type_of% (po60) ∧ type_of% (zt60) ∧ type_of% (@z60.eq_1) :=
  ⟨sz60, by60, ag60, sl60, ar60, pt60, un60, po60, zt60, @z60.eq_1⟩
theorem t61 : type_of% (sz61) ∧ type_of% (by61) ∧ type_of% (ag61) ∧ type_of% (sl61) ∧ type_of% (ar61) ∧ type_of% (pt61) ∧ type_of% (un61) ∧ type_of% (po61) ∧ type_of% (zt61) ∧ type_of% (@z61.eq_1) :=
  ⟨sz61, by61, ag61, sl61, ar61, pt61, un61, po61, zt61, @z61.eq_1⟩
theorem t62 : type_of% (sz62) ∧ type_of% (by62) ∧ type_of% (ag62) ∧ type_of% (sl62) ∧ type_of% (ar62) ∧ type_of% (pt62) ∧ type_of% (un62) ∧ type_of% (po62) ∧ type_of% (zt62) ∧ type_of% (@z62.eq_1) :=
  ⟨sz62, by62, ag62, sl62, ar62, pt62, un62, po62, zt62, @z62.eq_1⟩
theorem t63 : type_of% (sz63) ∧ type_of% (by63) ∧ type_of% (ag63) ∧ type_of% (sl63) ∧ type_of% (ar63) ∧ type_of% (pt63) ∧ type_of% (un63) ∧ type_of% (po63) ∧ type_of% (zt63) ∧ type_of% (@z63.eq_1) :=
  ⟨sz63, by63, ag63, sl63, ar63, pt63, un63, po63, zt63, @z63.eq_1⟩
theorem t64 : type_of% (sz64) ∧ type_of% (by64) ∧ type_of% (ag64) ∧ type_of% (sl64) ∧ type_of% (ar64) ∧ type_of% (pt64) ∧ type_of% (un64) ∧ type_of% (po64) ∧ type_of% (zt64) ∧ type_of% (@z64.eq_1) :=
  ⟨sz64, by64, ag64, sl64, ar64, pt64, un64, po64, zt64, @z64.eq_1⟩
theorem t65 : type_of% (sz65) ∧ type_of% (by65) ∧ type_of% (ag65) ∧ type_of% (sl65) ∧ type_of% (ar65) ∧ type_of% (pt65) ∧ type_of% (un65) ∧ type_of% (po65) ∧ type_of% (zt65) ∧ type_of% (@z65.eq_1) :=
  ⟨sz65, by65, ag65, sl65, ar65, pt65, un65, po65, zt65, @z65.eq_1⟩
theorem t66 : type_of% (sz66) ∧ type_of% (by66) ∧ type_of% (ag66) ∧ type_of% (sl66) ∧ type_of% (ar66) ∧ type_of% (pt66) ∧ type_of% (un66) ∧ type_of% (po66) ∧ type_of% (zt66) ∧ type_of% (@z66.eq_1) :=
  ⟨sz66, by66, ag66, sl66, ar66, pt66, un66, po66, zt66, @z66.eq_1⟩
theorem t67 : type_of% (sz67) ∧ type_of% (by67) ∧ type_of% (ag67) ∧ type_of% (sl67) ∧ type_of% (ar67) ∧ type_of% (pt67) ∧ type_of% (in67) ∧ type_of% (un67) ∧ type_of% (po67) ∧ type_of% (zt67) ∧ type_of% (@z67.eq_1) :=
  ⟨sz67, by67, ag67, sl67, ar67, pt67, in67, un67, po67, zt67, @z67.eq_1⟩
theorem t68 : type_of% (sz68) ∧ type_of% (by68) ∧ type_of% (ag68) ∧ type_of% (sl68) ∧ type_of% (ar68) ∧ type_of% (pt68) ∧ type_of% (in68) ∧ type_of% (un68) ∧ type_of% (po68) ∧ type_of% (zt68) ∧ type_of% (@z68.eq_1) :=
  ⟨sz68, by68, ag68, sl68, ar68, pt68, in68, un68, po68, zt68, @z68.eq_1⟩
theorem t69 : type_of% (sz69) ∧ type_of% (by69) ∧ type_of% (ag69) ∧ type_of% (sl69) ∧ type_of% (ar69) ∧ type_of% (pt69) ∧ type_of% (un69) ∧ type_of% (po69) ∧ type_of% (zt69) ∧ type_of% (@z69.eq_1) :=
  ⟨sz69, by69, ag69, sl69, ar69, pt69, un69, po69, zt69, @z69.eq_1⟩
theorem t70 : type_of% (sz70) ∧ type_of% (by70) ∧ type_of% (ag70) ∧ type_of% (sl70) ∧ type_of% (ar70) ∧ type_of% (pt70) ∧ type_of% (un70) ∧ type_of% (po70) ∧ type_of% (zt70) ∧ type_of% (@z70.eq_1) :=
  ⟨sz70, by70, ag70, sl70, ar70, pt70, un70, po70, zt70, @z70.eq_1⟩
theorem t71 : type_of% (sz71) ∧ type_of% (by71) ∧ type_of% (ag71) ∧ type_of% (sl71) ∧ type_of% (ar71) ∧ type_of% (pt71) ∧ type_of% (un71) ∧ type_of% (po71) ∧ type_of% (zt71) ∧ type_of% (@z71.eq_1) :=
  ⟨sz71, by71, ag71, sl71, ar71, pt71, un71, po71, zt71, @z71.eq_1⟩
theorem t72 : type_of% (sz72) ∧ type_of% (by72) ∧ type_of% (ag72) ∧ type_of% (sl72) ∧ type_of% (ar72) ∧ type_of% (pt72) ∧ type_of% (un72) ∧ type_of% (po72) ∧ type_of% (zt72) ∧ type_of% (@z72.eq_1) :=
  ⟨sz72, by72, ag72, sl72, ar72, pt72, un72, po72, zt72, @z72.eq_1⟩
theorem t73 : type_of% (sz73) ∧ type_of% (by73) ∧ type_of% (ag73) ∧ type_of% (sl73) ∧ type_of% (ar73) ∧ type_of% (pt73) ∧ type_of% (un73) ∧ type_of% (po73) ∧ type_of% (zt73) ∧ type_of% (@z73.eq_1) :=
  ⟨sz73, by73, ag73, sl73, ar73, pt73, un73, po73, zt73, @z73.eq_1⟩
theorem t74 : type_of% (sz74) ∧ type_of% (by74) ∧ type_of% (ag74) ∧ type_of% (sl74) ∧ type_of% (ar74) ∧ type_of% (pt74) ∧ type_of% (un74) ∧ type_of% (po74) ∧ type_of% (zt74) ∧ type_of% (@z74.eq_1) :=
  ⟨sz74, by74, ag74, sl74, ar74, pt74, un74, po74, zt74, @z74.eq_1⟩
theorem t75 : type_of% (sz75) ∧ type_of% (by75) ∧ type_of% (ag75) ∧ type_of% (sl75) ∧ type_of% (ar75) ∧ type_of% (pt75) ∧ type_of% (un75) ∧ type_of% (po75) ∧ type_of% (zt75) ∧ type_of% (@z75.eq_1) :=
  ⟨sz75, by75, ag75, sl75, ar75, pt75, un75, po75, zt75, @z75.eq_1⟩
theorem t76 : type_of% (sz76) ∧ type_of% (by76) ∧ type_of% (ag76) ∧ type_of% (sl76) ∧ type_of% (ar76) ∧ type_of% (pt76) ∧ type_of% (un76) ∧ type_of% (po76) ∧ type_of% (zt76) ∧ type_of% (@z76.eq_1) :=
  ⟨sz76, by76, ag76, sl76, ar76, pt76, un76, po76, zt76, @z76.eq_1⟩
theorem t77 : type_of% (sz77) ∧ type_of% (by77) ∧ type_of% (ag77) ∧ type_of% (sl77) ∧ type_of% (ar77) ∧ type_of% (pt77) ∧ type_of% (un77) ∧ type_of% (po77) ∧ type_of% (zt77) ∧ type_of% (@z77.eq_1) :=
  ⟨sz77, by77, ag77, sl77, ar77, pt77, un77, po77, zt77, @z77.eq_1⟩
theorem t78 : type_of% (sz78) ∧ type_of% (by78) ∧ type_of% (ag78) ∧ type_of% (sl78) ∧ type_of% (ar78) ∧ type_of% (pt78) ∧ type_of% (un78) ∧ type_of% (po78) ∧ type_of% (zt78) ∧ type_of% (@z78.eq_1) :=
  ⟨sz78, by78, ag78, sl78, ar78, pt78, un78, po78, zt78, @z78.eq_1⟩
theorem t79 : type_of% (sz79) ∧ type_of% (by79) ∧ type_of% (ag79) ∧ type_of% (sl79) ∧ type_of% (ar79) ∧ type_of% (pt79) ∧ type_of% (un79) ∧ type_of% (po79) ∧ type_of% (zt79) ∧ type_of% (@z79.eq_1) :=
  ⟨sz79, by79, ag79, sl79, ar79, pt79, un79, po79, zt79, @z79.eq_1⟩
theorem t80 : type_of% (sz80) ∧ type_of% (by80) ∧ type_of% (ag80) ∧ type_of% (sl80) ∧ type_of% (ar80) ∧ type_of% (pt80) ∧ type_of% (un80) ∧ type_of% (po80) ∧ type_of% (zt80) ∧ type_of% (@z80.eq_1) :=
  ⟨sz80, by80, ag80, sl80, ar80, pt80, un80, po80, zt80, @z80.eq_1⟩
theorem t81 : type_of% (sz81) ∧ type_of% (by81) ∧ type_of% (ag81) ∧ type_of% (sl81) ∧ type_of% (ar81) ∧ type_of% (pt81) ∧ type_of% (un81) ∧ type_of% (po81) ∧ type_of% (zt81) ∧ type_of% (@z81.eq_1) :=
  ⟨sz81, by81, ag81, sl81, ar81, pt81, un81, po81, zt81, @z81.eq_1⟩
theorem t82 : type_of% (sz82) ∧ type_of% (by82) ∧ type_of% (ag82) ∧ type_of% (sl82) ∧ type_of% (ar82) ∧ type_of% (pt82) ∧ type_of% (in82) ∧ type_of% (un82) ∧ type_of% (po82) ∧ type_of% (zt82) ∧ type_of% (@z82.eq_1) :=
  ⟨sz82, by82, ag82, sl82, ar82, pt82, in82, un82, po82, zt82, @z82.eq_1⟩
theorem t83 : type_of% (sz83) ∧ type_of% (by83) ∧ type_of% (ag83) ∧ type_of% (sl83) ∧ type_of% (ar83) ∧ type_of% (pt83) ∧ type_of% (un83) ∧ type_of% (po83) ∧ type_of% (tq83) ∧ type_of% (zt83) ∧ type_of% (@z83.eq_1) :=
  ⟨sz83, by83, ag83, sl83, ar83, pt83, un83, po83, tq83, zt83, @z83.eq_1⟩
theorem t84 : type_of% (sz84) ∧ type_of% (by84) ∧ type_of% (ag84) ∧ type_of% (sl84) ∧ type_of% (ar84) ∧ type_of% (pt84) ∧ type_of% (un84) ∧ type_of% (po84) ∧ type_of% (tq84) ∧ type_of% (zt84) ∧ type_of% (@z84.eq_1) :=
  ⟨sz84, by84, ag84, sl84, ar84, pt84, un84, po84, tq84, zt84, @z84.eq_1⟩
theorem t85 : type_of% (sz85) ∧ type_of% (by85) ∧ type_of% (ag85) ∧ type_of% (sl85) ∧ type_of% (ar85) ∧ type_of% (pt85) ∧ type_of% (un85) ∧ type_of% (po85) ∧ type_of% (zt85) ∧ type_of% (@z85.eq_1) :=
  ⟨sz85, by85, ag85, sl85, ar85, pt85, un85, po85, zt85, @z85.eq_1⟩
theorem t86 : type_of% (sz86) ∧ type_of% (by86) ∧ type_of% (ag86) ∧ type_of% (sl86) ∧ type_of% (ar86) ∧ type_of% (pt86) ∧ type_of% (un86) ∧ type_of% (po86) ∧ type_of% (tq86) ∧ type_of% (zt86) ∧ type_of% (@z86.eq_1) :=
  ⟨sz86, by86, ag86, sl86, ar86, pt86, un86, po86, tq86, zt86, @z86.eq_1⟩
theorem t87 : type_of% (sz87) ∧ type_of% (by87) ∧ type_of% (ag87) ∧ type_of% (sl87) ∧ type_of% (ar87) ∧ type_of% (pt87) ∧ type_of% (un87) ∧ type_of% (po87) ∧ type_of% (zt87) ∧ type_of% (@z87.eq_1) :=
  ⟨sz87, by87, ag87, sl87, ar87, pt87, un87, po87, zt87, @z87.eq_1⟩
theorem t88 : type_of% (sz88) ∧ type_of% (by88) ∧ type_of% (ag88) ∧ type_of% (sl88) ∧ type_of% (ar88) ∧ type_of% (pt88) ∧ type_of% (un88) ∧ type_of% (po88) ∧ type_of% (zt88) ∧ type_of% (@z88.eq_1) :=
  ⟨sz88, by88, ag88, sl88, ar88, pt88, un88, po88, zt88, @z88.eq_1⟩
theorem t89 : type_of% (sz89) ∧ type_of% (by89) ∧ type_of% (ag89) ∧ type_of% (sl89) ∧ type_of% (ar89) ∧ type_of% (pt89) ∧ type_of% (un89) ∧ type_of% (po89) ∧ type_of% (zt89) ∧ type_of% (@z89.eq_1) :=
  ⟨sz89, by89, ag89, sl89, ar89, pt89, un89, po89, zt89, @z89.eq_1⟩
theorem t90 : type_of% (sz90) ∧ type_of% (by90) ∧ type_of% (ag90) ∧ type_of% (sl90) ∧ type_of% (ar90) ∧ type_of% (pt90) ∧ type_of% (un90) ∧ type_of% (po90) ∧ type_of% (zt90) ∧ type_of% (@z90.eq_1) :=
  ⟨sz90, by90, ag90, sl90, ar90, pt90, un90, po90, zt90, @z90.eq_1⟩
theorem t91 : type_of% (sz91) ∧ type_of% (by91) ∧ type_of% (ag91) ∧ type_of% (sl91) ∧ type_of% (ar91) ∧ type_of% (pt91) ∧ type_of% (un91) ∧ type_of% (fl91_0) ∧ type_of% (fl91_1) ∧ type_of% (fs91) ∧ type_of% (po91) ∧ type_of% (zt91) ∧ type_of% (@z91.eq_1) :=
  ⟨sz91, by91, ag91, sl91, ar91, pt91, un91, fl91_0, fl91_1, fs91, po91, zt91, @z91.eq_1⟩
theorem t92 : type_of% (sz92) ∧ type_of% (by92) ∧ type_of% (ag92) ∧ type_of% (sl92) ∧ type_of% (ar92) ∧ type_of% (pt92) ∧ type_of% (un92) ∧ type_of% (fl92_0) ∧ type_of% (fl92_1) ∧ type_of% (fs92) ∧ type_of% (po92) ∧ type_of% (zt92) ∧ type_of% (@z92.eq_1) :=
  ⟨sz92, by92, ag92, sl92, ar92, pt92, un92, fl92_0, fl92_1, fs92, po92, zt92, @z92.eq_1⟩
theorem t93 : type_of% (sz93) ∧ type_of% (by93) ∧ type_of% (ag93) ∧ type_of% (sl93) ∧ type_of% (ar93) ∧ type_of% (pt93) ∧ type_of% (un93) ∧ type_of% (po93) ∧ type_of% (zt93) ∧ type_of% (@z93.eq_1) :=
  ⟨sz93, by93, ag93, sl93, ar93, pt93, un93, po93, zt93, @z93.eq_1⟩
theorem t94 : type_of% (sz94) ∧ type_of% (by94) ∧ type_of% (ag94) ∧ type_of% (sl94) ∧ type_of% (ar94) ∧ type_of% (pt94) ∧ type_of% (un94) ∧ type_of% (po94) ∧ type_of% (zt94) ∧ type_of% (@z94.eq_1) :=
  ⟨sz94, by94, ag94, sl94, ar94, pt94, un94, po94, zt94, @z94.eq_1⟩
theorem t95 : type_of% (sz95) ∧ type_of% (by95) ∧ type_of% (ag95) ∧ type_of% (sl95) ∧ type_of% (ar95) ∧ type_of% (pt95) ∧ type_of% (un95) ∧ type_of% (po95) ∧ type_of% (zt95) ∧ type_of% (@z95.eq_1) :=
  ⟨sz95, by95, ag95, sl95, ar95, pt95, un95, po95, zt95, @z95.eq_1⟩
theorem t96 : type_of% (sz96) ∧ type_of% (by96) ∧ type_of% (ag96) ∧ type_of% (sl96) ∧ type_of% (ar96) ∧ type_of% (pt96) ∧ type_of% (un96) ∧ type_of% (po96) ∧ type_of% (zt96) ∧ type_of% (@z96.eq_1) :=
  ⟨sz96, by96, ag96, sl96, ar96, pt96, un96, po96, zt96, @z96.eq_1⟩
theorem t97 : type_of% (sz97) ∧ type_of% (by97) ∧ type_of% (ag97) ∧ type_of% (sl97) ∧ type_of% (ar97) ∧ type_of% (pt97) ∧ type_of% (un97) ∧ type_of% (po97) ∧ type_of% (zt97) ∧ type_of% (@z97.eq_1) :=
  ⟨sz97, by97, ag97, sl97, ar97, pt97, un97, po97, zt97, @z97.eq_1⟩
theorem t98 : type_of% (sz98) ∧ type_of% (by98) ∧ type_of% (ag98) ∧ type_of% (sl98) ∧ type_of% (ar98) ∧ type_of% (pt98) ∧ type_of% (un98) ∧ type_of% (po98) ∧ type_of% (zt98) ∧ type_of% (@z98.eq_1) :=
  ⟨sz98, by98, ag98, sl98, ar98, pt98, un98, po98, zt98, @z98.eq_1⟩
theorem t99 : type_of% (sz99) ∧ type_of% (by99) ∧ type_of% (ag99) ∧ type_of% (sl99) ∧ type_of% (ar99) ∧ type_of% (pt99) ∧ type_of% (un99) ∧ type_of% (fl99_0) ∧ type_of% (fl99_1) ∧ type_of% (fl99_2) ∧ type_of% (fl99_3) ∧ type_of% (fs99) ∧ type_of% (po99) ∧ type_of% (zt99) ∧ type_of% (@z99.eq_1) :=
  ⟨sz99, by99, ag99, sl99, ar99, pt99, un99, fl99_0, fl99_1, fl99_2, fl99_3, fs99, po99, zt99, @z99.eq_1⟩
theorem t100 : type_of% (sz100) ∧ type_of% (by100) ∧ type_of% (ag100) ∧ type_of% (sl100) ∧ type_of% (ar100) ∧ type_of% (pt100) ∧ type_of% (un100) ∧ type_of% (fl100_0) ∧ type_of% (fl100_1) ∧ type_of% (fl100_2) ∧ type_of% (fl100_3) ∧ type_of% (fs100) ∧ type_of% (po100) ∧ type_of% (zt100) ∧ type_of% (@z100.eq_1) :=
  ⟨sz100, by100, ag100, sl100, ar100, pt100, un100, fl100_0, fl100_1, fl100_2, fl100_3, fs100, po100, zt100, @z100.eq_1⟩
theorem t101 : type_of% (sz101) ∧ type_of% (by101) ∧ type_of% (ag101) ∧ type_of% (sl101) ∧ type_of% (ar101) ∧ type_of% (pt101) ∧ type_of% (un101) ∧ type_of% (zt101) ∧ type_of% (@z101.eq_1) :=
  ⟨sz101, by101, ag101, sl101, ar101, pt101, un101, zt101, @z101.eq_1⟩
theorem t102 : type_of% (sz102) ∧ type_of% (by102) ∧ type_of% (ag102) ∧ type_of% (sl102) ∧ type_of% (ar102) ∧ type_of% (pt102) ∧ type_of% (un102) ∧ type_of% (fl102_0) ∧ type_of% (fs102) ∧ type_of% (zt102) ∧ type_of% (@z102.eq_1) :=
  ⟨sz102, by102, ag102, sl102, ar102, pt102, un102, fl102_0, fs102, zt102, @z102.eq_1⟩
theorem t103 : type_of% (sz103) ∧ type_of% (by103) ∧ type_of% (ag103) ∧ type_of% (sl103) ∧ type_of% (ar103) ∧ type_of% (pt103) ∧ type_of% (un103) ∧ type_of% (fl103_0) ∧ type_of% (fs103) ∧ type_of% (zt103) ∧ type_of% (@z103.eq_1) :=
  ⟨sz103, by103, ag103, sl103, ar103, pt103, un103, fl103_0, fs103, zt103, @z103.eq_1⟩
theorem t104 : type_of% (sz104) ∧ type_of% (by104) ∧ type_of% (ag104) ∧ type_of% (sl104) ∧ type_of% (ar104) ∧ type_of% (pt104) ∧ type_of% (in104) ∧ type_of% (un104) ∧ type_of% (po104) ∧ type_of% (zt104) ∧ type_of% (@z104.eq_1) :=
  ⟨sz104, by104, ag104, sl104, ar104, pt104, in104, un104, po104, zt104, @z104.eq_1⟩
theorem t105 : type_of% (sz105) ∧ type_of% (by105) ∧ type_of% (ag105) ∧ type_of% (sl105) ∧ type_of% (ar105) ∧ type_of% (pt105) ∧ type_of% (in105) ∧ type_of% (un105) ∧ type_of% (po105) ∧ type_of% (zt105) ∧ type_of% (@z105.eq_1) :=
  ⟨sz105, by105, ag105, sl105, ar105, pt105, in105, un105, po105, zt105, @z105.eq_1⟩
theorem t106 : type_of% (sz106) ∧ type_of% (by106) ∧ type_of% (ag106) ∧ type_of% (sl106) ∧ type_of% (ar106) ∧ type_of% (pt106) ∧ type_of% (un106) ∧ type_of% (po106) ∧ type_of% (zt106) ∧ type_of% (@z106.eq_1) :=
  ⟨sz106, by106, ag106, sl106, ar106, pt106, un106, po106, zt106, @z106.eq_1⟩
theorem t107 : type_of% (sz107) ∧ type_of% (by107) ∧ type_of% (ag107) ∧ type_of% (sl107) ∧ type_of% (ar107) ∧ type_of% (pt107) ∧ type_of% (un107) ∧ type_of% (po107) ∧ type_of% (zt107) ∧ type_of% (@z107.eq_1) :=
  ⟨sz107, by107, ag107, sl107, ar107, pt107, un107, po107, zt107, @z107.eq_1⟩
theorem t108 : type_of% (sz108) ∧ type_of% (by108) ∧ type_of% (ag108) ∧ type_of% (sl108) ∧ type_of% (ar108) ∧ type_of% (pt108) ∧ type_of% (in108) ∧ type_of% (un108) ∧ type_of% (po108) ∧ type_of% (zt108) ∧ type_of% (@z108.eq_1) :=
  ⟨sz108, by108, ag108, sl108, ar108, pt108, in108, un108, po108, zt108, @z108.eq_1⟩
theorem t109 : type_of% (sz109) ∧ type_of% (by109) ∧ type_of% (ag109) ∧ type_of% (sl109) ∧ type_of% (ar109) ∧ type_of% (pt109) ∧ type_of% (in109) ∧ type_of% (un109) ∧ type_of% (po109) ∧ type_of% (zt109) ∧ type_of% (@z109.eq_1) :=
  ⟨sz109, by109, ag109, sl109, ar109, pt109, in109, un109, po109, zt109, @z109.eq_1⟩
theorem t110 : type_of% (sz110) ∧ type_of% (by110) ∧ type_of% (ag110) ∧ type_of% (sl110) ∧ type_of% (ar110) ∧ type_of% (pt110) ∧ type_of% (un110) ∧ type_of% (fl110_0) ∧ type_of% (fl110_1) ∧ type_of% (fl110_2) ∧ type_of% (fl110_3) ∧ type_of% (fl110_4) ∧ type_of% (fl110_5) ∧ type_of% (fl110_6) ∧ type_of% (fl110_7) ∧ type_of% (fl110_8) ∧ type_of% (fl110_9) ∧ type_of% (fl110_10) ∧ type_of% (fs110) ∧ type_of% (po110) ∧ type_of% (zt110) ∧ type_of% (@z110.eq_1) :=
  ⟨sz110, by110, ag110, sl110, ar110, pt110, un110, fl110_0, fl110_1, fl110_2, fl110_3, fl110_4, fl110_5, fl110_6, fl110_7, fl110_8, fl110_9, fl110_10, fs110, po110, zt110, @z110.eq_1⟩
theorem t111 : type_of% (sz111) ∧ type_of% (by111) ∧ type_of% (ag111) ∧ type_of% (sl111) ∧ type_of% (ar111) ∧ type_of% (pt111) ∧ type_of% (un111) ∧ type_of% (fl111_0) ∧ type_of% (fl111_1) ∧ type_of% (fl111_2) ∧ type_of% (fl111_3) ∧ type_of% (fl111_4) ∧ type_of% (fl111_5) ∧ type_of% (fl111_6) ∧ type_of% (fl111_7) ∧ type_of% (fl111_8) ∧ type_of% (fl111_9) ∧ type_of% (fl111_10) ∧ type_of% (fs111) ∧ type_of% (po111) ∧ type_of% (zt111) ∧ type_of% (@z111.eq_1) :=
  ⟨sz111, by111, ag111, sl111, ar111, pt111, un111, fl111_0, fl111_1, fl111_2, fl111_3, fl111_4, fl111_5, fl111_6, fl111_7, fl111_8, fl111_9, fl111_10, fs111, po111, zt111, @z111.eq_1⟩
theorem t112 : type_of% (sz112) ∧ type_of% (by112) ∧ type_of% (ag112) ∧ type_of% (sl112) ∧ type_of% (ar112) ∧ type_of% (pt112) ∧ type_of% (un112) ∧ type_of% (po112) :=
  ⟨sz112, by112, ag112, sl112, ar112, pt112, un112, po112⟩
theorem mo : cx.P.follows .mixedOrders = true := by kernel_rfl
end Go.Proofs.Ytfdlcefiidanlaa.T
