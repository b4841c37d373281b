/-
  The table of types of this seat, told lemma by lemma (written by gentypes.py out of the translation).
-/
import Derived.Test.YtdkcobnhcpgpaaaDoorProg
import Derived.Test.YtdkcobnhcpgpaaaDoorAL18
set_option linter.unusedSimpArgs false
set_option maxRecDepth 10000
namespace Go.Proofs.YtdkcobnhcpgpaaaDoor.T
open Go Go.AL
theorem sz1 : tsz Tryd.prog 1 = some 1 := by kernel_rfl
theorem by1 : tby Tryd.prog 1 = some 8 := by kernel_rfl
theorem ag1 : tagg Tryd.prog 1 = some false := by kernel_rfl
theorem sl1 : tsl Tryd.prog 1 = none := by kernel_rfl
theorem ar1 : tarr Tryd.prog 1 = none := by kernel_rfl
theorem pt1 : tptr Tryd.prog 1 = none := by kernel_rfl
theorem un1 : (Tryd.prog.underlying 1).isSome = true := by kernel_rfl
theorem po1 : tpos Tryd.prog 1 = true := by kernel_rfl
def z1 : AV := .val .nilFunc
theorem zo1 : ZeroOK Tryd.prog 1 z1 := ZeroOK.mk (.nilFunc) (by kernel_rfl) (by kernel_rfl) (by kernel_rfl) (by kernel_rfl)
theorem sz2 : tsz Tryd.prog 2 = some 1 := by kernel_rfl
theorem by2 : tby Tryd.prog 2 = some 8 := by kernel_rfl
theorem ag2 : tagg Tryd.prog 2 = some false := by kernel_rfl
theorem sl2 : tsl Tryd.prog 2 = none := by kernel_rfl
theorem ar2 : tarr Tryd.prog 2 = none := by kernel_rfl
theorem pt2 : tptr Tryd.prog 2 = none := by kernel_rfl
theorem in2 : tint Tryd.prog 2 = some .i64 := by kernel_rfl
theorem un2 : (Tryd.prog.underlying 2).isSome = true := by kernel_rfl
theorem po2 : tpos Tryd.prog 2 = true := by kernel_rfl
def z2 : AV := .val (.int .i64 0)
theorem zo2 : ZeroOK Tryd.prog 2 z2 := ZeroOK.mk (.int .i64 0) (by kernel_rfl) (by kernel_rfl) (by kernel_rfl) (by kernel_rfl)
theorem sz3 : tsz Tryd.prog 3 = some 1 := by kernel_rfl
theorem by3 : tby Tryd.prog 3 = some 8 := by kernel_rfl
theorem ag3 : tagg Tryd.prog 3 = some false := by kernel_rfl
theorem sl3 : tsl Tryd.prog 3 = none := by kernel_rfl
theorem ar3 : tarr Tryd.prog 3 = none := by kernel_rfl
theorem pt3 : tptr Tryd.prog 3 = none := by kernel_rfl
theorem in3 : tint Tryd.prog 3 = some .i64 := by kernel_rfl
theorem un3 : (Tryd.prog.underlying 3).isSome = true := by kernel_rfl
theorem po3 : tpos Tryd.prog 3 = true := by kernel_rfl
def z3 : AV := .val (.int .i64 0)
theorem zo3 : ZeroOK Tryd.prog 3 z3 := ZeroOK.mk (.int .i64 0) (by kernel_rfl) (by kernel_rfl) (by kernel_rfl) (by kernel_rfl)
theorem sz4 : tsz Tryd.prog 4 = some 1 := by kernel_rfl
theorem by4 : tby Tryd.prog 4 = some 1 := by kernel_rfl
theorem ag4 : tagg Tryd.prog 4 = some false := by kernel_rfl
theorem sl4 : tsl Tryd.prog 4 = none := by kernel_rfl
theorem ar4 : tarr Tryd.prog 4 = none := by kernel_rfl
theorem pt4 : tptr Tryd.prog 4 = none := by kernel_rfl
theorem un4 : (Tryd.prog.underlying 4).isSome = true := by kernel_rfl
theorem tb4 : tbool Tryd.prog 4 = some () := by kernel_rfl
theorem po4 : tpos Tryd.prog 4 = true := by kernel_rfl
def z4 : AV := .val (.bool false)
theorem zo4 : ZeroOK Tryd.prog 4 z4 := ZeroOK.mk (.bool false) (by kernel_rfl) (by kernel_rfl) (by kernel_rfl) (by kernel_rfl)
theorem sz5 : tsz Tryd.prog 5 = some 1 := by kernel_rfl
theorem by5 : tby Tryd.prog 5 = some 1 := by kernel_rfl
theorem ag5 : tagg Tryd.prog 5 = some false := by kernel_rfl
theorem sl5 : tsl Tryd.prog 5 = none := by kernel_rfl
theorem ar5 : tarr Tryd.prog 5 = none := by kernel_rfl
theorem pt5 : tptr Tryd.prog 5 = none := by kernel_rfl
theorem in5 : tint Tryd.prog 5 = some .u8 := by kernel_rfl
theorem un5 : (Tryd.prog.underlying 5).isSome = true := by kernel_rfl
theorem po5 : tpos Tryd.prog 5 = true := by kernel_rfl
def z5 : AV := .val (.int .u8 0)
theorem zo5 : ZeroOK Tryd.prog 5 z5 := ZeroOK.mk (.int .u8 0) (by kernel_rfl) (by kernel_rfl) (by kernel_rfl) (by kernel_rfl)
theorem sz6 : tsz Tryd.prog 6 = some 1 := by kernel_rfl
theorem by6 : tby Tryd.prog 6 = some 1 := by kernel_rfl
theorem ag6 : tagg Tryd.prog 6 = some false := by kernel_rfl
theorem sl6 : tsl Tryd.prog 6 = none := by kernel_rfl
theorem ar6 : tarr Tryd.prog 6 = none := by kernel_rfl
theorem pt6 : tptr Tryd.prog 6 = none := by kernel_rfl
theorem in6 : tint Tryd.prog 6 = some .u8 := by kernel_rfl
theorem un6 : (Tryd.prog.underlying 6).isSome = true := by kernel_rfl
theorem po6 : tpos Tryd.prog 6 = true := by kernel_rfl
def z6 : AV := .val (.int .u8 0)
theorem zo6 : ZeroOK Tryd.prog 6 z6 := ZeroOK.mk (.int .u8 0) (by kernel_rfl) (by kernel_rfl) (by kernel_rfl) (by kernel_rfl)
theorem sz7 : tsz Tryd.prog 7 = some 4 := by kernel_rfl
theorem by7 : tby Tryd.prog 7 = some 24 := by kernel_rfl
theorem ag7 : tagg Tryd.prog 7 = some true := by kernel_rfl
theorem sl7 : tsl Tryd.prog 7 = none := by kernel_rfl
theorem ar7 : tarr Tryd.prog 7 = none := by kernel_rfl
theorem pt7 : tptr Tryd.prog 7 = none := by kernel_rfl
theorem un7 : (Tryd.prog.underlying 7).isSome = true := by kernel_rfl
theorem fl7_0 : tfld Tryd.prog 7 0 = some (0, 2) := by kernel_rfl
theorem fl7_1 : tfld Tryd.prog 7 1 = some (1, 3) := by kernel_rfl
theorem fl7_2 : tfld Tryd.prog 7 2 = some (2, 4) := by kernel_rfl
theorem fl7_3 : tfld Tryd.prog 7 3 = some (3, 6) := by kernel_rfl
theorem fs7 : tflds Tryd.prog 7 = true := by kernel_rfl
theorem po7 : tpos Tryd.prog 7 = true := by kernel_rfl
theorem tq7 : teq Tryd.prog 7 = true := by kernel_rfl
def z7 : AV := .agg 4 [.val (.int .i64 0), .val (.int .i64 0), .val (.bool false), .val (.int .u8 0)]
theorem zo7 : ZeroOK Tryd.prog 7 z7 := ZeroOK.mk (.agg #[.int .i64 0, .int .i64 0, .bool false, .int .u8 0]) (by kernel_rfl) (by kernel_rfl) (by kernel_rfl) (by kernel_rfl)
theorem sz8 : tsz Tryd.prog 8 = some 4 := by kernel_rfl
theorem by8 : tby Tryd.prog 8 = some 24 := by kernel_rfl
theorem ag8 : tagg Tryd.prog 8 = some true := by kernel_rfl
theorem sl8 : tsl Tryd.prog 8 = none := by kernel_rfl
theorem ar8 : tarr Tryd.prog 8 = none := by kernel_rfl
theorem pt8 : tptr Tryd.prog 8 = none := by kernel_rfl
theorem un8 : (Tryd.prog.underlying 8).isSome = true := by kernel_rfl
theorem fl8_0 : tfld Tryd.prog 8 0 = some (0, 2) := by kernel_rfl
theorem fl8_1 : tfld Tryd.prog 8 1 = some (1, 3) := by kernel_rfl
theorem fl8_2 : tfld Tryd.prog 8 2 = some (2, 4) := by kernel_rfl
theorem fl8_3 : tfld Tryd.prog 8 3 = some (3, 6) := by kernel_rfl
theorem fs8 : tflds Tryd.prog 8 = true := by kernel_rfl
theorem po8 : tpos Tryd.prog 8 = true := by kernel_rfl
theorem tq8 : teq Tryd.prog 8 = true := by kernel_rfl
def z8 : AV := .agg 4 [.val (.int .i64 0), .val (.int .i64 0), .val (.bool false), .val (.int .u8 0)]
theorem zo8 : ZeroOK Tryd.prog 8 z8 := ZeroOK.mk (.agg #[.int .i64 0, .int .i64 0, .bool false, .int .u8 0]) (by kernel_rfl) (by kernel_rfl) (by kernel_rfl) (by kernel_rfl)
theorem sz9 : tsz Tryd.prog 9 = some 1 := by kernel_rfl
theorem by9 : tby Tryd.prog 9 = some 16 := by kernel_rfl
theorem ag9 : tagg Tryd.prog 9 = some false := by kernel_rfl
theorem sl9 : tsl Tryd.prog 9 = none := by kernel_rfl
theorem ar9 : tarr Tryd.prog 9 = none := by kernel_rfl
theorem pt9 : tptr Tryd.prog 9 = none := by kernel_rfl
theorem st9 : tstr Tryd.prog 9 = some () := by kernel_rfl
theorem un9 : (Tryd.prog.underlying 9).isSome = true := by kernel_rfl
theorem po9 : tpos Tryd.prog 9 = true := by kernel_rfl
def z9 : AV := .val (.string ByteArray.empty)
theorem zo9 : ZeroOK Tryd.prog 9 z9 := ZeroOK.mk (.string ByteArray.empty) (by kernel_rfl) (by kernel_rfl) (by kernel_rfl) (by kernel_rfl)
theorem sz10 : tsz Tryd.prog 10 = some 1 := by kernel_rfl
theorem by10 : tby Tryd.prog 10 = some 16 := by kernel_rfl
theorem ag10 : tagg Tryd.prog 10 = some false := by kernel_rfl
theorem sl10 : tsl Tryd.prog 10 = none := by kernel_rfl
theorem ar10 : tarr Tryd.prog 10 = none := by kernel_rfl
theorem pt10 : tptr Tryd.prog 10 = none := by kernel_rfl
theorem st10 : tstr Tryd.prog 10 = some () := by kernel_rfl
theorem un10 : (Tryd.prog.underlying 10).isSome = true := by kernel_rfl
theorem po10 : tpos Tryd.prog 10 = true := by kernel_rfl
def z10 : AV := .val (.string ByteArray.empty)
theorem zo10 : ZeroOK Tryd.prog 10 z10 := ZeroOK.mk (.string ByteArray.empty) (by kernel_rfl) (by kernel_rfl) (by kernel_rfl) (by kernel_rfl)
theorem sz11 : tsz Tryd.prog 11 = some 1 := by kernel_rfl
theorem by11 : tby Tryd.prog 11 = some 16 := by kernel_rfl
theorem ag11 : tagg Tryd.prog 11 = some false := by kernel_rfl
theorem sl11 : tsl Tryd.prog 11 = none := by kernel_rfl
theorem ar11 : tarr Tryd.prog 11 = none := by kernel_rfl
theorem pt11 : tptr Tryd.prog 11 = none := by kernel_rfl
theorem st11 : tstr Tryd.prog 11 = some () := by kernel_rfl
theorem un11 : (Tryd.prog.underlying 11).isSome = true := by kernel_rfl
theorem po11 : tpos Tryd.prog 11 = true := by kernel_rfl
def z11 : AV := .val (.string ByteArray.empty)
theorem zo11 : ZeroOK Tryd.prog 11 z11 := ZeroOK.mk (.string ByteArray.empty) (by kernel_rfl) (by kernel_rfl) (by kernel_rfl) (by kernel_rfl)
theorem sz12 : tsz Tryd.prog 12 = some 1 := by kernel_rfl
theorem by12 : tby Tryd.prog 12 = some 8 := by kernel_rfl
theorem ag12 : tagg Tryd.prog 12 = some false := by kernel_rfl
theorem sl12 : tsl Tryd.prog 12 = none := by kernel_rfl
theorem ar12 : tarr Tryd.prog 12 = none := by kernel_rfl
theorem pt12 : tptr Tryd.prog 12 = none := by kernel_rfl
theorem in12 : tint Tryd.prog 12 = some .u64 := by kernel_rfl
theorem un12 : (Tryd.prog.underlying 12).isSome = true := by kernel_rfl
theorem po12 : tpos Tryd.prog 12 = true := by kernel_rfl
def z12 : AV := .val (.int .u64 0)
theorem zo12 : ZeroOK Tryd.prog 12 z12 := ZeroOK.mk (.int .u64 0) (by kernel_rfl) (by kernel_rfl) (by kernel_rfl) (by kernel_rfl)
theorem sz13 : tsz Tryd.prog 13 = some 2 := by kernel_rfl
theorem by13 : tby Tryd.prog 13 = some 24 := by kernel_rfl
theorem ag13 : tagg Tryd.prog 13 = some true := by kernel_rfl
theorem sl13 : tsl Tryd.prog 13 = none := by kernel_rfl
theorem ar13 : tarr Tryd.prog 13 = none := by kernel_rfl
theorem pt13 : tptr Tryd.prog 13 = none := by kernel_rfl
theorem un13 : (Tryd.prog.underlying 13).isSome = true := by kernel_rfl
theorem fl13_0 : tfld Tryd.prog 13 0 = some (0, 9) := by kernel_rfl
theorem fl13_1 : tfld Tryd.prog 13 1 = some (1, 12) := by kernel_rfl
theorem fs13 : tflds Tryd.prog 13 = true := by kernel_rfl
theorem po13 : tpos Tryd.prog 13 = true := by kernel_rfl
theorem tq13 : teq Tryd.prog 13 = true := by kernel_rfl
def z13 : AV := .agg 2 [.val (.string ByteArray.empty), .val (.int .u64 0)]
theorem zo13 : ZeroOK Tryd.prog 13 z13 := ZeroOK.mk (.agg #[.string ByteArray.empty, .int .u64 0]) (by kernel_rfl) (by kernel_rfl) (by kernel_rfl) (by kernel_rfl)
theorem sz14 : tsz Tryd.prog 14 = some 2 := by kernel_rfl
theorem by14 : tby Tryd.prog 14 = some 24 := by kernel_rfl
theorem ag14 : tagg Tryd.prog 14 = some true := by kernel_rfl
theorem sl14 : tsl Tryd.prog 14 = none := by kernel_rfl
theorem ar14 : tarr Tryd.prog 14 = none := by kernel_rfl
theorem pt14 : tptr Tryd.prog 14 = none := by kernel_rfl
theorem un14 : (Tryd.prog.underlying 14).isSome = true := by kernel_rfl
theorem fl14_0 : tfld Tryd.prog 14 0 = some (0, 9) := by kernel_rfl
theorem fl14_1 : tfld Tryd.prog 14 1 = some (1, 12) := by kernel_rfl
theorem fs14 : tflds Tryd.prog 14 = true := by kernel_rfl
theorem po14 : tpos Tryd.prog 14 = true := by kernel_rfl
theorem tq14 : teq Tryd.prog 14 = true := by kernel_rfl
def z14 : AV := .agg 2 [.val (.string ByteArray.empty), .val (.int .u64 0)]
theorem zo14 : ZeroOK Tryd.prog 14 z14 := ZeroOK.mk (.agg #[.string ByteArray.empty, .int .u64 0]) (by kernel_rfl) (by kernel_rfl) (by kernel_rfl) (by kernel_rfl)
theorem sz15 : tsz Tryd.prog 15 = some 1 := by kernel_rfl
theorem by15 : tby Tryd.prog 15 = some 8 := by kernel_rfl
theorem ag15 : tagg Tryd.prog 15 = some false := by kernel_rfl
theorem sl15 : tsl Tryd.prog 15 = none := by kernel_rfl
theorem ar15 : tarr Tryd.prog 15 = none := by kernel_rfl
theorem pt15 : tptr Tryd.prog 15 = some 89 := by kernel_rfl
theorem un15 : (Tryd.prog.underlying 15).isSome = true := by kernel_rfl
theorem po15 : tpos Tryd.prog 15 = true := by kernel_rfl
def z15 : AV := .val (.pointer none)
theorem zo15 : ZeroOK Tryd.prog 15 z15 := ZeroOK.mk (.pointer none) (by kernel_rfl) (by kernel_rfl) (by kernel_rfl) (by kernel_rfl)
theorem sz16 : tsz Tryd.prog 16 = some 1 := by kernel_rfl
theorem by16 : tby Tryd.prog 16 = some 8 := by kernel_rfl
theorem ag16 : tagg Tryd.prog 16 = some false := by kernel_rfl
theorem sl16 : tsl Tryd.prog 16 = none := by kernel_rfl
theorem ar16 : tarr Tryd.prog 16 = none := by kernel_rfl
theorem pt16 : tptr Tryd.prog 16 = some 92 := by kernel_rfl
theorem un16 : (Tryd.prog.underlying 16).isSome = true := by kernel_rfl
theorem po16 : tpos Tryd.prog 16 = true := by kernel_rfl
def z16 : AV := .val (.pointer none)
theorem zo16 : ZeroOK Tryd.prog 16 z16 := ZeroOK.mk (.pointer none) (by kernel_rfl) (by kernel_rfl) (by kernel_rfl) (by kernel_rfl)
theorem sz17 : tsz Tryd.prog 17 = some 1 := by kernel_rfl
theorem by17 : tby Tryd.prog 17 = some 8 := by kernel_rfl
theorem ag17 : tagg Tryd.prog 17 = some false := by kernel_rfl
theorem sl17 : tsl Tryd.prog 17 = none := by kernel_rfl
theorem ar17 : tarr Tryd.prog 17 = none := by kernel_rfl
theorem pt17 : tptr Tryd.prog 17 = some 100 := by kernel_rfl
theorem un17 : (Tryd.prog.underlying 17).isSome = true := by kernel_rfl
theorem po17 : tpos Tryd.prog 17 = true := by kernel_rfl
def z17 : AV := .val (.pointer none)
theorem zo17 : ZeroOK Tryd.prog 17 z17 := ZeroOK.mk (.pointer none) (by kernel_rfl) (by kernel_rfl) (by kernel_rfl) (by kernel_rfl)
theorem sz18 : tsz Tryd.prog 18 = some 1 := by kernel_rfl
theorem by18 : tby Tryd.prog 18 = some 8 := by kernel_rfl
theorem ag18 : tagg Tryd.prog 18 = some true := by kernel_rfl
theorem sl18 : tsl Tryd.prog 18 = none := by kernel_rfl
theorem ar18 : tarr Tryd.prog 18 = none := by kernel_rfl
theorem pt18 : tptr Tryd.prog 18 = none := by kernel_rfl
theorem un18 : (Tryd.prog.underlying 18).isSome = true := by kernel_rfl
theorem fl18_0 : tfld Tryd.prog 18 0 = some (0, 17) := by kernel_rfl
theorem fs18 : tflds Tryd.prog 18 = true := by kernel_rfl
theorem po18 : tpos Tryd.prog 18 = true := by kernel_rfl
def z18 : AV := .agg 1 [.val (.pointer none)]
theorem zo18 : ZeroOK Tryd.prog 18 z18 := ZeroOK.mk (.agg #[.pointer none]) (by kernel_rfl) (by kernel_rfl) (by kernel_rfl) (by kernel_rfl)
theorem sz19 : tsz Tryd.prog 19 = some 1 := by kernel_rfl
theorem by19 : tby Tryd.prog 19 = some 8 := by kernel_rfl
theorem ag19 : tagg Tryd.prog 19 = some true := by kernel_rfl
theorem sl19 : tsl Tryd.prog 19 = none := by kernel_rfl
theorem ar19 : tarr Tryd.prog 19 = none := by kernel_rfl
theorem pt19 : tptr Tryd.prog 19 = none := by kernel_rfl
theorem un19 : (Tryd.prog.underlying 19).isSome = true := by kernel_rfl
theorem fl19_0 : tfld Tryd.prog 19 0 = some (0, 17) := by kernel_rfl
theorem fs19 : tflds Tryd.prog 19 = true := by kernel_rfl
theorem po19 : tpos Tryd.prog 19 = true := by kernel_rfl
def z19 : AV := .agg 1 [.val (.pointer none)]
theorem zo19 : ZeroOK Tryd.prog 19 z19 := ZeroOK.mk (.agg #[.pointer none]) (by kernel_rfl) (by kernel_rfl) (by kernel_rfl) (by kernel_rfl)
theorem sz20 : tsz Tryd.prog 20 = some 1 := by kernel_rfl
theorem by20 : tby Tryd.prog 20 = some 16 := by kernel_rfl
theorem ag20 : tagg Tryd.prog 20 = some false := by kernel_rfl
theorem sl20 : tsl Tryd.prog 20 = none := by kernel_rfl
theorem ar20 : tarr Tryd.prog 20 = none := by kernel_rfl
theorem pt20 : tptr Tryd.prog 20 = none := by kernel_rfl
theorem un20 : (Tryd.prog.underlying 20).isSome = true := by kernel_rfl
theorem po20 : tpos Tryd.prog 20 = true := by kernel_rfl
def z20 : AV := .val .nilIface
theorem zo20 : ZeroOK Tryd.prog 20 z20 := ZeroOK.mk (.nilIface) (by kernel_rfl) (by kernel_rfl) (by kernel_rfl) (by kernel_rfl)
theorem sz21 : tsz Tryd.prog 21 = some 1 := by kernel_rfl
theorem by21 : tby Tryd.prog 21 = some 4 := by kernel_rfl
theorem ag21 : tagg Tryd.prog 21 = some false := by kernel_rfl
theorem sl21 : tsl Tryd.prog 21 = none := by kernel_rfl
theorem ar21 : tarr Tryd.prog 21 = none := by kernel_rfl
theorem pt21 : tptr Tryd.prog 21 = none := by kernel_rfl
theorem in21 : tint Tryd.prog 21 = some .i32 := by kernel_rfl
theorem un21 : (Tryd.prog.underlying 21).isSome = true := by kernel_rfl
theorem po21 : tpos Tryd.prog 21 = true := by kernel_rfl
def z21 : AV := .val (.int .i32 0)
theorem zo21 : ZeroOK Tryd.prog 21 z21 := ZeroOK.mk (.int .i32 0) (by kernel_rfl) (by kernel_rfl) (by kernel_rfl) (by kernel_rfl)
theorem sz22 : tsz Tryd.prog 22 = some 1 := by kernel_rfl
theorem by22 : tby Tryd.prog 22 = some 24 := by kernel_rfl
theorem ag22 : tagg Tryd.prog 22 = some false := by kernel_rfl
theorem sl22 : tsl Tryd.prog 22 = some 5 := by kernel_rfl
theorem ar22 : tarr Tryd.prog 22 = none := by kernel_rfl
theorem pt22 : tptr Tryd.prog 22 = none := by kernel_rfl
theorem un22 : (Tryd.prog.underlying 22).isSome = true := by kernel_rfl
theorem po22 : tpos Tryd.prog 22 = true := by kernel_rfl
def z22 : AV := .sl 1 [] 1
theorem zo22 : ZeroOK Tryd.prog 22 z22 := ZeroOK.mk (.slice none 0 0) (by kernel_rfl) (by kernel_rfl) (by kernel_rfl) (by kernel_rfl)
theorem sz23 : tsz Tryd.prog 23 = some 4 := by kernel_rfl
theorem by23 : tby Tryd.prog 23 = some 48 := by kernel_rfl
theorem ag23 : tagg Tryd.prog 23 = some true := by kernel_rfl
theorem sl23 : tsl Tryd.prog 23 = none := by kernel_rfl
theorem ar23 : tarr Tryd.prog 23 = none := by kernel_rfl
theorem pt23 : tptr Tryd.prog 23 = none := by kernel_rfl
theorem un23 : (Tryd.prog.underlying 23).isSome = true := by kernel_rfl
theorem fl23_0 : tfld Tryd.prog 23 0 = some (0, 3) := by kernel_rfl
theorem fl23_1 : tfld Tryd.prog 23 1 = some (1, 3) := by kernel_rfl
theorem fl23_2 : tfld Tryd.prog 23 2 = some (2, 2) := by kernel_rfl
theorem fl23_3 : tfld Tryd.prog 23 3 = some (3, 22) := by kernel_rfl
theorem fs23 : tflds Tryd.prog 23 = true := by kernel_rfl
theorem po23 : tpos Tryd.prog 23 = true := by kernel_rfl
def z23 : AV := .agg 4 [.val (.int .i64 0), .val (.int .i64 0), .val (.int .i64 0), .sl 1 [] 1]
theorem zo23 : ZeroOK Tryd.prog 23 z23 := ZeroOK.mk (.agg #[.int .i64 0, .int .i64 0, .int .i64 0, .slice none 0 0]) (by kernel_rfl) (by kernel_rfl) (by kernel_rfl) (by kernel_rfl)
theorem sz24 : tsz Tryd.prog 24 = some 4 := by kernel_rfl
theorem by24 : tby Tryd.prog 24 = some 48 := by kernel_rfl
theorem ag24 : tagg Tryd.prog 24 = some true := by kernel_rfl
theorem sl24 : tsl Tryd.prog 24 = none := by kernel_rfl
theorem ar24 : tarr Tryd.prog 24 = none := by kernel_rfl
theorem pt24 : tptr Tryd.prog 24 = none := by kernel_rfl
theorem un24 : (Tryd.prog.underlying 24).isSome = true := by kernel_rfl
theorem fl24_0 : tfld Tryd.prog 24 0 = some (0, 3) := by kernel_rfl
theorem fl24_1 : tfld Tryd.prog 24 1 = some (1, 3) := by kernel_rfl
theorem fl24_2 : tfld Tryd.prog 24 2 = some (2, 2) := by kernel_rfl
theorem fl24_3 : tfld Tryd.prog 24 3 = some (3, 22) := by kernel_rfl
theorem fs24 : tflds Tryd.prog 24 = true := by kernel_rfl
theorem po24 : tpos Tryd.prog 24 = true := by kernel_rfl
def z24 : AV := .agg 4 [.val (.int .i64 0), .val (.int .i64 0), .val (.int .i64 0), .sl 1 [] 1]
theorem zo24 : ZeroOK Tryd.prog 24 z24 := ZeroOK.mk (.agg #[.int .i64 0, .int .i64 0, .int .i64 0, .slice none 0 0]) (by kernel_rfl) (by kernel_rfl) (by kernel_rfl) (by kernel_rfl)
theorem sz25 : tsz Tryd.prog 25 = some 1 := by kernel_rfl
theorem by25 : tby Tryd.prog 25 = some 8 := by kernel_rfl
theorem ag25 : tagg Tryd.prog 25 = some false := by kernel_rfl
theorem sl25 : tsl Tryd.prog 25 = none := by kernel_rfl
theorem ar25 : tarr Tryd.prog 25 = none := by kernel_rfl
theorem pt25 : tptr Tryd.prog 25 = none := by kernel_rfl
theorem un25 : (Tryd.prog.underlying 25).isSome = true := by kernel_rfl
theorem po25 : tpos Tryd.prog 25 = true := by kernel_rfl
def z25 : AV := .val .nilFunc
theorem zo25 : ZeroOK Tryd.prog 25 z25 := ZeroOK.mk (.nilFunc) (by kernel_rfl) (by kernel_rfl) (by kernel_rfl) (by kernel_rfl)
theorem sz26 : tsz Tryd.prog 26 = some 1 := by kernel_rfl
theorem by26 : tby Tryd.prog 26 = some 8 := by kernel_rfl
theorem ag26 : tagg Tryd.prog 26 = some false := by kernel_rfl
theorem sl26 : tsl Tryd.prog 26 = none := by kernel_rfl
theorem ar26 : tarr Tryd.prog 26 = none := by kernel_rfl
theorem pt26 : tptr Tryd.prog 26 = none := by kernel_rfl
theorem un26 : (Tryd.prog.underlying 26).isSome = true := by kernel_rfl
theorem po26 : tpos Tryd.prog 26 = true := by kernel_rfl
def z26 : AV := .val .nilFunc
theorem zo26 : ZeroOK Tryd.prog 26 z26 := ZeroOK.mk (.nilFunc) (by kernel_rfl) (by kernel_rfl) (by kernel_rfl) (by kernel_rfl)
theorem sz27 : tsz Tryd.prog 27 = some 1 := by kernel_rfl
theorem by27 : tby Tryd.prog 27 = some 8 := by kernel_rfl
theorem ag27 : tagg Tryd.prog 27 = some false := by kernel_rfl
theorem sl27 : tsl Tryd.prog 27 = none := by kernel_rfl
theorem ar27 : tarr Tryd.prog 27 = none := by kernel_rfl
theorem pt27 : tptr Tryd.prog 27 = none := by kernel_rfl
theorem in27 : tint Tryd.prog 27 = some .i64 := by kernel_rfl
theorem un27 : (Tryd.prog.underlying 27).isSome = true := by kernel_rfl
theorem po27 : tpos Tryd.prog 27 = true := by kernel_rfl
def z27 : AV := .val (.int .i64 0)
theorem zo27 : ZeroOK Tryd.prog 27 z27 := ZeroOK.mk (.int .i64 0) (by kernel_rfl) (by kernel_rfl) (by kernel_rfl) (by kernel_rfl)
theorem sz29 : tsz Tryd.prog 29 = some 1 := by kernel_rfl
theorem by29 : tby Tryd.prog 29 = some 8 := by kernel_rfl
theorem ag29 : tagg Tryd.prog 29 = some false := by kernel_rfl
theorem sl29 : tsl Tryd.prog 29 = none := by kernel_rfl
theorem ar29 : tarr Tryd.prog 29 = none := by kernel_rfl
theorem pt29 : tptr Tryd.prog 29 = none := by kernel_rfl
theorem un29 : (Tryd.prog.underlying 29).isSome = true := by kernel_rfl
theorem po29 : tpos Tryd.prog 29 = true := by kernel_rfl
def z29 : AV := .val .nilFunc
theorem zo29 : ZeroOK Tryd.prog 29 z29 := ZeroOK.mk (.nilFunc) (by kernel_rfl) (by kernel_rfl) (by kernel_rfl) (by kernel_rfl)
theorem sz30 : tsz Tryd.prog 30 = some 1 := by kernel_rfl
theorem by30 : tby Tryd.prog 30 = some 8 := by kernel_rfl
theorem ag30 : tagg Tryd.prog 30 = some false := by kernel_rfl
theorem sl30 : tsl Tryd.prog 30 = none := by kernel_rfl
theorem ar30 : tarr Tryd.prog 30 = none := by kernel_rfl
theorem pt30 : tptr Tryd.prog 30 = none := by kernel_rfl
theorem un30 : (Tryd.prog.underlying 30).isSome = true := by kernel_rfl
theorem po30 : tpos Tryd.prog 30 = true := by kernel_rfl
def z30 : AV := .val .nilFunc
theorem zo30 : ZeroOK Tryd.prog 30 z30 := ZeroOK.mk (.nilFunc) (by kernel_rfl) (by kernel_rfl) (by kernel_rfl) (by kernel_rfl)
theorem sz31 : tsz Tryd.prog 31 = some 1 := by kernel_rfl
theorem by31 : tby Tryd.prog 31 = some 8 := by kernel_rfl
theorem ag31 : tagg Tryd.prog 31 = some false := by kernel_rfl
theorem sl31 : tsl Tryd.prog 31 = none := by kernel_rfl
theorem ar31 : tarr Tryd.prog 31 = none := by kernel_rfl
theorem pt31 : tptr Tryd.prog 31 = none := by kernel_rfl
theorem un31 : (Tryd.prog.underlying 31).isSome = true := by kernel_rfl
theorem po31 : tpos Tryd.prog 31 = true := by kernel_rfl
def z31 : AV := .val .nilFunc
theorem zo31 : ZeroOK Tryd.prog 31 z31 := ZeroOK.mk (.nilFunc) (by kernel_rfl) (by kernel_rfl) (by kernel_rfl) (by kernel_rfl)
theorem sz32 : tsz Tryd.prog 32 = some 1 := by kernel_rfl
theorem by32 : tby Tryd.prog 32 = some 8 := by kernel_rfl
theorem ag32 : tagg Tryd.prog 32 = some false := by kernel_rfl
theorem sl32 : tsl Tryd.prog 32 = none := by kernel_rfl
theorem ar32 : tarr Tryd.prog 32 = none := by kernel_rfl
theorem pt32 : tptr Tryd.prog 32 = none := by kernel_rfl
theorem un32 : (Tryd.prog.underlying 32).isSome = true := by kernel_rfl
theorem po32 : tpos Tryd.prog 32 = true := by kernel_rfl
def z32 : AV := .val .nilFunc
theorem zo32 : ZeroOK Tryd.prog 32 z32 := ZeroOK.mk (.nilFunc) (by kernel_rfl) (by kernel_rfl) (by kernel_rfl) (by kernel_rfl)
theorem sz33 : tsz Tryd.prog 33 = some 1 := by kernel_rfl
theorem by33 : tby Tryd.prog 33 = some 8 := by kernel_rfl
theorem ag33 : tagg Tryd.prog 33 = some false := by kernel_rfl
theorem sl33 : tsl Tryd.prog 33 = none := by kernel_rfl
theorem ar33 : tarr Tryd.prog 33 = none := by kernel_rfl
theorem pt33 : tptr Tryd.prog 33 = none := by kernel_rfl
theorem un33 : (Tryd.prog.underlying 33).isSome = true := by kernel_rfl
theorem po33 : tpos Tryd.prog 33 = true := by kernel_rfl
def z33 : AV := .val .nilFunc
theorem zo33 : ZeroOK Tryd.prog 33 z33 := ZeroOK.mk (.nilFunc) (by kernel_rfl) (by kernel_rfl) (by kernel_rfl) (by kernel_rfl)
theorem sz34 : tsz Tryd.prog 34 = some 1 := by kernel_rfl
theorem by34 : tby Tryd.prog 34 = some 24 := by kernel_rfl
theorem ag34 : tagg Tryd.prog 34 = some false := by kernel_rfl
theorem sl34 : tsl Tryd.prog 34 = some 24 := by kernel_rfl
theorem ar34 : tarr Tryd.prog 34 = none := by kernel_rfl
theorem pt34 : tptr Tryd.prog 34 = none := by kernel_rfl
theorem un34 : (Tryd.prog.underlying 34).isSome = true := by kernel_rfl
theorem po34 : tpos Tryd.prog 34 = true := by kernel_rfl
def z34 : AV := .sl 4 [] 1
theorem zo34 : ZeroOK Tryd.prog 34 z34 := ZeroOK.mk (.slice none 0 0) (by kernel_rfl) (by kernel_rfl) (by kernel_rfl) (by kernel_rfl)
theorem sz36 : tsz Tryd.prog 36 = some 1 := by kernel_rfl
theorem by36 : tby Tryd.prog 36 = some 8 := by kernel_rfl
theorem ag36 : tagg Tryd.prog 36 = some false := by kernel_rfl
theorem sl36 : tsl Tryd.prog 36 = none := by kernel_rfl
theorem ar36 : tarr Tryd.prog 36 = none := by kernel_rfl
theorem pt36 : tptr Tryd.prog 36 = none := by kernel_rfl
theorem un36 : (Tryd.prog.underlying 36).isSome = true := by kernel_rfl
theorem po36 : tpos Tryd.prog 36 = true := by kernel_rfl
def z36 : AV := .val .nilFunc
theorem zo36 : ZeroOK Tryd.prog 36 z36 := ZeroOK.mk (.nilFunc) (by kernel_rfl) (by kernel_rfl) (by kernel_rfl) (by kernel_rfl)
theorem sz37 : tsz Tryd.prog 37 = some 1 := by kernel_rfl
theorem by37 : tby Tryd.prog 37 = some 8 := by kernel_rfl
theorem ag37 : tagg Tryd.prog 37 = some false := by kernel_rfl
theorem sl37 : tsl Tryd.prog 37 = none := by kernel_rfl
theorem ar37 : tarr Tryd.prog 37 = none := by kernel_rfl
theorem pt37 : tptr Tryd.prog 37 = none := by kernel_rfl
theorem un37 : (Tryd.prog.underlying 37).isSome = true := by kernel_rfl
theorem po37 : tpos Tryd.prog 37 = true := by kernel_rfl
def z37 : AV := .val .nilFunc
theorem zo37 : ZeroOK Tryd.prog 37 z37 := ZeroOK.mk (.nilFunc) (by kernel_rfl) (by kernel_rfl) (by kernel_rfl) (by kernel_rfl)
theorem sz38 : tsz Tryd.prog 38 = some 1 := by kernel_rfl
theorem by38 : tby Tryd.prog 38 = some 8 := by kernel_rfl
theorem ag38 : tagg Tryd.prog 38 = some false := by kernel_rfl
theorem sl38 : tsl Tryd.prog 38 = none := by kernel_rfl
theorem ar38 : tarr Tryd.prog 38 = none := by kernel_rfl
theorem pt38 : tptr Tryd.prog 38 = none := by kernel_rfl
theorem un38 : (Tryd.prog.underlying 38).isSome = true := by kernel_rfl
theorem po38 : tpos Tryd.prog 38 = true := by kernel_rfl
def z38 : AV := .val .nilFunc
theorem zo38 : ZeroOK Tryd.prog 38 z38 := ZeroOK.mk (.nilFunc) (by kernel_rfl) (by kernel_rfl) (by kernel_rfl) (by kernel_rfl)
theorem sz39 : tsz Tryd.prog 39 = some 1 := by kernel_rfl
theorem by39 : tby Tryd.prog 39 = some 8 := by kernel_rfl
theorem ag39 : tagg Tryd.prog 39 = some false := by kernel_rfl
theorem sl39 : tsl Tryd.prog 39 = none := by kernel_rfl
theorem ar39 : tarr Tryd.prog 39 = none := by kernel_rfl
theorem pt39 : tptr Tryd.prog 39 = none := by kernel_rfl
theorem un39 : (Tryd.prog.underlying 39).isSome = true := by kernel_rfl
theorem po39 : tpos Tryd.prog 39 = true := by kernel_rfl
def z39 : AV := .val .nilFunc
theorem zo39 : ZeroOK Tryd.prog 39 z39 := ZeroOK.mk (.nilFunc) (by kernel_rfl) (by kernel_rfl) (by kernel_rfl) (by kernel_rfl)
theorem sz40 : tsz Tryd.prog 40 = some 1 := by kernel_rfl
theorem by40 : tby Tryd.prog 40 = some 8 := by kernel_rfl
theorem ag40 : tagg Tryd.prog 40 = some false := by kernel_rfl
theorem sl40 : tsl Tryd.prog 40 = none := by kernel_rfl
theorem ar40 : tarr Tryd.prog 40 = none := by kernel_rfl
theorem pt40 : tptr Tryd.prog 40 = none := by kernel_rfl
theorem un40 : (Tryd.prog.underlying 40).isSome = true := by kernel_rfl
theorem po40 : tpos Tryd.prog 40 = true := by kernel_rfl
def z40 : AV := .val .nilFunc
theorem zo40 : ZeroOK Tryd.prog 40 z40 := ZeroOK.mk (.nilFunc) (by kernel_rfl) (by kernel_rfl) (by kernel_rfl) (by kernel_rfl)
theorem sz41 : tsz Tryd.prog 41 = some 1 := by kernel_rfl
theorem by41 : tby Tryd.prog 41 = some 24 := by kernel_rfl
theorem ag41 : tagg Tryd.prog 41 = some false := by kernel_rfl
theorem sl41 : tsl Tryd.prog 41 = some 9 := by kernel_rfl
theorem ar41 : tarr Tryd.prog 41 = none := by kernel_rfl
theorem pt41 : tptr Tryd.prog 41 = none := by kernel_rfl
theorem un41 : (Tryd.prog.underlying 41).isSome = true := by kernel_rfl
theorem po41 : tpos Tryd.prog 41 = true := by kernel_rfl
def z41 : AV := .sl 1 [] 1
theorem zo41 : ZeroOK Tryd.prog 41 z41 := ZeroOK.mk (.slice none 0 0) (by kernel_rfl) (by kernel_rfl) (by kernel_rfl) (by kernel_rfl)
theorem sz42 : tsz Tryd.prog 42 = some 1 := by kernel_rfl
theorem by42 : tby Tryd.prog 42 = some 8 := by kernel_rfl
theorem ag42 : tagg Tryd.prog 42 = some false := by kernel_rfl
theorem sl42 : tsl Tryd.prog 42 = none := by kernel_rfl
theorem ar42 : tarr Tryd.prog 42 = none := by kernel_rfl
theorem pt42 : tptr Tryd.prog 42 = none := by kernel_rfl
theorem un42 : (Tryd.prog.underlying 42).isSome = true := by kernel_rfl
theorem po42 : tpos Tryd.prog 42 = true := by kernel_rfl
def z42 : AV := .val .nilFunc
theorem zo42 : ZeroOK Tryd.prog 42 z42 := ZeroOK.mk (.nilFunc) (by kernel_rfl) (by kernel_rfl) (by kernel_rfl) (by kernel_rfl)
theorem sz43 : tsz Tryd.prog 43 = some 1 := by kernel_rfl
theorem by43 : tby Tryd.prog 43 = some 8 := by kernel_rfl
theorem ag43 : tagg Tryd.prog 43 = some false := by kernel_rfl
theorem sl43 : tsl Tryd.prog 43 = none := by kernel_rfl
theorem ar43 : tarr Tryd.prog 43 = none := by kernel_rfl
theorem pt43 : tptr Tryd.prog 43 = none := by kernel_rfl
theorem un43 : (Tryd.prog.underlying 43).isSome = true := by kernel_rfl
theorem po43 : tpos Tryd.prog 43 = true := by kernel_rfl
def z43 : AV := .val .nilFunc
theorem zo43 : ZeroOK Tryd.prog 43 z43 := ZeroOK.mk (.nilFunc) (by kernel_rfl) (by kernel_rfl) (by kernel_rfl) (by kernel_rfl)
theorem sz44 : tsz Tryd.prog 44 = some 1 := by kernel_rfl
theorem by44 : tby Tryd.prog 44 = some 8 := by kernel_rfl
theorem ag44 : tagg Tryd.prog 44 = some false := by kernel_rfl
theorem sl44 : tsl Tryd.prog 44 = none := by kernel_rfl
theorem ar44 : tarr Tryd.prog 44 = none := by kernel_rfl
theorem pt44 : tptr Tryd.prog 44 = none := by kernel_rfl
theorem un44 : (Tryd.prog.underlying 44).isSome = true := by kernel_rfl
theorem po44 : tpos Tryd.prog 44 = true := by kernel_rfl
def z44 : AV := .val .nilFunc
theorem zo44 : ZeroOK Tryd.prog 44 z44 := ZeroOK.mk (.nilFunc) (by kernel_rfl) (by kernel_rfl) (by kernel_rfl) (by kernel_rfl)
theorem sz45 : tsz Tryd.prog 45 = some 1 := by kernel_rfl
theorem by45 : tby Tryd.prog 45 = some 8 := by kernel_rfl
theorem ag45 : tagg Tryd.prog 45 = some false := by kernel_rfl
theorem sl45 : tsl Tryd.prog 45 = none := by kernel_rfl
theorem ar45 : tarr Tryd.prog 45 = none := by kernel_rfl
theorem pt45 : tptr Tryd.prog 45 = none := by kernel_rfl
theorem un45 : (Tryd.prog.underlying 45).isSome = true := by kernel_rfl
theorem po45 : tpos Tryd.prog 45 = true := by kernel_rfl
def z45 : AV := .val .nilFunc
theorem zo45 : ZeroOK Tryd.prog 45 z45 := ZeroOK.mk (.nilFunc) (by kernel_rfl) (by kernel_rfl) (by kernel_rfl) (by kernel_rfl)
theorem sz46 : tsz Tryd.prog 46 = some 1 := by kernel_rfl
theorem by46 : tby Tryd.prog 46 = some 8 := by kernel_rfl
theorem ag46 : tagg Tryd.prog 46 = some false := by kernel_rfl
theorem sl46 : tsl Tryd.prog 46 = none := by kernel_rfl
theorem ar46 : tarr Tryd.prog 46 = none := by kernel_rfl
theorem pt46 : tptr Tryd.prog 46 = none := by kernel_rfl
theorem un46 : (Tryd.prog.underlying 46).isSome = true := by kernel_rfl
theorem po46 : tpos Tryd.prog 46 = true := by kernel_rfl
def z46 : AV := .val .nilFunc
theorem zo46 : ZeroOK Tryd.prog 46 z46 := ZeroOK.mk (.nilFunc) (by kernel_rfl) (by kernel_rfl) (by kernel_rfl) (by kernel_rfl)
theorem sz47 : tsz Tryd.prog 47 = some 1 := by kernel_rfl
theorem by47 : tby Tryd.prog 47 = some 8 := by kernel_rfl
theorem ag47 : tagg Tryd.prog 47 = some false := by kernel_rfl
theorem sl47 : tsl Tryd.prog 47 = none := by kernel_rfl
theorem ar47 : tarr Tryd.prog 47 = none := by kernel_rfl
theorem pt47 : tptr Tryd.prog 47 = none := by kernel_rfl
theorem un47 : (Tryd.prog.underlying 47).isSome = true := by kernel_rfl
theorem po47 : tpos Tryd.prog 47 = true := by kernel_rfl
def z47 : AV := .val .nilFunc
theorem zo47 : ZeroOK Tryd.prog 47 z47 := ZeroOK.mk (.nilFunc) (by kernel_rfl) (by kernel_rfl) (by kernel_rfl) (by kernel_rfl)
theorem sz48 : tsz Tryd.prog 48 = some 1 := by kernel_rfl
theorem by48 : tby Tryd.prog 48 = some 8 := by kernel_rfl
theorem ag48 : tagg Tryd.prog 48 = some false := by kernel_rfl
theorem sl48 : tsl Tryd.prog 48 = none := by kernel_rfl
theorem ar48 : tarr Tryd.prog 48 = none := by kernel_rfl
theorem pt48 : tptr Tryd.prog 48 = some 24 := by kernel_rfl
theorem un48 : (Tryd.prog.underlying 48).isSome = true := by kernel_rfl
theorem po48 : tpos Tryd.prog 48 = true := by kernel_rfl
def z48 : AV := .val (.pointer none)
theorem zo48 : ZeroOK Tryd.prog 48 z48 := ZeroOK.mk (.pointer none) (by kernel_rfl) (by kernel_rfl) (by kernel_rfl) (by kernel_rfl)
theorem sz49 : tsz Tryd.prog 49 = some 1 := by kernel_rfl
theorem by49 : tby Tryd.prog 49 = some 8 := by kernel_rfl
theorem ag49 : tagg Tryd.prog 49 = some false := by kernel_rfl
theorem sl49 : tsl Tryd.prog 49 = none := by kernel_rfl
theorem ar49 : tarr Tryd.prog 49 = none := by kernel_rfl
theorem pt49 : tptr Tryd.prog 49 = none := by kernel_rfl
theorem un49 : (Tryd.prog.underlying 49).isSome = true := by kernel_rfl
theorem po49 : tpos Tryd.prog 49 = true := by kernel_rfl
def z49 : AV := .val .nilFunc
theorem zo49 : ZeroOK Tryd.prog 49 z49 := ZeroOK.mk (.nilFunc) (by kernel_rfl) (by kernel_rfl) (by kernel_rfl) (by kernel_rfl)
theorem sz50 : tsz Tryd.prog 50 = some 1 := by kernel_rfl
theorem by50 : tby Tryd.prog 50 = some 8 := by kernel_rfl
theorem ag50 : tagg Tryd.prog 50 = some false := by kernel_rfl
theorem sl50 : tsl Tryd.prog 50 = none := by kernel_rfl
theorem ar50 : tarr Tryd.prog 50 = none := by kernel_rfl
theorem pt50 : tptr Tryd.prog 50 = none := by kernel_rfl
theorem un50 : (Tryd.prog.underlying 50).isSome = true := by kernel_rfl
theorem po50 : tpos Tryd.prog 50 = true := by kernel_rfl
def z50 : AV := .val .nilFunc
theorem zo50 : ZeroOK Tryd.prog 50 z50 := ZeroOK.mk (.nilFunc) (by kernel_rfl) (by kernel_rfl) (by kernel_rfl) (by kernel_rfl)
theorem sz51 : tsz Tryd.prog 51 = some 1 := by kernel_rfl
theorem by51 : tby Tryd.prog 51 = some 8 := by kernel_rfl
theorem ag51 : tagg Tryd.prog 51 = some false := by kernel_rfl
theorem sl51 : tsl Tryd.prog 51 = none := by kernel_rfl
theorem ar51 : tarr Tryd.prog 51 = none := by kernel_rfl
theorem pt51 : tptr Tryd.prog 51 = none := by kernel_rfl
theorem un51 : (Tryd.prog.underlying 51).isSome = true := by kernel_rfl
theorem po51 : tpos Tryd.prog 51 = true := by kernel_rfl
def z51 : AV := .val .nilFunc
theorem zo51 : ZeroOK Tryd.prog 51 z51 := ZeroOK.mk (.nilFunc) (by kernel_rfl) (by kernel_rfl) (by kernel_rfl) (by kernel_rfl)
theorem sz52 : tsz Tryd.prog 52 = some 1 := by kernel_rfl
theorem by52 : tby Tryd.prog 52 = some 8 := by kernel_rfl
theorem ag52 : tagg Tryd.prog 52 = some false := by kernel_rfl
theorem sl52 : tsl Tryd.prog 52 = none := by kernel_rfl
theorem ar52 : tarr Tryd.prog 52 = none := by kernel_rfl
theorem pt52 : tptr Tryd.prog 52 = some 54 := by kernel_rfl
theorem un52 : (Tryd.prog.underlying 52).isSome = true := by kernel_rfl
theorem po52 : tpos Tryd.prog 52 = true := by kernel_rfl
def z52 : AV := .val (.pointer none)
theorem zo52 : ZeroOK Tryd.prog 52 z52 := ZeroOK.mk (.pointer none) (by kernel_rfl) (by kernel_rfl) (by kernel_rfl) (by kernel_rfl)
theorem sz53 : tsz Tryd.prog 53 = some 2 := by kernel_rfl
theorem by53 : tby Tryd.prog 53 = some 32 := by kernel_rfl
theorem ag53 : tagg Tryd.prog 53 = some true := by kernel_rfl
theorem sl53 : tsl Tryd.prog 53 = none := by kernel_rfl
theorem ar53 : tarr Tryd.prog 53 = none := by kernel_rfl
theorem pt53 : tptr Tryd.prog 53 = none := by kernel_rfl
theorem un53 : (Tryd.prog.underlying 53).isSome = true := by kernel_rfl
theorem fl53_0 : tfld Tryd.prog 53 0 = some (0, 52) := by kernel_rfl
theorem fl53_1 : tfld Tryd.prog 53 1 = some (1, 22) := by kernel_rfl
theorem fs53 : tflds Tryd.prog 53 = true := by kernel_rfl
theorem po53 : tpos Tryd.prog 53 = true := by kernel_rfl
def z53 : AV := .agg 2 [.val (.pointer none), .sl 1 [] 1]
theorem zo53 : ZeroOK Tryd.prog 53 z53 := ZeroOK.mk (.agg #[.pointer none, .slice none 0 0]) (by kernel_rfl) (by kernel_rfl) (by kernel_rfl) (by kernel_rfl)
theorem sz54 : tsz Tryd.prog 54 = some 2 := by kernel_rfl
theorem by54 : tby Tryd.prog 54 = some 32 := by kernel_rfl
theorem ag54 : tagg Tryd.prog 54 = some true := by kernel_rfl
theorem sl54 : tsl Tryd.prog 54 = none := by kernel_rfl
theorem ar54 : tarr Tryd.prog 54 = none := by kernel_rfl
theorem pt54 : tptr Tryd.prog 54 = none := by kernel_rfl
theorem un54 : (Tryd.prog.underlying 54).isSome = true := by kernel_rfl
theorem fl54_0 : tfld Tryd.prog 54 0 = some (0, 52) := by kernel_rfl
theorem fl54_1 : tfld Tryd.prog 54 1 = some (1, 22) := by kernel_rfl
theorem fs54 : tflds Tryd.prog 54 = true := by kernel_rfl
theorem po54 : tpos Tryd.prog 54 = true := by kernel_rfl
def z54 : AV := .agg 2 [.val (.pointer none), .sl 1 [] 1]
theorem zo54 : ZeroOK Tryd.prog 54 z54 := ZeroOK.mk (.agg #[.pointer none, .slice none 0 0]) (by kernel_rfl) (by kernel_rfl) (by kernel_rfl) (by kernel_rfl)
theorem sz55 : tsz Tryd.prog 55 = some 1 := by kernel_rfl
theorem by55 : tby Tryd.prog 55 = some 16 := by kernel_rfl
theorem ag55 : tagg Tryd.prog 55 = some false := by kernel_rfl
theorem sl55 : tsl Tryd.prog 55 = none := by kernel_rfl
theorem ar55 : tarr Tryd.prog 55 = none := by kernel_rfl
theorem pt55 : tptr Tryd.prog 55 = none := by kernel_rfl
theorem un55 : (Tryd.prog.underlying 55).isSome = true := by kernel_rfl
theorem po55 : tpos Tryd.prog 55 = true := by kernel_rfl
def z55 : AV := .val .nilIface
theorem zo55 : ZeroOK Tryd.prog 55 z55 := ZeroOK.mk (.nilIface) (by kernel_rfl) (by kernel_rfl) (by kernel_rfl) (by kernel_rfl)
theorem sz56 : tsz Tryd.prog 56 = some 1 := by kernel_rfl
theorem by56 : tby Tryd.prog 56 = some 16 := by kernel_rfl
theorem ag56 : tagg Tryd.prog 56 = some false := by kernel_rfl
theorem sl56 : tsl Tryd.prog 56 = none := by kernel_rfl
theorem ar56 : tarr Tryd.prog 56 = none := by kernel_rfl
theorem pt56 : tptr Tryd.prog 56 = none := by kernel_rfl
theorem un56 : (Tryd.prog.underlying 56).isSome = true := by kernel_rfl
theorem po56 : tpos Tryd.prog 56 = true := by kernel_rfl
def z56 : AV := .val .nilIface
theorem zo56 : ZeroOK Tryd.prog 56 z56 := ZeroOK.mk (.nilIface) (by kernel_rfl) (by kernel_rfl) (by kernel_rfl) (by kernel_rfl)
theorem sz58 : tsz Tryd.prog 58 = some 1 := by kernel_rfl
theorem by58 : tby Tryd.prog 58 = some 8 := by kernel_rfl
theorem ag58 : tagg Tryd.prog 58 = some false := by kernel_rfl
theorem sl58 : tsl Tryd.prog 58 = none := by kernel_rfl
theorem ar58 : tarr Tryd.prog 58 = none := by kernel_rfl
theorem pt58 : tptr Tryd.prog 58 = none := by kernel_rfl
theorem un58 : (Tryd.prog.underlying 58).isSome = true := by kernel_rfl
theorem po58 : tpos Tryd.prog 58 = true := by kernel_rfl
def z58 : AV := .val .nilFunc
theorem zo58 : ZeroOK Tryd.prog 58 z58 := ZeroOK.mk (.nilFunc) (by kernel_rfl) (by kernel_rfl) (by kernel_rfl) (by kernel_rfl)
theorem sz59 : tsz Tryd.prog 59 = some 1 := by kernel_rfl
theorem by59 : tby Tryd.prog 59 = some 8 := by kernel_rfl
theorem ag59 : tagg Tryd.prog 59 = some false := by kernel_rfl
theorem sl59 : tsl Tryd.prog 59 = none := by kernel_rfl
theorem ar59 : tarr Tryd.prog 59 = none := by kernel_rfl
theorem pt59 : tptr Tryd.prog 59 = none := by kernel_rfl
theorem un59 : (Tryd.prog.underlying 59).isSome = true := by kernel_rfl
theorem po59 : tpos Tryd.prog 59 = true := by kernel_rfl
def z59 : AV := .val .nilFunc
theorem zo59 : ZeroOK Tryd.prog 59 z59 := ZeroOK.mk (.nilFunc) (by kernel_rfl) (by kernel_rfl) (by kernel_rfl) (by kernel_rfl)
theorem sz60 : tsz Tryd.prog 60 = some 1 := by kernel_rfl
theorem by60 : tby Tryd.prog 60 = some 8 := by kernel_rfl
theorem ag60 : tagg Tryd.prog 60 = some false := by kernel_rfl
theorem sl60 : tsl Tryd.prog 60 = none := by kernel_rfl
theorem ar60 : tarr Tryd.prog 60 = none := by kernel_rfl
theorem pt60 : tptr Tryd.prog 60 = none := by kernel_rfl
theorem in60 : tint Tryd.prog 60 = some .u64 := by kernel_rfl
theorem un60 : (Tryd.prog.underlying 60).isSome = true := by kernel_rfl
theorem po60 : tpos Tryd.prog 60 = true := by kernel_rfl
def z60 : AV := .val (.int .u64 0)
theorem zo60 : ZeroOK Tryd.prog 60 z60 := ZeroOK.mk (.int .u64 0) (by kernel_rfl) (by kernel_rfl) (by kernel_rfl) (by kernel_rfl)
theorem sz61 : tsz Tryd.prog 61 = some 1 := by kernel_rfl
theorem by61 : tby Tryd.prog 61 = some 8 := by kernel_rfl
theorem ag61 : tagg Tryd.prog 61 = some false := by kernel_rfl
theorem sl61 : tsl Tryd.prog 61 = none := by kernel_rfl
theorem ar61 : tarr Tryd.prog 61 = none := by kernel_rfl
theorem pt61 : tptr Tryd.prog 61 = none := by kernel_rfl
theorem un61 : (Tryd.prog.underlying 61).isSome = true := by kernel_rfl
theorem po61 : tpos Tryd.prog 61 = true := by kernel_rfl
def z61 : AV := .val .nilFunc
theorem zo61 : ZeroOK Tryd.prog 61 z61 := ZeroOK.mk (.nilFunc) (by kernel_rfl) (by kernel_rfl) (by kernel_rfl) (by kernel_rfl)
theorem sz62 : tsz Tryd.prog 62 = some 1 := by kernel_rfl
theorem by62 : tby Tryd.prog 62 = some 8 := by kernel_rfl
theorem ag62 : tagg Tryd.prog 62 = some false := by kernel_rfl
theorem sl62 : tsl Tryd.prog 62 = none := by kernel_rfl
theorem ar62 : tarr Tryd.prog 62 = none := by kernel_rfl
theorem pt62 : tptr Tryd.prog 62 = none := by kernel_rfl
theorem in62 : tint Tryd.prog 62 = some .u64 := by kernel_rfl
theorem un62 : (Tryd.prog.underlying 62).isSome = true := by kernel_rfl
theorem po62 : tpos Tryd.prog 62 = true := by kernel_rfl
def z62 : AV := .val (.int .u64 0)
theorem zo62 : ZeroOK Tryd.prog 62 z62 := ZeroOK.mk (.int .u64 0) (by kernel_rfl) (by kernel_rfl) (by kernel_rfl) (by kernel_rfl)
theorem sz63 : tsz Tryd.prog 63 = some 1 := by kernel_rfl
theorem by63 : tby Tryd.prog 63 = some 8 := by kernel_rfl
theorem ag63 : tagg Tryd.prog 63 = some false := by kernel_rfl
theorem sl63 : tsl Tryd.prog 63 = none := by kernel_rfl
theorem ar63 : tarr Tryd.prog 63 = none := by kernel_rfl
theorem pt63 : tptr Tryd.prog 63 = none := by kernel_rfl
theorem un63 : (Tryd.prog.underlying 63).isSome = true := by kernel_rfl
theorem po63 : tpos Tryd.prog 63 = true := by kernel_rfl
def z63 : AV := .val .nilFunc
theorem zo63 : ZeroOK Tryd.prog 63 z63 := ZeroOK.mk (.nilFunc) (by kernel_rfl) (by kernel_rfl) (by kernel_rfl) (by kernel_rfl)
theorem sz64 : tsz Tryd.prog 64 = some 1 := by kernel_rfl
theorem by64 : tby Tryd.prog 64 = some 8 := by kernel_rfl
theorem ag64 : tagg Tryd.prog 64 = some false := by kernel_rfl
theorem sl64 : tsl Tryd.prog 64 = none := by kernel_rfl
theorem ar64 : tarr Tryd.prog 64 = none := by kernel_rfl
theorem pt64 : tptr Tryd.prog 64 = none := by kernel_rfl
theorem un64 : (Tryd.prog.underlying 64).isSome = true := by kernel_rfl
theorem po64 : tpos Tryd.prog 64 = true := by kernel_rfl
def z64 : AV := .val .nilFunc
theorem zo64 : ZeroOK Tryd.prog 64 z64 := ZeroOK.mk (.nilFunc) (by kernel_rfl) (by kernel_rfl) (by kernel_rfl) (by kernel_rfl)
theorem sz65 : tsz Tryd.prog 65 = some 3 := by kernel_rfl
theorem by65 : tby Tryd.prog 65 = some 24 := by kernel_rfl
theorem ag65 : tagg Tryd.prog 65 = some true := by kernel_rfl
theorem sl65 : tsl Tryd.prog 65 = none := by kernel_rfl
theorem ar65 : tarr Tryd.prog 65 = some (3, 3) := by kernel_rfl
theorem pt65 : tptr Tryd.prog 65 = none := by kernel_rfl
theorem un65 : (Tryd.prog.underlying 65).isSome = true := by kernel_rfl
theorem po65 : tpos Tryd.prog 65 = true := by kernel_rfl
theorem tq65 : teq Tryd.prog 65 = true := by kernel_rfl
def z65 : AV := .vec 1 (List.replicate 3 (.val (.int .i64 0)))
theorem zo65 : ZeroOK Tryd.prog 65 z65 := ZeroOK.mk (.agg #[.int .i64 0, .int .i64 0, .int .i64 0]) (by kernel_rfl) (by kernel_rfl) (by kernel_rfl) (by kernel_rfl)
theorem sz67 : tsz Tryd.prog 67 = some 1 := by kernel_rfl
theorem by67 : tby Tryd.prog 67 = some 8 := by kernel_rfl
theorem ag67 : tagg Tryd.prog 67 = some false := by kernel_rfl
theorem sl67 : tsl Tryd.prog 67 = none := by kernel_rfl
theorem ar67 : tarr Tryd.prog 67 = none := by kernel_rfl
theorem pt67 : tptr Tryd.prog 67 = none := by kernel_rfl
theorem un67 : (Tryd.prog.underlying 67).isSome = true := by kernel_rfl
theorem po67 : tpos Tryd.prog 67 = true := by kernel_rfl
def z67 : AV := .val .nilFunc
theorem zo67 : ZeroOK Tryd.prog 67 z67 := ZeroOK.mk (.nilFunc) (by kernel_rfl) (by kernel_rfl) (by kernel_rfl) (by kernel_rfl)
theorem sz69 : tsz Tryd.prog 69 = some 1 := by kernel_rfl
theorem by69 : tby Tryd.prog 69 = some 8 := by kernel_rfl
theorem ag69 : tagg Tryd.prog 69 = some false := by kernel_rfl
theorem sl69 : tsl Tryd.prog 69 = none := by kernel_rfl
theorem ar69 : tarr Tryd.prog 69 = none := by kernel_rfl
theorem pt69 : tptr Tryd.prog 69 = none := by kernel_rfl
theorem un69 : (Tryd.prog.underlying 69).isSome = true := by kernel_rfl
theorem po69 : tpos Tryd.prog 69 = true := by kernel_rfl
def z69 : AV := .val .nilFunc
theorem zo69 : ZeroOK Tryd.prog 69 z69 := ZeroOK.mk (.nilFunc) (by kernel_rfl) (by kernel_rfl) (by kernel_rfl) (by kernel_rfl)
theorem sz70 : tsz Tryd.prog 70 = some 1 := by kernel_rfl
theorem by70 : tby Tryd.prog 70 = some 8 := by kernel_rfl
theorem ag70 : tagg Tryd.prog 70 = some false := by kernel_rfl
theorem sl70 : tsl Tryd.prog 70 = none := by kernel_rfl
theorem ar70 : tarr Tryd.prog 70 = none := by kernel_rfl
theorem pt70 : tptr Tryd.prog 70 = some 5 := by kernel_rfl
theorem un70 : (Tryd.prog.underlying 70).isSome = true := by kernel_rfl
theorem po70 : tpos Tryd.prog 70 = true := by kernel_rfl
def z70 : AV := .val (.pointer none)
theorem zo70 : ZeroOK Tryd.prog 70 z70 := ZeroOK.mk (.pointer none) (by kernel_rfl) (by kernel_rfl) (by kernel_rfl) (by kernel_rfl)
theorem sz71 : tsz Tryd.prog 71 = some 1 := by kernel_rfl
theorem by71 : tby Tryd.prog 71 = some 8 := by kernel_rfl
theorem ag71 : tagg Tryd.prog 71 = some false := by kernel_rfl
theorem sl71 : tsl Tryd.prog 71 = none := by kernel_rfl
theorem ar71 : tarr Tryd.prog 71 = none := by kernel_rfl
theorem pt71 : tptr Tryd.prog 71 = none := by kernel_rfl
theorem un71 : (Tryd.prog.underlying 71).isSome = true := by kernel_rfl
theorem po71 : tpos Tryd.prog 71 = true := by kernel_rfl
def z71 : AV := .val .nilFunc
theorem zo71 : ZeroOK Tryd.prog 71 z71 := ZeroOK.mk (.nilFunc) (by kernel_rfl) (by kernel_rfl) (by kernel_rfl) (by kernel_rfl)
theorem sz72 : tsz Tryd.prog 72 = some 1 := by kernel_rfl
theorem by72 : tby Tryd.prog 72 = some 8 := by kernel_rfl
theorem ag72 : tagg Tryd.prog 72 = some false := by kernel_rfl
theorem sl72 : tsl Tryd.prog 72 = none := by kernel_rfl
theorem ar72 : tarr Tryd.prog 72 = none := by kernel_rfl
theorem pt72 : tptr Tryd.prog 72 = none := by kernel_rfl
theorem un72 : (Tryd.prog.underlying 72).isSome = true := by kernel_rfl
theorem po72 : tpos Tryd.prog 72 = true := by kernel_rfl
def z72 : AV := .val .nilFunc
theorem zo72 : ZeroOK Tryd.prog 72 z72 := ZeroOK.mk (.nilFunc) (by kernel_rfl) (by kernel_rfl) (by kernel_rfl) (by kernel_rfl)
theorem sz73 : tsz Tryd.prog 73 = some 1 := by kernel_rfl
theorem by73 : tby Tryd.prog 73 = some 8 := by kernel_rfl
theorem ag73 : tagg Tryd.prog 73 = some false := by kernel_rfl
theorem sl73 : tsl Tryd.prog 73 = none := by kernel_rfl
theorem ar73 : tarr Tryd.prog 73 = none := by kernel_rfl
theorem pt73 : tptr Tryd.prog 73 = none := by kernel_rfl
theorem un73 : (Tryd.prog.underlying 73).isSome = true := by kernel_rfl
theorem po73 : tpos Tryd.prog 73 = true := by kernel_rfl
def z73 : AV := .val .nilFunc
theorem zo73 : ZeroOK Tryd.prog 73 z73 := ZeroOK.mk (.nilFunc) (by kernel_rfl) (by kernel_rfl) (by kernel_rfl) (by kernel_rfl)
theorem sz74 : tsz Tryd.prog 74 = some 1 := by kernel_rfl
theorem by74 : tby Tryd.prog 74 = some 8 := by kernel_rfl
theorem ag74 : tagg Tryd.prog 74 = some false := by kernel_rfl
theorem sl74 : tsl Tryd.prog 74 = none := by kernel_rfl
theorem ar74 : tarr Tryd.prog 74 = none := by kernel_rfl
theorem pt74 : tptr Tryd.prog 74 = none := by kernel_rfl
theorem un74 : (Tryd.prog.underlying 74).isSome = true := by kernel_rfl
theorem po74 : tpos Tryd.prog 74 = true := by kernel_rfl
def z74 : AV := .val .nilFunc
theorem zo74 : ZeroOK Tryd.prog 74 z74 := ZeroOK.mk (.nilFunc) (by kernel_rfl) (by kernel_rfl) (by kernel_rfl) (by kernel_rfl)
theorem sz75 : tsz Tryd.prog 75 = some 1 := by kernel_rfl
theorem by75 : tby Tryd.prog 75 = some 8 := by kernel_rfl
theorem ag75 : tagg Tryd.prog 75 = some false := by kernel_rfl
theorem sl75 : tsl Tryd.prog 75 = none := by kernel_rfl
theorem ar75 : tarr Tryd.prog 75 = none := by kernel_rfl
theorem pt75 : tptr Tryd.prog 75 = none := by kernel_rfl
theorem un75 : (Tryd.prog.underlying 75).isSome = true := by kernel_rfl
theorem po75 : tpos Tryd.prog 75 = true := by kernel_rfl
theorem sz76 : tsz Tryd.prog 76 = some 1 := by kernel_rfl
theorem by76 : tby Tryd.prog 76 = some 8 := by kernel_rfl
theorem ag76 : tagg Tryd.prog 76 = some false := by kernel_rfl
theorem sl76 : tsl Tryd.prog 76 = none := by kernel_rfl
theorem ar76 : tarr Tryd.prog 76 = none := by kernel_rfl
theorem pt76 : tptr Tryd.prog 76 = none := by kernel_rfl
theorem un76 : (Tryd.prog.underlying 76).isSome = true := by kernel_rfl
theorem po76 : tpos Tryd.prog 76 = true := by kernel_rfl
def z76 : AV := .val .nilFunc
theorem zo76 : ZeroOK Tryd.prog 76 z76 := ZeroOK.mk (.nilFunc) (by kernel_rfl) (by kernel_rfl) (by kernel_rfl) (by kernel_rfl)
theorem sz77 : tsz Tryd.prog 77 = some 1 := by kernel_rfl
theorem by77 : tby Tryd.prog 77 = some 8 := by kernel_rfl
theorem ag77 : tagg Tryd.prog 77 = some false := by kernel_rfl
theorem sl77 : tsl Tryd.prog 77 = none := by kernel_rfl
theorem ar77 : tarr Tryd.prog 77 = none := by kernel_rfl
theorem pt77 : tptr Tryd.prog 77 = none := by kernel_rfl
theorem un77 : (Tryd.prog.underlying 77).isSome = true := by kernel_rfl
theorem po77 : tpos Tryd.prog 77 = true := by kernel_rfl
def z77 : AV := .val .nilFunc
theorem zo77 : ZeroOK Tryd.prog 77 z77 := ZeroOK.mk (.nilFunc) (by kernel_rfl) (by kernel_rfl) (by kernel_rfl) (by kernel_rfl)
theorem sz78 : tsz Tryd.prog 78 = some 1 := by kernel_rfl
theorem by78 : tby Tryd.prog 78 = some 8 := by kernel_rfl
theorem ag78 : tagg Tryd.prog 78 = some false := by kernel_rfl
theorem sl78 : tsl Tryd.prog 78 = none := by kernel_rfl
theorem ar78 : tarr Tryd.prog 78 = none := by kernel_rfl
theorem pt78 : tptr Tryd.prog 78 = none := by kernel_rfl
theorem un78 : (Tryd.prog.underlying 78).isSome = true := by kernel_rfl
theorem po78 : tpos Tryd.prog 78 = true := by kernel_rfl
def z78 : AV := .val .nilFunc
theorem zo78 : ZeroOK Tryd.prog 78 z78 := ZeroOK.mk (.nilFunc) (by kernel_rfl) (by kernel_rfl) (by kernel_rfl) (by kernel_rfl)
theorem sz80 : tsz Tryd.prog 80 = some 1 := by kernel_rfl
theorem by80 : tby Tryd.prog 80 = some 8 := by kernel_rfl
theorem ag80 : tagg Tryd.prog 80 = some false := by kernel_rfl
theorem sl80 : tsl Tryd.prog 80 = none := by kernel_rfl
theorem ar80 : tarr Tryd.prog 80 = none := by kernel_rfl
theorem pt80 : tptr Tryd.prog 80 = none := by kernel_rfl
theorem un80 : (Tryd.prog.underlying 80).isSome = true := by kernel_rfl
theorem po80 : tpos Tryd.prog 80 = true := by kernel_rfl
def z80 : AV := .val .nilFunc
theorem zo80 : ZeroOK Tryd.prog 80 z80 := ZeroOK.mk (.nilFunc) (by kernel_rfl) (by kernel_rfl) (by kernel_rfl) (by kernel_rfl)
theorem sz81 : tsz Tryd.prog 81 = some 256 := by kernel_rfl
theorem by81 : tby Tryd.prog 81 = some 256 := by kernel_rfl
theorem ag81 : tagg Tryd.prog 81 = some true := by kernel_rfl
theorem sl81 : tsl Tryd.prog 81 = none := by kernel_rfl
theorem ar81 : tarr Tryd.prog 81 = some (256, 5) := by kernel_rfl
theorem pt81 : tptr Tryd.prog 81 = none := by kernel_rfl
theorem un81 : (Tryd.prog.underlying 81).isSome = true := by kernel_rfl
theorem po81 : tpos Tryd.prog 81 = true := by kernel_rfl
theorem tq81 : teq Tryd.prog 81 = true := by kernel_rfl
def z81 : AV := .vec 1 (List.replicate 256 (.val (.int .u8 0)))
theorem zo81 : ZeroOK Tryd.prog 81 z81 := ZeroOK.mk (.agg #[.int .u8 0, .int .u8 0, .int .u8 0, .int .u8 0, .int .u8 0, .int .u8 0, .int .u8 0, .int .u8 0, .int .u8 0, .int .u8 0, .int .u8 0, .int .u8 0, .int .u8 0, .int .u8 0, .int .u8 0, .int .u8 0, .int .u8 0, .int .u8 0, .int .u8 0, .int .u8 0, .int .u8 0, .int .u8 0, .int .u8 0, .int .u8 0, .int .u8 0, .int .u8 0, .int .u8 0, .int .u8 0, .int .u8 0, .int .u8 0, .int .u8 0, .int .u8 0, .int .u8 0, .int .u8 0, .int .u8 0, .int .u8 0, .int .u8 0, .int .u8 0, .int .u8 0, .int .u8 0, .int .u8 0, .int .u8 0, .int .u8 0, .int .u8 0, .int .u8 0, .int .u8 0, .int .u8 0, .int .u8 0, .int .u8 0, .int .u8 0, .int .u8 0, .int .u8 0, .int .u8 0, .int .u8 0, .int .u8 0, .int .u8 0, .int .u8 0, .int .u8 0, .int .u8 0, .int .u8 0, .int .u8 0, .int .u8 0, .int .u8 0, .int .u8 0, .int .u8 0, .int .u8 0, .int .u8 0, .int .u8 0, .int .u8 0, .int .u8 0, .int .u8 0, .int .u8 0, .int .u8 0, .int .u8 0, .int .u8 0, .int .u8 0, .int .u8 0, .int .u8 0, .int .u8 0, .int .u8 0, .int .u8 0, .int .u8 0, .int .u8 0, .int .u8 0, .int .u8 0, .int .u8 0, .int .u8 0, .int .u8 0, .int .u8 0, .int .u8 0, .int .u8 0, .int .u8 0, .int .u8 0, .int .u8 0, .int .u8 0, .int .u8 0, .int .u8 0, .int .u8 0, .int .u8 0, .int .u8 0, .int .u8 0, .int .u8 0, .int .u8 0, .int .u8 0, .int .u8 0, .int .u8 0, .int .u8 0, .int .u8 0, .int .u8 0, .int .u8 0, .int .u8 0, .int .u8 0, .int .u8 0, .int .u8 0, .int .u8 0, .int .u8 0, .int .u8 0, .int .u8 0, .int .u8 0, .int .u8 0, .int .u8 0, .int .u8 0, .int .u8 0, .int .u8 0, .int .u8 0, .int .u8 0, .int .u8 0, .int .u8 0, .int .u8 0, .int .u8 0, .int .u8 0, .int .u8 0, .int .u8 0, .int .u8 0, .int .u8 0, .int .u8 0, .int .u8 0, .int .u8 0, .int .u8 0, .int .u8 0, .int .u8 0, .int .u8 0, .int .u8 0, .int .u8 0, .int .u8 0, .int .u8 0, .int .u8 0, .int .u8 0, .int .u8 0, .int .u8 0, .int .u8 0, .int .u8 0, .int .u8 0, .int .u8 0, .int .u8 0, .int .u8 0, .int .u8 0, .int .u8 0, .int .u8 0, .int .u8 0, .int .u8 0, .int .u8 0, .int .u8 0, .int .u8 0, .int .u8 0, .int .u8 0, .int .u8 0, .int .u8 0, .int .u8 0, .int .u8 0, .int .u8 0, .int .u8 0, .int .u8 0, .int .u8 0, .int .u8 0, .int .u8 0, .int .u8 0, .int .u8 0, .int .u8 0, .int .u8 0, .int .u8 0, .int .u8 0, .int .u8 0, .int .u8 0, .int .u8 0, .int .u8 0, .int .u8 0, .int .u8 0, .int .u8 0, .int .u8 0, .int .u8 0, .int .u8 0, .int .u8 0, .int .u8 0, .int .u8 0, .int .u8 0, .int .u8 0, .int .u8 0, .int .u8 0, .int .u8 0, .int .u8 0, .int .u8 0, .int .u8 0, .int .u8 0, .int .u8 0, .int .u8 0, .int .u8 0, .int .u8 0, .int .u8 0, .int .u8 0, .int .u8 0, .int .u8 0, .int .u8 0, .int .u8 0, .int .u8 0, .int .u8 0, .int .u8 0, .int .u8 0, .int .u8 0, .int .u8 0, .int .u8 0, .int .u8 0, .int .u8 0, .int .u8 0, .int .u8 0, .int .u8 0, .int .u8 0, .int .u8 0, .int .u8 0, .int .u8 0, .int .u8 0, .int .u8 0, .int .u8 0, .int .u8 0, .int .u8 0, .int .u8 0, .int .u8 0, .int .u8 0, .int .u8 0, .int .u8 0, .int .u8 0, .int .u8 0, .int .u8 0, .int .u8 0, .int .u8 0, .int .u8 0, .int .u8 0, .int .u8 0, .int .u8 0, .int .u8 0, .int .u8 0, .int .u8 0, .int .u8 0, .int .u8 0, .int .u8 0, .int .u8 0]) (by kernel_rfl) (by kernel_rfl) (by kernel_rfl) (by kernel_rfl)
theorem sz82 : tsz Tryd.prog 82 = some 2 := by kernel_rfl
theorem by82 : tby Tryd.prog 82 = some 2 := by kernel_rfl
theorem ag82 : tagg Tryd.prog 82 = some true := by kernel_rfl
theorem sl82 : tsl Tryd.prog 82 = none := by kernel_rfl
theorem ar82 : tarr Tryd.prog 82 = none := by kernel_rfl
theorem pt82 : tptr Tryd.prog 82 = none := by kernel_rfl
theorem un82 : (Tryd.prog.underlying 82).isSome = true := by kernel_rfl
theorem fl82_0 : tfld Tryd.prog 82 0 = some (0, 5) := by kernel_rfl
theorem fl82_1 : tfld Tryd.prog 82 1 = some (1, 5) := by kernel_rfl
theorem fs82 : tflds Tryd.prog 82 = true := by kernel_rfl
theorem po82 : tpos Tryd.prog 82 = true := by kernel_rfl
theorem tq82 : teq Tryd.prog 82 = true := by kernel_rfl
theorem tc82 : tcmp Tryd.prog 82 = some [(0, 5), (1, 5)] := by kernel_rfl
def z82 : AV := .agg 2 [.val (.int .u8 0), .val (.int .u8 0)]
theorem zo82 : ZeroOK Tryd.prog 82 z82 := ZeroOK.mk (.agg #[.int .u8 0, .int .u8 0]) (by kernel_rfl) (by kernel_rfl) (by kernel_rfl) (by kernel_rfl)
theorem sz83 : tsz Tryd.prog 83 = some 2 := by kernel_rfl
theorem by83 : tby Tryd.prog 83 = some 2 := by kernel_rfl
theorem ag83 : tagg Tryd.prog 83 = some true := by kernel_rfl
theorem sl83 : tsl Tryd.prog 83 = none := by kernel_rfl
theorem ar83 : tarr Tryd.prog 83 = none := by kernel_rfl
theorem pt83 : tptr Tryd.prog 83 = none := by kernel_rfl
theorem un83 : (Tryd.prog.underlying 83).isSome = true := by kernel_rfl
theorem fl83_0 : tfld Tryd.prog 83 0 = some (0, 5) := by kernel_rfl
theorem fl83_1 : tfld Tryd.prog 83 1 = some (1, 5) := by kernel_rfl
theorem fs83 : tflds Tryd.prog 83 = true := by kernel_rfl
theorem po83 : tpos Tryd.prog 83 = true := by kernel_rfl
theorem tq83 : teq Tryd.prog 83 = true := by kernel_rfl
theorem tc83 : tcmp Tryd.prog 83 = some [(0, 5), (1, 5)] := by kernel_rfl
def z83 : AV := .agg 2 [.val (.int .u8 0), .val (.int .u8 0)]
theorem zo83 : ZeroOK Tryd.prog 83 z83 := ZeroOK.mk (.agg #[.int .u8 0, .int .u8 0]) (by kernel_rfl) (by kernel_rfl) (by kernel_rfl) (by kernel_rfl)
theorem sz84 : tsz Tryd.prog 84 = some 32 := by kernel_rfl
theorem by84 : tby Tryd.prog 84 = some 32 := by kernel_rfl
theorem ag84 : tagg Tryd.prog 84 = some true := by kernel_rfl
theorem sl84 : tsl Tryd.prog 84 = none := by kernel_rfl
theorem ar84 : tarr Tryd.prog 84 = some (16, 83) := by kernel_rfl
theorem pt84 : tptr Tryd.prog 84 = none := by kernel_rfl
theorem un84 : (Tryd.prog.underlying 84).isSome = true := by kernel_rfl
theorem po84 : tpos Tryd.prog 84 = true := by kernel_rfl
theorem tq84 : teq Tryd.prog 84 = true := by kernel_rfl
def z84 : AV := .vec 2 (List.replicate 16 (.agg 2 [.val (.int .u8 0), .val (.int .u8 0)]))
theorem zo84 : ZeroOK Tryd.prog 84 z84 := ZeroOK.mk (.agg #[.int .u8 0, .int .u8 0, .int .u8 0, .int .u8 0, .int .u8 0, .int .u8 0, .int .u8 0, .int .u8 0, .int .u8 0, .int .u8 0, .int .u8 0, .int .u8 0, .int .u8 0, .int .u8 0, .int .u8 0, .int .u8 0, .int .u8 0, .int .u8 0, .int .u8 0, .int .u8 0, .int .u8 0, .int .u8 0, .int .u8 0, .int .u8 0, .int .u8 0, .int .u8 0, .int .u8 0, .int .u8 0, .int .u8 0, .int .u8 0, .int .u8 0, .int .u8 0]) (by kernel_rfl) (by kernel_rfl) (by kernel_rfl) (by kernel_rfl)
theorem sz85 : tsz Tryd.prog 85 = some 1 := by kernel_rfl
theorem by85 : tby Tryd.prog 85 = some 4 := by kernel_rfl
theorem ag85 : tagg Tryd.prog 85 = some false := by kernel_rfl
theorem sl85 : tsl Tryd.prog 85 = none := by kernel_rfl
theorem ar85 : tarr Tryd.prog 85 = none := by kernel_rfl
theorem pt85 : tptr Tryd.prog 85 = none := by kernel_rfl
theorem in85 : tint Tryd.prog 85 = some .u32 := by kernel_rfl
theorem un85 : (Tryd.prog.underlying 85).isSome = true := by kernel_rfl
theorem po85 : tpos Tryd.prog 85 = true := by kernel_rfl
def z85 : AV := .val (.int .u32 0)
theorem zo85 : ZeroOK Tryd.prog 85 z85 := ZeroOK.mk (.int .u32 0) (by kernel_rfl) (by kernel_rfl) (by kernel_rfl) (by kernel_rfl)
theorem sz87 : tsz Tryd.prog 87 = some 1 := by kernel_rfl
theorem by87 : tby Tryd.prog 87 = some 8 := by kernel_rfl
theorem ag87 : tagg Tryd.prog 87 = some false := by kernel_rfl
theorem sl87 : tsl Tryd.prog 87 = none := by kernel_rfl
theorem ar87 : tarr Tryd.prog 87 = none := by kernel_rfl
theorem pt87 : tptr Tryd.prog 87 = none := by kernel_rfl
theorem un87 : (Tryd.prog.underlying 87).isSome = true := by kernel_rfl
theorem po87 : tpos Tryd.prog 87 = true := by kernel_rfl
def z87 : AV := .val .nilFunc
theorem zo87 : ZeroOK Tryd.prog 87 z87 := ZeroOK.mk (.nilFunc) (by kernel_rfl) (by kernel_rfl) (by kernel_rfl) (by kernel_rfl)
theorem sz88 : tsz Tryd.prog 88 = some 4 := by kernel_rfl
theorem by88 : tby Tryd.prog 88 = some 40 := by kernel_rfl
theorem ag88 : tagg Tryd.prog 88 = some true := by kernel_rfl
theorem sl88 : tsl Tryd.prog 88 = none := by kernel_rfl
theorem ar88 : tarr Tryd.prog 88 = none := by kernel_rfl
theorem pt88 : tptr Tryd.prog 88 = none := by kernel_rfl
theorem un88 : (Tryd.prog.underlying 88).isSome = true := by kernel_rfl
theorem fl88_0 : tfld Tryd.prog 88 0 = some (0, 17) := by kernel_rfl
theorem fl88_1 : tfld Tryd.prog 88 1 = some (1, 17) := by kernel_rfl
theorem fl88_2 : tfld Tryd.prog 88 2 = some (2, 17) := by kernel_rfl
theorem fl88_3 : tfld Tryd.prog 88 3 = some (3, 9) := by kernel_rfl
theorem fs88 : tflds Tryd.prog 88 = true := by kernel_rfl
theorem po88 : tpos Tryd.prog 88 = true := by kernel_rfl
def z88 : AV := .agg 4 [.val (.pointer none), .val (.pointer none), .val (.pointer none), .val (.string ByteArray.empty)]
theorem zo88 : ZeroOK Tryd.prog 88 z88 := ZeroOK.mk (.agg #[.pointer none, .pointer none, .pointer none, .string ByteArray.empty]) (by kernel_rfl) (by kernel_rfl) (by kernel_rfl) (by kernel_rfl)
theorem sz89 : tsz Tryd.prog 89 = some 4 := by kernel_rfl
theorem by89 : tby Tryd.prog 89 = some 40 := by kernel_rfl
theorem ag89 : tagg Tryd.prog 89 = some true := by kernel_rfl
theorem sl89 : tsl Tryd.prog 89 = none := by kernel_rfl
theorem ar89 : tarr Tryd.prog 89 = none := by kernel_rfl
theorem pt89 : tptr Tryd.prog 89 = none := by kernel_rfl
theorem un89 : (Tryd.prog.underlying 89).isSome = true := by kernel_rfl
theorem fl89_0 : tfld Tryd.prog 89 0 = some (0, 17) := by kernel_rfl
theorem fl89_1 : tfld Tryd.prog 89 1 = some (1, 17) := by kernel_rfl
theorem fl89_2 : tfld Tryd.prog 89 2 = some (2, 17) := by kernel_rfl
theorem fl89_3 : tfld Tryd.prog 89 3 = some (3, 9) := by kernel_rfl
theorem fs89 : tflds Tryd.prog 89 = true := by kernel_rfl
theorem po89 : tpos Tryd.prog 89 = true := by kernel_rfl
def z89 : AV := .agg 4 [.val (.pointer none), .val (.pointer none), .val (.pointer none), .val (.string ByteArray.empty)]
theorem zo89 : ZeroOK Tryd.prog 89 z89 := ZeroOK.mk (.agg #[.pointer none, .pointer none, .pointer none, .string ByteArray.empty]) (by kernel_rfl) (by kernel_rfl) (by kernel_rfl) (by kernel_rfl)
theorem sz90 : tsz Tryd.prog 90 = some 0 := by kernel_rfl
theorem by90 : tby Tryd.prog 90 = some 0 := by kernel_rfl
theorem ag90 : tagg Tryd.prog 90 = some true := by kernel_rfl
theorem sl90 : tsl Tryd.prog 90 = none := by kernel_rfl
theorem ar90 : tarr Tryd.prog 90 = some (0, 16) := by kernel_rfl
theorem pt90 : tptr Tryd.prog 90 = none := by kernel_rfl
theorem un90 : (Tryd.prog.underlying 90).isSome = true := by kernel_rfl
def z90 : AV := .vec 1 (List.replicate 0 (.val (.pointer none)))
theorem zo90 : ZeroOK Tryd.prog 90 z90 := ZeroOK.mk (.agg #[]) (by kernel_rfl) (by kernel_rfl) (by kernel_rfl) (by kernel_rfl)
theorem sz91 : tsz Tryd.prog 91 = some 0 := by kernel_rfl
theorem by91 : tby Tryd.prog 91 = some 0 := by kernel_rfl
theorem ag91 : tagg Tryd.prog 91 = some true := by kernel_rfl
theorem sl91 : tsl Tryd.prog 91 = none := by kernel_rfl
theorem ar91 : tarr Tryd.prog 91 = none := by kernel_rfl
theorem pt91 : tptr Tryd.prog 91 = none := by kernel_rfl
theorem un91 : (Tryd.prog.underlying 91).isSome = true := by kernel_rfl
theorem fl91_0 : tfld Tryd.prog 91 0 = some (0, 90) := by kernel_rfl
theorem fs91 : tflds Tryd.prog 91 = true := by kernel_rfl
def z91 : AV := .agg 0 [.vec 1 (List.replicate 0 (.val (.pointer none)))]
theorem zo91 : ZeroOK Tryd.prog 91 z91 := ZeroOK.mk (.agg #[]) (by kernel_rfl) (by kernel_rfl) (by kernel_rfl) (by kernel_rfl)
theorem sz92 : tsz Tryd.prog 92 = some 0 := by kernel_rfl
theorem by92 : tby Tryd.prog 92 = some 0 := by kernel_rfl
theorem ag92 : tagg Tryd.prog 92 = some true := by kernel_rfl
theorem sl92 : tsl Tryd.prog 92 = none := by kernel_rfl
theorem ar92 : tarr Tryd.prog 92 = none := by kernel_rfl
theorem pt92 : tptr Tryd.prog 92 = none := by kernel_rfl
theorem un92 : (Tryd.prog.underlying 92).isSome = true := by kernel_rfl
theorem fl92_0 : tfld Tryd.prog 92 0 = some (0, 90) := by kernel_rfl
theorem fs92 : tflds Tryd.prog 92 = true := by kernel_rfl
def z92 : AV := .agg 0 [.vec 1 (List.replicate 0 (.val (.pointer none)))]
theorem zo92 : ZeroOK Tryd.prog 92 z92 := ZeroOK.mk (.agg #[]) (by kernel_rfl) (by kernel_rfl) (by kernel_rfl) (by kernel_rfl)
theorem sz93 : tsz Tryd.prog 93 = some 1 := by kernel_rfl
theorem by93 : tby Tryd.prog 93 = some 8 := by kernel_rfl
theorem ag93 : tagg Tryd.prog 93 = some false := by kernel_rfl
theorem sl93 : tsl Tryd.prog 93 = none := by kernel_rfl
theorem ar93 : tarr Tryd.prog 93 = none := by kernel_rfl
theorem pt93 : tptr Tryd.prog 93 = none := by kernel_rfl
theorem un93 : (Tryd.prog.underlying 93).isSome = true := by kernel_rfl
theorem po93 : tpos Tryd.prog 93 = true := by kernel_rfl
def z93 : AV := .val .nilFunc
theorem zo93 : ZeroOK Tryd.prog 93 z93 := ZeroOK.mk (.nilFunc) (by kernel_rfl) (by kernel_rfl) (by kernel_rfl) (by kernel_rfl)
theorem sz94 : tsz Tryd.prog 94 = some 1 := by kernel_rfl
theorem by94 : tby Tryd.prog 94 = some 1 := by kernel_rfl
theorem ag94 : tagg Tryd.prog 94 = some false := by kernel_rfl
theorem sl94 : tsl Tryd.prog 94 = none := by kernel_rfl
theorem ar94 : tarr Tryd.prog 94 = none := by kernel_rfl
theorem pt94 : tptr Tryd.prog 94 = none := by kernel_rfl
theorem in94 : tint Tryd.prog 94 = some .u8 := by kernel_rfl
theorem un94 : (Tryd.prog.underlying 94).isSome = true := by kernel_rfl
theorem po94 : tpos Tryd.prog 94 = true := by kernel_rfl
def z94 : AV := .val (.int .u8 0)
theorem zo94 : ZeroOK Tryd.prog 94 z94 := ZeroOK.mk (.int .u8 0) (by kernel_rfl) (by kernel_rfl) (by kernel_rfl) (by kernel_rfl)
theorem sz95 : tsz Tryd.prog 95 = some 1 := by kernel_rfl
theorem by95 : tby Tryd.prog 95 = some 1 := by kernel_rfl
theorem ag95 : tagg Tryd.prog 95 = some false := by kernel_rfl
theorem sl95 : tsl Tryd.prog 95 = none := by kernel_rfl
theorem ar95 : tarr Tryd.prog 95 = none := by kernel_rfl
theorem pt95 : tptr Tryd.prog 95 = none := by kernel_rfl
theorem in95 : tint Tryd.prog 95 = some .u8 := by kernel_rfl
theorem un95 : (Tryd.prog.underlying 95).isSome = true := by kernel_rfl
theorem po95 : tpos Tryd.prog 95 = true := by kernel_rfl
def z95 : AV := .val (.int .u8 0)
theorem zo95 : ZeroOK Tryd.prog 95 z95 := ZeroOK.mk (.int .u8 0) (by kernel_rfl) (by kernel_rfl) (by kernel_rfl) (by kernel_rfl)
theorem sz96 : tsz Tryd.prog 96 = some 1 := by kernel_rfl
theorem by96 : tby Tryd.prog 96 = some 8 := by kernel_rfl
theorem ag96 : tagg Tryd.prog 96 = some false := by kernel_rfl
theorem sl96 : tsl Tryd.prog 96 = none := by kernel_rfl
theorem ar96 : tarr Tryd.prog 96 = none := by kernel_rfl
theorem pt96 : tptr Tryd.prog 96 = none := by kernel_rfl
theorem un96 : (Tryd.prog.underlying 96).isSome = true := by kernel_rfl
theorem po96 : tpos Tryd.prog 96 = true := by kernel_rfl
def z96 : AV := .val .nilFunc
theorem zo96 : ZeroOK Tryd.prog 96 z96 := ZeroOK.mk (.nilFunc) (by kernel_rfl) (by kernel_rfl) (by kernel_rfl) (by kernel_rfl)
theorem sz97 : tsz Tryd.prog 97 = some 1 := by kernel_rfl
theorem by97 : tby Tryd.prog 97 = some 4 := by kernel_rfl
theorem ag97 : tagg Tryd.prog 97 = some false := by kernel_rfl
theorem sl97 : tsl Tryd.prog 97 = none := by kernel_rfl
theorem ar97 : tarr Tryd.prog 97 = none := by kernel_rfl
theorem pt97 : tptr Tryd.prog 97 = none := by kernel_rfl
theorem in97 : tint Tryd.prog 97 = some .i32 := by kernel_rfl
theorem un97 : (Tryd.prog.underlying 97).isSome = true := by kernel_rfl
theorem po97 : tpos Tryd.prog 97 = true := by kernel_rfl
def z97 : AV := .val (.int .i32 0)
theorem zo97 : ZeroOK Tryd.prog 97 z97 := ZeroOK.mk (.int .i32 0) (by kernel_rfl) (by kernel_rfl) (by kernel_rfl) (by kernel_rfl)
theorem sz98 : tsz Tryd.prog 98 = some 1 := by kernel_rfl
theorem by98 : tby Tryd.prog 98 = some 4 := by kernel_rfl
theorem ag98 : tagg Tryd.prog 98 = some false := by kernel_rfl
theorem sl98 : tsl Tryd.prog 98 = none := by kernel_rfl
theorem ar98 : tarr Tryd.prog 98 = none := by kernel_rfl
theorem pt98 : tptr Tryd.prog 98 = none := by kernel_rfl
theorem in98 : tint Tryd.prog 98 = some .i32 := by kernel_rfl
theorem un98 : (Tryd.prog.underlying 98).isSome = true := by kernel_rfl
theorem po98 : tpos Tryd.prog 98 = true := by kernel_rfl
def z98 : AV := .val (.int .i32 0)
theorem zo98 : ZeroOK Tryd.prog 98 z98 := ZeroOK.mk (.int .i32 0) (by kernel_rfl) (by kernel_rfl) (by kernel_rfl) (by kernel_rfl)
theorem sz99 : tsz Tryd.prog 99 = some 11 := by kernel_rfl
theorem by99 : tby Tryd.prog 99 = some 48 := by kernel_rfl
theorem ag99 : tagg Tryd.prog 99 = some true := by kernel_rfl
theorem sl99 : tsl Tryd.prog 99 = none := by kernel_rfl
theorem ar99 : tarr Tryd.prog 99 = none := by kernel_rfl
theorem pt99 : tptr Tryd.prog 99 = none := by kernel_rfl
theorem un99 : (Tryd.prog.underlying 99).isSome = true := by kernel_rfl
theorem fl99_0 : tfld Tryd.prog 99 0 = some (0, 12) := by kernel_rfl
theorem fl99_1 : tfld Tryd.prog 99 1 = some (1, 12) := by kernel_rfl
theorem fl99_2 : tfld Tryd.prog 99 2 = some (2, 85) := by kernel_rfl
theorem fl99_3 : tfld Tryd.prog 99 3 = some (3, 94) := by kernel_rfl
theorem fl99_4 : tfld Tryd.prog 99 4 = some (4, 5) := by kernel_rfl
theorem fl99_5 : tfld Tryd.prog 99 5 = some (5, 5) := by kernel_rfl
theorem fl99_6 : tfld Tryd.prog 99 6 = some (6, 95) := by kernel_rfl
theorem fl99_7 : tfld Tryd.prog 99 7 = some (7, 96) := by kernel_rfl
theorem fl99_8 : tfld Tryd.prog 99 8 = some (8, 70) := by kernel_rfl
theorem fl99_9 : tfld Tryd.prog 99 9 = some (9, 97) := by kernel_rfl
theorem fl99_10 : tfld Tryd.prog 99 10 = some (10, 98) := by kernel_rfl
theorem fs99 : tflds Tryd.prog 99 = true := by kernel_rfl
theorem po99 : tpos Tryd.prog 99 = true := by kernel_rfl
def z99 : AV := .agg 11 [.val (.int .u64 0), .val (.int .u64 0), .val (.int .u32 0), .val (.int .u8 0), .val (.int .u8 0), .val (.int .u8 0), .val (.int .u8 0), .val .nilFunc, .val (.pointer none), .val (.int .i32 0), .val (.int .i32 0)]
theorem zo99 : ZeroOK Tryd.prog 99 z99 := ZeroOK.mk (.agg #[.int .u64 0, .int .u64 0, .int .u32 0, .int .u8 0, .int .u8 0, .int .u8 0, .int .u8 0, .nilFunc, .pointer none, .int .i32 0, .int .i32 0]) (by kernel_rfl) (by kernel_rfl) (by kernel_rfl) (by kernel_rfl)
theorem sz100 : tsz Tryd.prog 100 = some 11 := by kernel_rfl
theorem by100 : tby Tryd.prog 100 = some 48 := by kernel_rfl
theorem ag100 : tagg Tryd.prog 100 = some true := by kernel_rfl
theorem sl100 : tsl Tryd.prog 100 = none := by kernel_rfl
theorem ar100 : tarr Tryd.prog 100 = none := by kernel_rfl
theorem pt100 : tptr Tryd.prog 100 = none := by kernel_rfl
theorem un100 : (Tryd.prog.underlying 100).isSome = true := by kernel_rfl
theorem fl100_0 : tfld Tryd.prog 100 0 = some (0, 12) := by kernel_rfl
theorem fl100_1 : tfld Tryd.prog 100 1 = some (1, 12) := by kernel_rfl
theorem fl100_2 : tfld Tryd.prog 100 2 = some (2, 85) := by kernel_rfl
theorem fl100_3 : tfld Tryd.prog 100 3 = some (3, 94) := by kernel_rfl
theorem fl100_4 : tfld Tryd.prog 100 4 = some (4, 5) := by kernel_rfl
theorem fl100_5 : tfld Tryd.prog 100 5 = some (5, 5) := by kernel_rfl
theorem fl100_6 : tfld Tryd.prog 100 6 = some (6, 95) := by kernel_rfl
theorem fl100_7 : tfld Tryd.prog 100 7 = some (7, 96) := by kernel_rfl
theorem fl100_8 : tfld Tryd.prog 100 8 = some (8, 70) := by kernel_rfl
theorem fl100_9 : tfld Tryd.prog 100 9 = some (9, 97) := by kernel_rfl
theorem fl100_10 : tfld Tryd.prog 100 10 = some (10, 98) := by kernel_rfl
theorem fs100 : tflds Tryd.prog 100 = true := by kernel_rfl
theorem po100 : tpos Tryd.prog 100 = true := by kernel_rfl
def z100 : AV := .agg 11 [.val (.int .u64 0), .val (.int .u64 0), .val (.int .u32 0), .val (.int .u8 0), .val (.int .u8 0), .val (.int .u8 0), .val (.int .u8 0), .val .nilFunc, .val (.pointer none), .val (.int .i32 0), .val (.int .i32 0)]
theorem zo100 : ZeroOK Tryd.prog 100 z100 := ZeroOK.mk (.agg #[.int .u64 0, .int .u64 0, .int .u32 0, .int .u8 0, .int .u8 0, .int .u8 0, .int .u8 0, .nilFunc, .pointer none, .int .i32 0, .int .i32 0]) (by kernel_rfl) (by kernel_rfl) (by kernel_rfl) (by kernel_rfl)
def zl : List (Nat × AV) := [(1, z1), (2, z2), (3, z3), (4, z4), (5, z5), (6, z6), (7, z7), (8, z8), (9, z9), (10, z10), (11, z11), (12, z12), (13, z13), (14, z14), (15, z15), (16, z16), (17, z17), (18, z18), (19, z19), (20, z20), (21, z21), (22, z22), (23, z23), (24, z24), (25, z25), (26, z26), (27, z27), (29, z29), (30, z30), (31, z31), (32, z32), (33, z33), (34, z34), (36, z36), (37, z37), (38, z38), (39, z39), (40, z40), (41, z41), (42, z42), (43, z43), (44, z44), (45, z45), (46, z46), (47, z47), (48, z48), (49, z49), (50, z50), (51, z51), (52, z52), (53, z53), (54, z54), (55, z55), (56, z56), (58, z58), (59, z59), (60, z60), (61, z61), (62, z62), (63, z63), (64, z64), (65, z65), (67, z67), (69, z69), (70, z70), (71, z71), (72, z72), (73, z73), (74, z74), (76, z76), (77, z77), (78, z78), (80, z80), (81, z81), (82, z82), (83, z83), (84, z84), (85, z85), (87, z87), (88, z88), (89, z89), (90, z90), (91, z91), (92, z92), (93, z93), (94, z94), (95, z95), (96, z96), (97, z97), (98, z98), (99, z99), (100, z100)]
theorem zl_ok : zAll Tryd.prog zl := ⟨zo1, zo2, zo3, zo4, zo5, zo6, zo7, zo8, zo9, zo10, zo11, zo12, zo13, zo14, zo15, zo16, zo17, zo18, zo19, zo20, zo21, zo22, zo23, zo24, zo25, zo26, zo27, zo29, zo30, zo31, zo32, zo33, zo34, zo36, zo37, zo38, zo39, zo40, zo41, zo42, zo43, zo44, zo45, zo46, zo47, zo48, zo49, zo50, zo51, zo52, zo53, zo54, zo55, zo56, zo58, zo59, zo60, zo61, zo62, zo63, zo64, zo65, zo67, zo69, zo70, zo71, zo72, zo73, zo74, zo76, zo77, zo78, zo80, zo81, zo82, zo83, zo84, zo85, zo87, zo88, zo89, zo90, zo91, zo92, zo93, zo94, zo95, zo96, zo97, zo98, zo99, zo100, trivial⟩
/-- the program, its zero values -/
noncomputable def cx : Cx := ⟨Tryd.prog, zLook zl, zLook_ok zl_ok⟩
theorem cxP : cx.P = Tryd.prog := rfl
theorem zt1 : cx.zt 1 = some z1 := by kernel_rfl
theorem zt2 : cx.zt 2 = some z2 := by kernel_rfl
theorem zt3 : cx.zt 3 = some z3 := by kernel_rfl
theorem zt4 : cx.zt 4 = some z4 := by kernel_rfl
theorem zt5 : cx.zt 5 = some z5 := by kernel_rfl
theorem zt6 : cx.zt 6 = some z6 := by kernel_rfl
theorem zt7 : cx.zt 7 = some z7 := by kernel_rfl
theorem zt8 : cx.zt 8 = some z8 := by kernel_rfl
theorem zt9 : cx.zt 9 = some z9 := by kernel_rfl
theorem zt10 : cx.zt 10 = some z10 := by kernel_rfl
theorem zt11 : cx.zt 11 = some z11 := by kernel_rfl
theorem zt12 : cx.zt 12 = some z12 := by kernel_rfl
theorem zt13 : cx.zt 13 = some z13 := by kernel_rfl
theorem zt14 : cx.zt 14 = some z14 := by kernel_rfl
theorem zt15 : cx.zt 15 = some z15 := by kernel_rfl
theorem zt16 : cx.zt 16 = some z16 := by kernel_rfl
theorem zt17 : cx.zt 17 = some z17 := by kernel_rfl
theorem zt18 : cx.zt 18 = some z18 := by kernel_rfl
theorem zt19 : cx.zt 19 = some z19 := by kernel_rfl
theorem zt20 : cx.zt 20 = some z20 := by kernel_rfl
theorem zt21 : cx.zt 21 = some z21 := by kernel_rfl
theorem zt22 : cx.zt 22 = some z22 := by kernel_rfl
theorem zt23 : cx.zt 23 = some z23 := by kernel_rfl
theorem zt24 : cx.zt 24 = some z24 := by kernel_rfl
theorem zt25 : cx.zt 25 = some z25 := by kernel_rfl
theorem zt26 : cx.zt 26 = some z26 := by kernel_rfl
theorem zt27 : cx.zt 27 = some z27 := by kernel_rfl
theorem zt29 : cx.zt 29 = some z29 := by kernel_rfl
theorem zt30 : cx.zt 30 = some z30 := by kernel_rfl
theorem zt31 : cx.zt 31 = some z31 := by kernel_rfl
theorem zt32 : cx.zt 32 = some z32 := by kernel_rfl
theorem zt33 : cx.zt 33 = some z33 := by kernel_rfl
theorem zt34 : cx.zt 34 = some z34 := by kernel_rfl
theorem zt36 : cx.zt 36 = some z36 := by kernel_rfl
theorem zt37 : cx.zt 37 = some z37 := by kernel_rfl
theorem zt38 : cx.zt 38 = some z38 := by kernel_rfl
theorem zt39 : cx.zt 39 = some z39 := by kernel_rfl
theorem zt40 : cx.zt 40 = some z40 := by kernel_rfl
theorem zt41 : cx.zt 41 = some z41 := by kernel_rfl
theorem zt42 : cx.zt 42 = some z42 := by kernel_rfl
theorem zt43 : cx.zt 43 = some z43 := by kernel_rfl
theorem zt44 : cx.zt 44 = some z44 := by kernel_rfl
theorem zt45 : cx.zt 45 = some z45 := by kernel_rfl
theorem zt46 : cx.zt 46 = some z46 := by kernel_rfl
theorem zt47 : cx.zt 47 = some z47 := by kernel_rfl
theorem zt48 : cx.zt 48 = some z48 := by kernel_rfl
theorem zt49 : cx.zt 49 = some z49 := by kernel_rfl
theorem zt50 : cx.zt 50 = some z50 := by kernel_rfl
theorem zt51 : cx.zt 51 = some z51 := by kernel_rfl
theorem zt52 : cx.zt 52 = some z52 := by kernel_rfl
theorem zt53 : cx.zt 53 = some z53 := by kernel_rfl
theorem zt54 : cx.zt 54 = some z54 := by kernel_rfl
theorem zt55 : cx.zt 55 = some z55 := by kernel_rfl
theorem zt56 : cx.zt 56 = some z56 := by kernel_rfl
theorem zt58 : cx.zt 58 = some z58 := by kernel_rfl
theorem zt59 : cx.zt 59 = some z59 := by kernel_rfl
theorem zt60 : cx.zt 60 = some z60 := by kernel_rfl
theorem zt61 : cx.zt 61 = some z61 := by kernel_rfl
theorem zt62 : cx.zt 62 = some z62 := by kernel_rfl
theorem zt63 : cx.zt 63 = some z63 := by kernel_rfl
theorem zt64 : cx.zt 64 = some z64 := by kernel_rfl
theorem zt65 : cx.zt 65 = some z65 := by kernel_rfl
theorem zt67 : cx.zt 67 = some z67 := by kernel_rfl
theorem zt69 : cx.zt 69 = some z69 := by kernel_rfl
theorem zt70 : cx.zt 70 = some z70 := by kernel_rfl
theorem zt71 : cx.zt 71 = some z71 := by kernel_rfl
theorem zt72 : cx.zt 72 = some z72 := by kernel_rfl
theorem zt73 : cx.zt 73 = some z73 := by kernel_rfl
theorem zt74 : cx.zt 74 = some z74 := by kernel_rfl
theorem zt76 : cx.zt 76 = some z76 := by kernel_rfl
theorem zt77 : cx.zt 77 = some z77 := by kernel_rfl
theorem zt78 : cx.zt 78 = some z78 := by kernel_rfl
theorem zt80 : cx.zt 80 = some z80 := by kernel_rfl
theorem zt81 : cx.zt 81 = some z81 := by kernel_rfl
theorem zt82 : cx.zt 82 = some z82 := by kernel_rfl
theorem zt83 : cx.zt 83 = some z83 := by kernel_rfl
theorem zt84 : cx.zt 84 = some z84 := by kernel_rfl
theorem zt85 : cx.zt 85 = some z85 := by kernel_rfl
theorem zt87 : cx.zt 87 = some z87 := by kernel_rfl
theorem zt88 : cx.zt 88 = some z88 := by kernel_rfl
theorem zt89 : cx.zt 89 = some z89 := by kernel_rfl
theorem zt90 : cx.zt 90 = some z90 := by kernel_rfl
theorem zt91 : cx.zt 91 = some z91 := by kernel_rfl
theorem zt92 : cx.zt 92 = some z92 := by kernel_rfl
theorem zt93 : cx.zt 93 = some z93 := by kernel_rfl
theorem zt94 : cx.zt 94 = some z94 := by kernel_rfl
theorem zt95 : cx.zt 95 = some z95 := by kernel_rfl
theorem zt96 : cx.zt 96 = some z96 := by kernel_rfl
theorem zt97 : cx.zt 97 = some z97 := by kernel_rfl
theorem zt98 : cx.zt 98 = some z98 := by kernel_rfl
theorem zt99 : cx.zt 99 = some z99 := by kernel_rfl
theorem zt100 : cx.zt 100 = some z100 := by kernel_rfl
theorem t1 : type_of% (sz1) ∧ type_of% (by1) ∧ type_of% (ag1) ∧ type_of% (sl1) ∧ type_of% (ar1) ∧ type_of% (pt1) ∧ type_of% (un1) ∧ type_of% (po1) ∧ type_of% (zt1) ∧ type_of% (@z1.eq_1) :=
  ⟨sz1, by1, ag1, sl1, ar1, pt1, un1, po1, zt1, @z1.eq_1⟩
theorem t2 : type_of% (sz2) ∧ type_of% (by2) ∧ type_of% (ag2) ∧ type_of% (sl2) ∧ type_of% (ar2) ∧ type_of% (pt2) ∧ type_of% (in2) ∧ type_of% (un2) ∧ type_of% (po2) ∧ type_of% (zt2) ∧ type_of% (@z2.eq_1) :=
  ⟨sz2, by2, ag2, sl2, ar2, pt2, in2, un2, po2, zt2, @z2.eq_1⟩
theorem t3 : type_of% (sz3) ∧ type_of% (by3) ∧ type_of% (ag3) ∧ type_of% (sl3) ∧ type_of% (ar3) ∧ type_of% (pt3) ∧ type_of% (in3) ∧ type_of% (un3) ∧ type_of% (po3) ∧ type_of% (zt3) ∧ type_of% (@z3.eq_1) :=
  ⟨sz3, by3, ag3, sl3, ar3, pt3, in3, un3, po3, zt3, @z3.eq_1⟩
theorem t4 : type_of% (sz4) ∧ type_of% (by4) ∧ type_of% (ag4) ∧ type_of% (sl4) ∧ type_of% (ar4) ∧ type_of% (pt4) ∧ type_of% (un4) ∧ type_of% (tb4) ∧ type_of% (po4) ∧ type_of% (zt4) ∧ type_of% (@z4.eq_1) :=
  ⟨sz4, by4, ag4, sl4, ar4, pt4, un4, tb4, po4, zt4, @z4.eq_1⟩
theorem t5 : type_of% (sz5) ∧ type_of% (by5) ∧ type_of% (ag5) ∧ type_of% (sl5) ∧ type_of% (ar5) ∧ type_of% (pt5) ∧ type_of% (in5) ∧ type_of% (un5) ∧ type_of% (po5) ∧ type_of% (zt5) ∧ type_of% (@z5.eq_1) :=
  ⟨sz5, by5, ag5, sl5, ar5, pt5, in5, un5, po5, zt5, @z5.eq_1⟩
theorem t6 : type_of% (sz6) ∧ type_of% (by6) ∧ type_of% (ag6) ∧ type_of% (sl6) ∧ type_of% (ar6) ∧ type_of% (pt6) ∧ type_of% (in6) ∧ type_of% (un6) ∧ type_of% (po6) ∧ type_of% (zt6) ∧ type_of% (@z6.eq_1) :=
  ⟨sz6, by6, ag6, sl6, ar6, pt6, in6, un6, po6, zt6, @z6.eq_1⟩
theorem t7 : type_of% (sz7) ∧ type_of% (by7) ∧ type_of% (ag7) ∧ type_of% (sl7) ∧ type_of% (ar7) ∧ type_of% (pt7) ∧ type_of% (un7) ∧ type_of% (fl7_0) ∧ type_of% (fl7_1) ∧ type_of% (fl7_2) ∧ type_of% (fl7_3) ∧ type_of% (fs7) ∧ type_of% (po7) ∧ type_of% (tq7) ∧ type_of% (zt7) ∧ type_of% (@z7.eq_1) :=
  ⟨sz7, by7, ag7, sl7, ar7, pt7, un7, fl7_0, fl7_1, fl7_2, fl7_3, fs7, po7, tq7, zt7, @z7.eq_1⟩
theorem t8 : type_of% (sz8) ∧ type_of% (by8) ∧ type_of% (ag8) ∧ type_of% (sl8) ∧ type_of% (ar8) ∧ type_of% (pt8) ∧ type_of% (un8) ∧ type_of% (fl8_0) ∧ type_of% (fl8_1) ∧ type_of% (fl8_2) ∧ type_of% (fl8_3) ∧ type_of% (fs8) ∧ type_of% (po8) ∧ type_of% (tq8) ∧ type_of% (zt8) ∧ type_of% (@z8.eq_1) :=
  ⟨sz8, by8, ag8, sl8, ar8, pt8, un8, fl8_0, fl8_1, fl8_2, fl8_3, fs8, po8, tq8, zt8, @z8.eq_1⟩
theorem t9 : type_of% (sz9) ∧ type_of% (by9) ∧ type_of% (ag9) ∧ type_of% (sl9) ∧ type_of% (ar9) ∧ type_of% (pt9) ∧ type_of% (st9) ∧ type_of% (un9) ∧ type_of% (po9) ∧ type_of% (zt9) ∧ type_of% (@z9.eq_1) :=
  ⟨sz9, by9, ag9, sl9, ar9, pt9, st9, un9, po9, zt9, @z9.eq_1⟩
theorem t10 : type_of% (sz10) ∧ type_of% (by10) ∧ type_of% (ag10) ∧ type_of% (sl10) ∧ type_of% (ar10) ∧ type_of% (pt10) ∧ type_of% (st10) ∧ type_of% (un10) ∧ type_of% (po10) ∧ type_of% (zt10) ∧ type_of% (@z10.eq_1) :=
  ⟨sz10, by10, ag10, sl10, ar10, pt10, st10, un10, po10, zt10, @z10.eq_1⟩
theorem t11 : type_of% (sz11) ∧ type_of% (by11) ∧ type_of% (ag11) ∧ type_of% (sl11) ∧ type_of% (ar11) ∧ type_of% (pt11) ∧ type_of% (st11) ∧ type_of% (un11) ∧ type_of% (po11) ∧ type_of% (zt11) ∧ type_of% (@z11.eq_1) :=
  ⟨sz11, by11, ag11, sl11, ar11, pt11, st11, un11, po11, zt11, @z11.eq_1⟩
theorem t12 : type_of% (sz12) ∧ type_of% (by12) ∧ type_of% (ag12) ∧ type_of% (sl12) ∧ type_of% (ar12) ∧ type_of% (pt12) ∧ type_of% (in12) ∧ type_of% (un12) ∧ type_of% (po12) ∧ type_of% (zt12) ∧ type_of% (@z12.eq_1) :=
  ⟨sz12, by12, ag12, sl12, ar12, pt12, in12, un12, po12, zt12, @z12.eq_1⟩
theorem t13 : type_of% (sz13) ∧ type_of% (by13) ∧ type_of% (ag13) ∧ type_of% (sl13) ∧ type_of% (ar13) ∧ type_of% (pt13) ∧ type_of% (un13) ∧ type_of% (fl13_0) ∧ type_of% (fl13_1) ∧ type_of% (fs13) ∧ type_of% (po13) ∧ type_of% (tq13) ∧ type_of% (zt13) ∧ type_of% (@z13.eq_1) :=
  ⟨sz13, by13, ag13, sl13, ar13, pt13, un13, fl13_0, fl13_1, fs13, po13, tq13, zt13, @z13.eq_1⟩
theorem t14 : type_of% (sz14) ∧ type_of% (by14) ∧ type_of% (ag14) ∧ type_of% (sl14) ∧ type_of% (ar14) ∧ type_of% (pt14) ∧ type_of% (un14) ∧ type_of% (fl14_0) ∧ type_of% (fl14_1) ∧ type_of% (fs14) ∧ type_of% (po14) ∧ type_of% (tq14) ∧ type_of% (zt14) ∧ type_of% (@z14.eq_1) :=
  ⟨sz14, by14, ag14, sl14, ar14, pt14, un14, fl14_0, fl14_1, fs14, po14, tq14, zt14, @z14.eq_1⟩
theorem t15 : type_of% (sz15) ∧ type_of% (by15) ∧ type_of% (ag15) ∧ type_of% (sl15) ∧ type_of% (ar15) ∧ type_of% (pt15) ∧ type_of% (un15) ∧ type_of% (po15) ∧ type_of% (zt15) ∧ type_of% (@z15.eq_1) :=
  ⟨sz15, by15, ag15, sl15, ar15, pt15, un15, po15, zt15, @z15.eq_1⟩
theorem t16 : type_of% (sz16) ∧ type_of% (by16) ∧ type_of% (ag16) ∧ type_of% (sl16) ∧ type_of% (ar16) ∧ type_of% (pt16) ∧ type_of% (un16) ∧ type_of% (po16) ∧ type_of% (zt16) ∧ type_of% (@z16.eq_1) :=
  ⟨sz16, by16, ag16, sl16, ar16, pt16, un16, po16, zt16, @z16.eq_1⟩
theorem t17 : type_of% (sz17) ∧ type_of% (by17) ∧ type_of% (ag17) ∧ type_of% (sl17) ∧ type_of% (ar17) ∧ type_of% (pt17) ∧ type_of% (un17) ∧ type_of% (po17) ∧ type_of% (zt17) ∧ type_of% (@z17.eq_1) :=
  ⟨sz17, by17, ag17, sl17, ar17, pt17, un17, po17, zt17, @z17.eq_1⟩
theorem t18 : type_of% (sz18) ∧ type_of% (by18) ∧ type_of% (ag18) ∧ type_of% (sl18) ∧ type_of% (ar18) ∧ type_of% (pt18) ∧ type_of% (un18) ∧ type_of% (fl18_0) ∧ type_of% (fs18) ∧ type_of% (po18) ∧ type_of% (zt18) ∧ type_of% (@z18.eq_1) :=
  ⟨sz18, by18, ag18, sl18, ar18, pt18, un18, fl18_0, fs18, po18, zt18, @z18.eq_1⟩
theorem t19 : type_of% (sz19) ∧ type_of% (by19) ∧ type_of% (ag19) ∧ type_of% (sl19) ∧ type_of% (ar19) ∧ type_of% (pt19) ∧ type_of% (un19) ∧ type_of% (fl19_0) ∧ type_of% (fs19) ∧ type_of% (po19) ∧ type_of% (zt19) ∧ type_of% (@z19.eq_1) :=
  ⟨sz19, by19, ag19, sl19, ar19, pt19, un19, fl19_0, fs19, po19, zt19, @z19.eq_1⟩
theorem t20 : type_of% (sz20) ∧ type_of% (by20) ∧ type_of% (ag20) ∧ type_of% (sl20) ∧ type_of% (ar20) ∧ type_of% (pt20) ∧ type_of% (un20) ∧ type_of% (po20) ∧ type_of% (zt20) ∧ type_of% (@z20.eq_1) :=
  ⟨sz20, by20, ag20, sl20, ar20, pt20, un20, po20, zt20, @z20.eq_1⟩
theorem t21 : type_of% (sz21) ∧ type_of% (by21) ∧ type_of% (ag21) ∧ type_of% (sl21) ∧ type_of% (ar21) ∧ type_of% (pt21) ∧ type_of% (in21) ∧ type_of% (un21) ∧ type_of% (po21) ∧ type_of% (zt21) ∧ type_of% (@z21.eq_1) :=
  ⟨sz21, by21, ag21, sl21, ar21, pt21, in21, un21, po21, zt21, @z21.eq_1⟩
theorem t22 : type_of% (sz22) ∧ type_of% (by22) ∧ type_of% (ag22) ∧ type_of% (sl22) ∧ type_of% (ar22) ∧ type_of% (pt22) ∧ type_of% (un22) ∧ type_of% (po22) ∧ type_of% (zt22) ∧ type_of% (@z22.eq_1) :=
  ⟨sz22, by22, ag22, sl22, ar22, pt22, un22, po22, zt22, @z22.eq_1⟩
theorem t23 : type_of% (sz23) ∧ type_of% (by23) ∧ type_of% (ag23) ∧ type_of% (sl23) ∧ type_of% (ar23) ∧ type_of% (pt23) ∧ type_of% (un23) ∧ type_of% (fl23_0) ∧ type_of% (fl23_1) ∧ type_of% (fl23_2) ∧ type_of% (fl23_3) ∧ type_of% (fs23) ∧ type_of% (po23) ∧ type_of% (zt23) ∧ type_of% (@z23.eq_1) :=
  ⟨sz23, by23, ag23, sl23, ar23, pt23, un23, fl23_0, fl23_1, fl23_2, fl23_3, fs23, po23, zt23, @z23.eq_1⟩
theorem t24 : type_of% (sz24) ∧ type_of% (by24) ∧ type_of% (ag24) ∧ type_of% (sl24) ∧ type_of% (ar24) ∧ type_of% (pt24) ∧ type_of% (un24) ∧ type_of% (fl24_0) ∧ type_of% (fl24_1) ∧ type_of% (fl24_2) ∧ type_of% (fl24_3) ∧ type_of% (fs24) ∧ type_of% (po24) ∧ type_of% (zt24) ∧ type_of% (@z24.eq_1) :=
  ⟨sz24, by24, ag24, sl24, ar24, pt24, un24, fl24_0, fl24_1, fl24_2, fl24_3, fs24, po24, zt24, @z24.eq_1⟩
theorem t25 : type_of% (sz25) ∧ type_of% (by25) ∧ type_of% (ag25) ∧ type_of% (sl25) ∧ type_of% (ar25) ∧ type_of% (pt25) ∧ type_of% (un25) ∧ type_of% (po25) ∧ type_of% (zt25) ∧ type_of% (@z25.eq_1) :=
  ⟨sz25, by25, ag25, sl25, ar25, pt25, un25, po25, zt25, @z25.eq_1⟩
theorem t26 : type_of% (sz26) ∧ type_of% (by26) ∧ type_of% (ag26) ∧ type_of% (sl26) ∧ type_of% (ar26) ∧ type_of% (pt26) ∧ type_of% (un26) ∧ type_of% (po26) ∧ type_of% (zt26) ∧ type_of% (@z26.eq_1) :=
  ⟨sz26, by26, ag26, sl26, ar26, pt26, un26, po26, zt26, @z26.eq_1⟩
theorem t27 : type_of% (sz27) ∧ type_of% (by27) ∧ type_of% (ag27) ∧ type_of% (sl27) ∧ type_of% (ar27) ∧ type_of% (pt27) ∧ type_of% (in27) ∧ type_of% (un27) ∧ type_of% (po27) ∧ type_of% (zt27) ∧ type_of% (@z27.eq_1) :=
  ⟨sz27, by27, ag27, sl27, ar27, pt27, in27, un27, po27, zt27, @z27.eq_1⟩
theorem t29 : type_of% (sz29) ∧ type_of% (by29) ∧ type_of% (ag29) ∧ type_of% (sl29) ∧ type_of% (ar29) ∧ type_of% (pt29) ∧ type_of% (un29) ∧ type_of% (po29) ∧ type_of% (zt29) ∧ type_of% (@z29.eq_1) :=
  ⟨sz29, by29, ag29, sl29, ar29, pt29, un29, po29, zt29, @z29.eq_1⟩
theorem t30 : type_of% (sz30) ∧ type_of% (by30) ∧ type_of% (ag30) ∧ type_of% (sl30) ∧ type_of% (ar30) ∧ type_of% (pt30) ∧ type_of% (un30) ∧ type_of% (po30) ∧ type_of% (zt30) ∧ type_of% (@z30.eq_1) :=
  ⟨sz30, by30, ag30, sl30, ar30, pt30, un30, po30, zt30, @z30.eq_1⟩
theorem t31 : type_of% (sz31) ∧ type_of% (by31) ∧ type_of% (ag31) ∧ type_of% (sl31) ∧ type_of% (ar31) ∧ type_of% (pt31) ∧ type_of% (un31) ∧ type_of% (po31) ∧ type_of% (zt31) ∧ type_of% (@z31.eq_1) :=
  ⟨sz31, by31, ag31, sl31, ar31, pt31, un31, po31, zt31, @z31.eq_1⟩
theorem t32 : type_of% (sz32) ∧ type_of% (by32) ∧ type_of% (ag32) ∧ type_of% (sl32) ∧ type_of% (ar32) ∧ type_of% (pt32) ∧ type_of% (un32) ∧ type_of% (po32) ∧ type_of% (zt32) ∧ type_of% (@z32.eq_1) :=
  ⟨sz32, by32, ag32, sl32, ar32, pt32, un32, po32, zt32, @z32.eq_1⟩
theorem t33 : type_of% (sz33) ∧ type_of% (by33) ∧ type_of% (ag33) ∧ type_of% (sl33) ∧ type_of% (ar33) ∧ type_of% (pt33) ∧ type_of% (un33) ∧ type_of% (po33) ∧ type_of% (zt33) ∧ type_of% (@z33.eq_1) :=
  ⟨sz33, by33, ag33, sl33, ar33, pt33, un33, po33, zt33, @z33.eq_1⟩
theorem t34 : type_of% (sz34) ∧ type_of% (by34) ∧ type_of% (ag34) ∧ type_of% (sl34) ∧ type_of% (ar34) ∧ type_of% (pt34) ∧ type_of% (un34) ∧ type_of% (po34) ∧ type_of% (zt34) ∧ type_of% (@z34.eq_1) :=
  ⟨sz34, by34, ag34, sl34, ar34, pt34, un34, po34, zt34, @z34.eq_1⟩
theorem t36 : type_of% (sz36) ∧ type_of% (by36) ∧ type_of% (ag36) ∧ type_of% (sl36) ∧ type_of% (ar36) ∧ type_of% (pt36) ∧ type_of% (un36) ∧ type_of% (po36) ∧ type_of% (zt36) ∧ type_of% (@z36.eq_1) :=
  ⟨sz36, by36, ag36, sl36, ar36, pt36, un36, po36, zt36, @z36.eq_1⟩
theorem t37 : type_of% (sz37) ∧ type_of% (by37) ∧ type_of% (ag37) ∧ type_of% (sl37) ∧ type_of% (ar37) ∧ type_of% (pt37) ∧ type_of% (un37) ∧ type_of% (po37) ∧ type_of% (zt37) ∧ type_of% (@z37.eq_1) :=
  ⟨sz37, by37, ag37, sl37, ar37, pt37, un37, po37, zt37, @z37.eq_1⟩
theorem t38 : type_of% (sz38) ∧ type_of% (by38) ∧ type_of% (ag38) ∧ type_of% (sl38) ∧ type_of% (ar38) ∧ type_of% (pt38) ∧ type_of% (un38) ∧ type_of% (po38) ∧ type_of% (zt38) ∧ type_of% (@z38.eq_1) :=
  ⟨sz38, by38, ag38, sl38, ar38, pt38, un38, po38, zt38, @z38.eq_1⟩
theorem t39 : type_of% (sz39) ∧ type_of% (by39) ∧ type_of% (ag39) ∧ type_of% (sl39) ∧ type_of% (ar39) ∧ type_of% (pt39) ∧ type_of% (un39) ∧ type_of% (po39) ∧ type_of% (zt39) ∧ type_of% (@z39.eq_1) :=
  ⟨sz39, by39, ag39, sl39, ar39, pt39, un39, po39, zt39, @z39.eq_1⟩
theorem t40 : type_of% (sz40) ∧ type_of% (by40) ∧ type_of% (ag40) ∧ type_of% (sl40) ∧ type_of% (ar40) ∧ type_of% (pt40) ∧ type_of% (un40) ∧ type_of% (po40) ∧ type_of% (zt40) ∧ type_of% (@z40.eq_1) :=
  ⟨sz40, by40, ag40, sl40, ar40, pt40, un40, po40, zt40, @z40.eq_1⟩
theorem t41 : type_of% (sz41) ∧ type_of% (by41) ∧ type_of% (ag41) ∧ type_of% (sl41) ∧ type_of% (ar41) ∧ type_of% (pt41) ∧ type_of% (un41) ∧ type_of% (po41) ∧ type_of% (zt41) ∧ type_of% (@z41.eq_1) :=
  ⟨sz41, by41, ag41, sl41, ar41, pt41, un41, po41, zt41, @z41.eq_1⟩
theorem t42 : type_of% (sz42) ∧ type_of% (by42) ∧ type_of% (ag42) ∧ type_of% (sl42) ∧ type_of% (ar42) ∧ type_of% (pt42) ∧ type_of% (un42) ∧ type_of% (po42) ∧ type_of% (zt42) ∧ type_of% (@z42.eq_1) :=
  ⟨sz42, by42, ag42, sl42, ar42, pt42, un42, po42, zt42, @z42.eq_1⟩
theorem t43 : type_of% (sz43) ∧ type_of% (by43) ∧ type_of% (ag43) ∧ type_of% (sl43) ∧ type_of% (ar43) ∧ type_of% (pt43) ∧ type_of% (un43) ∧ type_of% (po43) ∧ type_of% (zt43) ∧ type_of% (@z43.eq_1) :=
  ⟨sz43, by43, ag43, sl43, ar43, pt43, un43, po43, zt43, @z43.eq_1⟩
theorem t44 : type_of% (sz44) ∧ type_of% (by44) ∧ type_of% (ag44) ∧ type_of% (sl44) ∧ type_of% (ar44) ∧ type_of% (pt44) ∧ type_of% (un44) ∧ type_of% (po44) ∧ type_of% (zt44) ∧ type_of% (@z44.eq_1) :=
  ⟨sz44, by44, ag44, sl44, ar44, pt44, un44, po44, zt44, @z44.eq_1⟩
theorem t45 : type_of% (sz45) ∧ type_of% (by45) ∧ type_of% (ag45) ∧ type_of% (sl45) ∧ type_of% (ar45) ∧ type_of% (pt45) ∧ type_of% (un45) ∧ type_of% (po45) ∧ type_of% (zt45) ∧ type_of% (@z45.eq_1) :=
  ⟨sz45, by45, ag45, sl45, ar45, pt45, un45, po45, zt45, @z45.eq_1⟩
theorem t46 : type_of% (sz46) ∧ type_of% (by46) ∧ type_of% (ag46) ∧ type_of% (sl46) ∧ type_of% (ar46) ∧ type_of% (pt46) ∧ type_of% (un46) ∧ type_of% (po46) ∧ type_of% (zt46) ∧ type_of% (@z46.eq_1) :=
  ⟨sz46, by46, ag46, sl46, ar46, pt46, un46, po46, zt46, @z46.eq_1⟩
theorem t47 : type_of% (sz47) ∧ type_of% (by47) ∧ type_of% (ag47) ∧ type_of% (sl47) ∧ type_of% (ar47) ∧ type_of% (pt47) ∧ type_of% (un47) ∧ type_of% (po47) ∧ type_of% (zt47) ∧ type_of% (@z47.eq_1) :=
  ⟨sz47, by47, ag47, sl47, ar47, pt47, un47, po47, zt47, @z47.eq_1⟩
theorem t48 : type_of% (sz48) ∧ type_of% (by48) ∧ type_of% (ag48) ∧ type_of% (sl48) ∧ type_of% (ar48) ∧ type_of% (pt48) ∧ type_of% (un48) ∧ type_of% (po48) ∧ type_of% (zt48) ∧ type_of% (@z48.eq_1) :=
  ⟨sz48, by48, ag48, sl48, ar48, pt48, un48, po48, zt48, @z48.eq_1⟩
theorem t49 : type_of% (sz49) ∧ type_of% (by49) ∧ type_of% (ag49) ∧ type_of% (sl49) ∧ type_of% (ar49) ∧ type_of% (pt49) ∧ type_of% (un49) ∧ type_of% (po49) ∧ type_of% (zt49) ∧ type_of% (@z49.eq_1) :=
  ⟨sz49, by49, ag49, sl49, ar49, pt49, un49, po49, zt49, @z49.eq_1⟩
theorem t50 : type_of% (sz50) ∧ type_of% (by50) ∧ type_of% (ag50) ∧ type_of% (sl50) ∧ type_of% (ar50) ∧ type_of% (pt50) ∧ type_of% (un50) ∧ type_of% (po50) ∧ type_of% (zt50) ∧ type_of% (@z50.eq_1) :=
  ⟨sz50, by50, ag50, sl50, ar50, pt50, un50, po50, zt50, @z50.eq_1⟩
theorem t51 : type_of% (sz51) ∧ type_of% (by51) ∧ type_of% (ag51) ∧ type_of% (sl51) ∧ type_of% (ar51) ∧ type_of% (pt51) ∧ type_of% (un51) ∧ type_of% (po51) ∧ type_of% (zt51) ∧ type_of% (@z51.eq_1) :=
  ⟨sz51, by51, ag51, sl51, ar51, pt51, un51, po51, zt51, @z51.eq_1⟩
theorem t52 : type_of% (sz52) ∧ type_of% (by52) ∧ type_of% (ag52) ∧ type_of% (sl52) ∧ type_of% (ar52) ∧ type_of% (pt52) ∧ type_of% (un52) ∧ type_of% (po52) ∧ type_of% (zt52) ∧ type_of% (@z52.eq_1) :=
  ⟨sz52, by52, ag52, sl52, ar52, pt52, un52, po52, zt52, @z52.eq_1⟩
theorem t53 : type_of% (sz53) ∧ type_of% (by53) ∧ type_of% (ag53) ∧ type_of% (sl53) ∧ type_of% (ar53) ∧ type_of% (pt53) ∧ type_of% (un53) ∧ type_of% (fl53_0) ∧ type_of% (fl53_1) ∧ type_of% (fs53) ∧ type_of% (po53) ∧ type_of% (zt53) ∧ type_of% (@z53.eq_1) :=
  ⟨sz53, by53, ag53, sl53, ar53, pt53, un53, fl53_0, fl53_1, fs53, po53, zt53, @z53.eq_1⟩
theorem t54 : type_of% (sz54) ∧ type_of% (by54) ∧ type_of% (ag54) ∧ type_of% (sl54) ∧ type_of% (ar54) ∧ type_of% (pt54) ∧ type_of% (un54) ∧ type_of% (fl54_0) ∧ type_of% (fl54_1) ∧ type_of% (fs54) ∧ type_of% (po54) ∧ type_of% (zt54) ∧ type_of% (@z54.eq_1) :=
  ⟨sz54, by54, ag54, sl54, ar54, pt54, un54, fl54_0, fl54_1, fs54, po54, zt54, @z54.eq_1⟩
theorem t55 : type_of% (sz55) ∧ type_of% (by55) ∧ type_of% (ag55) ∧ type_of% (sl55) ∧ type_of% (ar55) ∧ type_of% (pt55) ∧ type_of% (un55) ∧ type_of% (po55) ∧ type_of% (zt55) ∧ type_of% (@z55.eq_1) :=
  ⟨sz55, by55, ag55, sl55, ar55, pt55, un55, po55, zt55, @z55.eq_1⟩
theorem t56 : type_of% (sz56) ∧ type_of% (by56) ∧ type_of% (ag56) ∧ type_of% (sl56) ∧ type_of% (ar56) ∧ type_of% (pt56) ∧ type_of% (un56) ∧ type_of% (po56) ∧ type_of% (zt56) ∧ type_of% (@z56.eq_1) :=
  ⟨sz56, by56, ag56, sl56, ar56, pt56, un56, po56, zt56, @z56.eq_1⟩
theorem t58 : type_of% (sz58) ∧ type_of% (by58) ∧ type_of% (ag58) ∧ type_of% (sl58) ∧ type_of% (ar58) ∧ type_of% (pt58) ∧ type_of% (un58) ∧ type_of% (po58) ∧ type_of% (zt58) ∧ type_of% (@z58.eq_1) :=
  ⟨sz58, by58, ag58, sl58, ar58, pt58, un58, po58, zt58, @z58.eq_1⟩
theorem t59 : type_of% (sz59) ∧ type_of% (by59) ∧ type_of% (ag59) ∧ type_of% (sl59) ∧ type_of% (ar59) ∧ type_of% (pt59) ∧ type_of% (un59) ∧ type_of% (po59) ∧ type_of% (zt59) ∧ type_of% (@z59.eq_1) :=
  ⟨sz59, by59, ag59, sl59, ar59, pt59, un59, po59, zt59, @z59.eq_1⟩
theorem t60 : type_of% (sz60) ∧ type_of% (by60) ∧ type_of% (ag60) ∧ type_of% (sl60) ∧ type_of% (ar60) ∧ type_of% (pt60) ∧ type_of% (in60) ∧ type_of% (un60) ∧ type_of% (po60) ∧ type_of% (zt60) ∧ type_of% (@z60.eq_1) :=
  ⟨sz60, by60, ag60, sl60, ar60, pt60, in60, un60, po60, zt60, @z60.eq_1⟩
theorem t61 : type_of% (sz61) ∧ type_of% (by61) ∧ type_of% (ag61) ∧ type_of% (sl61) ∧ type_of% (ar61) ∧ type_of% (pt61) ∧ type_of% (un61) ∧ type_of% (po61) ∧ type_of% (zt61) ∧ type_of% (@z61.eq_1) :=
  ⟨sz61, by61, ag61, sl61, ar61, pt61, un61, po61, zt61, @z61.eq_1⟩
theorem t62 : type_of% (sz62) ∧ type_of% (by62) ∧ type_of% (ag62) ∧ type_of% (sl62) ∧ type_of% (ar62) ∧ type_of% (pt62) ∧ type_of% (in62) ∧ type_of% (un62) ∧ type_of% (po62) ∧ type_of% (zt62) ∧ type_of% (@z62.eq_1) :=
  ⟨sz62, by62, ag62, sl62, ar62, pt62, in62, un62, po62, zt62, @z62.eq_1⟩
theorem t63 : type_of% (sz63) ∧ type_of% (by63) ∧ type_of% (ag63) ∧ type_of% (sl63) ∧ type_of% (ar63) ∧ type_of% (pt63) ∧ type_of% (un63) ∧ type_of% (po63) ∧ type_of% (zt63) ∧ type_of% (@z63.eq_1) :=
  ⟨sz63, by63, ag63, sl63, ar63, pt63, un63, po63, zt63, @z63.eq_1⟩
theorem t64 : type_of% (sz64) ∧ type_of% (by64) ∧ type_of% (ag64) ∧ type_of% (sl64) ∧ type_of% (ar64) ∧ type_of% (pt64) ∧ type_of% (un64) ∧ type_of% (po64) ∧ type_of% (zt64) ∧ type_of% (@z64.eq_1) :=
  ⟨sz64, by64, ag64, sl64, ar64, pt64, un64, po64, zt64, @z64.eq_1⟩
theorem t65 : type_of% (sz65) ∧ type_of% (by65) ∧ type_of% (ag65) ∧ type_of% (sl65) ∧ type_of% (ar65) ∧ type_of% (pt65) ∧ type_of% (un65) ∧ type_of% (po65) ∧ type_of% (tq65) ∧ type_of% (zt65) ∧ type_of% (@z65.eq_1) :=
  ⟨sz65, by65, ag65, sl65, ar65, pt65, un65, po65, tq65, zt65, @z65.eq_1⟩
theorem t67 : type_of% (sz67) ∧ type_of% (by67) ∧ type_of% (ag67) ∧ type_of% (sl67) ∧ type_of% (ar67) ∧ type_of% (pt67) ∧ type_of% (un67) ∧ type_of% (po67) ∧ type_of% (zt67) ∧ type_of% (@z67.eq_1) :=
  ⟨sz67, by67, ag67, sl67, ar67, pt67, un67, po67, zt67, @z67.eq_1⟩
theorem t69 : type_of% (sz69) ∧ type_of% (by69) ∧ type_of% (ag69) ∧ type_of% (sl69) ∧ type_of% (ar69) ∧ type_of% (pt69) ∧ type_of% (un69) ∧ type_of% (po69) ∧ type_of% (zt69) ∧ type_of% (@z69.eq_1) :=
  ⟨sz69, by69, ag69, sl69, ar69, pt69, un69, po69, zt69, @z69.eq_1⟩
theorem t70 : type_of% (sz70) ∧ type_of% (by70) ∧ type_of% (ag70) ∧ type_of% (sl70) ∧ type_of% (ar70) ∧ type_of% (pt70) ∧ type_of% (un70) ∧ type_of% (po70) ∧ type_of% (zt70) ∧ type_of% (@z70.eq_1) :=
  ⟨sz70, by70, ag70, sl70, ar70, pt70, un70, po70, zt70, @z70.eq_1⟩
theorem t71 : type_of% (sz71) ∧ type_of% (by71) ∧ type_of% (ag71) ∧ type_of% (sl71) ∧ type_of% (ar71) ∧ type_of% (pt71) ∧ type_of% (un71) ∧ type_of% (po71) ∧ type_of% (zt71) ∧ type_of% (@z71.eq_1) :=
  ⟨sz71, by71, ag71, sl71, ar71, pt71, un71, po71, zt71, @z71.eq_1⟩
theorem t72 : type_of% (sz72) ∧ type_of% (by72) ∧ type_of% (ag72) ∧ type_of% (sl72) ∧ type_of% (ar72) ∧ type_of% (pt72) ∧ type_of% (un72) ∧ type_of% (po72) ∧ type_of% (zt72) ∧ type_of% (@z72.eq_1) :=
  ⟨sz72, by72, ag72, sl72, ar72, pt72, un72, po72, zt72, @z72.eq_1⟩
theorem t73 : type_of% (sz73) ∧ type_of% (by73) ∧ type_of% (ag73) ∧ type_of% (sl73) ∧ type_of% (ar73) ∧ type_of% (pt73) ∧ type_of% (un73) ∧ type_of% (po73) ∧ type_of% (zt73) ∧ type_of% (@z73.eq_1) :=
  ⟨sz73, by73, ag73, sl73, ar73, pt73, un73, po73, zt73, @z73.eq_1⟩
theorem t74 : type_of% (sz74) ∧ type_of% (by74) ∧ type_of% (ag74) ∧ type_of% (sl74) ∧ type_of% (ar74) ∧ type_of% (pt74) ∧ type_of% (un74) ∧ type_of% (po74) ∧ type_of% (zt74) ∧ type_of% (@z74.eq_1) :=
  ⟨sz74, by74, ag74, sl74, ar74, pt74, un74, po74, zt74, @z74.eq_1⟩
theorem t75 : type_of% (sz75) ∧ type_of% (by75) ∧ type_of% (ag75) ∧ type_of% (sl75) ∧ type_of% (ar75) ∧ type_of% (pt75) ∧ type_of% (un75) ∧ type_of% (po75) :=
  ⟨sz75, by75, ag75, sl75, ar75, pt75, un75, po75⟩
theorem t76 : type_of% (sz76) ∧ type_of% (by76) ∧ type_of% (ag76) ∧ type_of% (sl76) ∧ type_of% (ar76) ∧ type_of% (pt76) ∧ type_of% (un76) ∧ type_of% (po76) ∧ type_of% (zt76) ∧ type_of% (@z76.eq_1) :=
  ⟨sz76, by76, ag76, sl76, ar76, pt76, un76, po76, zt76, @z76.eq_1⟩
theorem t77 : type_of% (sz77) ∧ type_of% (by77) ∧ type_of% (ag77) ∧ type_of% (sl77) ∧ type_of% (ar77) ∧ type_of% (pt77) ∧ type_of% (un77) ∧ type_of% (po77) ∧ type_of% (zt77) ∧ type_of% (@z77.eq_1) :=
  ⟨sz77, by77, ag77, sl77, ar77, pt77, un77, po77, zt77, @z77.eq_1⟩
theorem t78 : type_of% (sz78) ∧ type_of% (by78) ∧ type_of% (ag78) ∧ type_of% (sl78) ∧ type_of% (ar78) ∧ type_of% (pt78) ∧ type_of% (un78) ∧ type_of% (po78) ∧ type_of% (zt78) ∧ type_of% (@z78.eq_1) :=
  ⟨sz78, by78, ag78, sl78, ar78, pt78, un78, po78, zt78, @z78.eq_1⟩
theorem t80 : type_of% (sz80) ∧ type_of% (by80) ∧ type_of% (ag80) ∧ type_of% (sl80) ∧ type_of% (ar80) ∧ type_of% (pt80) ∧ type_of% (un80) ∧ type_of% (po80) ∧ type_of% (zt80) ∧ type_of% (@z80.eq_1) :=
  ⟨sz80, by80, ag80, sl80, ar80, pt80, un80, po80, zt80, @z80.eq_1⟩
theorem t81 : type_of% (sz81) ∧ type_of% (by81) ∧ type_of% (ag81) ∧ type_of% (sl81) ∧ type_of% (ar81) ∧ type_of% (pt81) ∧ type_of% (un81) ∧ type_of% (po81) ∧ type_of% (tq81) ∧ type_of% (zt81) ∧ type_of% (@z81.eq_1) :=
  ⟨sz81, by81, ag81, sl81, ar81, pt81, un81, po81, tq81, zt81, @z81.eq_1⟩
theorem t82 : type_of% (sz82) ∧ type_of% (by82) ∧ type_of% (ag82) ∧ type_of% (sl82) ∧ type_of% (ar82) ∧ type_of% (pt82) ∧ type_of% (un82) ∧ type_of% (fl82_0) ∧ type_of% (fl82_1) ∧ type_of% (fs82) ∧ type_of% (po82) ∧ type_of% (tq82) ∧ type_of% (tc82) ∧ type_of% (zt82) ∧ type_of% (@z82.eq_1) :=
  ⟨sz82, by82, ag82, sl82, ar82, pt82, un82, fl82_0, fl82_1, fs82, po82, tq82, tc82, zt82, @z82.eq_1⟩
theorem t83 : type_of% (sz83) ∧ type_of% (by83) ∧ type_of% (ag83) ∧ type_of% (sl83) ∧ type_of% (ar83) ∧ type_of% (pt83) ∧ type_of% (un83) ∧ type_of% (fl83_0) ∧ type_of% (fl83_1) ∧ type_of% (fs83) ∧ type_of% (po83) ∧ type_of% (tq83) ∧ type_of% (tc83) ∧ type_of% (zt83) ∧ type_of% (@z83.eq_1) :=
  ⟨sz83, by83, ag83, sl83, ar83, pt83, un83, fl83_0, fl83_1, fs83, po83, tq83, tc83, zt83, @z83.eq_1⟩
theorem t84 : type_of% (sz84) ∧ type_of% (by84) ∧ type_of% (ag84) ∧ type_of% (sl84) ∧ type_of% (ar84) ∧ type_of% (pt84) ∧ type_of% (un84) ∧ type_of% (po84) ∧ type_of% (tq84) ∧ type_of% (zt84) ∧ type_of% (@z84.eq_1) :=
  ⟨sz84, by84, ag84, sl84, ar84, pt84, un84, po84, tq84, zt84, @z84.eq_1⟩
theorem t85 : type_of% (sz85) ∧ type_of% (by85) ∧ type_of% (ag85) ∧ type_of% (sl85) ∧ type_of% (ar85) ∧ type_of% (pt85) ∧ type_of% (in85) ∧ type_of% (un85) ∧ type_of% (po85) ∧ type_of% (zt85) ∧ type_of% (@z85.eq_1) :=
  ⟨sz85, by85, ag85, sl85, ar85, pt85, in85, un85, po85, zt85, @z85.eq_1⟩
theorem t87 : type_of% (sz87) ∧ type_of% (by87) ∧ type_of% (ag87) ∧ type_of% (sl87) ∧ type_of% (ar87) ∧ type_of% (pt87) ∧ type_of% (un87) ∧ type_of% (po87) ∧ type_of% (zt87) ∧ type_of% (@z87.eq_1) :=
  ⟨sz87, by87, ag87, sl87, ar87, pt87, un87, po87, zt87, @z87.eq_1⟩
theorem t88 : type_of% (sz88) ∧ type_of% (by88) ∧ type_of% (ag88) ∧ type_of% (sl88) ∧ type_of% (ar88) ∧ type_of% (pt88) ∧ type_of% (un88) ∧ type_of% (fl88_0) ∧ type_of% (fl88_1) ∧ type_of% (fl88_2) ∧ type_of% (fl88_3) ∧ type_of% (fs88) ∧ type_of% (po88) ∧ type_of% (zt88) ∧ type_of% (@z88.eq_1) :=
  ⟨sz88, by88, ag88, sl88, ar88, pt88, un88, fl88_0, fl88_1, fl88_2, fl88_3, fs88, po88, zt88, @z88.eq_1⟩
theorem t89 : type_of% (sz89) ∧ type_of% (by89) ∧ type_of% (ag89) ∧ type_of% (sl89) ∧ type_of% (ar89) ∧ type_of% (pt89) ∧ type_of% (un89) ∧ type_of% (fl89_0) ∧ type_of% (fl89_1) ∧ type_of% (fl89_2) ∧ type_of% (fl89_3) ∧ type_of% (fs89) ∧ type_of% (po89) ∧ type_of% (zt89) ∧ type_of% (@z89.eq_1) :=
  ⟨sz89, by89, ag89, sl89, ar89, pt89, un89, fl89_0, fl89_1, fl89_2, fl89_3, fs89, po89, zt89, @z89.eq_1⟩
theorem t90 : type_of% (sz90) ∧ type_of% (by90) ∧ type_of% (ag90) ∧ type_of% (sl90) ∧ type_of% (ar90) ∧ type_of% (pt90) ∧ type_of% (un90) ∧ type_of% (zt90) ∧ type_of% (@z90.eq_1) :=
  ⟨sz90, by90, ag90, sl90, ar90, pt90, un90, zt90, @z90.eq_1⟩
theorem t91 : type_of% (sz91) ∧ type_of% (by91) ∧ type_of% (ag91) ∧ type_of% (sl91) ∧ type_of% (ar91) ∧ type_of% (pt91) ∧ type_of% (un91) ∧ type_of% (fl91_0) ∧ type_of% (fs91) ∧ type_of% (zt91) ∧ type_of% (@z91.eq_1) :=
  ⟨sz91, by91, ag91, sl91, ar91, pt91, un91, fl91_0, fs91, zt91, @z91.eq_1⟩
theorem t92 : type_of% (sz92) ∧ type_of% (by92) ∧ type_of% (ag92) ∧ type_of% (sl92) ∧ type_of% (ar92) ∧ type_of% (pt92) ∧ type_of% (un92) ∧ type_of% (fl92_0) ∧ type_of% (fs92) ∧ type_of% (zt92) ∧ type_of% (@z92.eq_1) :=
  ⟨sz92, by92, ag92, sl92, ar92, pt92, un92, fl92_0, fs92, zt92, @z92.eq_1⟩
theorem t93 : type_of% (sz93) ∧ type_of% (by93) ∧ type_of% (ag93) ∧ type_of% (sl93) ∧ type_of% (ar93) ∧ type_of% (pt93) ∧ type_of% (un93) ∧ type_of% (po93) ∧ type_of% (zt93) ∧ type_of% (@z93.eq_1) :=
  ⟨sz93, by93, ag93, sl93, ar93, pt93, un93, po93, zt93, @z93.eq_1⟩
theorem t94 : type_of% (sz94) ∧ type_of% (by94) ∧ type_of% (ag94) ∧ type_of% (sl94) ∧ type_of% (ar94) ∧ type_of% (pt94) ∧ type_of% (in94) ∧ type_of% (un94) ∧ type_of% (po94) ∧ type_of% (zt94) ∧ type_of% (@z94.eq_1) :=
  ⟨sz94, by94, ag94, sl94, ar94, pt94, in94, un94, po94, zt94, @z94.eq_1⟩
theorem t95 : type_of% (sz95) ∧ type_of% (by95) ∧ type_of% (ag95) ∧ type_of% (sl95) ∧ type_of% (ar95) ∧ type_of% (pt95) ∧ type_of% (in95) ∧ type_of% (un95) ∧ type_of% (po95) ∧ type_of% (zt95) ∧ type_of% (@z95.eq_1) :=
  ⟨sz95, by95, ag95, sl95, ar95, pt95, in95, un95, po95, zt95, @z95.eq_1⟩
theorem t96 : type_of% (sz96) ∧ type_of% (by96) ∧ type_of% (ag96) ∧ type_of% (sl96) ∧ type_of% (ar96) ∧ type_of% (pt96) ∧ type_of% (un96) ∧ type_of% (po96) ∧ type_of% (zt96) ∧ type_of% (@z96.eq_1) :=
  ⟨sz96, by96, ag96, sl96, ar96, pt96, un96, po96, zt96, @z96.eq_1⟩
theorem t97 : type_of% (sz97) ∧ type_of% (by97) ∧ type_of% (ag97) ∧ type_of% (sl97) ∧ type_of% (ar97) ∧ type_of% (pt97) ∧ type_of% (in97) ∧ type_of% (un97) ∧ type_of% (po97) ∧ type_of% (zt97) ∧ type_of% (@z97.eq_1) :=
  ⟨sz97, by97, ag97, sl97, ar97, pt97, in97, un97, po97, zt97, @z97.eq_1⟩
theorem t98 : type_of% (sz98) ∧ type_of% (by98) ∧ type_of% (ag98) ∧ type_of% (sl98) ∧ type_of% (ar98) ∧ type_of% (pt98) ∧ type_of% (in98) ∧ type_of% (un98) ∧ type_of% (po98) ∧ type_of% (zt98) ∧ type_of% (@z98.eq_1) :=
  ⟨sz98, by98, ag98, sl98, ar98, pt98, in98, un98, po98, zt98, @z98.eq_1⟩
theorem t99 : type_of% (sz99) ∧ type_of% (by99) ∧ type_of% (ag99) ∧ type_of% (sl99) ∧ type_of% (ar99) ∧ type_of% (pt99) ∧ type_of% (un99) ∧ type_of% (fl99_0) ∧ type_of% (fl99_1) ∧ type_of% (fl99_2) ∧ type_of% (fl99_3) ∧ type_of% (fl99_4) ∧ type_of% (fl99_5) ∧ type_of% (fl99_6) ∧ type_of% (fl99_7) ∧ type_of% (fl99_8) ∧ type_of% (fl99_9) ∧ type_of% (fl99_10) ∧ type_of% (fs99) ∧ type_of% (po99) ∧ type_of% (zt99) ∧ type_of% (@z99.eq_1) :=
  ⟨sz99, by99, ag99, sl99, ar99, pt99, un99, fl99_0, fl99_1, fl99_2, fl99_3, fl99_4, fl99_5, fl99_6, fl99_7, fl99_8, fl99_9, fl99_10, fs99, po99, zt99, @z99.eq_1⟩
theorem t100 : type_of% (sz100) ∧ type_of% (by100) ∧ type_of% (ag100) ∧ type_of% (sl100) ∧ type_of% (ar100) ∧ type_of% (pt100) ∧ type_of% (un100) ∧ type_of% (fl100_0) ∧ type_of% (fl100_1) ∧ type_of% (fl100_2) ∧ type_of% (fl100_3) ∧ type_of% (fl100_4) ∧ type_of% (fl100_5) ∧ type_of% (fl100_6) ∧ type_of% (fl100_7) ∧ type_of% (fl100_8) ∧ type_of% (fl100_9) ∧ type_of% (fl100_10) ∧ type_of% (fs100) ∧ type_of% (po100) ∧ type_of% (zt100) ∧ type_of% (@z100.eq_1) :=
  ⟨sz100, by100, ag100, sl100, ar100, pt100, un100, fl100_0, fl100_1, fl100_2, fl100_3, fl100_4, fl100_5, fl100_6, fl100_7, fl100_8, fl100_9, fl100_10, fs100, po100, zt100, @z100.eq_1⟩
theorem mo : cx.P.follows .mixedOrders = true := by kernel_rfl
end Go.Proofs.YtdkcobnhcpgpaaaDoor.T
