/-
  The table of types of this seat, told lemma by lemma (written by gentypes.py out of the translation).
-/
import Derived.Test.YtaghcjbpjnpkbaaGreatProg
import Derived.Test.YtaghcjbpjnpkbaaGreatAL18
set_option linter.unusedSimpArgs false
set_option linter.unusedVariables false
set_option maxRecDepth 100000
set_option maxHeartbeats 8000000
namespace Go.Proofs.YtaghcjbpjnpkbaaGreat.T
open Go Go.AL
theorem sz2 : tsz Tryz.prog 2 = some 1 := by kernel_rfl
theorem by2 : tby Tryz.prog 2 = some 8 := by kernel_rfl
theorem ag2 : tagg Tryz.prog 2 = some false := by kernel_rfl
theorem sl2 : tsl Tryz.prog 2 = none := by kernel_rfl
theorem ar2 : tarr Tryz.prog 2 = none := by kernel_rfl
theorem pt2 : tptr Tryz.prog 2 = none := by kernel_rfl
theorem in2 : tint Tryz.prog 2 = some .i64 := by kernel_rfl
theorem un2 : (Tryz.prog.underlying 2).isSome = true := by kernel_rfl
theorem po2 : tpos Tryz.prog 2 = true := by kernel_rfl
def z2 : AV := .val (.int .i64 0)
theorem zo2 : ZeroOK Tryz.prog 2 z2 := ZeroOK.mk (.int .i64 0) (by kernel_rfl) (by kernel_rfl) (by kernel_rfl) (by kernel_rfl)
theorem sz3 : tsz Tryz.prog 3 = some 1 := by kernel_rfl
theorem by3 : tby Tryz.prog 3 = some 8 := by kernel_rfl
theorem ag3 : tagg Tryz.prog 3 = some false := by kernel_rfl
theorem sl3 : tsl Tryz.prog 3 = none := by kernel_rfl
theorem ar3 : tarr Tryz.prog 3 = none := by kernel_rfl
theorem pt3 : tptr Tryz.prog 3 = none := by kernel_rfl
theorem in3 : tint Tryz.prog 3 = some .i64 := by kernel_rfl
theorem un3 : (Tryz.prog.underlying 3).isSome = true := by kernel_rfl
theorem po3 : tpos Tryz.prog 3 = true := by kernel_rfl
def z3 : AV := .val (.int .i64 0)
theorem zo3 : ZeroOK Tryz.prog 3 z3 := ZeroOK.mk (.int .i64 0) (by kernel_rfl) (by kernel_rfl) (by kernel_rfl) (by kernel_rfl)
theorem sz4 : tsz Tryz.prog 4 = some 1 := by kernel_rfl
theorem by4 : tby Tryz.prog 4 = some 1 := by kernel_rfl
theorem ag4 : tagg Tryz.prog 4 = some false := by kernel_rfl
theorem sl4 : tsl Tryz.prog 4 = none := by kernel_rfl
theorem ar4 : tarr Tryz.prog 4 = none := by kernel_rfl
theorem pt4 : tptr Tryz.prog 4 = none := by kernel_rfl
theorem un4 : (Tryz.prog.underlying 4).isSome = true := by kernel_rfl
theorem tb4 : tbool Tryz.prog 4 = some () := by kernel_rfl
theorem po4 : tpos Tryz.prog 4 = true := by kernel_rfl
def z4 : AV := .val (.bool false)
theorem zo4 : ZeroOK Tryz.prog 4 z4 := ZeroOK.mk (.bool false) (by kernel_rfl) (by kernel_rfl) (by kernel_rfl) (by kernel_rfl)
theorem sz5 : tsz Tryz.prog 5 = some 1 := by kernel_rfl
theorem by5 : tby Tryz.prog 5 = some 1 := by kernel_rfl
theorem ag5 : tagg Tryz.prog 5 = some false := by kernel_rfl
theorem sl5 : tsl Tryz.prog 5 = none := by kernel_rfl
theorem ar5 : tarr Tryz.prog 5 = none := by kernel_rfl
theorem pt5 : tptr Tryz.prog 5 = none := by kernel_rfl
theorem in5 : tint Tryz.prog 5 = some .u8 := by kernel_rfl
theorem un5 : (Tryz.prog.underlying 5).isSome = true := by kernel_rfl
theorem po5 : tpos Tryz.prog 5 = true := by kernel_rfl
def z5 : AV := .val (.int .u8 0)
theorem zo5 : ZeroOK Tryz.prog 5 z5 := ZeroOK.mk (.int .u8 0) (by kernel_rfl) (by kernel_rfl) (by kernel_rfl) (by kernel_rfl)
theorem sz9 : tsz Tryz.prog 9 = some 1 := by kernel_rfl
theorem by9 : tby Tryz.prog 9 = some 16 := by kernel_rfl
theorem ag9 : tagg Tryz.prog 9 = some false := by kernel_rfl
theorem sl9 : tsl Tryz.prog 9 = none := by kernel_rfl
theorem ar9 : tarr Tryz.prog 9 = none := by kernel_rfl
theorem pt9 : tptr Tryz.prog 9 = none := by kernel_rfl
theorem st9 : tstr Tryz.prog 9 = some () := by kernel_rfl
theorem un9 : (Tryz.prog.underlying 9).isSome = true := by kernel_rfl
theorem po9 : tpos Tryz.prog 9 = true := by kernel_rfl
def z9 : AV := .val (.string ByteArray.empty)
theorem zo9 : ZeroOK Tryz.prog 9 z9 := ZeroOK.mk (.string ByteArray.empty) (by kernel_rfl) (by kernel_rfl) (by kernel_rfl) (by kernel_rfl)
theorem sz20 : tsz Tryz.prog 20 = some 1 := by kernel_rfl
theorem by20 : tby Tryz.prog 20 = some 16 := by kernel_rfl
theorem ag20 : tagg Tryz.prog 20 = some false := by kernel_rfl
theorem sl20 : tsl Tryz.prog 20 = none := by kernel_rfl
theorem ar20 : tarr Tryz.prog 20 = none := by kernel_rfl
theorem pt20 : tptr Tryz.prog 20 = none := by kernel_rfl
theorem un20 : (Tryz.prog.underlying 20).isSome = true := by kernel_rfl
theorem po20 : tpos Tryz.prog 20 = true := by kernel_rfl
def z20 : AV := .val .nilIface
theorem zo20 : ZeroOK Tryz.prog 20 z20 := ZeroOK.mk (.nilIface) (by kernel_rfl) (by kernel_rfl) (by kernel_rfl) (by kernel_rfl)
theorem sz22 : tsz Tryz.prog 22 = some 1 := by kernel_rfl
theorem by22 : tby Tryz.prog 22 = some 24 := by kernel_rfl
theorem ag22 : tagg Tryz.prog 22 = some false := by kernel_rfl
theorem sl22 : tsl Tryz.prog 22 = some 76 := by kernel_rfl
theorem ar22 : tarr Tryz.prog 22 = none := by kernel_rfl
theorem pt22 : tptr Tryz.prog 22 = none := by kernel_rfl
theorem un22 : (Tryz.prog.underlying 22).isSome = true := by kernel_rfl
theorem po22 : tpos Tryz.prog 22 = true := by kernel_rfl
def z22 : AV := .sl 274 [] 1
theorem zo22 : ZeroOK Tryz.prog 22 z22 := ZeroOK.mk (.slice none 0 0) (by kernel_rfl) (by kernel_rfl) (by kernel_rfl) (by kernel_rfl)
theorem sz23 : tsz Tryz.prog 23 = some 1 := by kernel_rfl
theorem by23 : tby Tryz.prog 23 = some 24 := by kernel_rfl
theorem ag23 : tagg Tryz.prog 23 = some false := by kernel_rfl
theorem sl23 : tsl Tryz.prog 23 = some 104 := by kernel_rfl
theorem ar23 : tarr Tryz.prog 23 = none := by kernel_rfl
theorem pt23 : tptr Tryz.prog 23 = none := by kernel_rfl
theorem un23 : (Tryz.prog.underlying 23).isSome = true := by kernel_rfl
theorem po23 : tpos Tryz.prog 23 = true := by kernel_rfl
def z23 : AV := .sl 2 [] 1
theorem zo23 : ZeroOK Tryz.prog 23 z23 := ZeroOK.mk (.slice none 0 0) (by kernel_rfl) (by kernel_rfl) (by kernel_rfl) (by kernel_rfl)
theorem sz24 : tsz Tryz.prog 24 = some 1 := by kernel_rfl
theorem by24 : tby Tryz.prog 24 = some 24 := by kernel_rfl
theorem ag24 : tagg Tryz.prog 24 = some false := by kernel_rfl
theorem sl24 : tsl Tryz.prog 24 = some 40 := by kernel_rfl
theorem ar24 : tarr Tryz.prog 24 = none := by kernel_rfl
theorem pt24 : tptr Tryz.prog 24 = none := by kernel_rfl
theorem un24 : (Tryz.prog.underlying 24).isSome = true := by kernel_rfl
theorem po24 : tpos Tryz.prog 24 = true := by kernel_rfl
def z24 : AV := .sl 40 [] 1
theorem zo24 : ZeroOK Tryz.prog 24 z24 := ZeroOK.mk (.slice none 0 0) (by kernel_rfl) (by kernel_rfl) (by kernel_rfl) (by kernel_rfl)
theorem sz25 : tsz Tryz.prog 25 = some 32 := by kernel_rfl
theorem by25 : tby Tryz.prog 25 = some 32 := by kernel_rfl
theorem ag25 : tagg Tryz.prog 25 = some true := by kernel_rfl
theorem sl25 : tsl Tryz.prog 25 = none := by kernel_rfl
theorem ar25 : tarr Tryz.prog 25 = some (32, 5) := by kernel_rfl
theorem pt25 : tptr Tryz.prog 25 = none := by kernel_rfl
theorem un25 : (Tryz.prog.underlying 25).isSome = true := by kernel_rfl
theorem po25 : tpos Tryz.prog 25 = true := by kernel_rfl
theorem tq25 : teq Tryz.prog 25 = true := by kernel_rfl
def z25 : AV := .vec 1 (List.replicate 32 (.val (.int .u8 0)))
theorem zo25 : ZeroOK Tryz.prog 25 z25 := ZeroOK.mk (.agg #[.int .u8 0, .int .u8 0, .int .u8 0, .int .u8 0, .int .u8 0, .int .u8 0, .int .u8 0, .int .u8 0, .int .u8 0, .int .u8 0, .int .u8 0, .int .u8 0, .int .u8 0, .int .u8 0, .int .u8 0, .int .u8 0, .int .u8 0, .int .u8 0, .int .u8 0, .int .u8 0, .int .u8 0, .int .u8 0, .int .u8 0, .int .u8 0, .int .u8 0, .int .u8 0, .int .u8 0, .int .u8 0, .int .u8 0, .int .u8 0, .int .u8 0, .int .u8 0]) (by kernel_rfl) (by kernel_rfl) (by kernel_rfl) (by kernel_rfl)
theorem sz26 : tsz Tryz.prog 26 = some 32 := by kernel_rfl
theorem by26 : tby Tryz.prog 26 = some 32 := by kernel_rfl
theorem ag26 : tagg Tryz.prog 26 = some true := by kernel_rfl
theorem sl26 : tsl Tryz.prog 26 = none := by kernel_rfl
theorem ar26 : tarr Tryz.prog 26 = some (32, 5) := by kernel_rfl
theorem pt26 : tptr Tryz.prog 26 = none := by kernel_rfl
theorem un26 : (Tryz.prog.underlying 26).isSome = true := by kernel_rfl
theorem po26 : tpos Tryz.prog 26 = true := by kernel_rfl
theorem tw26 : twide Tryz.prog 26 = true := by kernel_rfl
theorem tq26 : teq Tryz.prog 26 = true := by kernel_rfl
def z26 : AV := .vec 1 (List.replicate 32 (.val (.int .u8 0)))
theorem zo26 : ZeroOK Tryz.prog 26 z26 := ZeroOK.mk (.agg #[.int .u8 0, .int .u8 0, .int .u8 0, .int .u8 0, .int .u8 0, .int .u8 0, .int .u8 0, .int .u8 0, .int .u8 0, .int .u8 0, .int .u8 0, .int .u8 0, .int .u8 0, .int .u8 0, .int .u8 0, .int .u8 0, .int .u8 0, .int .u8 0, .int .u8 0, .int .u8 0, .int .u8 0, .int .u8 0, .int .u8 0, .int .u8 0, .int .u8 0, .int .u8 0, .int .u8 0, .int .u8 0, .int .u8 0, .int .u8 0, .int .u8 0, .int .u8 0]) (by kernel_rfl) (by kernel_rfl) (by kernel_rfl) (by kernel_rfl)
theorem sz28 : tsz Tryz.prog 28 = some 38 := by kernel_rfl
theorem by28 : tby Tryz.prog 28 = some 80 := by kernel_rfl
theorem ag28 : tagg Tryz.prog 28 = some true := by kernel_rfl
theorem sl28 : tsl Tryz.prog 28 = none := by kernel_rfl
theorem ar28 : tarr Tryz.prog 28 = none := by kernel_rfl
theorem pt28 : tptr Tryz.prog 28 = none := by kernel_rfl
theorem un28 : (Tryz.prog.underlying 28).isSome = true := by kernel_rfl
theorem fl28_0 : tfld Tryz.prog 28 0 = some (0, 4) := by kernel_rfl
theorem fl28_1 : tfld Tryz.prog 28 1 = some (1, 3) := by kernel_rfl
theorem fl28_2 : tfld Tryz.prog 28 2 = some (2, 3) := by kernel_rfl
theorem fl28_3 : tfld Tryz.prog 28 3 = some (3, 26) := by kernel_rfl
theorem fl28_4 : tfld Tryz.prog 28 4 = some (35, 3) := by kernel_rfl
theorem fl28_5 : tfld Tryz.prog 28 5 = some (36, 3) := by kernel_rfl
theorem fl28_6 : tfld Tryz.prog 28 6 = some (37, 3) := by kernel_rfl
theorem fs28 : tflds Tryz.prog 28 = true := by kernel_rfl
theorem po28 : tpos Tryz.prog 28 = true := by kernel_rfl
theorem tq28 : teq Tryz.prog 28 = true := by kernel_rfl
theorem tc28 : tcmp Tryz.prog 28 = some [(0, 4), (1, 3), (2, 3), (3, 26), (35, 3), (36, 3), (37, 3)] := by kernel_rfl
def z28 : AV := .agg 38 [.val (.bool false), .val (.int .i64 0), .val (.int .i64 0), .vec 1 (List.replicate 32 (.val (.int .u8 0))), .val (.int .i64 0), .val (.int .i64 0), .val (.int .i64 0)]
theorem zo28 : ZeroOK Tryz.prog 28 z28 := ZeroOK.mk (.agg #[.bool false, .int .i64 0, .int .i64 0, .int .u8 0, .int .u8 0, .int .u8 0, .int .u8 0, .int .u8 0, .int .u8 0, .int .u8 0, .int .u8 0, .int .u8 0, .int .u8 0, .int .u8 0, .int .u8 0, .int .u8 0, .int .u8 0, .int .u8 0, .int .u8 0, .int .u8 0, .int .u8 0, .int .u8 0, .int .u8 0, .int .u8 0, .int .u8 0, .int .u8 0, .int .u8 0, .int .u8 0, .int .u8 0, .int .u8 0, .int .u8 0, .int .u8 0, .int .u8 0, .int .u8 0, .int .u8 0, .int .i64 0, .int .i64 0, .int .i64 0]) (by kernel_rfl) (by kernel_rfl) (by kernel_rfl) (by kernel_rfl)
theorem sz29 : tsz Tryz.prog 29 = some 1 := by kernel_rfl
theorem by29 : tby Tryz.prog 29 = some 8 := by kernel_rfl
theorem ag29 : tagg Tryz.prog 29 = some false := by kernel_rfl
theorem sl29 : tsl Tryz.prog 29 = none := by kernel_rfl
theorem ar29 : tarr Tryz.prog 29 = none := by kernel_rfl
theorem pt29 : tptr Tryz.prog 29 = some 90 := by kernel_rfl
theorem un29 : (Tryz.prog.underlying 29).isSome = true := by kernel_rfl
theorem po29 : tpos Tryz.prog 29 = true := by kernel_rfl
def z29 : AV := .val (.pointer none)
theorem zo29 : ZeroOK Tryz.prog 29 z29 := ZeroOK.mk (.pointer none) (by kernel_rfl) (by kernel_rfl) (by kernel_rfl) (by kernel_rfl)
theorem sz30 : tsz Tryz.prog 30 = some 1 := by kernel_rfl
theorem by30 : tby Tryz.prog 30 = some 8 := by kernel_rfl
theorem ag30 : tagg Tryz.prog 30 = some false := by kernel_rfl
theorem sl30 : tsl Tryz.prog 30 = none := by kernel_rfl
theorem ar30 : tarr Tryz.prog 30 = none := by kernel_rfl
theorem pt30 : tptr Tryz.prog 30 = some 96 := by kernel_rfl
theorem un30 : (Tryz.prog.underlying 30).isSome = true := by kernel_rfl
theorem po30 : tpos Tryz.prog 30 = true := by kernel_rfl
def z30 : AV := .val (.pointer none)
theorem zo30 : ZeroOK Tryz.prog 30 z30 := ZeroOK.mk (.pointer none) (by kernel_rfl) (by kernel_rfl) (by kernel_rfl) (by kernel_rfl)
theorem sz34 : tsz Tryz.prog 34 = some 1 := by kernel_rfl
theorem by34 : tby Tryz.prog 34 = some 24 := by kernel_rfl
theorem ag34 : tagg Tryz.prog 34 = some false := by kernel_rfl
theorem sl34 : tsl Tryz.prog 34 = some 109 := by kernel_rfl
theorem ar34 : tarr Tryz.prog 34 = none := by kernel_rfl
theorem pt34 : tptr Tryz.prog 34 = none := by kernel_rfl
theorem un34 : (Tryz.prog.underlying 34).isSome = true := by kernel_rfl
theorem po34 : tpos Tryz.prog 34 = true := by kernel_rfl
def z34 : AV := .sl 35 [] 1
theorem zo34 : ZeroOK Tryz.prog 34 z34 := ZeroOK.mk (.slice none 0 0) (by kernel_rfl) (by kernel_rfl) (by kernel_rfl) (by kernel_rfl)
theorem sz35 : tsz Tryz.prog 35 = some 1 := by kernel_rfl
theorem by35 : tby Tryz.prog 35 = some 24 := by kernel_rfl
theorem ag35 : tagg Tryz.prog 35 = some false := by kernel_rfl
theorem sl35 : tsl Tryz.prog 35 = some 5 := by kernel_rfl
theorem ar35 : tarr Tryz.prog 35 = none := by kernel_rfl
theorem pt35 : tptr Tryz.prog 35 = none := by kernel_rfl
theorem un35 : (Tryz.prog.underlying 35).isSome = true := by kernel_rfl
theorem po35 : tpos Tryz.prog 35 = true := by kernel_rfl
def z35 : AV := .sl 1 [] 1
theorem zo35 : ZeroOK Tryz.prog 35 z35 := ZeroOK.mk (.slice none 0 0) (by kernel_rfl) (by kernel_rfl) (by kernel_rfl) (by kernel_rfl)
theorem sz37 : tsz Tryz.prog 37 = some 37 := by kernel_rfl
theorem by37 : tby Tryz.prog 37 = some 88 := by kernel_rfl
theorem ag37 : tagg Tryz.prog 37 = some true := by kernel_rfl
theorem sl37 : tsl Tryz.prog 37 = none := by kernel_rfl
theorem ar37 : tarr Tryz.prog 37 = none := by kernel_rfl
theorem pt37 : tptr Tryz.prog 37 = none := by kernel_rfl
theorem un37 : (Tryz.prog.underlying 37).isSome = true := by kernel_rfl
theorem fl37_0 : tfld Tryz.prog 37 0 = some (0, 3) := by kernel_rfl
theorem fl37_1 : tfld Tryz.prog 37 1 = some (1, 3) := by kernel_rfl
theorem fl37_2 : tfld Tryz.prog 37 2 = some (2, 3) := by kernel_rfl
theorem fl37_3 : tfld Tryz.prog 37 3 = some (3, 2) := by kernel_rfl
theorem fl37_4 : tfld Tryz.prog 37 4 = some (4, 26) := by kernel_rfl
theorem fl37_5 : tfld Tryz.prog 37 5 = some (36, 35) := by kernel_rfl
theorem fs37 : tflds Tryz.prog 37 = true := by kernel_rfl
theorem po37 : tpos Tryz.prog 37 = true := by kernel_rfl
def z37 : AV := .agg 37 [.val (.int .i64 0), .val (.int .i64 0), .val (.int .i64 0), .val (.int .i64 0), .vec 1 (List.replicate 32 (.val (.int .u8 0))), .sl 1 [] 1]
theorem zo37 : ZeroOK Tryz.prog 37 z37 := ZeroOK.mk (.agg #[.int .i64 0, .int .i64 0, .int .i64 0, .int .i64 0, .int .u8 0, .int .u8 0, .int .u8 0, .int .u8 0, .int .u8 0, .int .u8 0, .int .u8 0, .int .u8 0, .int .u8 0, .int .u8 0, .int .u8 0, .int .u8 0, .int .u8 0, .int .u8 0, .int .u8 0, .int .u8 0, .int .u8 0, .int .u8 0, .int .u8 0, .int .u8 0, .int .u8 0, .int .u8 0, .int .u8 0, .int .u8 0, .int .u8 0, .int .u8 0, .int .u8 0, .int .u8 0, .int .u8 0, .int .u8 0, .int .u8 0, .int .u8 0, .slice none 0 0]) (by kernel_rfl) (by kernel_rfl) (by kernel_rfl) (by kernel_rfl)
theorem sz38 : tsz Tryz.prog 38 = some 1 := by kernel_rfl
theorem by38 : tby Tryz.prog 38 = some 24 := by kernel_rfl
theorem ag38 : tagg Tryz.prog 38 = some false := by kernel_rfl
theorem sl38 : tsl Tryz.prog 38 = some 70 := by kernel_rfl
theorem ar38 : tarr Tryz.prog 38 = none := by kernel_rfl
theorem pt38 : tptr Tryz.prog 38 = none := by kernel_rfl
theorem un38 : (Tryz.prog.underlying 38).isSome = true := by kernel_rfl
theorem po38 : tpos Tryz.prog 38 = true := by kernel_rfl
def z38 : AV := .sl 33 [] 1
theorem zo38 : ZeroOK Tryz.prog 38 z38 := ZeroOK.mk (.slice none 0 0) (by kernel_rfl) (by kernel_rfl) (by kernel_rfl) (by kernel_rfl)
theorem sz40 : tsz Tryz.prog 40 = some 40 := by kernel_rfl
theorem by40 : tby Tryz.prog 40 = some 160 := by kernel_rfl
theorem ag40 : tagg Tryz.prog 40 = some true := by kernel_rfl
theorem sl40 : tsl Tryz.prog 40 = none := by kernel_rfl
theorem ar40 : tarr Tryz.prog 40 = none := by kernel_rfl
theorem pt40 : tptr Tryz.prog 40 = none := by kernel_rfl
theorem un40 : (Tryz.prog.underlying 40).isSome = true := by kernel_rfl
theorem fl40_0 : tfld Tryz.prog 40 0 = some (0, 34) := by kernel_rfl
theorem fl40_1 : tfld Tryz.prog 40 1 = some (1, 23) := by kernel_rfl
theorem fl40_2 : tfld Tryz.prog 40 2 = some (2, 37) := by kernel_rfl
theorem fl40_3 : tfld Tryz.prog 40 3 = some (39, 38) := by kernel_rfl
theorem fs40 : tflds Tryz.prog 40 = true := by kernel_rfl
theorem po40 : tpos Tryz.prog 40 = true := by kernel_rfl
def z40 : AV := .agg 40 [.sl 35 [] 1, .sl 2 [] 1, .agg 37 [.val (.int .i64 0), .val (.int .i64 0), .val (.int .i64 0), .val (.int .i64 0), .vec 1 (List.replicate 32 (.val (.int .u8 0))), .sl 1 [] 1], .sl 33 [] 1]
theorem zo40 : ZeroOK Tryz.prog 40 z40 := ZeroOK.mk (.agg #[.slice none 0 0, .slice none 0 0, .int .i64 0, .int .i64 0, .int .i64 0, .int .i64 0, .int .u8 0, .int .u8 0, .int .u8 0, .int .u8 0, .int .u8 0, .int .u8 0, .int .u8 0, .int .u8 0, .int .u8 0, .int .u8 0, .int .u8 0, .int .u8 0, .int .u8 0, .int .u8 0, .int .u8 0, .int .u8 0, .int .u8 0, .int .u8 0, .int .u8 0, .int .u8 0, .int .u8 0, .int .u8 0, .int .u8 0, .int .u8 0, .int .u8 0, .int .u8 0, .int .u8 0, .int .u8 0, .int .u8 0, .int .u8 0, .int .u8 0, .int .u8 0, .slice none 0 0, .slice none 0 0]) (by kernel_rfl) (by kernel_rfl) (by kernel_rfl) (by kernel_rfl)
theorem sz41 : tsz Tryz.prog 41 = some 1 := by kernel_rfl
theorem by41 : tby Tryz.prog 41 = some 8 := by kernel_rfl
theorem ag41 : tagg Tryz.prog 41 = some false := by kernel_rfl
theorem sl41 : tsl Tryz.prog 41 = none := by kernel_rfl
theorem ar41 : tarr Tryz.prog 41 = none := by kernel_rfl
theorem pt41 : tptr Tryz.prog 41 = none := by kernel_rfl
theorem in41 : tint Tryz.prog 41 = some .i64 := by kernel_rfl
theorem un41 : (Tryz.prog.underlying 41).isSome = true := by kernel_rfl
theorem po41 : tpos Tryz.prog 41 = true := by kernel_rfl
def z41 : AV := .val (.int .i64 0)
theorem zo41 : ZeroOK Tryz.prog 41 z41 := ZeroOK.mk (.int .i64 0) (by kernel_rfl) (by kernel_rfl) (by kernel_rfl) (by kernel_rfl)
theorem sz45 : tsz Tryz.prog 45 = some 33 := by kernel_rfl
theorem by45 : tby Tryz.prog 45 = some 40 := by kernel_rfl
theorem ag45 : tagg Tryz.prog 45 = some true := by kernel_rfl
theorem sl45 : tsl Tryz.prog 45 = none := by kernel_rfl
theorem ar45 : tarr Tryz.prog 45 = none := by kernel_rfl
theorem pt45 : tptr Tryz.prog 45 = none := by kernel_rfl
theorem un45 : (Tryz.prog.underlying 45).isSome = true := by kernel_rfl
theorem fl45_0 : tfld Tryz.prog 45 0 = some (0, 26) := by kernel_rfl
theorem fl45_1 : tfld Tryz.prog 45 1 = some (32, 3) := by kernel_rfl
theorem fs45 : tflds Tryz.prog 45 = true := by kernel_rfl
theorem po45 : tpos Tryz.prog 45 = true := by kernel_rfl
theorem tw45 : twide Tryz.prog 45 = true := by kernel_rfl
theorem tq45 : teq Tryz.prog 45 = true := by kernel_rfl
theorem tc45 : tcmp Tryz.prog 45 = some [(0, 26), (32, 3)] := by kernel_rfl
def z45 : AV := .agg 33 [.vec 1 (List.replicate 32 (.val (.int .u8 0))), .val (.int .i64 0)]
theorem zo45 : ZeroOK Tryz.prog 45 z45 := ZeroOK.mk (.agg #[.int .u8 0, .int .u8 0, .int .u8 0, .int .u8 0, .int .u8 0, .int .u8 0, .int .u8 0, .int .u8 0, .int .u8 0, .int .u8 0, .int .u8 0, .int .u8 0, .int .u8 0, .int .u8 0, .int .u8 0, .int .u8 0, .int .u8 0, .int .u8 0, .int .u8 0, .int .u8 0, .int .u8 0, .int .u8 0, .int .u8 0, .int .u8 0, .int .u8 0, .int .u8 0, .int .u8 0, .int .u8 0, .int .u8 0, .int .u8 0, .int .u8 0, .int .u8 0, .int .i64 0]) (by kernel_rfl) (by kernel_rfl) (by kernel_rfl) (by kernel_rfl)
theorem sz47 : tsz Tryz.prog 47 = some 39 := by kernel_rfl
theorem by47 : tby Tryz.prog 47 = some 88 := by kernel_rfl
theorem ag47 : tagg Tryz.prog 47 = some true := by kernel_rfl
theorem sl47 : tsl Tryz.prog 47 = none := by kernel_rfl
theorem ar47 : tarr Tryz.prog 47 = none := by kernel_rfl
theorem pt47 : tptr Tryz.prog 47 = none := by kernel_rfl
theorem un47 : (Tryz.prog.underlying 47).isSome = true := by kernel_rfl
theorem fl47_0 : tfld Tryz.prog 47 0 = some (0, 3) := by kernel_rfl
theorem fl47_1 : tfld Tryz.prog 47 1 = some (1, 3) := by kernel_rfl
theorem fl47_2 : tfld Tryz.prog 47 2 = some (2, 3) := by kernel_rfl
theorem fl47_3 : tfld Tryz.prog 47 3 = some (3, 45) := by kernel_rfl
theorem fl47_4 : tfld Tryz.prog 47 4 = some (36, 2) := by kernel_rfl
theorem fl47_5 : tfld Tryz.prog 47 5 = some (37, 3) := by kernel_rfl
theorem fl47_6 : tfld Tryz.prog 47 6 = some (38, 3) := by kernel_rfl
theorem fs47 : tflds Tryz.prog 47 = true := by kernel_rfl
theorem po47 : tpos Tryz.prog 47 = true := by kernel_rfl
theorem tq47 : teq Tryz.prog 47 = true := by kernel_rfl
theorem tc47 : tcmp Tryz.prog 47 = some [(0, 3), (1, 3), (2, 3), (3, 45), (36, 2), (37, 3), (38, 3)] := by kernel_rfl
def z47 : AV := .agg 39 [.val (.int .i64 0), .val (.int .i64 0), .val (.int .i64 0), .agg 33 [.vec 1 (List.replicate 32 (.val (.int .u8 0))), .val (.int .i64 0)], .val (.int .i64 0), .val (.int .i64 0), .val (.int .i64 0)]
theorem zo47 : ZeroOK Tryz.prog 47 z47 := ZeroOK.mk (.agg #[.int .i64 0, .int .i64 0, .int .i64 0, .int .u8 0, .int .u8 0, .int .u8 0, .int .u8 0, .int .u8 0, .int .u8 0, .int .u8 0, .int .u8 0, .int .u8 0, .int .u8 0, .int .u8 0, .int .u8 0, .int .u8 0, .int .u8 0, .int .u8 0, .int .u8 0, .int .u8 0, .int .u8 0, .int .u8 0, .int .u8 0, .int .u8 0, .int .u8 0, .int .u8 0, .int .u8 0, .int .u8 0, .int .u8 0, .int .u8 0, .int .u8 0, .int .u8 0, .int .u8 0, .int .u8 0, .int .u8 0, .int .i64 0, .int .i64 0, .int .i64 0, .int .i64 0]) (by kernel_rfl) (by kernel_rfl) (by kernel_rfl) (by kernel_rfl)
theorem sz51 : tsz Tryz.prog 51 = some 41 := by kernel_rfl
theorem by51 : tby Tryz.prog 51 = some 168 := by kernel_rfl
theorem ag51 : tagg Tryz.prog 51 = some true := by kernel_rfl
theorem sl51 : tsl Tryz.prog 51 = none := by kernel_rfl
theorem ar51 : tarr Tryz.prog 51 = none := by kernel_rfl
theorem pt51 : tptr Tryz.prog 51 = none := by kernel_rfl
theorem un51 : (Tryz.prog.underlying 51).isSome = true := by kernel_rfl
theorem fl51_0 : tfld Tryz.prog 51 0 = some (0, 40) := by kernel_rfl
theorem fl51_1 : tfld Tryz.prog 51 1 = some (40, 3) := by kernel_rfl
theorem fs51 : tflds Tryz.prog 51 = true := by kernel_rfl
theorem po51 : tpos Tryz.prog 51 = true := by kernel_rfl
def z51 : AV := .agg 41 [.agg 40 [.sl 35 [] 1, .sl 2 [] 1, .agg 37 [.val (.int .i64 0), .val (.int .i64 0), .val (.int .i64 0), .val (.int .i64 0), .vec 1 (List.replicate 32 (.val (.int .u8 0))), .sl 1 [] 1], .sl 33 [] 1], .val (.int .i64 0)]
theorem zo51 : ZeroOK Tryz.prog 51 z51 := ZeroOK.mk (.agg #[.slice none 0 0, .slice none 0 0, .int .i64 0, .int .i64 0, .int .i64 0, .int .i64 0, .int .u8 0, .int .u8 0, .int .u8 0, .int .u8 0, .int .u8 0, .int .u8 0, .int .u8 0, .int .u8 0, .int .u8 0, .int .u8 0, .int .u8 0, .int .u8 0, .int .u8 0, .int .u8 0, .int .u8 0, .int .u8 0, .int .u8 0, .int .u8 0, .int .u8 0, .int .u8 0, .int .u8 0, .int .u8 0, .int .u8 0, .int .u8 0, .int .u8 0, .int .u8 0, .int .u8 0, .int .u8 0, .int .u8 0, .int .u8 0, .int .u8 0, .int .u8 0, .slice none 0 0, .slice none 0 0, .int .i64 0]) (by kernel_rfl) (by kernel_rfl) (by kernel_rfl) (by kernel_rfl)
theorem sz55 : tsz Tryz.prog 55 = some 1 := by kernel_rfl
theorem by55 : tby Tryz.prog 55 = some 24 := by kernel_rfl
theorem ag55 : tagg Tryz.prog 55 = some false := by kernel_rfl
theorem sl55 : tsl Tryz.prog 55 = some 26 := by kernel_rfl
theorem ar55 : tarr Tryz.prog 55 = none := by kernel_rfl
theorem pt55 : tptr Tryz.prog 55 = none := by kernel_rfl
theorem un55 : (Tryz.prog.underlying 55).isSome = true := by kernel_rfl
theorem po55 : tpos Tryz.prog 55 = true := by kernel_rfl
def z55 : AV := .sl 32 [] 1
theorem zo55 : ZeroOK Tryz.prog 55 z55 := ZeroOK.mk (.slice none 0 0) (by kernel_rfl) (by kernel_rfl) (by kernel_rfl) (by kernel_rfl)
theorem sz59 : tsz Tryz.prog 59 = some 2 := by kernel_rfl
theorem by59 : tby Tryz.prog 59 = some 16 := by kernel_rfl
theorem ag59 : tagg Tryz.prog 59 = some true := by kernel_rfl
theorem sl59 : tsl Tryz.prog 59 = none := by kernel_rfl
theorem ar59 : tarr Tryz.prog 59 = none := by kernel_rfl
theorem pt59 : tptr Tryz.prog 59 = none := by kernel_rfl
theorem un59 : (Tryz.prog.underlying 59).isSome = true := by kernel_rfl
theorem fl59_0 : tfld Tryz.prog 59 0 = some (0, 3) := by kernel_rfl
theorem fl59_1 : tfld Tryz.prog 59 1 = some (1, 2) := by kernel_rfl
theorem fs59 : tflds Tryz.prog 59 = true := by kernel_rfl
theorem po59 : tpos Tryz.prog 59 = true := by kernel_rfl
theorem tq59 : teq Tryz.prog 59 = true := by kernel_rfl
theorem tc59 : tcmp Tryz.prog 59 = some [(0, 3), (1, 2)] := by kernel_rfl
def z59 : AV := .agg 2 [.val (.int .i64 0), .val (.int .i64 0)]
theorem zo59 : ZeroOK Tryz.prog 59 z59 := ZeroOK.mk (.agg #[.int .i64 0, .int .i64 0]) (by kernel_rfl) (by kernel_rfl) (by kernel_rfl) (by kernel_rfl)
theorem sz66 : tsz Tryz.prog 66 = some 64 := by kernel_rfl
theorem by66 : tby Tryz.prog 66 = some 64 := by kernel_rfl
theorem ag66 : tagg Tryz.prog 66 = some true := by kernel_rfl
theorem sl66 : tsl Tryz.prog 66 = none := by kernel_rfl
theorem ar66 : tarr Tryz.prog 66 = some (2, 26) := by kernel_rfl
theorem pt66 : tptr Tryz.prog 66 = none := by kernel_rfl
theorem un66 : (Tryz.prog.underlying 66).isSome = true := by kernel_rfl
theorem po66 : tpos Tryz.prog 66 = true := by kernel_rfl
theorem tq66 : teq Tryz.prog 66 = true := by kernel_rfl
def z66 : AV := .vec 32 (List.replicate 2 (.vec 1 (List.replicate 32 (.val (.int .u8 0)))))
theorem zo66 : ZeroOK Tryz.prog 66 z66 := ZeroOK.mk (.agg #[.int .u8 0, .int .u8 0, .int .u8 0, .int .u8 0, .int .u8 0, .int .u8 0, .int .u8 0, .int .u8 0, .int .u8 0, .int .u8 0, .int .u8 0, .int .u8 0, .int .u8 0, .int .u8 0, .int .u8 0, .int .u8 0, .int .u8 0, .int .u8 0, .int .u8 0, .int .u8 0, .int .u8 0, .int .u8 0, .int .u8 0, .int .u8 0, .int .u8 0, .int .u8 0, .int .u8 0, .int .u8 0, .int .u8 0, .int .u8 0, .int .u8 0, .int .u8 0, .int .u8 0, .int .u8 0, .int .u8 0, .int .u8 0, .int .u8 0, .int .u8 0, .int .u8 0, .int .u8 0, .int .u8 0, .int .u8 0, .int .u8 0, .int .u8 0, .int .u8 0, .int .u8 0, .int .u8 0, .int .u8 0, .int .u8 0, .int .u8 0, .int .u8 0, .int .u8 0, .int .u8 0, .int .u8 0, .int .u8 0, .int .u8 0, .int .u8 0, .int .u8 0, .int .u8 0, .int .u8 0, .int .u8 0, .int .u8 0, .int .u8 0, .int .u8 0]) (by kernel_rfl) (by kernel_rfl) (by kernel_rfl) (by kernel_rfl)
theorem sz68 : tsz Tryz.prog 68 = some 67 := by kernel_rfl
theorem by68 : tby Tryz.prog 68 = some 88 := by kernel_rfl
theorem ag68 : tagg Tryz.prog 68 = some true := by kernel_rfl
theorem sl68 : tsl Tryz.prog 68 = none := by kernel_rfl
theorem ar68 : tarr Tryz.prog 68 = none := by kernel_rfl
theorem pt68 : tptr Tryz.prog 68 = none := by kernel_rfl
theorem un68 : (Tryz.prog.underlying 68).isSome = true := by kernel_rfl
theorem fl68_0 : tfld Tryz.prog 68 0 = some (0, 3) := by kernel_rfl
theorem fl68_1 : tfld Tryz.prog 68 1 = some (1, 2) := by kernel_rfl
theorem fl68_2 : tfld Tryz.prog 68 2 = some (2, 2) := by kernel_rfl
theorem fl68_3 : tfld Tryz.prog 68 3 = some (3, 66) := by kernel_rfl
theorem fs68 : tflds Tryz.prog 68 = true := by kernel_rfl
theorem po68 : tpos Tryz.prog 68 = true := by kernel_rfl
theorem tq68 : teq Tryz.prog 68 = true := by kernel_rfl
theorem tc68 : tcmp Tryz.prog 68 = some [(0, 3), (1, 2), (2, 2), (3, 66)] := by kernel_rfl
def z68 : AV := .agg 67 [.val (.int .i64 0), .val (.int .i64 0), .val (.int .i64 0), .vec 32 (List.replicate 2 (.vec 1 (List.replicate 32 (.val (.int .u8 0)))))]
theorem zo68 : ZeroOK Tryz.prog 68 z68 := ZeroOK.mk (.agg #[.int .i64 0, .int .i64 0, .int .i64 0, .int .u8 0, .int .u8 0, .int .u8 0, .int .u8 0, .int .u8 0, .int .u8 0, .int .u8 0, .int .u8 0, .int .u8 0, .int .u8 0, .int .u8 0, .int .u8 0, .int .u8 0, .int .u8 0, .int .u8 0, .int .u8 0, .int .u8 0, .int .u8 0, .int .u8 0, .int .u8 0, .int .u8 0, .int .u8 0, .int .u8 0, .int .u8 0, .int .u8 0, .int .u8 0, .int .u8 0, .int .u8 0, .int .u8 0, .int .u8 0, .int .u8 0, .int .u8 0, .int .u8 0, .int .u8 0, .int .u8 0, .int .u8 0, .int .u8 0, .int .u8 0, .int .u8 0, .int .u8 0, .int .u8 0, .int .u8 0, .int .u8 0, .int .u8 0, .int .u8 0, .int .u8 0, .int .u8 0, .int .u8 0, .int .u8 0, .int .u8 0, .int .u8 0, .int .u8 0, .int .u8 0, .int .u8 0, .int .u8 0, .int .u8 0, .int .u8 0, .int .u8 0, .int .u8 0, .int .u8 0, .int .u8 0, .int .u8 0, .int .u8 0, .int .u8 0]) (by kernel_rfl) (by kernel_rfl) (by kernel_rfl) (by kernel_rfl)
theorem sz70 : tsz Tryz.prog 70 = some 33 := by kernel_rfl
theorem by70 : tby Tryz.prog 70 = some 40 := by kernel_rfl
theorem ag70 : tagg Tryz.prog 70 = some true := by kernel_rfl
theorem sl70 : tsl Tryz.prog 70 = none := by kernel_rfl
theorem ar70 : tarr Tryz.prog 70 = none := by kernel_rfl
theorem pt70 : tptr Tryz.prog 70 = none := by kernel_rfl
theorem un70 : (Tryz.prog.underlying 70).isSome = true := by kernel_rfl
theorem fl70_0 : tfld Tryz.prog 70 0 = some (0, 3) := by kernel_rfl
theorem fl70_1 : tfld Tryz.prog 70 1 = some (1, 26) := by kernel_rfl
theorem fs70 : tflds Tryz.prog 70 = true := by kernel_rfl
theorem po70 : tpos Tryz.prog 70 = true := by kernel_rfl
theorem tq70 : teq Tryz.prog 70 = true := by kernel_rfl
theorem tc70 : tcmp Tryz.prog 70 = some [(0, 3), (1, 26)] := by kernel_rfl
def z70 : AV := .agg 33 [.val (.int .i64 0), .vec 1 (List.replicate 32 (.val (.int .u8 0)))]
theorem zo70 : ZeroOK Tryz.prog 70 z70 := ZeroOK.mk (.agg #[.int .i64 0, .int .u8 0, .int .u8 0, .int .u8 0, .int .u8 0, .int .u8 0, .int .u8 0, .int .u8 0, .int .u8 0, .int .u8 0, .int .u8 0, .int .u8 0, .int .u8 0, .int .u8 0, .int .u8 0, .int .u8 0, .int .u8 0, .int .u8 0, .int .u8 0, .int .u8 0, .int .u8 0, .int .u8 0, .int .u8 0, .int .u8 0, .int .u8 0, .int .u8 0, .int .u8 0, .int .u8 0, .int .u8 0, .int .u8 0, .int .u8 0, .int .u8 0, .int .u8 0]) (by kernel_rfl) (by kernel_rfl) (by kernel_rfl) (by kernel_rfl)
theorem sz72 : tsz Tryz.prog 72 = some 67 := by kernel_rfl
theorem by72 : tby Tryz.prog 72 = some 88 := by kernel_rfl
theorem ag72 : tagg Tryz.prog 72 = some true := by kernel_rfl
theorem sl72 : tsl Tryz.prog 72 = none := by kernel_rfl
theorem ar72 : tarr Tryz.prog 72 = none := by kernel_rfl
theorem pt72 : tptr Tryz.prog 72 = none := by kernel_rfl
theorem un72 : (Tryz.prog.underlying 72).isSome = true := by kernel_rfl
theorem fl72_0 : tfld Tryz.prog 72 0 = some (0, 3) := by kernel_rfl
theorem fl72_1 : tfld Tryz.prog 72 1 = some (1, 3) := by kernel_rfl
theorem fl72_2 : tfld Tryz.prog 72 2 = some (2, 3) := by kernel_rfl
theorem fl72_3 : tfld Tryz.prog 72 3 = some (3, 26) := by kernel_rfl
theorem fl72_4 : tfld Tryz.prog 72 4 = some (35, 26) := by kernel_rfl
theorem fs72 : tflds Tryz.prog 72 = true := by kernel_rfl
theorem po72 : tpos Tryz.prog 72 = true := by kernel_rfl
theorem tq72 : teq Tryz.prog 72 = true := by kernel_rfl
theorem tc72 : tcmp Tryz.prog 72 = some [(0, 3), (1, 3), (2, 3), (3, 26), (35, 26)] := by kernel_rfl
def z72 : AV := .agg 67 [.val (.int .i64 0), .val (.int .i64 0), .val (.int .i64 0), .vec 1 (List.replicate 32 (.val (.int .u8 0))), .vec 1 (List.replicate 32 (.val (.int .u8 0)))]
theorem zo72 : ZeroOK Tryz.prog 72 z72 := ZeroOK.mk (.agg #[.int .i64 0, .int .i64 0, .int .i64 0, .int .u8 0, .int .u8 0, .int .u8 0, .int .u8 0, .int .u8 0, .int .u8 0, .int .u8 0, .int .u8 0, .int .u8 0, .int .u8 0, .int .u8 0, .int .u8 0, .int .u8 0, .int .u8 0, .int .u8 0, .int .u8 0, .int .u8 0, .int .u8 0, .int .u8 0, .int .u8 0, .int .u8 0, .int .u8 0, .int .u8 0, .int .u8 0, .int .u8 0, .int .u8 0, .int .u8 0, .int .u8 0, .int .u8 0, .int .u8 0, .int .u8 0, .int .u8 0, .int .u8 0, .int .u8 0, .int .u8 0, .int .u8 0, .int .u8 0, .int .u8 0, .int .u8 0, .int .u8 0, .int .u8 0, .int .u8 0, .int .u8 0, .int .u8 0, .int .u8 0, .int .u8 0, .int .u8 0, .int .u8 0, .int .u8 0, .int .u8 0, .int .u8 0, .int .u8 0, .int .u8 0, .int .u8 0, .int .u8 0, .int .u8 0, .int .u8 0, .int .u8 0, .int .u8 0, .int .u8 0, .int .u8 0, .int .u8 0, .int .u8 0, .int .u8 0]) (by kernel_rfl) (by kernel_rfl) (by kernel_rfl) (by kernel_rfl)
theorem sz74 : tsz Tryz.prog 74 = some 68 := by kernel_rfl
theorem by74 : tby Tryz.prog 74 = some 112 := by kernel_rfl
theorem ag74 : tagg Tryz.prog 74 = some true := by kernel_rfl
theorem sl74 : tsl Tryz.prog 74 = none := by kernel_rfl
theorem ar74 : tarr Tryz.prog 74 = none := by kernel_rfl
theorem pt74 : tptr Tryz.prog 74 = none := by kernel_rfl
theorem un74 : (Tryz.prog.underlying 74).isSome = true := by kernel_rfl
theorem fl74_0 : tfld Tryz.prog 74 0 = some (0, 72) := by kernel_rfl
theorem fl74_1 : tfld Tryz.prog 74 1 = some (67, 35) := by kernel_rfl
theorem fs74 : tflds Tryz.prog 74 = true := by kernel_rfl
theorem po74 : tpos Tryz.prog 74 = true := by kernel_rfl
def z74 : AV := .agg 68 [.agg 67 [.val (.int .i64 0), .val (.int .i64 0), .val (.int .i64 0), .vec 1 (List.replicate 32 (.val (.int .u8 0))), .vec 1 (List.replicate 32 (.val (.int .u8 0)))], .sl 1 [] 1]
theorem zo74 : ZeroOK Tryz.prog 74 z74 := ZeroOK.mk (.agg #[.int .i64 0, .int .i64 0, .int .i64 0, .int .u8 0, .int .u8 0, .int .u8 0, .int .u8 0, .int .u8 0, .int .u8 0, .int .u8 0, .int .u8 0, .int .u8 0, .int .u8 0, .int .u8 0, .int .u8 0, .int .u8 0, .int .u8 0, .int .u8 0, .int .u8 0, .int .u8 0, .int .u8 0, .int .u8 0, .int .u8 0, .int .u8 0, .int .u8 0, .int .u8 0, .int .u8 0, .int .u8 0, .int .u8 0, .int .u8 0, .int .u8 0, .int .u8 0, .int .u8 0, .int .u8 0, .int .u8 0, .int .u8 0, .int .u8 0, .int .u8 0, .int .u8 0, .int .u8 0, .int .u8 0, .int .u8 0, .int .u8 0, .int .u8 0, .int .u8 0, .int .u8 0, .int .u8 0, .int .u8 0, .int .u8 0, .int .u8 0, .int .u8 0, .int .u8 0, .int .u8 0, .int .u8 0, .int .u8 0, .int .u8 0, .int .u8 0, .int .u8 0, .int .u8 0, .int .u8 0, .int .u8 0, .int .u8 0, .int .u8 0, .int .u8 0, .int .u8 0, .int .u8 0, .int .u8 0, .slice none 0 0]) (by kernel_rfl) (by kernel_rfl) (by kernel_rfl) (by kernel_rfl)
theorem sz76 : tsz Tryz.prog 76 = some 274 := by kernel_rfl
theorem by76 : tby Tryz.prog 76 = some 432 := by kernel_rfl
theorem ag76 : tagg Tryz.prog 76 = some true := by kernel_rfl
theorem sl76 : tsl Tryz.prog 76 = none := by kernel_rfl
theorem ar76 : tarr Tryz.prog 76 = none := by kernel_rfl
theorem pt76 : tptr Tryz.prog 76 = none := by kernel_rfl
theorem un76 : (Tryz.prog.underlying 76).isSome = true := by kernel_rfl
theorem fl76_0 : tfld Tryz.prog 76 0 = some (0, 3) := by kernel_rfl
theorem fl76_1 : tfld Tryz.prog 76 1 = some (1, 47) := by kernel_rfl
theorem fl76_2 : tfld Tryz.prog 76 2 = some (40, 68) := by kernel_rfl
theorem fl76_3 : tfld Tryz.prog 76 3 = some (107, 70) := by kernel_rfl
theorem fl76_4 : tfld Tryz.prog 76 4 = some (140, 26) := by kernel_rfl
theorem fl76_5 : tfld Tryz.prog 76 5 = some (172, 3) := by kernel_rfl
theorem fl76_6 : tfld Tryz.prog 76 6 = some (173, 26) := by kernel_rfl
theorem fl76_7 : tfld Tryz.prog 76 7 = some (205, 74) := by kernel_rfl
theorem fl76_8 : tfld Tryz.prog 76 8 = some (273, 35) := by kernel_rfl
theorem fs76 : tflds Tryz.prog 76 = true := by kernel_rfl
theorem po76 : tpos Tryz.prog 76 = true := by kernel_rfl
def z76 : AV := .agg 274 [.val (.int .i64 0), .agg 39 [.val (.int .i64 0), .val (.int .i64 0), .val (.int .i64 0), .agg 33 [.vec 1 (List.replicate 32 (.val (.int .u8 0))), .val (.int .i64 0)], .val (.int .i64 0), .val (.int .i64 0), .val (.int .i64 0)], .agg 67 [.val (.int .i64 0), .val (.int .i64 0), .val (.int .i64 0), .vec 32 (List.replicate 2 (.vec 1 (List.replicate 32 (.val (.int .u8 0)))))], .agg 33 [.val (.int .i64 0), .vec 1 (List.replicate 32 (.val (.int .u8 0)))], .vec 1 (List.replicate 32 (.val (.int .u8 0))), .val (.int .i64 0), .vec 1 (List.replicate 32 (.val (.int .u8 0))), .agg 68 [.agg 67 [.val (.int .i64 0), .val (.int .i64 0), .val (.int .i64 0), .vec 1 (List.replicate 32 (.val (.int .u8 0))), .vec 1 (List.replicate 32 (.val (.int .u8 0)))], .sl 1 [] 1], .sl 1 [] 1]
theorem zo76 : ZeroOK Tryz.prog 76 z76 := ZeroOK.mk (.agg #[.int .i64 0, .int .i64 0, .int .i64 0, .int .i64 0, .int .u8 0, .int .u8 0, .int .u8 0, .int .u8 0, .int .u8 0, .int .u8 0, .int .u8 0, .int .u8 0, .int .u8 0, .int .u8 0, .int .u8 0, .int .u8 0, .int .u8 0, .int .u8 0, .int .u8 0, .int .u8 0, .int .u8 0, .int .u8 0, .int .u8 0, .int .u8 0, .int .u8 0, .int .u8 0, .int .u8 0, .int .u8 0, .int .u8 0, .int .u8 0, .int .u8 0, .int .u8 0, .int .u8 0, .int .u8 0, .int .u8 0, .int .u8 0, .int .i64 0, .int .i64 0, .int .i64 0, .int .i64 0, .int .i64 0, .int .i64 0, .int .i64 0, .int .u8 0, .int .u8 0, .int .u8 0, .int .u8 0, .int .u8 0, .int .u8 0, .int .u8 0, .int .u8 0, .int .u8 0, .int .u8 0, .int .u8 0, .int .u8 0, .int .u8 0, .int .u8 0, .int .u8 0, .int .u8 0, .int .u8 0, .int .u8 0, .int .u8 0, .int .u8 0, .int .u8 0, .int .u8 0, .int .u8 0, .int .u8 0, .int .u8 0, .int .u8 0, .int .u8 0, .int .u8 0, .int .u8 0, .int .u8 0, .int .u8 0, .int .u8 0, .int .u8 0, .int .u8 0, .int .u8 0, .int .u8 0, .int .u8 0, .int .u8 0, .int .u8 0, .int .u8 0, .int .u8 0, .int .u8 0, .int .u8 0, .int .u8 0, .int .u8 0, .int .u8 0, .int .u8 0, .int .u8 0, .int .u8 0, .int .u8 0, .int .u8 0, .int .u8 0, .int .u8 0, .int .u8 0, .int .u8 0, .int .u8 0, .int .u8 0, .int .u8 0, .int .u8 0, .int .u8 0, .int .u8 0, .int .u8 0, .int .u8 0, .int .u8 0, .int .i64 0, .int .u8 0, .int .u8 0, .int .u8 0, .int .u8 0, .int .u8 0, .int .u8 0, .int .u8 0, .int .u8 0, .int .u8 0, .int .u8 0, .int .u8 0, .int .u8 0, .int .u8 0, .int .u8 0, .int .u8 0, .int .u8 0, .int .u8 0, .int .u8 0, .int .u8 0, .int .u8 0, .int .u8 0, .int .u8 0, .int .u8 0, .int .u8 0, .int .u8 0, .int .u8 0, .int .u8 0, .int .u8 0, .int .u8 0, .int .u8 0, .int .u8 0, .int .u8 0, .int .u8 0, .int .u8 0, .int .u8 0, .int .u8 0, .int .u8 0, .int .u8 0, .int .u8 0, .int .u8 0, .int .u8 0, .int .u8 0, .int .u8 0, .int .u8 0, .int .u8 0, .int .u8 0, .int .u8 0, .int .u8 0, .int .u8 0, .int .u8 0, .int .u8 0, .int .u8 0, .int .u8 0, .int .u8 0, .int .u8 0, .int .u8 0, .int .u8 0, .int .u8 0, .int .u8 0, .int .u8 0, .int .u8 0, .int .u8 0, .int .u8 0, .int .u8 0, .int .i64 0, .int .u8 0, .int .u8 0, .int .u8 0, .int .u8 0, .int .u8 0, .int .u8 0, .int .u8 0, .int .u8 0, .int .u8 0, .int .u8 0, .int .u8 0, .int .u8 0, .int .u8 0, .int .u8 0, .int .u8 0, .int .u8 0, .int .u8 0, .int .u8 0, .int .u8 0, .int .u8 0, .int .u8 0, .int .u8 0, .int .u8 0, .int .u8 0, .int .u8 0, .int .u8 0, .int .u8 0, .int .u8 0, .int .u8 0, .int .u8 0, .int .u8 0, .int .u8 0, .int .i64 0, .int .i64 0, .int .i64 0, .int .u8 0, .int .u8 0, .int .u8 0, .int .u8 0, .int .u8 0, .int .u8 0, .int .u8 0, .int .u8 0, .int .u8 0, .int .u8 0, .int .u8 0, .int .u8 0, .int .u8 0, .int .u8 0, .int .u8 0, .int .u8 0, .int .u8 0, .int .u8 0, .int .u8 0, .int .u8 0, .int .u8 0, .int .u8 0, .int .u8 0, .int .u8 0, .int .u8 0, .int .u8 0, .int .u8 0, .int .u8 0, .int .u8 0, .int .u8 0, .int .u8 0, .int .u8 0, .int .u8 0, .int .u8 0, .int .u8 0, .int .u8 0, .int .u8 0, .int .u8 0, .int .u8 0, .int .u8 0, .int .u8 0, .int .u8 0, .int .u8 0, .int .u8 0, .int .u8 0, .int .u8 0, .int .u8 0, .int .u8 0, .int .u8 0, .int .u8 0, .int .u8 0, .int .u8 0, .int .u8 0, .int .u8 0, .int .u8 0, .int .u8 0, .int .u8 0, .int .u8 0, .int .u8 0, .int .u8 0, .int .u8 0, .int .u8 0, .int .u8 0, .int .u8 0, .slice none 0 0, .slice none 0 0]) (by kernel_rfl) (by kernel_rfl) (by kernel_rfl) (by kernel_rfl)
theorem sz84 : tsz Tryz.prog 84 = some 1 := by kernel_rfl
theorem by84 : tby Tryz.prog 84 = some 24 := by kernel_rfl
theorem ag84 : tagg Tryz.prog 84 = some false := by kernel_rfl
theorem sl84 : tsl Tryz.prog 84 = some 68 := by kernel_rfl
theorem ar84 : tarr Tryz.prog 84 = none := by kernel_rfl
theorem pt84 : tptr Tryz.prog 84 = none := by kernel_rfl
theorem un84 : (Tryz.prog.underlying 84).isSome = true := by kernel_rfl
theorem po84 : tpos Tryz.prog 84 = true := by kernel_rfl
def z84 : AV := .sl 67 [] 1
theorem zo84 : ZeroOK Tryz.prog 84 z84 := ZeroOK.mk (.slice none 0 0) (by kernel_rfl) (by kernel_rfl) (by kernel_rfl) (by kernel_rfl)
theorem sz86 : tsz Tryz.prog 86 = some 1 := by kernel_rfl
theorem by86 : tby Tryz.prog 86 = some 24 := by kernel_rfl
theorem ag86 : tagg Tryz.prog 86 = some true := by kernel_rfl
theorem sl86 : tsl Tryz.prog 86 = none := by kernel_rfl
theorem ar86 : tarr Tryz.prog 86 = none := by kernel_rfl
theorem pt86 : tptr Tryz.prog 86 = none := by kernel_rfl
theorem un86 : (Tryz.prog.underlying 86).isSome = true := by kernel_rfl
theorem fl86_0 : tfld Tryz.prog 86 0 = some (0, 55) := by kernel_rfl
theorem fs86 : tflds Tryz.prog 86 = true := by kernel_rfl
theorem po86 : tpos Tryz.prog 86 = true := by kernel_rfl
def z86 : AV := .agg 1 [.sl 32 [] 1]
theorem zo86 : ZeroOK Tryz.prog 86 z86 := ZeroOK.mk (.agg #[.slice none 0 0]) (by kernel_rfl) (by kernel_rfl) (by kernel_rfl) (by kernel_rfl)
theorem sz87 : tsz Tryz.prog 87 = some 1 := by kernel_rfl
theorem by87 : tby Tryz.prog 87 = some 24 := by kernel_rfl
theorem ag87 : tagg Tryz.prog 87 = some false := by kernel_rfl
theorem sl87 : tsl Tryz.prog 87 = some 176 := by kernel_rfl
theorem ar87 : tarr Tryz.prog 87 = none := by kernel_rfl
theorem pt87 : tptr Tryz.prog 87 = none := by kernel_rfl
theorem un87 : (Tryz.prog.underlying 87).isSome = true := by kernel_rfl
theorem po87 : tpos Tryz.prog 87 = true := by kernel_rfl
def z87 : AV := .sl 69 [] 1
theorem zo87 : ZeroOK Tryz.prog 87 z87 := ZeroOK.mk (.slice none 0 0) (by kernel_rfl) (by kernel_rfl) (by kernel_rfl) (by kernel_rfl)
theorem sz88 : tsz Tryz.prog 88 = some 1 := by kernel_rfl
theorem by88 : tby Tryz.prog 88 = some 8 := by kernel_rfl
theorem ag88 : tagg Tryz.prog 88 = some false := by kernel_rfl
theorem sl88 : tsl Tryz.prog 88 = none := by kernel_rfl
theorem ar88 : tarr Tryz.prog 88 = none := by kernel_rfl
theorem pt88 : tptr Tryz.prog 88 = none := by kernel_rfl
theorem mp88 : tmap Tryz.prog 88 = some (3, 26) := by kernel_rfl
theorem un88 : (Tryz.prog.underlying 88).isSome = true := by kernel_rfl
theorem po88 : tpos Tryz.prog 88 = true := by kernel_rfl
def z88 : AV := .val (.map none)
theorem zo88 : ZeroOK Tryz.prog 88 z88 := ZeroOK.mk (.map none) (by kernel_rfl) (by kernel_rfl) (by kernel_rfl) (by kernel_rfl)
theorem sz90 : tsz Tryz.prog 90 = some 47 := by kernel_rfl
theorem by90 : tby Tryz.prog 90 = some 216 := by kernel_rfl
theorem ag90 : tagg Tryz.prog 90 = some true := by kernel_rfl
theorem sl90 : tsl Tryz.prog 90 = none := by kernel_rfl
theorem ar90 : tarr Tryz.prog 90 = none := by kernel_rfl
theorem pt90 : tptr Tryz.prog 90 = none := by kernel_rfl
theorem un90 : (Tryz.prog.underlying 90).isSome = true := by kernel_rfl
theorem fl90_0 : tfld Tryz.prog 90 0 = some (0, 47) := by kernel_rfl
theorem fl90_1 : tfld Tryz.prog 90 1 = some (39, 4) := by kernel_rfl
theorem fl90_2 : tfld Tryz.prog 90 2 = some (40, 84) := by kernel_rfl
theorem fl90_3 : tfld Tryz.prog 90 3 = some (41, 38) := by kernel_rfl
theorem fl90_4 : tfld Tryz.prog 90 4 = some (42, 86) := by kernel_rfl
theorem fl90_5 : tfld Tryz.prog 90 5 = some (43, 3) := by kernel_rfl
theorem fl90_6 : tfld Tryz.prog 90 6 = some (44, 87) := by kernel_rfl
theorem fl90_7 : tfld Tryz.prog 90 7 = some (45, 88) := by kernel_rfl
theorem fl90_8 : tfld Tryz.prog 90 8 = some (46, 4) := by kernel_rfl
theorem fs90 : tflds Tryz.prog 90 = true := by kernel_rfl
theorem po90 : tpos Tryz.prog 90 = true := by kernel_rfl
def z90 : AV := .agg 47 [.agg 39 [.val (.int .i64 0), .val (.int .i64 0), .val (.int .i64 0), .agg 33 [.vec 1 (List.replicate 32 (.val (.int .u8 0))), .val (.int .i64 0)], .val (.int .i64 0), .val (.int .i64 0), .val (.int .i64 0)], .val (.bool false), .sl 67 [] 1, .sl 33 [] 1, .agg 1 [.sl 32 [] 1], .val (.int .i64 0), .sl 69 [] 1, .val (.map none), .val (.bool false)]
theorem zo90 : ZeroOK Tryz.prog 90 z90 := ZeroOK.mk (.agg #[.int .i64 0, .int .i64 0, .int .i64 0, .int .u8 0, .int .u8 0, .int .u8 0, .int .u8 0, .int .u8 0, .int .u8 0, .int .u8 0, .int .u8 0, .int .u8 0, .int .u8 0, .int .u8 0, .int .u8 0, .int .u8 0, .int .u8 0, .int .u8 0, .int .u8 0, .int .u8 0, .int .u8 0, .int .u8 0, .int .u8 0, .int .u8 0, .int .u8 0, .int .u8 0, .int .u8 0, .int .u8 0, .int .u8 0, .int .u8 0, .int .u8 0, .int .u8 0, .int .u8 0, .int .u8 0, .int .u8 0, .int .i64 0, .int .i64 0, .int .i64 0, .int .i64 0, .bool false, .slice none 0 0, .slice none 0 0, .slice none 0 0, .int .i64 0, .slice none 0 0, .map none, .bool false]) (by kernel_rfl) (by kernel_rfl) (by kernel_rfl) (by kernel_rfl)
theorem sz91 : tsz Tryz.prog 91 = some 1 := by kernel_rfl
theorem by91 : tby Tryz.prog 91 = some 8 := by kernel_rfl
theorem ag91 : tagg Tryz.prog 91 = some false := by kernel_rfl
theorem sl91 : tsl Tryz.prog 91 = none := by kernel_rfl
theorem ar91 : tarr Tryz.prog 91 = none := by kernel_rfl
theorem pt91 : tptr Tryz.prog 91 = some 183 := by kernel_rfl
theorem un91 : (Tryz.prog.underlying 91).isSome = true := by kernel_rfl
theorem po91 : tpos Tryz.prog 91 = true := by kernel_rfl
def z91 : AV := .val (.pointer none)
theorem zo91 : ZeroOK Tryz.prog 91 z91 := ZeroOK.mk (.pointer none) (by kernel_rfl) (by kernel_rfl) (by kernel_rfl) (by kernel_rfl)
theorem sz92 : tsz Tryz.prog 92 = some 1 := by kernel_rfl
theorem by92 : tby Tryz.prog 92 = some 8 := by kernel_rfl
theorem ag92 : tagg Tryz.prog 92 = some false := by kernel_rfl
theorem sl92 : tsl Tryz.prog 92 = none := by kernel_rfl
theorem ar92 : tarr Tryz.prog 92 = none := by kernel_rfl
theorem pt92 : tptr Tryz.prog 92 = some 187 := by kernel_rfl
theorem un92 : (Tryz.prog.underlying 92).isSome = true := by kernel_rfl
theorem po92 : tpos Tryz.prog 92 = true := by kernel_rfl
def z92 : AV := .val (.pointer none)
theorem zo92 : ZeroOK Tryz.prog 92 z92 := ZeroOK.mk (.pointer none) (by kernel_rfl) (by kernel_rfl) (by kernel_rfl) (by kernel_rfl)
theorem sz93 : tsz Tryz.prog 93 = some 1 := by kernel_rfl
theorem by93 : tby Tryz.prog 93 = some 8 := by kernel_rfl
theorem ag93 : tagg Tryz.prog 93 = some false := by kernel_rfl
theorem sl93 : tsl Tryz.prog 93 = none := by kernel_rfl
theorem ar93 : tarr Tryz.prog 93 = none := by kernel_rfl
theorem pt93 : tptr Tryz.prog 93 = none := by kernel_rfl
theorem mp93 : tmap Tryz.prog 93 = some (26, 51) := by kernel_rfl
theorem un93 : (Tryz.prog.underlying 93).isSome = true := by kernel_rfl
theorem po93 : tpos Tryz.prog 93 = true := by kernel_rfl
def z93 : AV := .val (.map none)
theorem zo93 : ZeroOK Tryz.prog 93 z93 := ZeroOK.mk (.map none) (by kernel_rfl) (by kernel_rfl) (by kernel_rfl) (by kernel_rfl)
theorem sz94 : tsz Tryz.prog 94 = some 1 := by kernel_rfl
theorem by94 : tby Tryz.prog 94 = some 8 := by kernel_rfl
theorem ag94 : tagg Tryz.prog 94 = some false := by kernel_rfl
theorem sl94 : tsl Tryz.prog 94 = none := by kernel_rfl
theorem ar94 : tarr Tryz.prog 94 = none := by kernel_rfl
theorem pt94 : tptr Tryz.prog 94 = none := by kernel_rfl
theorem mp94 : tmap Tryz.prog 94 = some (45, 133) := by kernel_rfl
theorem un94 : (Tryz.prog.underlying 94).isSome = true := by kernel_rfl
theorem po94 : tpos Tryz.prog 94 = true := by kernel_rfl
def z94 : AV := .val (.map none)
theorem zo94 : ZeroOK Tryz.prog 94 z94 := ZeroOK.mk (.map none) (by kernel_rfl) (by kernel_rfl) (by kernel_rfl) (by kernel_rfl)
theorem sz96 : tsz Tryz.prog 96 = some 6 := by kernel_rfl
theorem by96 : tby Tryz.prog 96 = some 64 := by kernel_rfl
theorem ag96 : tagg Tryz.prog 96 = some true := by kernel_rfl
theorem sl96 : tsl Tryz.prog 96 = none := by kernel_rfl
theorem ar96 : tarr Tryz.prog 96 = none := by kernel_rfl
theorem pt96 : tptr Tryz.prog 96 = none := by kernel_rfl
theorem un96 : (Tryz.prog.underlying 96).isSome = true := by kernel_rfl
theorem fl96_0 : tfld Tryz.prog 96 0 = some (0, 91) := by kernel_rfl
theorem fl96_1 : tfld Tryz.prog 96 1 = some (1, 92) := by kernel_rfl
theorem fl96_2 : tfld Tryz.prog 96 2 = some (2, 93) := by kernel_rfl
theorem fl96_3 : tfld Tryz.prog 96 3 = some (3, 94) := by kernel_rfl
theorem fl96_4 : tfld Tryz.prog 96 4 = some (4, 55) := by kernel_rfl
theorem fl96_5 : tfld Tryz.prog 96 5 = some (5, 2) := by kernel_rfl
theorem fs96 : tflds Tryz.prog 96 = true := by kernel_rfl
theorem po96 : tpos Tryz.prog 96 = true := by kernel_rfl
def z96 : AV := .agg 6 [.val (.pointer none), .val (.pointer none), .val (.map none), .val (.map none), .sl 32 [] 1, .val (.int .i64 0)]
theorem zo96 : ZeroOK Tryz.prog 96 z96 := ZeroOK.mk (.agg #[.pointer none, .pointer none, .map none, .map none, .slice none 0 0, .int .i64 0]) (by kernel_rfl) (by kernel_rfl) (by kernel_rfl) (by kernel_rfl)
theorem sz99 : tsz Tryz.prog 99 = some 1 := by kernel_rfl
theorem by99 : tby Tryz.prog 99 = some 24 := by kernel_rfl
theorem ag99 : tagg Tryz.prog 99 = some false := by kernel_rfl
theorem sl99 : tsl Tryz.prog 99 = some 3 := by kernel_rfl
theorem ar99 : tarr Tryz.prog 99 = none := by kernel_rfl
theorem pt99 : tptr Tryz.prog 99 = none := by kernel_rfl
theorem un99 : (Tryz.prog.underlying 99).isSome = true := by kernel_rfl
theorem po99 : tpos Tryz.prog 99 = true := by kernel_rfl
def z99 : AV := .sl 1 [] 1
theorem zo99 : ZeroOK Tryz.prog 99 z99 := ZeroOK.mk (.slice none 0 0) (by kernel_rfl) (by kernel_rfl) (by kernel_rfl) (by kernel_rfl)
theorem sz101 : tsz Tryz.prog 101 = some 35 := by kernel_rfl
theorem by101 : tby Tryz.prog 101 = some 72 := by kernel_rfl
theorem ag101 : tagg Tryz.prog 101 = some true := by kernel_rfl
theorem sl101 : tsl Tryz.prog 101 = none := by kernel_rfl
theorem ar101 : tarr Tryz.prog 101 = none := by kernel_rfl
theorem pt101 : tptr Tryz.prog 101 = none := by kernel_rfl
theorem un101 : (Tryz.prog.underlying 101).isSome = true := by kernel_rfl
theorem fl101_0 : tfld Tryz.prog 101 0 = some (0, 99) := by kernel_rfl
theorem fl101_1 : tfld Tryz.prog 101 1 = some (1, 26) := by kernel_rfl
theorem fl101_2 : tfld Tryz.prog 101 2 = some (33, 3) := by kernel_rfl
theorem fl101_3 : tfld Tryz.prog 101 3 = some (34, 3) := by kernel_rfl
theorem fs101 : tflds Tryz.prog 101 = true := by kernel_rfl
theorem po101 : tpos Tryz.prog 101 = true := by kernel_rfl
def z101 : AV := .agg 35 [.sl 1 [] 1, .vec 1 (List.replicate 32 (.val (.int .u8 0))), .val (.int .i64 0), .val (.int .i64 0)]
theorem zo101 : ZeroOK Tryz.prog 101 z101 := ZeroOK.mk (.agg #[.slice none 0 0, .int .u8 0, .int .u8 0, .int .u8 0, .int .u8 0, .int .u8 0, .int .u8 0, .int .u8 0, .int .u8 0, .int .u8 0, .int .u8 0, .int .u8 0, .int .u8 0, .int .u8 0, .int .u8 0, .int .u8 0, .int .u8 0, .int .u8 0, .int .u8 0, .int .u8 0, .int .u8 0, .int .u8 0, .int .u8 0, .int .u8 0, .int .u8 0, .int .u8 0, .int .u8 0, .int .u8 0, .int .u8 0, .int .u8 0, .int .u8 0, .int .u8 0, .int .u8 0, .int .i64 0, .int .i64 0]) (by kernel_rfl) (by kernel_rfl) (by kernel_rfl) (by kernel_rfl)
theorem sz102 : tsz Tryz.prog 102 = some 1 := by kernel_rfl
theorem by102 : tby Tryz.prog 102 = some 24 := by kernel_rfl
theorem ag102 : tagg Tryz.prog 102 = some false := by kernel_rfl
theorem sl102 : tsl Tryz.prog 102 = some 101 := by kernel_rfl
theorem ar102 : tarr Tryz.prog 102 = none := by kernel_rfl
theorem pt102 : tptr Tryz.prog 102 = none := by kernel_rfl
theorem un102 : (Tryz.prog.underlying 102).isSome = true := by kernel_rfl
theorem po102 : tpos Tryz.prog 102 = true := by kernel_rfl
def z102 : AV := .sl 35 [] 1
theorem zo102 : ZeroOK Tryz.prog 102 z102 := ZeroOK.mk (.slice none 0 0) (by kernel_rfl) (by kernel_rfl) (by kernel_rfl) (by kernel_rfl)
theorem sz104 : tsz Tryz.prog 104 = some 2 := by kernel_rfl
theorem by104 : tby Tryz.prog 104 = some 32 := by kernel_rfl
theorem ag104 : tagg Tryz.prog 104 = some true := by kernel_rfl
theorem sl104 : tsl Tryz.prog 104 = none := by kernel_rfl
theorem ar104 : tarr Tryz.prog 104 = none := by kernel_rfl
theorem pt104 : tptr Tryz.prog 104 = none := by kernel_rfl
theorem un104 : (Tryz.prog.underlying 104).isSome = true := by kernel_rfl
theorem fl104_0 : tfld Tryz.prog 104 0 = some (0, 2) := by kernel_rfl
theorem fl104_1 : tfld Tryz.prog 104 1 = some (1, 102) := by kernel_rfl
theorem fs104 : tflds Tryz.prog 104 = true := by kernel_rfl
theorem po104 : tpos Tryz.prog 104 = true := by kernel_rfl
def z104 : AV := .agg 2 [.val (.int .i64 0), .sl 35 [] 1]
theorem zo104 : ZeroOK Tryz.prog 104 z104 := ZeroOK.mk (.agg #[.int .i64 0, .slice none 0 0]) (by kernel_rfl) (by kernel_rfl) (by kernel_rfl) (by kernel_rfl)
theorem sz109 : tsz Tryz.prog 109 = some 35 := by kernel_rfl
theorem by109 : tby Tryz.prog 109 = some 72 := by kernel_rfl
theorem ag109 : tagg Tryz.prog 109 = some true := by kernel_rfl
theorem sl109 : tsl Tryz.prog 109 = none := by kernel_rfl
theorem ar109 : tarr Tryz.prog 109 = none := by kernel_rfl
theorem pt109 : tptr Tryz.prog 109 = none := by kernel_rfl
theorem un109 : (Tryz.prog.underlying 109).isSome = true := by kernel_rfl
theorem fl109_0 : tfld Tryz.prog 109 0 = some (0, 45) := by kernel_rfl
theorem fl109_1 : tfld Tryz.prog 109 1 = some (33, 3) := by kernel_rfl
theorem fl109_2 : tfld Tryz.prog 109 2 = some (34, 35) := by kernel_rfl
theorem fs109 : tflds Tryz.prog 109 = true := by kernel_rfl
theorem po109 : tpos Tryz.prog 109 = true := by kernel_rfl
def z109 : AV := .agg 35 [.agg 33 [.vec 1 (List.replicate 32 (.val (.int .u8 0))), .val (.int .i64 0)], .val (.int .i64 0), .sl 1 [] 1]
theorem zo109 : ZeroOK Tryz.prog 109 z109 := ZeroOK.mk (.agg #[.int .u8 0, .int .u8 0, .int .u8 0, .int .u8 0, .int .u8 0, .int .u8 0, .int .u8 0, .int .u8 0, .int .u8 0, .int .u8 0, .int .u8 0, .int .u8 0, .int .u8 0, .int .u8 0, .int .u8 0, .int .u8 0, .int .u8 0, .int .u8 0, .int .u8 0, .int .u8 0, .int .u8 0, .int .u8 0, .int .u8 0, .int .u8 0, .int .u8 0, .int .u8 0, .int .u8 0, .int .u8 0, .int .u8 0, .int .u8 0, .int .u8 0, .int .u8 0, .int .i64 0, .int .i64 0, .slice none 0 0]) (by kernel_rfl) (by kernel_rfl) (by kernel_rfl) (by kernel_rfl)
theorem sz116 : tsz Tryz.prog 116 = some 1 := by kernel_rfl
theorem by116 : tby Tryz.prog 116 = some 8 := by kernel_rfl
theorem ag116 : tagg Tryz.prog 116 = some false := by kernel_rfl
theorem sl116 : tsl Tryz.prog 116 = none := by kernel_rfl
theorem ar116 : tarr Tryz.prog 116 = none := by kernel_rfl
theorem pt116 : tptr Tryz.prog 116 = none := by kernel_rfl
theorem un116 : (Tryz.prog.underlying 116).isSome = true := by kernel_rfl
theorem po116 : tpos Tryz.prog 116 = true := by kernel_rfl
def z116 : AV := .val .nilFunc
theorem zo116 : ZeroOK Tryz.prog 116 z116 := ZeroOK.mk (.nilFunc) (by kernel_rfl) (by kernel_rfl) (by kernel_rfl) (by kernel_rfl)
theorem sz126 : tsz Tryz.prog 126 = some 1 := by kernel_rfl
theorem by126 : tby Tryz.prog 126 = some 24 := by kernel_rfl
theorem ag126 : tagg Tryz.prog 126 = some false := by kernel_rfl
theorem sl126 : tsl Tryz.prog 126 = some 2 := by kernel_rfl
theorem ar126 : tarr Tryz.prog 126 = none := by kernel_rfl
theorem pt126 : tptr Tryz.prog 126 = none := by kernel_rfl
theorem un126 : (Tryz.prog.underlying 126).isSome = true := by kernel_rfl
theorem po126 : tpos Tryz.prog 126 = true := by kernel_rfl
def z126 : AV := .sl 1 [] 1
theorem zo126 : ZeroOK Tryz.prog 126 z126 := ZeroOK.mk (.slice none 0 0) (by kernel_rfl) (by kernel_rfl) (by kernel_rfl) (by kernel_rfl)
theorem sz129 : tsz Tryz.prog 129 = some 3 := by kernel_rfl
theorem by129 : tby Tryz.prog 129 = some 40 := by kernel_rfl
theorem ag129 : tagg Tryz.prog 129 = some true := by kernel_rfl
theorem sl129 : tsl Tryz.prog 129 = none := by kernel_rfl
theorem ar129 : tarr Tryz.prog 129 = none := by kernel_rfl
theorem pt129 : tptr Tryz.prog 129 = none := by kernel_rfl
theorem un129 : (Tryz.prog.underlying 129).isSome = true := by kernel_rfl
theorem fl129_0 : tfld Tryz.prog 129 0 = some (0, 104) := by kernel_rfl
theorem fl129_1 : tfld Tryz.prog 129 1 = some (2, 3) := by kernel_rfl
theorem fs129 : tflds Tryz.prog 129 = true := by kernel_rfl
theorem po129 : tpos Tryz.prog 129 = true := by kernel_rfl
def z129 : AV := .agg 3 [.agg 2 [.val (.int .i64 0), .sl 35 [] 1], .val (.int .i64 0)]
theorem zo129 : ZeroOK Tryz.prog 129 z129 := ZeroOK.mk (.agg #[.int .i64 0, .slice none 0 0, .int .i64 0]) (by kernel_rfl) (by kernel_rfl) (by kernel_rfl) (by kernel_rfl)
theorem sz133 : tsz Tryz.prog 133 = some 34 := by kernel_rfl
theorem by133 : tby Tryz.prog 133 = some 48 := by kernel_rfl
theorem ag133 : tagg Tryz.prog 133 = some true := by kernel_rfl
theorem sl133 : tsl Tryz.prog 133 = none := by kernel_rfl
theorem ar133 : tarr Tryz.prog 133 = none := by kernel_rfl
theorem pt133 : tptr Tryz.prog 133 = none := by kernel_rfl
theorem un133 : (Tryz.prog.underlying 133).isSome = true := by kernel_rfl
theorem fl133_0 : tfld Tryz.prog 133 0 = some (0, 26) := by kernel_rfl
theorem fl133_1 : tfld Tryz.prog 133 1 = some (32, 3) := by kernel_rfl
theorem fl133_2 : tfld Tryz.prog 133 2 = some (33, 3) := by kernel_rfl
theorem fs133 : tflds Tryz.prog 133 = true := by kernel_rfl
theorem po133 : tpos Tryz.prog 133 = true := by kernel_rfl
theorem tq133 : teq Tryz.prog 133 = true := by kernel_rfl
theorem tc133 : tcmp Tryz.prog 133 = some [(0, 26), (32, 3), (33, 3)] := by kernel_rfl
def z133 : AV := .agg 34 [.vec 1 (List.replicate 32 (.val (.int .u8 0))), .val (.int .i64 0), .val (.int .i64 0)]
theorem zo133 : ZeroOK Tryz.prog 133 z133 := ZeroOK.mk (.agg #[.int .u8 0, .int .u8 0, .int .u8 0, .int .u8 0, .int .u8 0, .int .u8 0, .int .u8 0, .int .u8 0, .int .u8 0, .int .u8 0, .int .u8 0, .int .u8 0, .int .u8 0, .int .u8 0, .int .u8 0, .int .u8 0, .int .u8 0, .int .u8 0, .int .u8 0, .int .u8 0, .int .u8 0, .int .u8 0, .int .u8 0, .int .u8 0, .int .u8 0, .int .u8 0, .int .u8 0, .int .u8 0, .int .u8 0, .int .u8 0, .int .u8 0, .int .u8 0, .int .i64 0, .int .i64 0]) (by kernel_rfl) (by kernel_rfl) (by kernel_rfl) (by kernel_rfl)
theorem sz145 : tsz Tryz.prog 145 = some 1 := by kernel_rfl
theorem by145 : tby Tryz.prog 145 = some 8 := by kernel_rfl
theorem ag145 : tagg Tryz.prog 145 = some false := by kernel_rfl
theorem sl145 : tsl Tryz.prog 145 = none := by kernel_rfl
theorem ar145 : tarr Tryz.prog 145 = none := by kernel_rfl
theorem pt145 : tptr Tryz.prog 145 = some 86 := by kernel_rfl
theorem un145 : (Tryz.prog.underlying 145).isSome = true := by kernel_rfl
theorem po145 : tpos Tryz.prog 145 = true := by kernel_rfl
def z145 : AV := .val (.pointer none)
theorem zo145 : ZeroOK Tryz.prog 145 z145 := ZeroOK.mk (.pointer none) (by kernel_rfl) (by kernel_rfl) (by kernel_rfl) (by kernel_rfl)
theorem sz146 : tsz Tryz.prog 146 = some 2 := by kernel_rfl
theorem by146 : tby Tryz.prog 146 = some 16 := by kernel_rfl
theorem ag146 : tagg Tryz.prog 146 = some true := by kernel_rfl
theorem sl146 : tsl Tryz.prog 146 = none := by kernel_rfl
theorem ar146 : tarr Tryz.prog 146 = some (2, 3) := by kernel_rfl
theorem pt146 : tptr Tryz.prog 146 = none := by kernel_rfl
theorem un146 : (Tryz.prog.underlying 146).isSome = true := by kernel_rfl
theorem po146 : tpos Tryz.prog 146 = true := by kernel_rfl
theorem tw146 : twide Tryz.prog 146 = true := by kernel_rfl
theorem tq146 : teq Tryz.prog 146 = true := by kernel_rfl
def z146 : AV := .vec 1 (List.replicate 2 (.val (.int .i64 0)))
theorem zo146 : ZeroOK Tryz.prog 146 z146 := ZeroOK.mk (.agg #[.int .i64 0, .int .i64 0]) (by kernel_rfl) (by kernel_rfl) (by kernel_rfl) (by kernel_rfl)
theorem sz153 : tsz Tryz.prog 153 = some 1 := by kernel_rfl
theorem by153 : tby Tryz.prog 153 = some 8 := by kernel_rfl
theorem ag153 : tagg Tryz.prog 153 = some false := by kernel_rfl
theorem sl153 : tsl Tryz.prog 153 = none := by kernel_rfl
theorem ar153 : tarr Tryz.prog 153 = none := by kernel_rfl
theorem pt153 : tptr Tryz.prog 153 = none := by kernel_rfl
theorem un153 : (Tryz.prog.underlying 153).isSome = true := by kernel_rfl
theorem po153 : tpos Tryz.prog 153 = true := by kernel_rfl
def z153 : AV := .val .nilFunc
theorem zo153 : ZeroOK Tryz.prog 153 z153 := ZeroOK.mk (.nilFunc) (by kernel_rfl) (by kernel_rfl) (by kernel_rfl) (by kernel_rfl)
theorem sz156 : tsz Tryz.prog 156 = some 1 := by kernel_rfl
theorem by156 : tby Tryz.prog 156 = some 8 := by kernel_rfl
theorem ag156 : tagg Tryz.prog 156 = some false := by kernel_rfl
theorem sl156 : tsl Tryz.prog 156 = none := by kernel_rfl
theorem ar156 : tarr Tryz.prog 156 = none := by kernel_rfl
theorem pt156 : tptr Tryz.prog 156 = none := by kernel_rfl
theorem un156 : (Tryz.prog.underlying 156).isSome = true := by kernel_rfl
theorem po156 : tpos Tryz.prog 156 = true := by kernel_rfl
def z156 : AV := .val .nilFunc
theorem zo156 : ZeroOK Tryz.prog 156 z156 := ZeroOK.mk (.nilFunc) (by kernel_rfl) (by kernel_rfl) (by kernel_rfl) (by kernel_rfl)
theorem sz161 : tsz Tryz.prog 161 = some 1 := by kernel_rfl
theorem by161 : tby Tryz.prog 161 = some 8 := by kernel_rfl
theorem ag161 : tagg Tryz.prog 161 = some false := by kernel_rfl
theorem sl161 : tsl Tryz.prog 161 = none := by kernel_rfl
theorem ar161 : tarr Tryz.prog 161 = none := by kernel_rfl
theorem pt161 : tptr Tryz.prog 161 = none := by kernel_rfl
theorem un161 : (Tryz.prog.underlying 161).isSome = true := by kernel_rfl
theorem po161 : tpos Tryz.prog 161 = true := by kernel_rfl
def z161 : AV := .val .nilFunc
theorem zo161 : ZeroOK Tryz.prog 161 z161 := ZeroOK.mk (.nilFunc) (by kernel_rfl) (by kernel_rfl) (by kernel_rfl) (by kernel_rfl)
theorem sz165 : tsz Tryz.prog 165 = some 1 := by kernel_rfl
theorem by165 : tby Tryz.prog 165 = some 24 := by kernel_rfl
theorem ag165 : tagg Tryz.prog 165 = some true := by kernel_rfl
theorem sl165 : tsl Tryz.prog 165 = none := by kernel_rfl
theorem ar165 : tarr Tryz.prog 165 = none := by kernel_rfl
theorem pt165 : tptr Tryz.prog 165 = none := by kernel_rfl
theorem un165 : (Tryz.prog.underlying 165).isSome = true := by kernel_rfl
theorem fl165_0 : tfld Tryz.prog 165 0 = some (0, 35) := by kernel_rfl
theorem fs165 : tflds Tryz.prog 165 = true := by kernel_rfl
theorem po165 : tpos Tryz.prog 165 = true := by kernel_rfl
def z165 : AV := .agg 1 [.sl 1 [] 1]
theorem zo165 : ZeroOK Tryz.prog 165 z165 := ZeroOK.mk (.agg #[.slice none 0 0]) (by kernel_rfl) (by kernel_rfl) (by kernel_rfl) (by kernel_rfl)
theorem sz167 : tsz Tryz.prog 167 = some 1 := by kernel_rfl
theorem by167 : tby Tryz.prog 167 = some 8 := by kernel_rfl
theorem ag167 : tagg Tryz.prog 167 = some false := by kernel_rfl
theorem sl167 : tsl Tryz.prog 167 = none := by kernel_rfl
theorem ar167 : tarr Tryz.prog 167 = none := by kernel_rfl
theorem pt167 : tptr Tryz.prog 167 = some 165 := by kernel_rfl
theorem un167 : (Tryz.prog.underlying 167).isSome = true := by kernel_rfl
theorem po167 : tpos Tryz.prog 167 = true := by kernel_rfl
def z167 : AV := .val (.pointer none)
theorem zo167 : ZeroOK Tryz.prog 167 z167 := ZeroOK.mk (.pointer none) (by kernel_rfl) (by kernel_rfl) (by kernel_rfl) (by kernel_rfl)
theorem sz176 : tsz Tryz.prog 176 = some 69 := by kernel_rfl
theorem by176 : tby Tryz.prog 176 = some 136 := by kernel_rfl
theorem ag176 : tagg Tryz.prog 176 = some true := by kernel_rfl
theorem sl176 : tsl Tryz.prog 176 = none := by kernel_rfl
theorem ar176 : tarr Tryz.prog 176 = none := by kernel_rfl
theorem pt176 : tptr Tryz.prog 176 = none := by kernel_rfl
theorem un176 : (Tryz.prog.underlying 176).isSome = true := by kernel_rfl
theorem fl176_0 : tfld Tryz.prog 176 0 = some (0, 74) := by kernel_rfl
theorem fl176_1 : tfld Tryz.prog 176 1 = some (68, 35) := by kernel_rfl
theorem fs176 : tflds Tryz.prog 176 = true := by kernel_rfl
theorem po176 : tpos Tryz.prog 176 = true := by kernel_rfl
def z176 : AV := .agg 69 [.agg 68 [.agg 67 [.val (.int .i64 0), .val (.int .i64 0), .val (.int .i64 0), .vec 1 (List.replicate 32 (.val (.int .u8 0))), .vec 1 (List.replicate 32 (.val (.int .u8 0)))], .sl 1 [] 1], .sl 1 [] 1]
theorem zo176 : ZeroOK Tryz.prog 176 z176 := ZeroOK.mk (.agg #[.int .i64 0, .int .i64 0, .int .i64 0, .int .u8 0, .int .u8 0, .int .u8 0, .int .u8 0, .int .u8 0, .int .u8 0, .int .u8 0, .int .u8 0, .int .u8 0, .int .u8 0, .int .u8 0, .int .u8 0, .int .u8 0, .int .u8 0, .int .u8 0, .int .u8 0, .int .u8 0, .int .u8 0, .int .u8 0, .int .u8 0, .int .u8 0, .int .u8 0, .int .u8 0, .int .u8 0, .int .u8 0, .int .u8 0, .int .u8 0, .int .u8 0, .int .u8 0, .int .u8 0, .int .u8 0, .int .u8 0, .int .u8 0, .int .u8 0, .int .u8 0, .int .u8 0, .int .u8 0, .int .u8 0, .int .u8 0, .int .u8 0, .int .u8 0, .int .u8 0, .int .u8 0, .int .u8 0, .int .u8 0, .int .u8 0, .int .u8 0, .int .u8 0, .int .u8 0, .int .u8 0, .int .u8 0, .int .u8 0, .int .u8 0, .int .u8 0, .int .u8 0, .int .u8 0, .int .u8 0, .int .u8 0, .int .u8 0, .int .u8 0, .int .u8 0, .int .u8 0, .int .u8 0, .int .u8 0, .slice none 0 0, .slice none 0 0]) (by kernel_rfl) (by kernel_rfl) (by kernel_rfl) (by kernel_rfl)
theorem sz177 : tsz Tryz.prog 177 = some 1 := by kernel_rfl
theorem by177 : tby Tryz.prog 177 = some 8 := by kernel_rfl
theorem ag177 : tagg Tryz.prog 177 = some false := by kernel_rfl
theorem sl177 : tsl Tryz.prog 177 = none := by kernel_rfl
theorem ar177 : tarr Tryz.prog 177 = none := by kernel_rfl
theorem pt177 : tptr Tryz.prog 177 = none := by kernel_rfl
theorem un177 : (Tryz.prog.underlying 177).isSome = true := by kernel_rfl
theorem po177 : tpos Tryz.prog 177 = true := by kernel_rfl
def z177 : AV := .val .nilFunc
theorem zo177 : ZeroOK Tryz.prog 177 z177 := ZeroOK.mk (.nilFunc) (by kernel_rfl) (by kernel_rfl) (by kernel_rfl) (by kernel_rfl)
theorem sz180 : tsz Tryz.prog 180 = some 1 := by kernel_rfl
theorem by180 : tby Tryz.prog 180 = some 8 := by kernel_rfl
theorem ag180 : tagg Tryz.prog 180 = some false := by kernel_rfl
theorem sl180 : tsl Tryz.prog 180 = none := by kernel_rfl
theorem ar180 : tarr Tryz.prog 180 = none := by kernel_rfl
theorem pt180 : tptr Tryz.prog 180 = none := by kernel_rfl
theorem un180 : (Tryz.prog.underlying 180).isSome = true := by kernel_rfl
theorem po180 : tpos Tryz.prog 180 = true := by kernel_rfl
def z180 : AV := .val .nilFunc
theorem zo180 : ZeroOK Tryz.prog 180 z180 := ZeroOK.mk (.nilFunc) (by kernel_rfl) (by kernel_rfl) (by kernel_rfl) (by kernel_rfl)
theorem sz181 : tsz Tryz.prog 181 = some 1 := by kernel_rfl
theorem by181 : tby Tryz.prog 181 = some 8 := by kernel_rfl
theorem ag181 : tagg Tryz.prog 181 = some false := by kernel_rfl
theorem sl181 : tsl Tryz.prog 181 = none := by kernel_rfl
theorem ar181 : tarr Tryz.prog 181 = none := by kernel_rfl
theorem pt181 : tptr Tryz.prog 181 = none := by kernel_rfl
theorem mp181 : tmap Tryz.prog 181 = some (45, 129) := by kernel_rfl
theorem un181 : (Tryz.prog.underlying 181).isSome = true := by kernel_rfl
theorem po181 : tpos Tryz.prog 181 = true := by kernel_rfl
def z181 : AV := .val (.map none)
theorem zo181 : ZeroOK Tryz.prog 181 z181 := ZeroOK.mk (.map none) (by kernel_rfl) (by kernel_rfl) (by kernel_rfl) (by kernel_rfl)
theorem sz183 : tsz Tryz.prog 183 = some 1 := by kernel_rfl
theorem by183 : tby Tryz.prog 183 = some 8 := by kernel_rfl
theorem ag183 : tagg Tryz.prog 183 = some true := by kernel_rfl
theorem sl183 : tsl Tryz.prog 183 = none := by kernel_rfl
theorem ar183 : tarr Tryz.prog 183 = none := by kernel_rfl
theorem pt183 : tptr Tryz.prog 183 = none := by kernel_rfl
theorem un183 : (Tryz.prog.underlying 183).isSome = true := by kernel_rfl
theorem fl183_0 : tfld Tryz.prog 183 0 = some (0, 181) := by kernel_rfl
theorem fs183 : tflds Tryz.prog 183 = true := by kernel_rfl
theorem po183 : tpos Tryz.prog 183 = true := by kernel_rfl
def z183 : AV := .agg 1 [.val (.map none)]
theorem zo183 : ZeroOK Tryz.prog 183 z183 := ZeroOK.mk (.agg #[.map none]) (by kernel_rfl) (by kernel_rfl) (by kernel_rfl) (by kernel_rfl)
theorem sz184 : tsz Tryz.prog 184 = some 1 := by kernel_rfl
theorem by184 : tby Tryz.prog 184 = some 8 := by kernel_rfl
theorem ag184 : tagg Tryz.prog 184 = some false := by kernel_rfl
theorem sl184 : tsl Tryz.prog 184 = none := by kernel_rfl
theorem ar184 : tarr Tryz.prog 184 = none := by kernel_rfl
theorem pt184 : tptr Tryz.prog 184 = none := by kernel_rfl
theorem mp184 : tmap Tryz.prog 184 = some (3, 197) := by kernel_rfl
theorem un184 : (Tryz.prog.underlying 184).isSome = true := by kernel_rfl
theorem po184 : tpos Tryz.prog 184 = true := by kernel_rfl
def z184 : AV := .val (.map none)
theorem zo184 : ZeroOK Tryz.prog 184 z184 := ZeroOK.mk (.map none) (by kernel_rfl) (by kernel_rfl) (by kernel_rfl) (by kernel_rfl)
theorem sz185 : tsz Tryz.prog 185 = some 1 := by kernel_rfl
theorem by185 : tby Tryz.prog 185 = some 8 := by kernel_rfl
theorem ag185 : tagg Tryz.prog 185 = some false := by kernel_rfl
theorem sl185 : tsl Tryz.prog 185 = none := by kernel_rfl
theorem ar185 : tarr Tryz.prog 185 = none := by kernel_rfl
theorem pt185 : tptr Tryz.prog 185 = none := by kernel_rfl
theorem mp185 : tmap Tryz.prog 185 = some (146, 200) := by kernel_rfl
theorem un185 : (Tryz.prog.underlying 185).isSome = true := by kernel_rfl
theorem po185 : tpos Tryz.prog 185 = true := by kernel_rfl
def z185 : AV := .val (.map none)
theorem zo185 : ZeroOK Tryz.prog 185 z185 := ZeroOK.mk (.map none) (by kernel_rfl) (by kernel_rfl) (by kernel_rfl) (by kernel_rfl)
theorem sz187 : tsz Tryz.prog 187 = some 2 := by kernel_rfl
theorem by187 : tby Tryz.prog 187 = some 16 := by kernel_rfl
theorem ag187 : tagg Tryz.prog 187 = some true := by kernel_rfl
theorem sl187 : tsl Tryz.prog 187 = none := by kernel_rfl
theorem ar187 : tarr Tryz.prog 187 = none := by kernel_rfl
theorem pt187 : tptr Tryz.prog 187 = none := by kernel_rfl
theorem un187 : (Tryz.prog.underlying 187).isSome = true := by kernel_rfl
theorem fl187_0 : tfld Tryz.prog 187 0 = some (0, 184) := by kernel_rfl
theorem fl187_1 : tfld Tryz.prog 187 1 = some (1, 185) := by kernel_rfl
theorem fs187 : tflds Tryz.prog 187 = true := by kernel_rfl
theorem po187 : tpos Tryz.prog 187 = true := by kernel_rfl
def z187 : AV := .agg 2 [.val (.map none), .val (.map none)]
theorem zo187 : ZeroOK Tryz.prog 187 z187 := ZeroOK.mk (.agg #[.map none, .map none]) (by kernel_rfl) (by kernel_rfl) (by kernel_rfl) (by kernel_rfl)
theorem sz194 : tsz Tryz.prog 194 = some 4 := by kernel_rfl
theorem by194 : tby Tryz.prog 194 = some 64 := by kernel_rfl
theorem ag194 : tagg Tryz.prog 194 = some true := by kernel_rfl
theorem sl194 : tsl Tryz.prog 194 = none := by kernel_rfl
theorem ar194 : tarr Tryz.prog 194 = none := by kernel_rfl
theorem pt194 : tptr Tryz.prog 194 = none := by kernel_rfl
theorem un194 : (Tryz.prog.underlying 194).isSome = true := by kernel_rfl
theorem fl194_0 : tfld Tryz.prog 194 0 = some (0, 99) := by kernel_rfl
theorem fl194_1 : tfld Tryz.prog 194 1 = some (1, 35) := by kernel_rfl
theorem fl194_2 : tfld Tryz.prog 194 2 = some (2, 3) := by kernel_rfl
theorem fl194_3 : tfld Tryz.prog 194 3 = some (3, 3) := by kernel_rfl
theorem fs194 : tflds Tryz.prog 194 = true := by kernel_rfl
theorem po194 : tpos Tryz.prog 194 = true := by kernel_rfl
def z194 : AV := .agg 4 [.sl 1 [] 1, .sl 1 [] 1, .val (.int .i64 0), .val (.int .i64 0)]
theorem zo194 : ZeroOK Tryz.prog 194 z194 := ZeroOK.mk (.agg #[.slice none 0 0, .slice none 0 0, .int .i64 0, .int .i64 0]) (by kernel_rfl) (by kernel_rfl) (by kernel_rfl) (by kernel_rfl)
theorem sz197 : tsz Tryz.prog 197 = some 35 := by kernel_rfl
theorem by197 : tby Tryz.prog 197 = some 56 := by kernel_rfl
theorem ag197 : tagg Tryz.prog 197 = some true := by kernel_rfl
theorem sl197 : tsl Tryz.prog 197 = none := by kernel_rfl
theorem ar197 : tarr Tryz.prog 197 = none := by kernel_rfl
theorem pt197 : tptr Tryz.prog 197 = none := by kernel_rfl
theorem un197 : (Tryz.prog.underlying 197).isSome = true := by kernel_rfl
theorem fl197_0 : tfld Tryz.prog 197 0 = some (0, 26) := by kernel_rfl
theorem fl197_1 : tfld Tryz.prog 197 1 = some (32, 2) := by kernel_rfl
theorem fl197_2 : tfld Tryz.prog 197 2 = some (33, 2) := by kernel_rfl
theorem fl197_3 : tfld Tryz.prog 197 3 = some (34, 3) := by kernel_rfl
theorem fs197 : tflds Tryz.prog 197 = true := by kernel_rfl
theorem po197 : tpos Tryz.prog 197 = true := by kernel_rfl
theorem tq197 : teq Tryz.prog 197 = true := by kernel_rfl
theorem tc197 : tcmp Tryz.prog 197 = some [(0, 26), (32, 2), (33, 2), (34, 3)] := by kernel_rfl
def z197 : AV := .agg 35 [.vec 1 (List.replicate 32 (.val (.int .u8 0))), .val (.int .i64 0), .val (.int .i64 0), .val (.int .i64 0)]
theorem zo197 : ZeroOK Tryz.prog 197 z197 := ZeroOK.mk (.agg #[.int .u8 0, .int .u8 0, .int .u8 0, .int .u8 0, .int .u8 0, .int .u8 0, .int .u8 0, .int .u8 0, .int .u8 0, .int .u8 0, .int .u8 0, .int .u8 0, .int .u8 0, .int .u8 0, .int .u8 0, .int .u8 0, .int .u8 0, .int .u8 0, .int .u8 0, .int .u8 0, .int .u8 0, .int .u8 0, .int .u8 0, .int .u8 0, .int .u8 0, .int .u8 0, .int .u8 0, .int .u8 0, .int .u8 0, .int .u8 0, .int .u8 0, .int .u8 0, .int .i64 0, .int .i64 0, .int .i64 0]) (by kernel_rfl) (by kernel_rfl) (by kernel_rfl) (by kernel_rfl)
theorem sz200 : tsz Tryz.prog 200 = some 74 := by kernel_rfl
theorem by200 : tby Tryz.prog 200 = some 144 := by kernel_rfl
theorem ag200 : tagg Tryz.prog 200 = some true := by kernel_rfl
theorem sl200 : tsl Tryz.prog 200 = none := by kernel_rfl
theorem ar200 : tarr Tryz.prog 200 = none := by kernel_rfl
theorem pt200 : tptr Tryz.prog 200 = none := by kernel_rfl
theorem un200 : (Tryz.prog.underlying 200).isSome = true := by kernel_rfl
theorem fl200_0 : tfld Tryz.prog 200 0 = some (0, 47) := by kernel_rfl
theorem fl200_1 : tfld Tryz.prog 200 1 = some (39, 2) := by kernel_rfl
theorem fl200_2 : tfld Tryz.prog 200 2 = some (40, 4) := by kernel_rfl
theorem fl200_3 : tfld Tryz.prog 200 3 = some (41, 3) := by kernel_rfl
theorem fl200_4 : tfld Tryz.prog 200 4 = some (42, 26) := by kernel_rfl
theorem fs200 : tflds Tryz.prog 200 = true := by kernel_rfl
theorem po200 : tpos Tryz.prog 200 = true := by kernel_rfl
theorem tq200 : teq Tryz.prog 200 = true := by kernel_rfl
theorem tc200 : tcmp Tryz.prog 200 = some [(0, 47), (39, 2), (40, 4), (41, 3), (42, 26)] := by kernel_rfl
def z200 : AV := .agg 74 [.agg 39 [.val (.int .i64 0), .val (.int .i64 0), .val (.int .i64 0), .agg 33 [.vec 1 (List.replicate 32 (.val (.int .u8 0))), .val (.int .i64 0)], .val (.int .i64 0), .val (.int .i64 0), .val (.int .i64 0)], .val (.int .i64 0), .val (.bool false), .val (.int .i64 0), .vec 1 (List.replicate 32 (.val (.int .u8 0)))]
theorem zo200 : ZeroOK Tryz.prog 200 z200 := ZeroOK.mk (.agg #[.int .i64 0, .int .i64 0, .int .i64 0, .int .u8 0, .int .u8 0, .int .u8 0, .int .u8 0, .int .u8 0, .int .u8 0, .int .u8 0, .int .u8 0, .int .u8 0, .int .u8 0, .int .u8 0, .int .u8 0, .int .u8 0, .int .u8 0, .int .u8 0, .int .u8 0, .int .u8 0, .int .u8 0, .int .u8 0, .int .u8 0, .int .u8 0, .int .u8 0, .int .u8 0, .int .u8 0, .int .u8 0, .int .u8 0, .int .u8 0, .int .u8 0, .int .u8 0, .int .u8 0, .int .u8 0, .int .u8 0, .int .i64 0, .int .i64 0, .int .i64 0, .int .i64 0, .int .i64 0, .bool false, .int .i64 0, .int .u8 0, .int .u8 0, .int .u8 0, .int .u8 0, .int .u8 0, .int .u8 0, .int .u8 0, .int .u8 0, .int .u8 0, .int .u8 0, .int .u8 0, .int .u8 0, .int .u8 0, .int .u8 0, .int .u8 0, .int .u8 0, .int .u8 0, .int .u8 0, .int .u8 0, .int .u8 0, .int .u8 0, .int .u8 0, .int .u8 0, .int .u8 0, .int .u8 0, .int .u8 0, .int .u8 0, .int .u8 0, .int .u8 0, .int .u8 0, .int .u8 0, .int .u8 0]) (by kernel_rfl) (by kernel_rfl) (by kernel_rfl) (by kernel_rfl)
theorem sz219 : tsz Tryz.prog 219 = some 1 := by kernel_rfl
theorem by219 : tby Tryz.prog 219 = some 24 := by kernel_rfl
theorem ag219 : tagg Tryz.prog 219 = some false := by kernel_rfl
theorem sl219 : tsl Tryz.prog 219 = some 35 := by kernel_rfl
theorem ar219 : tarr Tryz.prog 219 = none := by kernel_rfl
theorem pt219 : tptr Tryz.prog 219 = none := by kernel_rfl
theorem un219 : (Tryz.prog.underlying 219).isSome = true := by kernel_rfl
theorem po219 : tpos Tryz.prog 219 = true := by kernel_rfl
def z219 : AV := .sl 1 [] 1
theorem zo219 : ZeroOK Tryz.prog 219 z219 := ZeroOK.mk (.slice none 0 0) (by kernel_rfl) (by kernel_rfl) (by kernel_rfl) (by kernel_rfl)
theorem sz220 : tsz Tryz.prog 220 = some 1 := by kernel_rfl
theorem by220 : tby Tryz.prog 220 = some 8 := by kernel_rfl
theorem ag220 : tagg Tryz.prog 220 = some false := by kernel_rfl
theorem sl220 : tsl Tryz.prog 220 = none := by kernel_rfl
theorem ar220 : tarr Tryz.prog 220 = none := by kernel_rfl
theorem pt220 : tptr Tryz.prog 220 = none := by kernel_rfl
theorem in220 : tint Tryz.prog 220 = some .u64 := by kernel_rfl
theorem un220 : (Tryz.prog.underlying 220).isSome = true := by kernel_rfl
theorem po220 : tpos Tryz.prog 220 = true := by kernel_rfl
def z220 : AV := .val (.int .u64 0)
theorem zo220 : ZeroOK Tryz.prog 220 z220 := ZeroOK.mk (.int .u64 0) (by kernel_rfl) (by kernel_rfl) (by kernel_rfl) (by kernel_rfl)
theorem sz239 : tsz Tryz.prog 239 = some 1 := by kernel_rfl
theorem by239 : tby Tryz.prog 239 = some 8 := by kernel_rfl
theorem ag239 : tagg Tryz.prog 239 = some false := by kernel_rfl
theorem sl239 : tsl Tryz.prog 239 = none := by kernel_rfl
theorem ar239 : tarr Tryz.prog 239 = none := by kernel_rfl
theorem pt239 : tptr Tryz.prog 239 = some 273 := by kernel_rfl
theorem un239 : (Tryz.prog.underlying 239).isSome = true := by kernel_rfl
theorem po239 : tpos Tryz.prog 239 = true := by kernel_rfl
def z239 : AV := .val (.pointer none)
theorem zo239 : ZeroOK Tryz.prog 239 z239 := ZeroOK.mk (.pointer none) (by kernel_rfl) (by kernel_rfl) (by kernel_rfl) (by kernel_rfl)
theorem sz245 : tsz Tryz.prog 245 = some 101 := by kernel_rfl
theorem by245 : tby Tryz.prog 245 = some 168 := by kernel_rfl
theorem ag245 : tagg Tryz.prog 245 = some true := by kernel_rfl
theorem sl245 : tsl Tryz.prog 245 = none := by kernel_rfl
theorem ar245 : tarr Tryz.prog 245 = none := by kernel_rfl
theorem pt245 : tptr Tryz.prog 245 = none := by kernel_rfl
theorem un245 : (Tryz.prog.underlying 245).isSome = true := by kernel_rfl
theorem fl245_0 : tfld Tryz.prog 245 0 = some (0, 72) := by kernel_rfl
theorem fl245_1 : tfld Tryz.prog 245 1 = some (67, 35) := by kernel_rfl
theorem fl245_2 : tfld Tryz.prog 245 2 = some (68, 35) := by kernel_rfl
theorem fl245_3 : tfld Tryz.prog 245 3 = some (69, 26) := by kernel_rfl
theorem fs245 : tflds Tryz.prog 245 = true := by kernel_rfl
theorem po245 : tpos Tryz.prog 245 = true := by kernel_rfl
def z245 : AV := .agg 101 [.agg 67 [.val (.int .i64 0), .val (.int .i64 0), .val (.int .i64 0), .vec 1 (List.replicate 32 (.val (.int .u8 0))), .vec 1 (List.replicate 32 (.val (.int .u8 0)))], .sl 1 [] 1, .sl 1 [] 1, .vec 1 (List.replicate 32 (.val (.int .u8 0)))]
theorem zo245 : ZeroOK Tryz.prog 245 z245 := ZeroOK.mk (.agg #[.int .i64 0, .int .i64 0, .int .i64 0, .int .u8 0, .int .u8 0, .int .u8 0, .int .u8 0, .int .u8 0, .int .u8 0, .int .u8 0, .int .u8 0, .int .u8 0, .int .u8 0, .int .u8 0, .int .u8 0, .int .u8 0, .int .u8 0, .int .u8 0, .int .u8 0, .int .u8 0, .int .u8 0, .int .u8 0, .int .u8 0, .int .u8 0, .int .u8 0, .int .u8 0, .int .u8 0, .int .u8 0, .int .u8 0, .int .u8 0, .int .u8 0, .int .u8 0, .int .u8 0, .int .u8 0, .int .u8 0, .int .u8 0, .int .u8 0, .int .u8 0, .int .u8 0, .int .u8 0, .int .u8 0, .int .u8 0, .int .u8 0, .int .u8 0, .int .u8 0, .int .u8 0, .int .u8 0, .int .u8 0, .int .u8 0, .int .u8 0, .int .u8 0, .int .u8 0, .int .u8 0, .int .u8 0, .int .u8 0, .int .u8 0, .int .u8 0, .int .u8 0, .int .u8 0, .int .u8 0, .int .u8 0, .int .u8 0, .int .u8 0, .int .u8 0, .int .u8 0, .int .u8 0, .int .u8 0, .slice none 0 0, .slice none 0 0, .int .u8 0, .int .u8 0, .int .u8 0, .int .u8 0, .int .u8 0, .int .u8 0, .int .u8 0, .int .u8 0, .int .u8 0, .int .u8 0, .int .u8 0, .int .u8 0, .int .u8 0, .int .u8 0, .int .u8 0, .int .u8 0, .int .u8 0, .int .u8 0, .int .u8 0, .int .u8 0, .int .u8 0, .int .u8 0, .int .u8 0, .int .u8 0, .int .u8 0, .int .u8 0, .int .u8 0, .int .u8 0, .int .u8 0, .int .u8 0, .int .u8 0, .int .u8 0]) (by kernel_rfl) (by kernel_rfl) (by kernel_rfl) (by kernel_rfl)
theorem sz249 : tsz Tryz.prog 249 = some 43 := by kernel_rfl
theorem by249 : tby Tryz.prog 249 = some 184 := by kernel_rfl
theorem ag249 : tagg Tryz.prog 249 = some true := by kernel_rfl
theorem sl249 : tsl Tryz.prog 249 = none := by kernel_rfl
theorem ar249 : tarr Tryz.prog 249 = none := by kernel_rfl
theorem pt249 : tptr Tryz.prog 249 = none := by kernel_rfl
theorem un249 : (Tryz.prog.underlying 249).isSome = true := by kernel_rfl
theorem fl249_0 : tfld Tryz.prog 249 0 = some (0, 40) := by kernel_rfl
theorem fl249_1 : tfld Tryz.prog 249 1 = some (40, 3) := by kernel_rfl
theorem fl249_2 : tfld Tryz.prog 249 2 = some (41, 4) := by kernel_rfl
theorem fl249_3 : tfld Tryz.prog 249 3 = some (42, 3) := by kernel_rfl
theorem fs249 : tflds Tryz.prog 249 = true := by kernel_rfl
theorem po249 : tpos Tryz.prog 249 = true := by kernel_rfl
def z249 : AV := .agg 43 [.agg 40 [.sl 35 [] 1, .sl 2 [] 1, .agg 37 [.val (.int .i64 0), .val (.int .i64 0), .val (.int .i64 0), .val (.int .i64 0), .vec 1 (List.replicate 32 (.val (.int .u8 0))), .sl 1 [] 1], .sl 33 [] 1], .val (.int .i64 0), .val (.bool false), .val (.int .i64 0)]
theorem zo249 : ZeroOK Tryz.prog 249 z249 := ZeroOK.mk (.agg #[.slice none 0 0, .slice none 0 0, .int .i64 0, .int .i64 0, .int .i64 0, .int .i64 0, .int .u8 0, .int .u8 0, .int .u8 0, .int .u8 0, .int .u8 0, .int .u8 0, .int .u8 0, .int .u8 0, .int .u8 0, .int .u8 0, .int .u8 0, .int .u8 0, .int .u8 0, .int .u8 0, .int .u8 0, .int .u8 0, .int .u8 0, .int .u8 0, .int .u8 0, .int .u8 0, .int .u8 0, .int .u8 0, .int .u8 0, .int .u8 0, .int .u8 0, .int .u8 0, .int .u8 0, .int .u8 0, .int .u8 0, .int .u8 0, .int .u8 0, .int .u8 0, .slice none 0 0, .slice none 0 0, .int .i64 0, .bool false, .int .i64 0]) (by kernel_rfl) (by kernel_rfl) (by kernel_rfl) (by kernel_rfl)
theorem sz258 : tsz Tryz.prog 258 = some 1 := by kernel_rfl
theorem by258 : tby Tryz.prog 258 = some 4 := by kernel_rfl
theorem ag258 : tagg Tryz.prog 258 = some false := by kernel_rfl
theorem sl258 : tsl Tryz.prog 258 = none := by kernel_rfl
theorem ar258 : tarr Tryz.prog 258 = none := by kernel_rfl
theorem pt258 : tptr Tryz.prog 258 = none := by kernel_rfl
theorem in258 : tint Tryz.prog 258 = some .u32 := by kernel_rfl
theorem un258 : (Tryz.prog.underlying 258).isSome = true := by kernel_rfl
theorem po258 : tpos Tryz.prog 258 = true := by kernel_rfl
def z258 : AV := .val (.int .u32 0)
theorem zo258 : ZeroOK Tryz.prog 258 z258 := ZeroOK.mk (.int .u32 0) (by kernel_rfl) (by kernel_rfl) (by kernel_rfl) (by kernel_rfl)
theorem sz260 : tsz Tryz.prog 260 = some 8 := by kernel_rfl
theorem by260 : tby Tryz.prog 260 = some 32 := by kernel_rfl
theorem ag260 : tagg Tryz.prog 260 = some true := by kernel_rfl
theorem sl260 : tsl Tryz.prog 260 = none := by kernel_rfl
theorem ar260 : tarr Tryz.prog 260 = some (8, 258) := by kernel_rfl
theorem pt260 : tptr Tryz.prog 260 = none := by kernel_rfl
theorem un260 : (Tryz.prog.underlying 260).isSome = true := by kernel_rfl
theorem po260 : tpos Tryz.prog 260 = true := by kernel_rfl
theorem tq260 : teq Tryz.prog 260 = true := by kernel_rfl
def z260 : AV := .vec 1 (List.replicate 8 (.val (.int .u32 0)))
theorem zo260 : ZeroOK Tryz.prog 260 z260 := ZeroOK.mk (.agg #[.int .u32 0, .int .u32 0, .int .u32 0, .int .u32 0, .int .u32 0, .int .u32 0, .int .u32 0, .int .u32 0]) (by kernel_rfl) (by kernel_rfl) (by kernel_rfl) (by kernel_rfl)
theorem sz262 : tsz Tryz.prog 262 = some 64 := by kernel_rfl
theorem by262 : tby Tryz.prog 262 = some 256 := by kernel_rfl
theorem ag262 : tagg Tryz.prog 262 = some true := by kernel_rfl
theorem sl262 : tsl Tryz.prog 262 = none := by kernel_rfl
theorem ar262 : tarr Tryz.prog 262 = some (64, 258) := by kernel_rfl
theorem pt262 : tptr Tryz.prog 262 = none := by kernel_rfl
theorem un262 : (Tryz.prog.underlying 262).isSome = true := by kernel_rfl
theorem po262 : tpos Tryz.prog 262 = true := by kernel_rfl
theorem tq262 : teq Tryz.prog 262 = true := by kernel_rfl
def z262 : AV := .vec 1 (List.replicate 64 (.val (.int .u32 0)))
theorem zo262 : ZeroOK Tryz.prog 262 z262 := ZeroOK.mk (.agg #[.int .u32 0, .int .u32 0, .int .u32 0, .int .u32 0, .int .u32 0, .int .u32 0, .int .u32 0, .int .u32 0, .int .u32 0, .int .u32 0, .int .u32 0, .int .u32 0, .int .u32 0, .int .u32 0, .int .u32 0, .int .u32 0, .int .u32 0, .int .u32 0, .int .u32 0, .int .u32 0, .int .u32 0, .int .u32 0, .int .u32 0, .int .u32 0, .int .u32 0, .int .u32 0, .int .u32 0, .int .u32 0, .int .u32 0, .int .u32 0, .int .u32 0, .int .u32 0, .int .u32 0, .int .u32 0, .int .u32 0, .int .u32 0, .int .u32 0, .int .u32 0, .int .u32 0, .int .u32 0, .int .u32 0, .int .u32 0, .int .u32 0, .int .u32 0, .int .u32 0, .int .u32 0, .int .u32 0, .int .u32 0, .int .u32 0, .int .u32 0, .int .u32 0, .int .u32 0, .int .u32 0, .int .u32 0, .int .u32 0, .int .u32 0, .int .u32 0, .int .u32 0, .int .u32 0, .int .u32 0, .int .u32 0, .int .u32 0, .int .u32 0, .int .u32 0]) (by kernel_rfl) (by kernel_rfl) (by kernel_rfl) (by kernel_rfl)
theorem sz265 : tsz Tryz.prog 265 = some 1 := by kernel_rfl
theorem by265 : tby Tryz.prog 265 = some 8 := by kernel_rfl
theorem ag265 : tagg Tryz.prog 265 = some false := by kernel_rfl
theorem sl265 : tsl Tryz.prog 265 = none := by kernel_rfl
theorem ar265 : tarr Tryz.prog 265 = none := by kernel_rfl
theorem pt265 : tptr Tryz.prog 265 = some 262 := by kernel_rfl
theorem un265 : (Tryz.prog.underlying 265).isSome = true := by kernel_rfl
theorem po265 : tpos Tryz.prog 265 = true := by kernel_rfl
def z265 : AV := .val (.pointer none)
theorem zo265 : ZeroOK Tryz.prog 265 z265 := ZeroOK.mk (.pointer none) (by kernel_rfl) (by kernel_rfl) (by kernel_rfl) (by kernel_rfl)
theorem sz268 : tsz Tryz.prog 268 = some 1 := by kernel_rfl
theorem by268 : tby Tryz.prog 268 = some 8 := by kernel_rfl
theorem ag268 : tagg Tryz.prog 268 = some false := by kernel_rfl
theorem sl268 : tsl Tryz.prog 268 = none := by kernel_rfl
theorem ar268 : tarr Tryz.prog 268 = none := by kernel_rfl
theorem pt268 : tptr Tryz.prog 268 = none := by kernel_rfl
theorem in268 : tint Tryz.prog 268 = some .u64 := by kernel_rfl
theorem un268 : (Tryz.prog.underlying 268).isSome = true := by kernel_rfl
theorem po268 : tpos Tryz.prog 268 = true := by kernel_rfl
def z268 : AV := .val (.int .u64 0)
theorem zo268 : ZeroOK Tryz.prog 268 z268 := ZeroOK.mk (.int .u64 0) (by kernel_rfl) (by kernel_rfl) (by kernel_rfl) (by kernel_rfl)
theorem sz273 : tsz Tryz.prog 273 = some 2 := by kernel_rfl
theorem by273 : tby Tryz.prog 273 = some 32 := by kernel_rfl
theorem ag273 : tagg Tryz.prog 273 = some true := by kernel_rfl
theorem sl273 : tsl Tryz.prog 273 = none := by kernel_rfl
theorem ar273 : tarr Tryz.prog 273 = none := by kernel_rfl
theorem pt273 : tptr Tryz.prog 273 = none := by kernel_rfl
theorem un273 : (Tryz.prog.underlying 273).isSome = true := by kernel_rfl
theorem fl273_0 : tfld Tryz.prog 273 0 = some (0, 35) := by kernel_rfl
theorem fl273_1 : tfld Tryz.prog 273 1 = some (1, 41) := by kernel_rfl
theorem fs273 : tflds Tryz.prog 273 = true := by kernel_rfl
theorem po273 : tpos Tryz.prog 273 = true := by kernel_rfl
def z273 : AV := .agg 2 [.sl 1 [] 1, .val (.int .i64 0)]
theorem zo273 : ZeroOK Tryz.prog 273 z273 := ZeroOK.mk (.agg #[.slice none 0 0, .int .i64 0]) (by kernel_rfl) (by kernel_rfl) (by kernel_rfl) (by kernel_rfl)
theorem sz282 : tsz Tryz.prog 282 = some 1 := by kernel_rfl
theorem by282 : tby Tryz.prog 282 = some 8 := by kernel_rfl
theorem ag282 : tagg Tryz.prog 282 = some false := by kernel_rfl
theorem sl282 : tsl Tryz.prog 282 = none := by kernel_rfl
theorem ar282 : tarr Tryz.prog 282 = none := by kernel_rfl
theorem pt282 : tptr Tryz.prog 282 = none := by kernel_rfl
theorem un282 : (Tryz.prog.underlying 282).isSome = true := by kernel_rfl
theorem po282 : tpos Tryz.prog 282 = true := by kernel_rfl
def z282 : AV := .val .nilFunc
theorem zo282 : ZeroOK Tryz.prog 282 z282 := ZeroOK.mk (.nilFunc) (by kernel_rfl) (by kernel_rfl) (by kernel_rfl) (by kernel_rfl)
theorem sz283 : tsz Tryz.prog 283 = some 1 := by kernel_rfl
theorem by283 : tby Tryz.prog 283 = some 8 := by kernel_rfl
theorem ag283 : tagg Tryz.prog 283 = some false := by kernel_rfl
theorem sl283 : tsl Tryz.prog 283 = none := by kernel_rfl
theorem ar283 : tarr Tryz.prog 283 = none := by kernel_rfl
theorem pt283 : tptr Tryz.prog 283 = some 260 := by kernel_rfl
theorem un283 : (Tryz.prog.underlying 283).isSome = true := by kernel_rfl
theorem po283 : tpos Tryz.prog 283 = true := by kernel_rfl
def z283 : AV := .val (.pointer none)
theorem zo283 : ZeroOK Tryz.prog 283 z283 := ZeroOK.mk (.pointer none) (by kernel_rfl) (by kernel_rfl) (by kernel_rfl) (by kernel_rfl)
theorem sz286 : tsz Tryz.prog 286 = some 1 := by kernel_rfl
theorem by286 : tby Tryz.prog 286 = some 24 := by kernel_rfl
theorem ag286 : tagg Tryz.prog 286 = some false := by kernel_rfl
theorem sl286 : tsl Tryz.prog 286 = some 258 := by kernel_rfl
theorem ar286 : tarr Tryz.prog 286 = none := by kernel_rfl
theorem pt286 : tptr Tryz.prog 286 = none := by kernel_rfl
theorem un286 : (Tryz.prog.underlying 286).isSome = true := by kernel_rfl
theorem po286 : tpos Tryz.prog 286 = true := by kernel_rfl
def z286 : AV := .sl 1 [] 1
theorem zo286 : ZeroOK Tryz.prog 286 z286 := ZeroOK.mk (.slice none 0 0) (by kernel_rfl) (by kernel_rfl) (by kernel_rfl) (by kernel_rfl)
def zl : List (Nat × AV) := [(2, z2), (3, z3), (4, z4), (5, z5), (9, z9), (20, z20), (22, z22), (23, z23), (24, z24), (25, z25), (26, z26), (28, z28), (29, z29), (30, z30), (34, z34), (35, z35), (37, z37), (38, z38), (40, z40), (41, z41), (45, z45), (47, z47), (51, z51), (55, z55), (59, z59), (66, z66), (68, z68), (70, z70), (72, z72), (74, z74), (76, z76), (84, z84), (86, z86), (87, z87), (88, z88), (90, z90), (91, z91), (92, z92), (93, z93), (94, z94), (96, z96), (99, z99), (101, z101), (102, z102), (104, z104), (109, z109), (116, z116), (126, z126), (129, z129), (133, z133), (145, z145), (146, z146), (153, z153), (156, z156), (161, z161), (165, z165), (167, z167), (176, z176), (177, z177), (180, z180), (181, z181), (183, z183), (184, z184), (185, z185), (187, z187), (194, z194), (197, z197), (200, z200), (219, z219), (220, z220), (239, z239), (245, z245), (249, z249), (258, z258), (260, z260), (262, z262), (265, z265), (268, z268), (273, z273), (282, z282), (283, z283), (286, z286)]
theorem zl_ok : zAll Tryz.prog zl := ⟨zo2, zo3, zo4, zo5, zo9, zo20, zo22, zo23, zo24, zo25, zo26, zo28, zo29, zo30, zo34, zo35, zo37, zo38, zo40, zo41, zo45, zo47, zo51, zo55, zo59, zo66, zo68, zo70, zo72, zo74, zo76, zo84, zo86, zo87, zo88, zo90, zo91, zo92, zo93, zo94, zo96, zo99, zo101, zo102, zo104, zo109, zo116, zo126, zo129, zo133, zo145, zo146, zo153, zo156, zo161, zo165, zo167, zo176, zo177, zo180, zo181, zo183, zo184, zo185, zo187, zo194, zo197, zo200, zo219, zo220, zo239, zo245, zo249, zo258, zo260, zo262, zo265, zo268, zo273, zo282, zo283, zo286, trivial⟩
noncomputable def cx : Cx := ⟨Tryz.prog, zLook zl, zLook_ok zl_ok⟩
theorem cxP : cx.P = Tryz.prog := rfl
theorem zt2 : cx.zt 2 = some z2 := by kernel_rfl
theorem zt3 : cx.zt 3 = some z3 := by kernel_rfl
theorem zt4 : cx.zt 4 = some z4 := by kernel_rfl
theorem zt5 : cx.zt 5 = some z5 := by kernel_rfl
theorem zt9 : cx.zt 9 = some z9 := by kernel_rfl
theorem zt20 : cx.zt 20 = some z20 := by kernel_rfl
theorem zt22 : cx.zt 22 = some z22 := by kernel_rfl
theorem zt23 : cx.zt 23 = some z23 := by kernel_rfl
theorem zt24 : cx.zt 24 = some z24 := by kernel_rfl
theorem zt25 : cx.zt 25 = some z25 := by kernel_rfl
theorem zt26 : cx.zt 26 = some z26 := by kernel_rfl
theorem zt28 : cx.zt 28 = some z28 := by kernel_rfl
theorem zt29 : cx.zt 29 = some z29 := by kernel_rfl
theorem zt30 : cx.zt 30 = some z30 := by kernel_rfl
theorem zt34 : cx.zt 34 = some z34 := by kernel_rfl
theorem zt35 : cx.zt 35 = some z35 := by kernel_rfl
theorem zt37 : cx.zt 37 = some z37 := by kernel_rfl
theorem zt38 : cx.zt 38 = some z38 := by kernel_rfl
theorem zt40 : cx.zt 40 = some z40 := by kernel_rfl
theorem zt41 : cx.zt 41 = some z41 := by kernel_rfl
theorem zt45 : cx.zt 45 = some z45 := by kernel_rfl
theorem zt47 : cx.zt 47 = some z47 := by kernel_rfl
theorem zt51 : cx.zt 51 = some z51 := by kernel_rfl
theorem zt55 : cx.zt 55 = some z55 := by kernel_rfl
theorem zt59 : cx.zt 59 = some z59 := by kernel_rfl
theorem zt66 : cx.zt 66 = some z66 := by kernel_rfl
theorem zt68 : cx.zt 68 = some z68 := by kernel_rfl
theorem zt70 : cx.zt 70 = some z70 := by kernel_rfl
theorem zt72 : cx.zt 72 = some z72 := by kernel_rfl
theorem zt74 : cx.zt 74 = some z74 := by kernel_rfl
theorem zt76 : cx.zt 76 = some z76 := by kernel_rfl
theorem zt84 : cx.zt 84 = some z84 := by kernel_rfl
theorem zt86 : cx.zt 86 = some z86 := by kernel_rfl
theorem zt87 : cx.zt 87 = some z87 := by kernel_rfl
theorem zt88 : cx.zt 88 = some z88 := by kernel_rfl
theorem zt90 : cx.zt 90 = some z90 := by kernel_rfl
theorem zt91 : cx.zt 91 = some z91 := by kernel_rfl
theorem zt92 : cx.zt 92 = some z92 := by kernel_rfl
theorem zt93 : cx.zt 93 = some z93 := by kernel_rfl
theorem zt94 : cx.zt 94 = some z94 := by kernel_rfl
theorem zt96 : cx.zt 96 = some z96 := by kernel_rfl
theorem zt99 : cx.zt 99 = some z99 := by kernel_rfl
theorem zt101 : cx.zt 101 = some z101 := by kernel_rfl
theorem zt102 : cx.zt 102 = some z102 := by kernel_rfl
theorem zt104 : cx.zt 104 = some z104 := by kernel_rfl
theorem zt109 : cx.zt 109 = some z109 := by kernel_rfl
theorem zt116 : cx.zt 116 = some z116 := by kernel_rfl
theorem zt126 : cx.zt 126 = some z126 := by kernel_rfl
theorem zt129 : cx.zt 129 = some z129 := by kernel_rfl
theorem zt133 : cx.zt 133 = some z133 := by kernel_rfl
theorem zt145 : cx.zt 145 = some z145 := by kernel_rfl
theorem zt146 : cx.zt 146 = some z146 := by kernel_rfl
theorem zt153 : cx.zt 153 = some z153 := by kernel_rfl
theorem zt156 : cx.zt 156 = some z156 := by kernel_rfl
theorem zt161 : cx.zt 161 = some z161 := by kernel_rfl
theorem zt165 : cx.zt 165 = some z165 := by kernel_rfl
theorem zt167 : cx.zt 167 = some z167 := by kernel_rfl
theorem zt176 : cx.zt 176 = some z176 := by kernel_rfl
theorem zt177 : cx.zt 177 = some z177 := by kernel_rfl
theorem zt180 : cx.zt 180 = some z180 := by kernel_rfl
theorem zt181 : cx.zt 181 = some z181 := by kernel_rfl
theorem zt183 : cx.zt 183 = some z183 := by kernel_rfl
theorem zt184 : cx.zt 184 = some z184 := by kernel_rfl
theorem zt185 : cx.zt 185 = some z185 := by kernel_rfl
theorem zt187 : cx.zt 187 = some z187 := by kernel_rfl
theorem zt194 : cx.zt 194 = some z194 := by kernel_rfl
theorem zt197 : cx.zt 197 = some z197 := by kernel_rfl
theorem zt200 : cx.zt 200 = some z200 := by kernel_rfl
theorem zt219 : cx.zt 219 = some z219 := by kernel_rfl
theorem zt220 : cx.zt 220 = some z220 := by kernel_rfl
theorem zt239 : cx.zt 239 = some z239 := by kernel_rfl
theorem zt245 : cx.zt 245 = some z245 := by kernel_rfl
theorem zt249 : cx.zt 249 = some z249 := by kernel_rfl
theorem zt258 : cx.zt 258 = some z258 := by kernel_rfl
theorem zt260 : cx.zt 260 = some z260 := by kernel_rfl
theorem zt262 : cx.zt 262 = some z262 := by kernel_rfl
theorem zt265 : cx.zt 265 = some z265 := by kernel_rfl
theorem zt268 : cx.zt 268 = some z268 := by kernel_rfl
theorem zt273 : cx.zt 273 = some z273 := by kernel_rfl
theorem zt282 : cx.zt 282 = some z282 := by kernel_rfl
theorem zt283 : cx.zt 283 = some z283 := by kernel_rfl
theorem zt286 : cx.zt 286 = some z286 := by kernel_rfl
theorem t2 : type_of% (sz2) ∧ type_of% (by2) ∧ type_of% (ag2) ∧ type_of% (sl2) ∧ type_of% (ar2) ∧ type_of% (pt2) ∧ type_of% (in2) ∧ type_of% (un2) ∧ type_of% (po2) ∧ type_of% (zt2) ∧ type_of% (@z2.eq_1) :=
  ⟨sz2, by2, ag2, sl2, ar2, pt2, in2, un2, po2, zt2, @z2.eq_1⟩
theorem t3 : type_of% (sz3) ∧ type_of% (by3) ∧ type_of% (ag3) ∧ type_of% (sl3) ∧ type_of% (ar3) ∧ type_of% (pt3) ∧ type_of% (in3) ∧ type_of% (un3) ∧ type_of% (po3) ∧ type_of% (zt3) ∧ type_of% (@z3.eq_1) :=
  ⟨sz3, by3, ag3, sl3, ar3, pt3, in3, un3, po3, zt3, @z3.eq_1⟩
theorem t4 : type_of% (sz4) ∧ type_of% (by4) ∧ type_of% (ag4) ∧ type_of% (sl4) ∧ type_of% (ar4) ∧ type_of% (pt4) ∧ type_of% (un4) ∧ type_of% (tb4) ∧ type_of% (po4) ∧ type_of% (zt4) ∧ type_of% (@z4.eq_1) :=
  ⟨sz4, by4, ag4, sl4, ar4, pt4, un4, tb4, po4, zt4, @z4.eq_1⟩
theorem t5 : type_of% (sz5) ∧ type_of% (by5) ∧ type_of% (ag5) ∧ type_of% (sl5) ∧ type_of% (ar5) ∧ type_of% (pt5) ∧ type_of% (in5) ∧ type_of% (un5) ∧ type_of% (po5) ∧ type_of% (zt5) ∧ type_of% (@z5.eq_1) :=
  ⟨sz5, by5, ag5, sl5, ar5, pt5, in5, un5, po5, zt5, @z5.eq_1⟩
theorem t9 : type_of% (sz9) ∧ type_of% (by9) ∧ type_of% (ag9) ∧ type_of% (sl9) ∧ type_of% (ar9) ∧ type_of% (pt9) ∧ type_of% (st9) ∧ type_of% (un9) ∧ type_of% (po9) ∧ type_of% (zt9) ∧ type_of% (@z9.eq_1) :=
  ⟨sz9, by9, ag9, sl9, ar9, pt9, st9, un9, po9, zt9, @z9.eq_1⟩
theorem t20 : type_of% (sz20) ∧ type_of% (by20) ∧ type_of% (ag20) ∧ type_of% (sl20) ∧ type_of% (ar20) ∧ type_of% (pt20) ∧ type_of% (un20) ∧ type_of% (po20) ∧ type_of% (zt20) ∧ type_of% (@z20.eq_1) :=
  ⟨sz20, by20, ag20, sl20, ar20, pt20, un20, po20, zt20, @z20.eq_1⟩
theorem t22 : type_of% (sz22) ∧ type_of% (by22) ∧ type_of% (ag22) ∧ type_of% (sl22) ∧ type_of% (ar22) ∧ type_of% (pt22) ∧ type_of% (un22) ∧ type_of% (po22) ∧ type_of% (zt22) ∧ type_of% (@z22.eq_1) :=
  ⟨sz22, by22, ag22, sl22, ar22, pt22, un22, po22, zt22, @z22.eq_1⟩
theorem t23 : type_of% (sz23) ∧ type_of% (by23) ∧ type_of% (ag23) ∧ type_of% (sl23) ∧ type_of% (ar23) ∧ type_of% (pt23) ∧ type_of% (un23) ∧ type_of% (po23) ∧ type_of% (zt23) ∧ type_of% (@z23.eq_1) :=
  ⟨sz23, by23, ag23, sl23, ar23, pt23, un23, po23, zt23, @z23.eq_1⟩
theorem t24 : type_of% (sz24) ∧ type_of% (by24) ∧ type_of% (ag24) ∧ type_of% (sl24) ∧ type_of% (ar24) ∧ type_of% (pt24) ∧ type_of% (un24) ∧ type_of% (po24) ∧ type_of% (zt24) ∧ type_of% (@z24.eq_1) :=
  ⟨sz24, by24, ag24, sl24, ar24, pt24, un24, po24, zt24, @z24.eq_1⟩
theorem t25 : type_of% (sz25) ∧ type_of% (by25) ∧ type_of% (ag25) ∧ type_of% (sl25) ∧ type_of% (ar25) ∧ type_of% (pt25) ∧ type_of% (un25) ∧ type_of% (po25) ∧ type_of% (tq25) ∧ type_of% (zt25) ∧ type_of% (@z25.eq_1) :=
  ⟨sz25, by25, ag25, sl25, ar25, pt25, un25, po25, tq25, zt25, @z25.eq_1⟩
theorem t26 : type_of% (sz26) ∧ type_of% (by26) ∧ type_of% (ag26) ∧ type_of% (sl26) ∧ type_of% (ar26) ∧ type_of% (pt26) ∧ type_of% (un26) ∧ type_of% (po26) ∧ type_of% (tw26) ∧ type_of% (tq26) ∧ type_of% (zt26) ∧ type_of% (@z26.eq_1) :=
  ⟨sz26, by26, ag26, sl26, ar26, pt26, un26, po26, tw26, tq26, zt26, @z26.eq_1⟩
theorem t28 : type_of% (sz28) ∧ type_of% (by28) ∧ type_of% (ag28) ∧ type_of% (sl28) ∧ type_of% (ar28) ∧ type_of% (pt28) ∧ type_of% (un28) ∧ type_of% (fl28_0) ∧ type_of% (fl28_1) ∧ type_of% (fl28_2) ∧ type_of% (fl28_3) ∧ type_of% (fl28_4) ∧ type_of% (fl28_5) ∧ type_of% (fl28_6) ∧ type_of% (fs28) ∧ type_of% (po28) ∧ type_of% (tq28) ∧ type_of% (tc28) ∧ type_of% (zt28) ∧ type_of% (@z28.eq_1) :=
  ⟨sz28, by28, ag28, sl28, ar28, pt28, un28, fl28_0, fl28_1, fl28_2, fl28_3, fl28_4, fl28_5, fl28_6, fs28, po28, tq28, tc28, zt28, @z28.eq_1⟩
theorem t29 : type_of% (sz29) ∧ type_of% (by29) ∧ type_of% (ag29) ∧ type_of% (sl29) ∧ type_of% (ar29) ∧ type_of% (pt29) ∧ type_of% (un29) ∧ type_of% (po29) ∧ type_of% (zt29) ∧ type_of% (@z29.eq_1) :=
  ⟨sz29, by29, ag29, sl29, ar29, pt29, un29, po29, zt29, @z29.eq_1⟩
theorem t30 : type_of% (sz30) ∧ type_of% (by30) ∧ type_of% (ag30) ∧ type_of% (sl30) ∧ type_of% (ar30) ∧ type_of% (pt30) ∧ type_of% (un30) ∧ type_of% (po30) ∧ type_of% (zt30) ∧ type_of% (@z30.eq_1) :=
  ⟨sz30, by30, ag30, sl30, ar30, pt30, un30, po30, zt30, @z30.eq_1⟩
theorem t34 : type_of% (sz34) ∧ type_of% (by34) ∧ type_of% (ag34) ∧ type_of% (sl34) ∧ type_of% (ar34) ∧ type_of% (pt34) ∧ type_of% (un34) ∧ type_of% (po34) ∧ type_of% (zt34) ∧ type_of% (@z34.eq_1) :=
  ⟨sz34, by34, ag34, sl34, ar34, pt34, un34, po34, zt34, @z34.eq_1⟩
theorem t35 : type_of% (sz35) ∧ type_of% (by35) ∧ type_of% (ag35) ∧ type_of% (sl35) ∧ type_of% (ar35) ∧ type_of% (pt35) ∧ type_of% (un35) ∧ type_of% (po35) ∧ type_of% (zt35) ∧ type_of% (@z35.eq_1) :=
  ⟨sz35, by35, ag35, sl35, ar35, pt35, un35, po35, zt35, @z35.eq_1⟩
theorem t37 : type_of% (sz37) ∧ type_of% (by37) ∧ type_of% (ag37) ∧ type_of% (sl37) ∧ type_of% (ar37) ∧ type_of% (pt37) ∧ type_of% (un37) ∧ type_of% (fl37_0) ∧ type_of% (fl37_1) ∧ type_of% (fl37_2) ∧ type_of% (fl37_3) ∧ type_of% (fl37_4) ∧ type_of% (fl37_5) ∧ type_of% (fs37) ∧ type_of% (po37) ∧ type_of% (zt37) ∧ type_of% (@z37.eq_1) :=
  ⟨sz37, by37, ag37, sl37, ar37, pt37, un37, fl37_0, fl37_1, fl37_2, fl37_3, fl37_4, fl37_5, fs37, po37, zt37, @z37.eq_1⟩
theorem t38 : type_of% (sz38) ∧ type_of% (by38) ∧ type_of% (ag38) ∧ type_of% (sl38) ∧ type_of% (ar38) ∧ type_of% (pt38) ∧ type_of% (un38) ∧ type_of% (po38) ∧ type_of% (zt38) ∧ type_of% (@z38.eq_1) :=
  ⟨sz38, by38, ag38, sl38, ar38, pt38, un38, po38, zt38, @z38.eq_1⟩
theorem t40 : type_of% (sz40) ∧ type_of% (by40) ∧ type_of% (ag40) ∧ type_of% (sl40) ∧ type_of% (ar40) ∧ type_of% (pt40) ∧ type_of% (un40) ∧ type_of% (fl40_0) ∧ type_of% (fl40_1) ∧ type_of% (fl40_2) ∧ type_of% (fl40_3) ∧ type_of% (fs40) ∧ type_of% (po40) ∧ type_of% (zt40) ∧ type_of% (@z40.eq_1) :=
  ⟨sz40, by40, ag40, sl40, ar40, pt40, un40, fl40_0, fl40_1, fl40_2, fl40_3, fs40, po40, zt40, @z40.eq_1⟩
theorem t41 : type_of% (sz41) ∧ type_of% (by41) ∧ type_of% (ag41) ∧ type_of% (sl41) ∧ type_of% (ar41) ∧ type_of% (pt41) ∧ type_of% (in41) ∧ type_of% (un41) ∧ type_of% (po41) ∧ type_of% (zt41) ∧ type_of% (@z41.eq_1) :=
  ⟨sz41, by41, ag41, sl41, ar41, pt41, in41, un41, po41, zt41, @z41.eq_1⟩
theorem t45 : type_of% (sz45) ∧ type_of% (by45) ∧ type_of% (ag45) ∧ type_of% (sl45) ∧ type_of% (ar45) ∧ type_of% (pt45) ∧ type_of% (un45) ∧ type_of% (fl45_0) ∧ type_of% (fl45_1) ∧ type_of% (fs45) ∧ type_of% (po45) ∧ type_of% (tw45) ∧ type_of% (tq45) ∧ type_of% (tc45) ∧ type_of% (zt45) ∧ type_of% (@z45.eq_1) :=
  ⟨sz45, by45, ag45, sl45, ar45, pt45, un45, fl45_0, fl45_1, fs45, po45, tw45, tq45, tc45, zt45, @z45.eq_1⟩
theorem t47 : type_of% (sz47) ∧ type_of% (by47) ∧ type_of% (ag47) ∧ type_of% (sl47) ∧ type_of% (ar47) ∧ type_of% (pt47) ∧ type_of% (un47) ∧ type_of% (fl47_0) ∧ type_of% (fl47_1) ∧ type_of% (fl47_2) ∧ type_of% (fl47_3) ∧ type_of% (fl47_4) ∧ type_of% (fl47_5) ∧ type_of% (fl47_6) ∧ type_of% (fs47) ∧ type_of% (po47) ∧ type_of% (tq47) ∧ type_of% (tc47) ∧ type_of% (zt47) ∧ type_of% (@z47.eq_1) :=
  ⟨sz47, by47, ag47, sl47, ar47, pt47, un47, fl47_0, fl47_1, fl47_2, fl47_3, fl47_4, fl47_5, fl47_6, fs47, po47, tq47, tc47, zt47, @z47.eq_1⟩
theorem t51 : type_of% (sz51) ∧ type_of% (by51) ∧ type_of% (ag51) ∧ type_of% (sl51) ∧ type_of% (ar51) ∧ type_of% (pt51) ∧ type_of% (un51) ∧ type_of% (fl51_0) ∧ type_of% (fl51_1) ∧ type_of% (fs51) ∧ type_of% (po51) ∧ type_of% (zt51) ∧ type_of% (@z51.eq_1) :=
  ⟨sz51, by51, ag51, sl51, ar51, pt51, un51, fl51_0, fl51_1, fs51, po51, zt51, @z51.eq_1⟩
theorem t55 : type_of% (sz55) ∧ type_of% (by55) ∧ type_of% (ag55) ∧ type_of% (sl55) ∧ type_of% (ar55) ∧ type_of% (pt55) ∧ type_of% (un55) ∧ type_of% (po55) ∧ type_of% (zt55) ∧ type_of% (@z55.eq_1) :=
  ⟨sz55, by55, ag55, sl55, ar55, pt55, un55, po55, zt55, @z55.eq_1⟩
theorem t59 : type_of% (sz59) ∧ type_of% (by59) ∧ type_of% (ag59) ∧ type_of% (sl59) ∧ type_of% (ar59) ∧ type_of% (pt59) ∧ type_of% (un59) ∧ type_of% (fl59_0) ∧ type_of% (fl59_1) ∧ type_of% (fs59) ∧ type_of% (po59) ∧ type_of% (tq59) ∧ type_of% (tc59) ∧ type_of% (zt59) ∧ type_of% (@z59.eq_1) :=
  ⟨sz59, by59, ag59, sl59, ar59, pt59, un59, fl59_0, fl59_1, fs59, po59, tq59, tc59, zt59, @z59.eq_1⟩
theorem t66 : type_of% (sz66) ∧ type_of% (by66) ∧ type_of% (ag66) ∧ type_of% (sl66) ∧ type_of% (ar66) ∧ type_of% (pt66) ∧ type_of% (un66) ∧ type_of% (po66) ∧ type_of% (tq66) ∧ type_of% (zt66) ∧ type_of% (@z66.eq_1) :=
  ⟨sz66, by66, ag66, sl66, ar66, pt66, un66, po66, tq66, zt66, @z66.eq_1⟩
theorem t68 : type_of% (sz68) ∧ type_of% (by68) ∧ type_of% (ag68) ∧ type_of% (sl68) ∧ type_of% (ar68) ∧ type_of% (pt68) ∧ type_of% (un68) ∧ type_of% (fl68_0) ∧ type_of% (fl68_1) ∧ type_of% (fl68_2) ∧ type_of% (fl68_3) ∧ type_of% (fs68) ∧ type_of% (po68) ∧ type_of% (tq68) ∧ type_of% (tc68) ∧ type_of% (zt68) ∧ type_of% (@z68.eq_1) :=
  ⟨sz68, by68, ag68, sl68, ar68, pt68, un68, fl68_0, fl68_1, fl68_2, fl68_3, fs68, po68, tq68, tc68, zt68, @z68.eq_1⟩
theorem t70 : type_of% (sz70) ∧ type_of% (by70) ∧ type_of% (ag70) ∧ type_of% (sl70) ∧ type_of% (ar70) ∧ type_of% (pt70) ∧ type_of% (un70) ∧ type_of% (fl70_0) ∧ type_of% (fl70_1) ∧ type_of% (fs70) ∧ type_of% (po70) ∧ type_of% (tq70) ∧ type_of% (tc70) ∧ type_of% (zt70) ∧ type_of% (@z70.eq_1) :=
  ⟨sz70, by70, ag70, sl70, ar70, pt70, un70, fl70_0, fl70_1, fs70, po70, tq70, tc70, zt70, @z70.eq_1⟩
theorem t72 : type_of% (sz72) ∧ type_of% (by72) ∧ type_of% (ag72) ∧ type_of% (sl72) ∧ type_of% (ar72) ∧ type_of% (pt72) ∧ type_of% (un72) ∧ type_of% (fl72_0) ∧ type_of% (fl72_1) ∧ type_of% (fl72_2) ∧ type_of% (fl72_3) ∧ type_of% (fl72_4) ∧ type_of% (fs72) ∧ type_of% (po72) ∧ type_of% (tq72) ∧ type_of% (tc72) ∧ type_of% (zt72) ∧ type_of% (@z72.eq_1) :=
  ⟨sz72, by72, ag72, sl72, ar72, pt72, un72, fl72_0, fl72_1, fl72_2, fl72_3, fl72_4, fs72, po72, tq72, tc72, zt72, @z72.eq_1⟩
theorem t74 : type_of% (sz74) ∧ type_of% (by74) ∧ type_of% (ag74) ∧ type_of% (sl74) ∧ type_of% (ar74) ∧ type_of% (pt74) ∧ type_of% (un74) ∧ type_of% (fl74_0) ∧ type_of% (fl74_1) ∧ type_of% (fs74) ∧ type_of% (po74) ∧ type_of% (zt74) ∧ type_of% (@z74.eq_1) :=
  ⟨sz74, by74, ag74, sl74, ar74, pt74, un74, fl74_0, fl74_1, fs74, po74, zt74, @z74.eq_1⟩
theorem t76 : type_of% (sz76) ∧ type_of% (by76) ∧ type_of% (ag76) ∧ type_of% (sl76) ∧ type_of% (ar76) ∧ type_of% (pt76) ∧ type_of% (un76) ∧ type_of% (fl76_0) ∧ type_of% (fl76_1) ∧ type_of% (fl76_2) ∧ type_of% (fl76_3) ∧ type_of% (fl76_4) ∧ type_of% (fl76_5) ∧ type_of% (fl76_6) ∧ type_of% (fl76_7) ∧ type_of% (fl76_8) ∧ type_of% (fs76) ∧ type_of% (po76) ∧ type_of% (zt76) ∧ type_of% (@z76.eq_1) :=
  ⟨sz76, by76, ag76, sl76, ar76, pt76, un76, fl76_0, fl76_1, fl76_2, fl76_3, fl76_4, fl76_5, fl76_6, fl76_7, fl76_8, fs76, po76, zt76, @z76.eq_1⟩
theorem t84 : type_of% (sz84) ∧ type_of% (by84) ∧ type_of% (ag84) ∧ type_of% (sl84) ∧ type_of% (ar84) ∧ type_of% (pt84) ∧ type_of% (un84) ∧ type_of% (po84) ∧ type_of% (zt84) ∧ type_of% (@z84.eq_1) :=
  ⟨sz84, by84, ag84, sl84, ar84, pt84, un84, po84, zt84, @z84.eq_1⟩
theorem t86 : type_of% (sz86) ∧ type_of% (by86) ∧ type_of% (ag86) ∧ type_of% (sl86) ∧ type_of% (ar86) ∧ type_of% (pt86) ∧ type_of% (un86) ∧ type_of% (fl86_0) ∧ type_of% (fs86) ∧ type_of% (po86) ∧ type_of% (zt86) ∧ type_of% (@z86.eq_1) :=
  ⟨sz86, by86, ag86, sl86, ar86, pt86, un86, fl86_0, fs86, po86, zt86, @z86.eq_1⟩
theorem t87 : type_of% (sz87) ∧ type_of% (by87) ∧ type_of% (ag87) ∧ type_of% (sl87) ∧ type_of% (ar87) ∧ type_of% (pt87) ∧ type_of% (un87) ∧ type_of% (po87) ∧ type_of% (zt87) ∧ type_of% (@z87.eq_1) :=
  ⟨sz87, by87, ag87, sl87, ar87, pt87, un87, po87, zt87, @z87.eq_1⟩
theorem t88 : type_of% (sz88) ∧ type_of% (by88) ∧ type_of% (ag88) ∧ type_of% (sl88) ∧ type_of% (ar88) ∧ type_of% (pt88) ∧ type_of% (mp88) ∧ type_of% (un88) ∧ type_of% (po88) ∧ type_of% (zt88) ∧ type_of% (@z88.eq_1) :=
  ⟨sz88, by88, ag88, sl88, ar88, pt88, mp88, un88, po88, zt88, @z88.eq_1⟩
theorem t90 : type_of% (sz90) ∧ type_of% (by90) ∧ type_of% (ag90) ∧ type_of% (sl90) ∧ type_of% (ar90) ∧ type_of% (pt90) ∧ type_of% (un90) ∧ type_of% (fl90_0) ∧ type_of% (fl90_1) ∧ type_of% (fl90_2) ∧ type_of% (fl90_3) ∧ type_of% (fl90_4) ∧ type_of% (fl90_5) ∧ type_of% (fl90_6) ∧ type_of% (fl90_7) ∧ type_of% (fl90_8) ∧ type_of% (fs90) ∧ type_of% (po90) ∧ type_of% (zt90) ∧ type_of% (@z90.eq_1) :=
  ⟨sz90, by90, ag90, sl90, ar90, pt90, un90, fl90_0, fl90_1, fl90_2, fl90_3, fl90_4, fl90_5, fl90_6, fl90_7, fl90_8, fs90, po90, zt90, @z90.eq_1⟩
theorem t91 : type_of% (sz91) ∧ type_of% (by91) ∧ type_of% (ag91) ∧ type_of% (sl91) ∧ type_of% (ar91) ∧ type_of% (pt91) ∧ type_of% (un91) ∧ type_of% (po91) ∧ type_of% (zt91) ∧ type_of% (@z91.eq_1) :=
  ⟨sz91, by91, ag91, sl91, ar91, pt91, un91, po91, zt91, @z91.eq_1⟩
theorem t92 : type_of% (sz92) ∧ type_of% (by92) ∧ type_of% (ag92) ∧ type_of% (sl92) ∧ type_of% (ar92) ∧ type_of% (pt92) ∧ type_of% (un92) ∧ type_of% (po92) ∧ type_of% (zt92) ∧ type_of% (@z92.eq_1) :=
  ⟨sz92, by92, ag92, sl92, ar92, pt92, un92, po92, zt92, @z92.eq_1⟩
theorem t93 : type_of% (sz93) ∧ type_of% (by93) ∧ type_of% (ag93) ∧ type_of% (sl93) ∧ type_of% (ar93) ∧ type_of% (pt93) ∧ type_of% (mp93) ∧ type_of% (un93) ∧ type_of% (po93) ∧ type_of% (zt93) ∧ type_of% (@z93.eq_1) :=
  ⟨sz93, by93, ag93, sl93, ar93, pt93, mp93, un93, po93, zt93, @z93.eq_1⟩
theorem t94 : type_of% (sz94) ∧ type_of% (by94) ∧ type_of% (ag94) ∧ type_of% (sl94) ∧ type_of% (ar94) ∧ type_of% (pt94) ∧ type_of% (mp94) ∧ type_of% (un94) ∧ type_of% (po94) ∧ type_of% (zt94) ∧ type_of% (@z94.eq_1) :=
  ⟨sz94, by94, ag94, sl94, ar94, pt94, mp94, un94, po94, zt94, @z94.eq_1⟩
theorem t96 : type_of% (sz96) ∧ type_of% (by96) ∧ type_of% (ag96) ∧ type_of% (sl96) ∧ type_of% (ar96) ∧ type_of% (pt96) ∧ type_of% (un96) ∧ type_of% (fl96_0) ∧ type_of% (fl96_1) ∧ type_of% (fl96_2) ∧ type_of% (fl96_3) ∧ type_of% (fl96_4) ∧ type_of% (fl96_5) ∧ type_of% (fs96) ∧ type_of% (po96) ∧ type_of% (zt96) ∧ type_of% (@z96.eq_1) :=
  ⟨sz96, by96, ag96, sl96, ar96, pt96, un96, fl96_0, fl96_1, fl96_2, fl96_3, fl96_4, fl96_5, fs96, po96, zt96, @z96.eq_1⟩
theorem t99 : type_of% (sz99) ∧ type_of% (by99) ∧ type_of% (ag99) ∧ type_of% (sl99) ∧ type_of% (ar99) ∧ type_of% (pt99) ∧ type_of% (un99) ∧ type_of% (po99) ∧ type_of% (zt99) ∧ type_of% (@z99.eq_1) :=
  ⟨sz99, by99, ag99, sl99, ar99, pt99, un99, po99, zt99, @z99.eq_1⟩
theorem t101 : type_of% (sz101) ∧ type_of% (by101) ∧ type_of% (ag101) ∧ type_of% (sl101) ∧ type_of% (ar101) ∧ type_of% (pt101) ∧ type_of% (un101) ∧ type_of% (fl101_0) ∧ type_of% (fl101_1) ∧ type_of% (fl101_2) ∧ type_of% (fl101_3) ∧ type_of% (fs101) ∧ type_of% (po101) ∧ type_of% (zt101) ∧ type_of% (@z101.eq_1) :=
  ⟨sz101, by101, ag101, sl101, ar101, pt101, un101, fl101_0, fl101_1, fl101_2, fl101_3, fs101, po101, zt101, @z101.eq_1⟩
theorem t102 : type_of% (sz102) ∧ type_of% (by102) ∧ type_of% (ag102) ∧ type_of% (sl102) ∧ type_of% (ar102) ∧ type_of% (pt102) ∧ type_of% (un102) ∧ type_of% (po102) ∧ type_of% (zt102) ∧ type_of% (@z102.eq_1) :=
  ⟨sz102, by102, ag102, sl102, ar102, pt102, un102, po102, zt102, @z102.eq_1⟩
theorem t104 : type_of% (sz104) ∧ type_of% (by104) ∧ type_of% (ag104) ∧ type_of% (sl104) ∧ type_of% (ar104) ∧ type_of% (pt104) ∧ type_of% (un104) ∧ type_of% (fl104_0) ∧ type_of% (fl104_1) ∧ type_of% (fs104) ∧ type_of% (po104) ∧ type_of% (zt104) ∧ type_of% (@z104.eq_1) :=
  ⟨sz104, by104, ag104, sl104, ar104, pt104, un104, fl104_0, fl104_1, fs104, po104, zt104, @z104.eq_1⟩
theorem t109 : type_of% (sz109) ∧ type_of% (by109) ∧ type_of% (ag109) ∧ type_of% (sl109) ∧ type_of% (ar109) ∧ type_of% (pt109) ∧ type_of% (un109) ∧ type_of% (fl109_0) ∧ type_of% (fl109_1) ∧ type_of% (fl109_2) ∧ type_of% (fs109) ∧ type_of% (po109) ∧ type_of% (zt109) ∧ type_of% (@z109.eq_1) :=
  ⟨sz109, by109, ag109, sl109, ar109, pt109, un109, fl109_0, fl109_1, fl109_2, fs109, po109, zt109, @z109.eq_1⟩
theorem t116 : type_of% (sz116) ∧ type_of% (by116) ∧ type_of% (ag116) ∧ type_of% (sl116) ∧ type_of% (ar116) ∧ type_of% (pt116) ∧ type_of% (un116) ∧ type_of% (po116) ∧ type_of% (zt116) ∧ type_of% (@z116.eq_1) :=
  ⟨sz116, by116, ag116, sl116, ar116, pt116, un116, po116, zt116, @z116.eq_1⟩
theorem t126 : type_of% (sz126) ∧ type_of% (by126) ∧ type_of% (ag126) ∧ type_of% (sl126) ∧ type_of% (ar126) ∧ type_of% (pt126) ∧ type_of% (un126) ∧ type_of% (po126) ∧ type_of% (zt126) ∧ type_of% (@z126.eq_1) :=
  ⟨sz126, by126, ag126, sl126, ar126, pt126, un126, po126, zt126, @z126.eq_1⟩
theorem t129 : type_of% (sz129) ∧ type_of% (by129) ∧ type_of% (ag129) ∧ type_of% (sl129) ∧ type_of% (ar129) ∧ type_of% (pt129) ∧ type_of% (un129) ∧ type_of% (fl129_0) ∧ type_of% (fl129_1) ∧ type_of% (fs129) ∧ type_of% (po129) ∧ type_of% (zt129) ∧ type_of% (@z129.eq_1) :=
  ⟨sz129, by129, ag129, sl129, ar129, pt129, un129, fl129_0, fl129_1, fs129, po129, zt129, @z129.eq_1⟩
theorem t133 : type_of% (sz133) ∧ type_of% (by133) ∧ type_of% (ag133) ∧ type_of% (sl133) ∧ type_of% (ar133) ∧ type_of% (pt133) ∧ type_of% (un133) ∧ type_of% (fl133_0) ∧ type_of% (fl133_1) ∧ type_of% (fl133_2) ∧ type_of% (fs133) ∧ type_of% (po133) ∧ type_of% (tq133) ∧ type_of% (tc133) ∧ type_of% (zt133) ∧ type_of% (@z133.eq_1) :=
  ⟨sz133, by133, ag133, sl133, ar133, pt133, un133, fl133_0, fl133_1, fl133_2, fs133, po133, tq133, tc133, zt133, @z133.eq_1⟩
theorem t145 : type_of% (sz145) ∧ type_of% (by145) ∧ type_of% (ag145) ∧ type_of% (sl145) ∧ type_of% (ar145) ∧ type_of% (pt145) ∧ type_of% (un145) ∧ type_of% (po145) ∧ type_of% (zt145) ∧ type_of% (@z145.eq_1) :=
  ⟨sz145, by145, ag145, sl145, ar145, pt145, un145, po145, zt145, @z145.eq_1⟩
theorem t146 : type_of% (sz146) ∧ type_of% (by146) ∧ type_of% (ag146) ∧ type_of% (sl146) ∧ type_of% (ar146) ∧ type_of% (pt146) ∧ type_of% (un146) ∧ type_of% (po146) ∧ type_of% (tw146) ∧ type_of% (tq146) ∧ type_of% (zt146) ∧ type_of% (@z146.eq_1) :=
  ⟨sz146, by146, ag146, sl146, ar146, pt146, un146, po146, tw146, tq146, zt146, @z146.eq_1⟩
theorem t153 : type_of% (sz153) ∧ type_of% (by153) ∧ type_of% (ag153) ∧ type_of% (sl153) ∧ type_of% (ar153) ∧ type_of% (pt153) ∧ type_of% (un153) ∧ type_of% (po153) ∧ type_of% (zt153) ∧ type_of% (@z153.eq_1) :=
  ⟨sz153, by153, ag153, sl153, ar153, pt153, un153, po153, zt153, @z153.eq_1⟩
theorem t156 : type_of% (sz156) ∧ type_of% (by156) ∧ type_of% (ag156) ∧ type_of% (sl156) ∧ type_of% (ar156) ∧ type_of% (pt156) ∧ type_of% (un156) ∧ type_of% (po156) ∧ type_of% (zt156) ∧ type_of% (@z156.eq_1) :=
  ⟨sz156, by156, ag156, sl156, ar156, pt156, un156, po156, zt156, @z156.eq_1⟩
theorem t161 : type_of% (sz161) ∧ type_of% (by161) ∧ type_of% (ag161) ∧ type_of% (sl161) ∧ type_of% (ar161) ∧ type_of% (pt161) ∧ type_of% (un161) ∧ type_of% (po161) ∧ type_of% (zt161) ∧ type_of% (@z161.eq_1) :=
  ⟨sz161, by161, ag161, sl161, ar161, pt161, un161, po161, zt161, @z161.eq_1⟩
theorem t165 : type_of% (sz165) ∧ type_of% (by165) ∧ type_of% (ag165) ∧ type_of% (sl165) ∧ type_of% (ar165) ∧ type_of% (pt165) ∧ type_of% (un165) ∧ type_of% (fl165_0) ∧ type_of% (fs165) ∧ type_of% (po165) ∧ type_of% (zt165) ∧ type_of% (@z165.eq_1) :=
  ⟨sz165, by165, ag165, sl165, ar165, pt165, un165, fl165_0, fs165, po165, zt165, @z165.eq_1⟩
theorem t167 : type_of% (sz167) ∧ type_of% (by167) ∧ type_of% (ag167) ∧ type_of% (sl167) ∧ type_of% (ar167) ∧ type_of% (pt167) ∧ type_of% (un167) ∧ type_of% (po167) ∧ type_of% (zt167) ∧ type_of% (@z167.eq_1) :=
  ⟨sz167, by167, ag167, sl167, ar167, pt167, un167, po167, zt167, @z167.eq_1⟩
theorem t176 : type_of% (sz176) ∧ type_of% (by176) ∧ type_of% (ag176) ∧ type_of% (sl176) ∧ type_of% (ar176) ∧ type_of% (pt176) ∧ type_of% (un176) ∧ type_of% (fl176_0) ∧ type_of% (fl176_1) ∧ type_of% (fs176) ∧ type_of% (po176) ∧ type_of% (zt176) ∧ type_of% (@z176.eq_1) :=
  ⟨sz176, by176, ag176, sl176, ar176, pt176, un176, fl176_0, fl176_1, fs176, po176, zt176, @z176.eq_1⟩
theorem t177 : type_of% (sz177) ∧ type_of% (by177) ∧ type_of% (ag177) ∧ type_of% (sl177) ∧ type_of% (ar177) ∧ type_of% (pt177) ∧ type_of% (un177) ∧ type_of% (po177) ∧ type_of% (zt177) ∧ type_of% (@z177.eq_1) :=
  ⟨sz177, by177, ag177, sl177, ar177, pt177, un177, po177, zt177, @z177.eq_1⟩
theorem t180 : type_of% (sz180) ∧ type_of% (by180) ∧ type_of% (ag180) ∧ type_of% (sl180) ∧ type_of% (ar180) ∧ type_of% (pt180) ∧ type_of% (un180) ∧ type_of% (po180) ∧ type_of% (zt180) ∧ type_of% (@z180.eq_1) :=
  ⟨sz180, by180, ag180, sl180, ar180, pt180, un180, po180, zt180, @z180.eq_1⟩
theorem t181 : type_of% (sz181) ∧ type_of% (by181) ∧ type_of% (ag181) ∧ type_of% (sl181) ∧ type_of% (ar181) ∧ type_of% (pt181) ∧ type_of% (mp181) ∧ type_of% (un181) ∧ type_of% (po181) ∧ type_of% (zt181) ∧ type_of% (@z181.eq_1) :=
  ⟨sz181, by181, ag181, sl181, ar181, pt181, mp181, un181, po181, zt181, @z181.eq_1⟩
theorem t183 : type_of% (sz183) ∧ type_of% (by183) ∧ type_of% (ag183) ∧ type_of% (sl183) ∧ type_of% (ar183) ∧ type_of% (pt183) ∧ type_of% (un183) ∧ type_of% (fl183_0) ∧ type_of% (fs183) ∧ type_of% (po183) ∧ type_of% (zt183) ∧ type_of% (@z183.eq_1) :=
  ⟨sz183, by183, ag183, sl183, ar183, pt183, un183, fl183_0, fs183, po183, zt183, @z183.eq_1⟩
theorem t184 : type_of% (sz184) ∧ type_of% (by184) ∧ type_of% (ag184) ∧ type_of% (sl184) ∧ type_of% (ar184) ∧ type_of% (pt184) ∧ type_of% (mp184) ∧ type_of% (un184) ∧ type_of% (po184) ∧ type_of% (zt184) ∧ type_of% (@z184.eq_1) :=
  ⟨sz184, by184, ag184, sl184, ar184, pt184, mp184, un184, po184, zt184, @z184.eq_1⟩
theorem t185 : type_of% (sz185) ∧ type_of% (by185) ∧ type_of% (ag185) ∧ type_of% (sl185) ∧ type_of% (ar185) ∧ type_of% (pt185) ∧ type_of% (mp185) ∧ type_of% (un185) ∧ type_of% (po185) ∧ type_of% (zt185) ∧ type_of% (@z185.eq_1) :=
  ⟨sz185, by185, ag185, sl185, ar185, pt185, mp185, un185, po185, zt185, @z185.eq_1⟩
theorem t187 : type_of% (sz187) ∧ type_of% (by187) ∧ type_of% (ag187) ∧ type_of% (sl187) ∧ type_of% (ar187) ∧ type_of% (pt187) ∧ type_of% (un187) ∧ type_of% (fl187_0) ∧ type_of% (fl187_1) ∧ type_of% (fs187) ∧ type_of% (po187) ∧ type_of% (zt187) ∧ type_of% (@z187.eq_1) :=
  ⟨sz187, by187, ag187, sl187, ar187, pt187, un187, fl187_0, fl187_1, fs187, po187, zt187, @z187.eq_1⟩
theorem t194 : type_of% (sz194) ∧ type_of% (by194) ∧ type_of% (ag194) ∧ type_of% (sl194) ∧ type_of% (ar194) ∧ type_of% (pt194) ∧ type_of% (un194) ∧ type_of% (fl194_0) ∧ type_of% (fl194_1) ∧ type_of% (fl194_2) ∧ type_of% (fl194_3) ∧ type_of% (fs194) ∧ type_of% (po194) ∧ type_of% (zt194) ∧ type_of% (@z194.eq_1) :=
  ⟨sz194, by194, ag194, sl194, ar194, pt194, un194, fl194_0, fl194_1, fl194_2, fl194_3, fs194, po194, zt194, @z194.eq_1⟩
theorem t197 : type_of% (sz197) ∧ type_of% (by197) ∧ type_of% (ag197) ∧ type_of% (sl197) ∧ type_of% (ar197) ∧ type_of% (pt197) ∧ type_of% (un197) ∧ type_of% (fl197_0) ∧ type_of% (fl197_1) ∧ type_of% (fl197_2) ∧ type_of% (fl197_3) ∧ type_of% (fs197) ∧ type_of% (po197) ∧ type_of% (tq197) ∧ type_of% (tc197) ∧ type_of% (zt197) ∧ type_of% (@z197.eq_1) :=
  ⟨sz197, by197, ag197, sl197, ar197, pt197, un197, fl197_0, fl197_1, fl197_2, fl197_3, fs197, po197, tq197, tc197, zt197, @z197.eq_1⟩
theorem t200 : type_of% (sz200) ∧ type_of% (by200) ∧ type_of% (ag200) ∧ type_of% (sl200) ∧ type_of% (ar200) ∧ type_of% (pt200) ∧ type_of% (un200) ∧ type_of% (fl200_0) ∧ type_of% (fl200_1) ∧ type_of% (fl200_2) ∧ type_of% (fl200_3) ∧ type_of% (fl200_4) ∧ type_of% (fs200) ∧ type_of% (po200) ∧ type_of% (tq200) ∧ type_of% (tc200) ∧ type_of% (zt200) ∧ type_of% (@z200.eq_1) :=
  ⟨sz200, by200, ag200, sl200, ar200, pt200, un200, fl200_0, fl200_1, fl200_2, fl200_3, fl200_4, fs200, po200, tq200, tc200, zt200, @z200.eq_1⟩
theorem t219 : type_of% (sz219) ∧ type_of% (by219) ∧ type_of% (ag219) ∧ type_of% (sl219) ∧ type_of% (ar219) ∧ type_of% (pt219) ∧ type_of% (un219) ∧ type_of% (po219) ∧ type_of% (zt219) ∧ type_of% (@z219.eq_1) :=
  ⟨sz219, by219, ag219, sl219, ar219, pt219, un219, po219, zt219, @z219.eq_1⟩
theorem t220 : type_of% (sz220) ∧ type_of% (by220) ∧ type_of% (ag220) ∧ type_of% (sl220) ∧ type_of% (ar220) ∧ type_of% (pt220) ∧ type_of% (in220) ∧ type_of% (un220) ∧ type_of% (po220) ∧ type_of% (zt220) ∧ type_of% (@z220.eq_1) :=
  ⟨sz220, by220, ag220, sl220, ar220, pt220, in220, un220, po220, zt220, @z220.eq_1⟩
theorem t239 : type_of% (sz239) ∧ type_of% (by239) ∧ type_of% (ag239) ∧ type_of% (sl239) ∧ type_of% (ar239) ∧ type_of% (pt239) ∧ type_of% (un239) ∧ type_of% (po239) ∧ type_of% (zt239) ∧ type_of% (@z239.eq_1) :=
  ⟨sz239, by239, ag239, sl239, ar239, pt239, un239, po239, zt239, @z239.eq_1⟩
theorem t245 : type_of% (sz245) ∧ type_of% (by245) ∧ type_of% (ag245) ∧ type_of% (sl245) ∧ type_of% (ar245) ∧ type_of% (pt245) ∧ type_of% (un245) ∧ type_of% (fl245_0) ∧ type_of% (fl245_1) ∧ type_of% (fl245_2) ∧ type_of% (fl245_3) ∧ type_of% (fs245) ∧ type_of% (po245) ∧ type_of% (zt245) ∧ type_of% (@z245.eq_1) :=
  ⟨sz245, by245, ag245, sl245, ar245, pt245, un245, fl245_0, fl245_1, fl245_2, fl245_3, fs245, po245, zt245, @z245.eq_1⟩
theorem t249 : type_of% (sz249) ∧ type_of% (by249) ∧ type_of% (ag249) ∧ type_of% (sl249) ∧ type_of% (ar249) ∧ type_of% (pt249) ∧ type_of% (un249) ∧ type_of% (fl249_0) ∧ type_of% (fl249_1) ∧ type_of% (fl249_2) ∧ type_of% (fl249_3) ∧ type_of% (fs249) ∧ type_of% (po249) ∧ type_of% (zt249) ∧ type_of% (@z249.eq_1) :=
  ⟨sz249, by249, ag249, sl249, ar249, pt249, un249, fl249_0, fl249_1, fl249_2, fl249_3, fs249, po249, zt249, @z249.eq_1⟩
theorem t258 : type_of% (sz258) ∧ type_of% (by258) ∧ type_of% (ag258) ∧ type_of% (sl258) ∧ type_of% (ar258) ∧ type_of% (pt258) ∧ type_of% (in258) ∧ type_of% (un258) ∧ type_of% (po258) ∧ type_of% (zt258) ∧ type_of% (@z258.eq_1) :=
  ⟨sz258, by258, ag258, sl258, ar258, pt258, in258, un258, po258, zt258, @z258.eq_1⟩
theorem t260 : type_of% (sz260) ∧ type_of% (by260) ∧ type_of% (ag260) ∧ type_of% (sl260) ∧ type_of% (ar260) ∧ type_of% (pt260) ∧ type_of% (un260) ∧ type_of% (po260) ∧ type_of% (tq260) ∧ type_of% (zt260) ∧ type_of% (@z260.eq_1) :=
  ⟨sz260, by260, ag260, sl260, ar260, pt260, un260, po260, tq260, zt260, @z260.eq_1⟩
theorem t262 : type_of% (sz262) ∧ type_of% (by262) ∧ type_of% (ag262) ∧ type_of% (sl262) ∧ type_of% (ar262) ∧ type_of% (pt262) ∧ type_of% (un262) ∧ type_of% (po262) ∧ type_of% (tq262) ∧ type_of% (zt262) ∧ type_of% (@z262.eq_1) :=
  ⟨sz262, by262, ag262, sl262, ar262, pt262, un262, po262, tq262, zt262, @z262.eq_1⟩
theorem t265 : type_of% (sz265) ∧ type_of% (by265) ∧ type_of% (ag265) ∧ type_of% (sl265) ∧ type_of% (ar265) ∧ type_of% (pt265) ∧ type_of% (un265) ∧ type_of% (po265) ∧ type_of% (zt265) ∧ type_of% (@z265.eq_1) :=
  ⟨sz265, by265, ag265, sl265, ar265, pt265, un265, po265, zt265, @z265.eq_1⟩
theorem t268 : type_of% (sz268) ∧ type_of% (by268) ∧ type_of% (ag268) ∧ type_of% (sl268) ∧ type_of% (ar268) ∧ type_of% (pt268) ∧ type_of% (in268) ∧ type_of% (un268) ∧ type_of% (po268) ∧ type_of% (zt268) ∧ type_of% (@z268.eq_1) :=
  ⟨sz268, by268, ag268, sl268, ar268, pt268, in268, un268, po268, zt268, @z268.eq_1⟩
theorem t273 : type_of% (sz273) ∧ type_of% (by273) ∧ type_of% (ag273) ∧ type_of% (sl273) ∧ type_of% (ar273) ∧ type_of% (pt273) ∧ type_of% (un273) ∧ type_of% (fl273_0) ∧ type_of% (fl273_1) ∧ type_of% (fs273) ∧ type_of% (po273) ∧ type_of% (zt273) ∧ type_of% (@z273.eq_1) :=
  ⟨sz273, by273, ag273, sl273, ar273, pt273, un273, fl273_0, fl273_1, fs273, po273, zt273, @z273.eq_1⟩
theorem t282 : type_of% (sz282) ∧ type_of% (by282) ∧ type_of% (ag282) ∧ type_of% (sl282) ∧ type_of% (ar282) ∧ type_of% (pt282) ∧ type_of% (un282) ∧ type_of% (po282) ∧ type_of% (zt282) ∧ type_of% (@z282.eq_1) :=
  ⟨sz282, by282, ag282, sl282, ar282, pt282, un282, po282, zt282, @z282.eq_1⟩
theorem t283 : type_of% (sz283) ∧ type_of% (by283) ∧ type_of% (ag283) ∧ type_of% (sl283) ∧ type_of% (ar283) ∧ type_of% (pt283) ∧ type_of% (un283) ∧ type_of% (po283) ∧ type_of% (zt283) ∧ type_of% (@z283.eq_1) :=
  ⟨sz283, by283, ag283, sl283, ar283, pt283, un283, po283, zt283, @z283.eq_1⟩
theorem t286 : type_of% (sz286) ∧ type_of% (by286) ∧ type_of% (ag286) ∧ type_of% (sl286) ∧ type_of% (ar286) ∧ type_of% (pt286) ∧ type_of% (un286) ∧ type_of% (po286) ∧ type_of% (zt286) ∧ type_of% (@z286.eq_1) :=
  ⟨sz286, by286, ag286, sl286, ar286, pt286, un286, po286, zt286, @z286.eq_1⟩
theorem mo : cx.P.follows .mixedOrders = true := by kernel_rfl
end Go.Proofs.YtaghcjbpjnpkbaaGreat.T
