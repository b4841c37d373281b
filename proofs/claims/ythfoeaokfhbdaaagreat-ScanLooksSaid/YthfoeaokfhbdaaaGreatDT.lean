/-
  The table of types of this seat, told lemma by lemma (written by gentypes.py out of the translation).
-/
import Derived.Test.YthfoeaokfhbdaaaGreatProg
import Derived.Test.YthfoeaokfhbdaaaGreatAL18
set_option linter.unusedSimpArgs false
set_option linter.unusedVariables false
set_option maxRecDepth 100000
set_option maxHeartbeats 8000000
namespace Go.Proofs.YthfoeaokfhbdaaaGreat.T
open Go Go.AL
theorem sz2 : tsz Tryz.prog 2 = some 1 := by kernel_rfl
theorem by2 : tby Tryz.prog 2 = some 8 := by kernel_rfl
theorem ag2 : tagg Tryz.prog 2 = some false := by kernel_rfl
theorem sl2 : tsl Tryz.prog 2 = none := by kernel_rfl
theorem ar2 : tarr Tryz.prog 2 = none := by kernel_rfl
theorem pt2 : tptr Tryz.prog 2 = none := by kernel_rfl
theorem in2 : tint Tryz.prog 2 = some .i64 := by kernel_rfl
theorem un2 : (Tryz.prog.underlying 2).isSome = true := by kernel_rfl
theorem po2 : tpos Tryz.prog 2 = true := by kernel_rfl
def z2 : AV := .val (.int .i64 0)
theorem zo2 : ZeroOK Tryz.prog 2 z2 := ZeroOK.mk (.int .i64 0) (by kernel_rfl) (by kernel_rfl) (by kernel_rfl) (by kernel_rfl)
theorem sz3 : tsz Tryz.prog 3 = some 1 := by kernel_rfl
theorem by3 : tby Tryz.prog 3 = some 8 := by kernel_rfl
theorem ag3 : tagg Tryz.prog 3 = some false := by kernel_rfl
theorem sl3 : tsl Tryz.prog 3 = none := by kernel_rfl
theorem ar3 : tarr Tryz.prog 3 = none := by kernel_rfl
theorem pt3 : tptr Tryz.prog 3 = none := by kernel_rfl
theorem in3 : tint Tryz.prog 3 = some .i64 := by kernel_rfl
theorem un3 : (Tryz.prog.underlying 3).isSome = true := by kernel_rfl
theorem po3 : tpos Tryz.prog 3 = true := by kernel_rfl
def z3 : AV := .val (.int .i64 0)
theorem zo3 : ZeroOK Tryz.prog 3 z3 := ZeroOK.mk (.int .i64 0) (by kernel_rfl) (by kernel_rfl) (by kernel_rfl) (by kernel_rfl)
theorem sz4 : tsz Tryz.prog 4 = some 1 := by kernel_rfl
theorem by4 : tby Tryz.prog 4 = some 1 := by kernel_rfl
theorem ag4 : tagg Tryz.prog 4 = some false := by kernel_rfl
theorem sl4 : tsl Tryz.prog 4 = none := by kernel_rfl
theorem ar4 : tarr Tryz.prog 4 = none := by kernel_rfl
theorem pt4 : tptr Tryz.prog 4 = none := by kernel_rfl
theorem un4 : (Tryz.prog.underlying 4).isSome = true := by kernel_rfl
theorem tb4 : tbool Tryz.prog 4 = some () := by kernel_rfl
theorem po4 : tpos Tryz.prog 4 = true := by kernel_rfl
def z4 : AV := .val (.bool false)
theorem zo4 : ZeroOK Tryz.prog 4 z4 := ZeroOK.mk (.bool false) (by kernel_rfl) (by kernel_rfl) (by kernel_rfl) (by kernel_rfl)
theorem sz5 : tsz Tryz.prog 5 = some 1 := by kernel_rfl
theorem by5 : tby Tryz.prog 5 = some 1 := by kernel_rfl
theorem ag5 : tagg Tryz.prog 5 = some false := by kernel_rfl
theorem sl5 : tsl Tryz.prog 5 = none := by kernel_rfl
theorem ar5 : tarr Tryz.prog 5 = none := by kernel_rfl
theorem pt5 : tptr Tryz.prog 5 = none := by kernel_rfl
theorem in5 : tint Tryz.prog 5 = some .u8 := by kernel_rfl
theorem un5 : (Tryz.prog.underlying 5).isSome = true := by kernel_rfl
theorem po5 : tpos Tryz.prog 5 = true := by kernel_rfl
def z5 : AV := .val (.int .u8 0)
theorem zo5 : ZeroOK Tryz.prog 5 z5 := ZeroOK.mk (.int .u8 0) (by kernel_rfl) (by kernel_rfl) (by kernel_rfl) (by kernel_rfl)
theorem sz9 : tsz Tryz.prog 9 = some 1 := by kernel_rfl
theorem by9 : tby Tryz.prog 9 = some 16 := by kernel_rfl
theorem ag9 : tagg Tryz.prog 9 = some false := by kernel_rfl
theorem sl9 : tsl Tryz.prog 9 = none := by kernel_rfl
theorem ar9 : tarr Tryz.prog 9 = none := by kernel_rfl
theorem pt9 : tptr Tryz.prog 9 = none := by kernel_rfl
theorem st9 : tstr Tryz.prog 9 = some () := by kernel_rfl
theorem un9 : (Tryz.prog.underlying 9).isSome = true := by kernel_rfl
theorem po9 : tpos Tryz.prog 9 = true := by kernel_rfl
def z9 : AV := .val (.string ByteArray.empty)
theorem zo9 : ZeroOK Tryz.prog 9 z9 := ZeroOK.mk (.string ByteArray.empty) (by kernel_rfl) (by kernel_rfl) (by kernel_rfl) (by kernel_rfl)
theorem sz20 : tsz Tryz.prog 20 = some 1 := by kernel_rfl
theorem by20 : tby Tryz.prog 20 = some 16 := by kernel_rfl
theorem ag20 : tagg Tryz.prog 20 = some false := by kernel_rfl
theorem sl20 : tsl Tryz.prog 20 = none := by kernel_rfl
theorem ar20 : tarr Tryz.prog 20 = none := by kernel_rfl
theorem pt20 : tptr Tryz.prog 20 = none := by kernel_rfl
theorem un20 : (Tryz.prog.underlying 20).isSome = true := by kernel_rfl
theorem po20 : tpos Tryz.prog 20 = true := by kernel_rfl
def z20 : AV := .val .nilIface
theorem zo20 : ZeroOK Tryz.prog 20 z20 := ZeroOK.mk (.nilIface) (by kernel_rfl) (by kernel_rfl) (by kernel_rfl) (by kernel_rfl)
theorem sz22 : tsz Tryz.prog 22 = some 32 := by kernel_rfl
theorem by22 : tby Tryz.prog 22 = some 32 := by kernel_rfl
theorem ag22 : tagg Tryz.prog 22 = some true := by kernel_rfl
theorem sl22 : tsl Tryz.prog 22 = none := by kernel_rfl
theorem ar22 : tarr Tryz.prog 22 = some (32, 5) := by kernel_rfl
theorem pt22 : tptr Tryz.prog 22 = none := by kernel_rfl
theorem un22 : (Tryz.prog.underlying 22).isSome = true := by kernel_rfl
theorem po22 : tpos Tryz.prog 22 = true := by kernel_rfl
theorem tq22 : teq Tryz.prog 22 = true := by kernel_rfl
def z22 : AV := .vec 1 (List.replicate 32 (.val (.int .u8 0)))
theorem zo22 : ZeroOK Tryz.prog 22 z22 := ZeroOK.mk (.agg #[.int .u8 0, .int .u8 0, .int .u8 0, .int .u8 0, .int .u8 0, .int .u8 0, .int .u8 0, .int .u8 0, .int .u8 0, .int .u8 0, .int .u8 0, .int .u8 0, .int .u8 0, .int .u8 0, .int .u8 0, .int .u8 0, .int .u8 0, .int .u8 0, .int .u8 0, .int .u8 0, .int .u8 0, .int .u8 0, .int .u8 0, .int .u8 0, .int .u8 0, .int .u8 0, .int .u8 0, .int .u8 0, .int .u8 0, .int .u8 0, .int .u8 0, .int .u8 0]) (by kernel_rfl) (by kernel_rfl) (by kernel_rfl) (by kernel_rfl)
theorem sz23 : tsz Tryz.prog 23 = some 32 := by kernel_rfl
theorem by23 : tby Tryz.prog 23 = some 32 := by kernel_rfl
theorem ag23 : tagg Tryz.prog 23 = some true := by kernel_rfl
theorem sl23 : tsl Tryz.prog 23 = none := by kernel_rfl
theorem ar23 : tarr Tryz.prog 23 = some (32, 5) := by kernel_rfl
theorem pt23 : tptr Tryz.prog 23 = none := by kernel_rfl
theorem un23 : (Tryz.prog.underlying 23).isSome = true := by kernel_rfl
theorem po23 : tpos Tryz.prog 23 = true := by kernel_rfl
theorem tw23 : twide Tryz.prog 23 = true := by kernel_rfl
theorem tq23 : teq Tryz.prog 23 = true := by kernel_rfl
def z23 : AV := .vec 1 (List.replicate 32 (.val (.int .u8 0)))
theorem zo23 : ZeroOK Tryz.prog 23 z23 := ZeroOK.mk (.agg #[.int .u8 0, .int .u8 0, .int .u8 0, .int .u8 0, .int .u8 0, .int .u8 0, .int .u8 0, .int .u8 0, .int .u8 0, .int .u8 0, .int .u8 0, .int .u8 0, .int .u8 0, .int .u8 0, .int .u8 0, .int .u8 0, .int .u8 0, .int .u8 0, .int .u8 0, .int .u8 0, .int .u8 0, .int .u8 0, .int .u8 0, .int .u8 0, .int .u8 0, .int .u8 0, .int .u8 0, .int .u8 0, .int .u8 0, .int .u8 0, .int .u8 0, .int .u8 0]) (by kernel_rfl) (by kernel_rfl) (by kernel_rfl) (by kernel_rfl)
theorem sz25 : tsz Tryz.prog 25 = some 33 := by kernel_rfl
theorem by25 : tby Tryz.prog 25 = some 40 := by kernel_rfl
theorem ag25 : tagg Tryz.prog 25 = some true := by kernel_rfl
theorem sl25 : tsl Tryz.prog 25 = none := by kernel_rfl
theorem ar25 : tarr Tryz.prog 25 = none := by kernel_rfl
theorem pt25 : tptr Tryz.prog 25 = none := by kernel_rfl
theorem un25 : (Tryz.prog.underlying 25).isSome = true := by kernel_rfl
theorem fl25_0 : tfld Tryz.prog 25 0 = some (0, 23) := by kernel_rfl
theorem fl25_1 : tfld Tryz.prog 25 1 = some (32, 3) := by kernel_rfl
theorem fs25 : tflds Tryz.prog 25 = true := by kernel_rfl
theorem po25 : tpos Tryz.prog 25 = true := by kernel_rfl
theorem tw25 : twide Tryz.prog 25 = true := by kernel_rfl
theorem tq25 : teq Tryz.prog 25 = true := by kernel_rfl
theorem tc25 : tcmp Tryz.prog 25 = some [(0, 23), (32, 3)] := by kernel_rfl
def z25 : AV := .agg 33 [.vec 1 (List.replicate 32 (.val (.int .u8 0))), .val (.int .i64 0)]
theorem zo25 : ZeroOK Tryz.prog 25 z25 := ZeroOK.mk (.agg #[.int .u8 0, .int .u8 0, .int .u8 0, .int .u8 0, .int .u8 0, .int .u8 0, .int .u8 0, .int .u8 0, .int .u8 0, .int .u8 0, .int .u8 0, .int .u8 0, .int .u8 0, .int .u8 0, .int .u8 0, .int .u8 0, .int .u8 0, .int .u8 0, .int .u8 0, .int .u8 0, .int .u8 0, .int .u8 0, .int .u8 0, .int .u8 0, .int .u8 0, .int .u8 0, .int .u8 0, .int .u8 0, .int .u8 0, .int .u8 0, .int .u8 0, .int .u8 0, .int .i64 0]) (by kernel_rfl) (by kernel_rfl) (by kernel_rfl) (by kernel_rfl)
theorem sz26 : tsz Tryz.prog 26 = some 1 := by kernel_rfl
theorem by26 : tby Tryz.prog 26 = some 8 := by kernel_rfl
theorem ag26 : tagg Tryz.prog 26 = some false := by kernel_rfl
theorem sl26 : tsl Tryz.prog 26 = none := by kernel_rfl
theorem ar26 : tarr Tryz.prog 26 = none := by kernel_rfl
theorem pt26 : tptr Tryz.prog 26 = some 33 := by kernel_rfl
theorem un26 : (Tryz.prog.underlying 26).isSome = true := by kernel_rfl
theorem po26 : tpos Tryz.prog 26 = true := by kernel_rfl
def z26 : AV := .val (.pointer none)
theorem zo26 : ZeroOK Tryz.prog 26 z26 := ZeroOK.mk (.pointer none) (by kernel_rfl) (by kernel_rfl) (by kernel_rfl) (by kernel_rfl)
theorem sz27 : tsz Tryz.prog 27 = some 1 := by kernel_rfl
theorem by27 : tby Tryz.prog 27 = some 8 := by kernel_rfl
theorem ag27 : tagg Tryz.prog 27 = some false := by kernel_rfl
theorem sl27 : tsl Tryz.prog 27 = none := by kernel_rfl
theorem ar27 : tarr Tryz.prog 27 = none := by kernel_rfl
theorem pt27 : tptr Tryz.prog 27 = some 241 := by kernel_rfl
theorem un27 : (Tryz.prog.underlying 27).isSome = true := by kernel_rfl
theorem po27 : tpos Tryz.prog 27 = true := by kernel_rfl
def z27 : AV := .val (.pointer none)
theorem zo27 : ZeroOK Tryz.prog 27 z27 := ZeroOK.mk (.pointer none) (by kernel_rfl) (by kernel_rfl) (by kernel_rfl) (by kernel_rfl)
theorem sz28 : tsz Tryz.prog 28 = some 1 := by kernel_rfl
theorem by28 : tby Tryz.prog 28 = some 8 := by kernel_rfl
theorem ag28 : tagg Tryz.prog 28 = some false := by kernel_rfl
theorem sl28 : tsl Tryz.prog 28 = none := by kernel_rfl
theorem ar28 : tarr Tryz.prog 28 = none := by kernel_rfl
theorem pt28 : tptr Tryz.prog 28 = some 226 := by kernel_rfl
theorem un28 : (Tryz.prog.underlying 28).isSome = true := by kernel_rfl
theorem po28 : tpos Tryz.prog 28 = true := by kernel_rfl
def z28 : AV := .val (.pointer none)
theorem zo28 : ZeroOK Tryz.prog 28 z28 := ZeroOK.mk (.pointer none) (by kernel_rfl) (by kernel_rfl) (by kernel_rfl) (by kernel_rfl)
theorem sz29 : tsz Tryz.prog 29 = some 1 := by kernel_rfl
theorem by29 : tby Tryz.prog 29 = some 8 := by kernel_rfl
theorem ag29 : tagg Tryz.prog 29 = some false := by kernel_rfl
theorem sl29 : tsl Tryz.prog 29 = none := by kernel_rfl
theorem ar29 : tarr Tryz.prog 29 = none := by kernel_rfl
theorem pt29 : tptr Tryz.prog 29 = none := by kernel_rfl
theorem mp29 : tmap Tryz.prog 29 = some (23, 46) := by kernel_rfl
theorem un29 : (Tryz.prog.underlying 29).isSome = true := by kernel_rfl
theorem po29 : tpos Tryz.prog 29 = true := by kernel_rfl
def z29 : AV := .val (.map none)
theorem zo29 : ZeroOK Tryz.prog 29 z29 := ZeroOK.mk (.map none) (by kernel_rfl) (by kernel_rfl) (by kernel_rfl) (by kernel_rfl)
theorem sz30 : tsz Tryz.prog 30 = some 1 := by kernel_rfl
theorem by30 : tby Tryz.prog 30 = some 8 := by kernel_rfl
theorem ag30 : tagg Tryz.prog 30 = some false := by kernel_rfl
theorem sl30 : tsl Tryz.prog 30 = none := by kernel_rfl
theorem ar30 : tarr Tryz.prog 30 = none := by kernel_rfl
theorem pt30 : tptr Tryz.prog 30 = none := by kernel_rfl
theorem mp30 : tmap Tryz.prog 30 = some (25, 50) := by kernel_rfl
theorem un30 : (Tryz.prog.underlying 30).isSome = true := by kernel_rfl
theorem po30 : tpos Tryz.prog 30 = true := by kernel_rfl
def z30 : AV := .val (.map none)
theorem zo30 : ZeroOK Tryz.prog 30 z30 := ZeroOK.mk (.map none) (by kernel_rfl) (by kernel_rfl) (by kernel_rfl) (by kernel_rfl)
theorem sz31 : tsz Tryz.prog 31 = some 1 := by kernel_rfl
theorem by31 : tby Tryz.prog 31 = some 24 := by kernel_rfl
theorem ag31 : tagg Tryz.prog 31 = some false := by kernel_rfl
theorem sl31 : tsl Tryz.prog 31 = some 23 := by kernel_rfl
theorem ar31 : tarr Tryz.prog 31 = none := by kernel_rfl
theorem pt31 : tptr Tryz.prog 31 = none := by kernel_rfl
theorem un31 : (Tryz.prog.underlying 31).isSome = true := by kernel_rfl
theorem po31 : tpos Tryz.prog 31 = true := by kernel_rfl
def z31 : AV := .sl 32 [] 1
theorem zo31 : ZeroOK Tryz.prog 31 z31 := ZeroOK.mk (.slice none 0 0) (by kernel_rfl) (by kernel_rfl) (by kernel_rfl) (by kernel_rfl)
theorem sz33 : tsz Tryz.prog 33 = some 6 := by kernel_rfl
theorem by33 : tby Tryz.prog 33 = some 64 := by kernel_rfl
theorem ag33 : tagg Tryz.prog 33 = some true := by kernel_rfl
theorem sl33 : tsl Tryz.prog 33 = none := by kernel_rfl
theorem ar33 : tarr Tryz.prog 33 = none := by kernel_rfl
theorem pt33 : tptr Tryz.prog 33 = none := by kernel_rfl
theorem un33 : (Tryz.prog.underlying 33).isSome = true := by kernel_rfl
theorem fl33_0 : tfld Tryz.prog 33 0 = some (0, 27) := by kernel_rfl
theorem fl33_1 : tfld Tryz.prog 33 1 = some (1, 28) := by kernel_rfl
theorem fl33_2 : tfld Tryz.prog 33 2 = some (2, 29) := by kernel_rfl
theorem fl33_3 : tfld Tryz.prog 33 3 = some (3, 30) := by kernel_rfl
theorem fl33_4 : tfld Tryz.prog 33 4 = some (4, 31) := by kernel_rfl
theorem fl33_5 : tfld Tryz.prog 33 5 = some (5, 2) := by kernel_rfl
theorem fs33 : tflds Tryz.prog 33 = true := by kernel_rfl
theorem po33 : tpos Tryz.prog 33 = true := by kernel_rfl
def z33 : AV := .agg 6 [.val (.pointer none), .val (.pointer none), .val (.map none), .val (.map none), .sl 32 [] 1, .val (.int .i64 0)]
theorem zo33 : ZeroOK Tryz.prog 33 z33 := ZeroOK.mk (.agg #[.pointer none, .pointer none, .map none, .map none, .slice none 0 0, .int .i64 0]) (by kernel_rfl) (by kernel_rfl) (by kernel_rfl) (by kernel_rfl)
theorem sz34 : tsz Tryz.prog 34 = some 1 := by kernel_rfl
theorem by34 : tby Tryz.prog 34 = some 24 := by kernel_rfl
theorem ag34 : tagg Tryz.prog 34 = some false := by kernel_rfl
theorem sl34 : tsl Tryz.prog 34 = some 44 := by kernel_rfl
theorem ar34 : tarr Tryz.prog 34 = none := by kernel_rfl
theorem pt34 : tptr Tryz.prog 34 = none := by kernel_rfl
theorem un34 : (Tryz.prog.underlying 34).isSome = true := by kernel_rfl
theorem po34 : tpos Tryz.prog 34 = true := by kernel_rfl
def z34 : AV := .sl 35 [] 1
theorem zo34 : ZeroOK Tryz.prog 34 z34 := ZeroOK.mk (.slice none 0 0) (by kernel_rfl) (by kernel_rfl) (by kernel_rfl) (by kernel_rfl)
theorem sz35 : tsz Tryz.prog 35 = some 1 := by kernel_rfl
theorem by35 : tby Tryz.prog 35 = some 24 := by kernel_rfl
theorem ag35 : tagg Tryz.prog 35 = some false := by kernel_rfl
theorem sl35 : tsl Tryz.prog 35 = some 142 := by kernel_rfl
theorem ar35 : tarr Tryz.prog 35 = none := by kernel_rfl
theorem pt35 : tptr Tryz.prog 35 = none := by kernel_rfl
theorem un35 : (Tryz.prog.underlying 35).isSome = true := by kernel_rfl
theorem po35 : tpos Tryz.prog 35 = true := by kernel_rfl
def z35 : AV := .sl 2 [] 1
theorem zo35 : ZeroOK Tryz.prog 35 z35 := ZeroOK.mk (.slice none 0 0) (by kernel_rfl) (by kernel_rfl) (by kernel_rfl) (by kernel_rfl)
theorem sz36 : tsz Tryz.prog 36 = some 1 := by kernel_rfl
theorem by36 : tby Tryz.prog 36 = some 24 := by kernel_rfl
theorem ag36 : tagg Tryz.prog 36 = some false := by kernel_rfl
theorem sl36 : tsl Tryz.prog 36 = some 5 := by kernel_rfl
theorem ar36 : tarr Tryz.prog 36 = none := by kernel_rfl
theorem pt36 : tptr Tryz.prog 36 = none := by kernel_rfl
theorem un36 : (Tryz.prog.underlying 36).isSome = true := by kernel_rfl
theorem po36 : tpos Tryz.prog 36 = true := by kernel_rfl
def z36 : AV := .sl 1 [] 1
theorem zo36 : ZeroOK Tryz.prog 36 z36 := ZeroOK.mk (.slice none 0 0) (by kernel_rfl) (by kernel_rfl) (by kernel_rfl) (by kernel_rfl)
theorem sz38 : tsz Tryz.prog 38 = some 37 := by kernel_rfl
theorem by38 : tby Tryz.prog 38 = some 88 := by kernel_rfl
theorem ag38 : tagg Tryz.prog 38 = some true := by kernel_rfl
theorem sl38 : tsl Tryz.prog 38 = none := by kernel_rfl
theorem ar38 : tarr Tryz.prog 38 = none := by kernel_rfl
theorem pt38 : tptr Tryz.prog 38 = none := by kernel_rfl
theorem un38 : (Tryz.prog.underlying 38).isSome = true := by kernel_rfl
theorem fl38_0 : tfld Tryz.prog 38 0 = some (0, 3) := by kernel_rfl
theorem fl38_1 : tfld Tryz.prog 38 1 = some (1, 3) := by kernel_rfl
theorem fl38_2 : tfld Tryz.prog 38 2 = some (2, 3) := by kernel_rfl
theorem fl38_3 : tfld Tryz.prog 38 3 = some (3, 2) := by kernel_rfl
theorem fl38_4 : tfld Tryz.prog 38 4 = some (4, 23) := by kernel_rfl
theorem fl38_5 : tfld Tryz.prog 38 5 = some (36, 36) := by kernel_rfl
theorem fs38 : tflds Tryz.prog 38 = true := by kernel_rfl
theorem po38 : tpos Tryz.prog 38 = true := by kernel_rfl
def z38 : AV := .agg 37 [.val (.int .i64 0), .val (.int .i64 0), .val (.int .i64 0), .val (.int .i64 0), .vec 1 (List.replicate 32 (.val (.int .u8 0))), .sl 1 [] 1]
theorem zo38 : ZeroOK Tryz.prog 38 z38 := ZeroOK.mk (.agg #[.int .i64 0, .int .i64 0, .int .i64 0, .int .i64 0, .int .u8 0, .int .u8 0, .int .u8 0, .int .u8 0, .int .u8 0, .int .u8 0, .int .u8 0, .int .u8 0, .int .u8 0, .int .u8 0, .int .u8 0, .int .u8 0, .int .u8 0, .int .u8 0, .int .u8 0, .int .u8 0, .int .u8 0, .int .u8 0, .int .u8 0, .int .u8 0, .int .u8 0, .int .u8 0, .int .u8 0, .int .u8 0, .int .u8 0, .int .u8 0, .int .u8 0, .int .u8 0, .int .u8 0, .int .u8 0, .int .u8 0, .int .u8 0, .slice none 0 0]) (by kernel_rfl) (by kernel_rfl) (by kernel_rfl) (by kernel_rfl)
theorem sz39 : tsz Tryz.prog 39 = some 1 := by kernel_rfl
theorem by39 : tby Tryz.prog 39 = some 24 := by kernel_rfl
theorem ag39 : tagg Tryz.prog 39 = some false := by kernel_rfl
theorem sl39 : tsl Tryz.prog 39 = some 127 := by kernel_rfl
theorem ar39 : tarr Tryz.prog 39 = none := by kernel_rfl
theorem pt39 : tptr Tryz.prog 39 = none := by kernel_rfl
theorem un39 : (Tryz.prog.underlying 39).isSome = true := by kernel_rfl
theorem po39 : tpos Tryz.prog 39 = true := by kernel_rfl
def z39 : AV := .sl 33 [] 1
theorem zo39 : ZeroOK Tryz.prog 39 z39 := ZeroOK.mk (.slice none 0 0) (by kernel_rfl) (by kernel_rfl) (by kernel_rfl) (by kernel_rfl)
theorem sz41 : tsz Tryz.prog 41 = some 40 := by kernel_rfl
theorem by41 : tby Tryz.prog 41 = some 160 := by kernel_rfl
theorem ag41 : tagg Tryz.prog 41 = some true := by kernel_rfl
theorem sl41 : tsl Tryz.prog 41 = none := by kernel_rfl
theorem ar41 : tarr Tryz.prog 41 = none := by kernel_rfl
theorem pt41 : tptr Tryz.prog 41 = none := by kernel_rfl
theorem un41 : (Tryz.prog.underlying 41).isSome = true := by kernel_rfl
theorem fl41_0 : tfld Tryz.prog 41 0 = some (0, 34) := by kernel_rfl
theorem fl41_1 : tfld Tryz.prog 41 1 = some (1, 35) := by kernel_rfl
theorem fl41_2 : tfld Tryz.prog 41 2 = some (2, 38) := by kernel_rfl
theorem fl41_3 : tfld Tryz.prog 41 3 = some (39, 39) := by kernel_rfl
theorem fs41 : tflds Tryz.prog 41 = true := by kernel_rfl
theorem po41 : tpos Tryz.prog 41 = true := by kernel_rfl
def z41 : AV := .agg 40 [.sl 35 [] 1, .sl 2 [] 1, .agg 37 [.val (.int .i64 0), .val (.int .i64 0), .val (.int .i64 0), .val (.int .i64 0), .vec 1 (List.replicate 32 (.val (.int .u8 0))), .sl 1 [] 1], .sl 33 [] 1]
theorem zo41 : ZeroOK Tryz.prog 41 z41 := ZeroOK.mk (.agg #[.slice none 0 0, .slice none 0 0, .int .i64 0, .int .i64 0, .int .i64 0, .int .i64 0, .int .u8 0, .int .u8 0, .int .u8 0, .int .u8 0, .int .u8 0, .int .u8 0, .int .u8 0, .int .u8 0, .int .u8 0, .int .u8 0, .int .u8 0, .int .u8 0, .int .u8 0, .int .u8 0, .int .u8 0, .int .u8 0, .int .u8 0, .int .u8 0, .int .u8 0, .int .u8 0, .int .u8 0, .int .u8 0, .int .u8 0, .int .u8 0, .int .u8 0, .int .u8 0, .int .u8 0, .int .u8 0, .int .u8 0, .int .u8 0, .int .u8 0, .int .u8 0, .slice none 0 0, .slice none 0 0]) (by kernel_rfl) (by kernel_rfl) (by kernel_rfl) (by kernel_rfl)
theorem sz44 : tsz Tryz.prog 44 = some 35 := by kernel_rfl
theorem by44 : tby Tryz.prog 44 = some 72 := by kernel_rfl
theorem ag44 : tagg Tryz.prog 44 = some true := by kernel_rfl
theorem sl44 : tsl Tryz.prog 44 = none := by kernel_rfl
theorem ar44 : tarr Tryz.prog 44 = none := by kernel_rfl
theorem pt44 : tptr Tryz.prog 44 = none := by kernel_rfl
theorem un44 : (Tryz.prog.underlying 44).isSome = true := by kernel_rfl
theorem fl44_0 : tfld Tryz.prog 44 0 = some (0, 25) := by kernel_rfl
theorem fl44_1 : tfld Tryz.prog 44 1 = some (33, 3) := by kernel_rfl
theorem fl44_2 : tfld Tryz.prog 44 2 = some (34, 36) := by kernel_rfl
theorem fs44 : tflds Tryz.prog 44 = true := by kernel_rfl
theorem po44 : tpos Tryz.prog 44 = true := by kernel_rfl
def z44 : AV := .agg 35 [.agg 33 [.vec 1 (List.replicate 32 (.val (.int .u8 0))), .val (.int .i64 0)], .val (.int .i64 0), .sl 1 [] 1]
theorem zo44 : ZeroOK Tryz.prog 44 z44 := ZeroOK.mk (.agg #[.int .u8 0, .int .u8 0, .int .u8 0, .int .u8 0, .int .u8 0, .int .u8 0, .int .u8 0, .int .u8 0, .int .u8 0, .int .u8 0, .int .u8 0, .int .u8 0, .int .u8 0, .int .u8 0, .int .u8 0, .int .u8 0, .int .u8 0, .int .u8 0, .int .u8 0, .int .u8 0, .int .u8 0, .int .u8 0, .int .u8 0, .int .u8 0, .int .u8 0, .int .u8 0, .int .u8 0, .int .u8 0, .int .u8 0, .int .u8 0, .int .u8 0, .int .u8 0, .int .i64 0, .int .i64 0, .slice none 0 0]) (by kernel_rfl) (by kernel_rfl) (by kernel_rfl) (by kernel_rfl)
theorem sz46 : tsz Tryz.prog 46 = some 41 := by kernel_rfl
theorem by46 : tby Tryz.prog 46 = some 168 := by kernel_rfl
theorem ag46 : tagg Tryz.prog 46 = some true := by kernel_rfl
theorem sl46 : tsl Tryz.prog 46 = none := by kernel_rfl
theorem ar46 : tarr Tryz.prog 46 = none := by kernel_rfl
theorem pt46 : tptr Tryz.prog 46 = none := by kernel_rfl
theorem un46 : (Tryz.prog.underlying 46).isSome = true := by kernel_rfl
theorem fl46_0 : tfld Tryz.prog 46 0 = some (0, 41) := by kernel_rfl
theorem fl46_1 : tfld Tryz.prog 46 1 = some (40, 3) := by kernel_rfl
theorem fs46 : tflds Tryz.prog 46 = true := by kernel_rfl
theorem po46 : tpos Tryz.prog 46 = true := by kernel_rfl
def z46 : AV := .agg 41 [.agg 40 [.sl 35 [] 1, .sl 2 [] 1, .agg 37 [.val (.int .i64 0), .val (.int .i64 0), .val (.int .i64 0), .val (.int .i64 0), .vec 1 (List.replicate 32 (.val (.int .u8 0))), .sl 1 [] 1], .sl 33 [] 1], .val (.int .i64 0)]
theorem zo46 : ZeroOK Tryz.prog 46 z46 := ZeroOK.mk (.agg #[.slice none 0 0, .slice none 0 0, .int .i64 0, .int .i64 0, .int .i64 0, .int .i64 0, .int .u8 0, .int .u8 0, .int .u8 0, .int .u8 0, .int .u8 0, .int .u8 0, .int .u8 0, .int .u8 0, .int .u8 0, .int .u8 0, .int .u8 0, .int .u8 0, .int .u8 0, .int .u8 0, .int .u8 0, .int .u8 0, .int .u8 0, .int .u8 0, .int .u8 0, .int .u8 0, .int .u8 0, .int .u8 0, .int .u8 0, .int .u8 0, .int .u8 0, .int .u8 0, .int .u8 0, .int .u8 0, .int .u8 0, .int .u8 0, .int .u8 0, .int .u8 0, .slice none 0 0, .slice none 0 0, .int .i64 0]) (by kernel_rfl) (by kernel_rfl) (by kernel_rfl) (by kernel_rfl)
theorem sz50 : tsz Tryz.prog 50 = some 34 := by kernel_rfl
theorem by50 : tby Tryz.prog 50 = some 48 := by kernel_rfl
theorem ag50 : tagg Tryz.prog 50 = some true := by kernel_rfl
theorem sl50 : tsl Tryz.prog 50 = none := by kernel_rfl
theorem ar50 : tarr Tryz.prog 50 = none := by kernel_rfl
theorem pt50 : tptr Tryz.prog 50 = none := by kernel_rfl
theorem un50 : (Tryz.prog.underlying 50).isSome = true := by kernel_rfl
theorem fl50_0 : tfld Tryz.prog 50 0 = some (0, 23) := by kernel_rfl
theorem fl50_1 : tfld Tryz.prog 50 1 = some (32, 3) := by kernel_rfl
theorem fl50_2 : tfld Tryz.prog 50 2 = some (33, 3) := by kernel_rfl
theorem fs50 : tflds Tryz.prog 50 = true := by kernel_rfl
theorem po50 : tpos Tryz.prog 50 = true := by kernel_rfl
theorem tq50 : teq Tryz.prog 50 = true := by kernel_rfl
theorem tc50 : tcmp Tryz.prog 50 = some [(0, 23), (32, 3), (33, 3)] := by kernel_rfl
def z50 : AV := .agg 34 [.vec 1 (List.replicate 32 (.val (.int .u8 0))), .val (.int .i64 0), .val (.int .i64 0)]
theorem zo50 : ZeroOK Tryz.prog 50 z50 := ZeroOK.mk (.agg #[.int .u8 0, .int .u8 0, .int .u8 0, .int .u8 0, .int .u8 0, .int .u8 0, .int .u8 0, .int .u8 0, .int .u8 0, .int .u8 0, .int .u8 0, .int .u8 0, .int .u8 0, .int .u8 0, .int .u8 0, .int .u8 0, .int .u8 0, .int .u8 0, .int .u8 0, .int .u8 0, .int .u8 0, .int .u8 0, .int .u8 0, .int .u8 0, .int .u8 0, .int .u8 0, .int .u8 0, .int .u8 0, .int .u8 0, .int .u8 0, .int .u8 0, .int .u8 0, .int .i64 0, .int .i64 0]) (by kernel_rfl) (by kernel_rfl) (by kernel_rfl) (by kernel_rfl)
theorem sz54 : tsz Tryz.prog 54 = some 43 := by kernel_rfl
theorem by54 : tby Tryz.prog 54 = some 184 := by kernel_rfl
theorem ag54 : tagg Tryz.prog 54 = some true := by kernel_rfl
theorem sl54 : tsl Tryz.prog 54 = none := by kernel_rfl
theorem ar54 : tarr Tryz.prog 54 = none := by kernel_rfl
theorem pt54 : tptr Tryz.prog 54 = none := by kernel_rfl
theorem un54 : (Tryz.prog.underlying 54).isSome = true := by kernel_rfl
theorem fl54_0 : tfld Tryz.prog 54 0 = some (0, 41) := by kernel_rfl
theorem fl54_1 : tfld Tryz.prog 54 1 = some (40, 3) := by kernel_rfl
theorem fl54_2 : tfld Tryz.prog 54 2 = some (41, 4) := by kernel_rfl
theorem fl54_3 : tfld Tryz.prog 54 3 = some (42, 3) := by kernel_rfl
theorem fs54 : tflds Tryz.prog 54 = true := by kernel_rfl
theorem po54 : tpos Tryz.prog 54 = true := by kernel_rfl
def z54 : AV := .agg 43 [.agg 40 [.sl 35 [] 1, .sl 2 [] 1, .agg 37 [.val (.int .i64 0), .val (.int .i64 0), .val (.int .i64 0), .val (.int .i64 0), .vec 1 (List.replicate 32 (.val (.int .u8 0))), .sl 1 [] 1], .sl 33 [] 1], .val (.int .i64 0), .val (.bool false), .val (.int .i64 0)]
theorem zo54 : ZeroOK Tryz.prog 54 z54 := ZeroOK.mk (.agg #[.slice none 0 0, .slice none 0 0, .int .i64 0, .int .i64 0, .int .i64 0, .int .i64 0, .int .u8 0, .int .u8 0, .int .u8 0, .int .u8 0, .int .u8 0, .int .u8 0, .int .u8 0, .int .u8 0, .int .u8 0, .int .u8 0, .int .u8 0, .int .u8 0, .int .u8 0, .int .u8 0, .int .u8 0, .int .u8 0, .int .u8 0, .int .u8 0, .int .u8 0, .int .u8 0, .int .u8 0, .int .u8 0, .int .u8 0, .int .u8 0, .int .u8 0, .int .u8 0, .int .u8 0, .int .u8 0, .int .u8 0, .int .u8 0, .int .u8 0, .int .u8 0, .slice none 0 0, .slice none 0 0, .int .i64 0, .bool false, .int .i64 0]) (by kernel_rfl) (by kernel_rfl) (by kernel_rfl) (by kernel_rfl)
theorem sz57 : tsz Tryz.prog 57 = some 1 := by kernel_rfl
theorem by57 : tby Tryz.prog 57 = some 8 := by kernel_rfl
theorem ag57 : tagg Tryz.prog 57 = some false := by kernel_rfl
theorem sl57 : tsl Tryz.prog 57 = none := by kernel_rfl
theorem ar57 : tarr Tryz.prog 57 = none := by kernel_rfl
theorem pt57 : tptr Tryz.prog 57 = none := by kernel_rfl
theorem in57 : tint Tryz.prog 57 = some .i64 := by kernel_rfl
theorem un57 : (Tryz.prog.underlying 57).isSome = true := by kernel_rfl
theorem po57 : tpos Tryz.prog 57 = true := by kernel_rfl
def z57 : AV := .val (.int .i64 0)
theorem zo57 : ZeroOK Tryz.prog 57 z57 := ZeroOK.mk (.int .i64 0) (by kernel_rfl) (by kernel_rfl) (by kernel_rfl) (by kernel_rfl)
theorem sz66 : tsz Tryz.prog 66 = some 39 := by kernel_rfl
theorem by66 : tby Tryz.prog 66 = some 88 := by kernel_rfl
theorem ag66 : tagg Tryz.prog 66 = some true := by kernel_rfl
theorem sl66 : tsl Tryz.prog 66 = none := by kernel_rfl
theorem ar66 : tarr Tryz.prog 66 = none := by kernel_rfl
theorem pt66 : tptr Tryz.prog 66 = none := by kernel_rfl
theorem un66 : (Tryz.prog.underlying 66).isSome = true := by kernel_rfl
theorem fl66_0 : tfld Tryz.prog 66 0 = some (0, 3) := by kernel_rfl
theorem fl66_1 : tfld Tryz.prog 66 1 = some (1, 3) := by kernel_rfl
theorem fl66_2 : tfld Tryz.prog 66 2 = some (2, 3) := by kernel_rfl
theorem fl66_3 : tfld Tryz.prog 66 3 = some (3, 25) := by kernel_rfl
theorem fl66_4 : tfld Tryz.prog 66 4 = some (36, 2) := by kernel_rfl
theorem fl66_5 : tfld Tryz.prog 66 5 = some (37, 3) := by kernel_rfl
theorem fl66_6 : tfld Tryz.prog 66 6 = some (38, 3) := by kernel_rfl
theorem fs66 : tflds Tryz.prog 66 = true := by kernel_rfl
theorem po66 : tpos Tryz.prog 66 = true := by kernel_rfl
theorem tq66 : teq Tryz.prog 66 = true := by kernel_rfl
theorem tc66 : tcmp Tryz.prog 66 = some [(0, 3), (1, 3), (2, 3), (3, 25), (36, 2), (37, 3), (38, 3)] := by kernel_rfl
def z66 : AV := .agg 39 [.val (.int .i64 0), .val (.int .i64 0), .val (.int .i64 0), .agg 33 [.vec 1 (List.replicate 32 (.val (.int .u8 0))), .val (.int .i64 0)], .val (.int .i64 0), .val (.int .i64 0), .val (.int .i64 0)]
theorem zo66 : ZeroOK Tryz.prog 66 z66 := ZeroOK.mk (.agg #[.int .i64 0, .int .i64 0, .int .i64 0, .int .u8 0, .int .u8 0, .int .u8 0, .int .u8 0, .int .u8 0, .int .u8 0, .int .u8 0, .int .u8 0, .int .u8 0, .int .u8 0, .int .u8 0, .int .u8 0, .int .u8 0, .int .u8 0, .int .u8 0, .int .u8 0, .int .u8 0, .int .u8 0, .int .u8 0, .int .u8 0, .int .u8 0, .int .u8 0, .int .u8 0, .int .u8 0, .int .u8 0, .int .u8 0, .int .u8 0, .int .u8 0, .int .u8 0, .int .u8 0, .int .u8 0, .int .u8 0, .int .i64 0, .int .i64 0, .int .i64 0, .int .i64 0]) (by kernel_rfl) (by kernel_rfl) (by kernel_rfl) (by kernel_rfl)
theorem sz68 : tsz Tryz.prog 68 = some 1 := by kernel_rfl
theorem by68 : tby Tryz.prog 68 = some 24 := by kernel_rfl
theorem ag68 : tagg Tryz.prog 68 = some true := by kernel_rfl
theorem sl68 : tsl Tryz.prog 68 = none := by kernel_rfl
theorem ar68 : tarr Tryz.prog 68 = none := by kernel_rfl
theorem pt68 : tptr Tryz.prog 68 = none := by kernel_rfl
theorem un68 : (Tryz.prog.underlying 68).isSome = true := by kernel_rfl
theorem fl68_0 : tfld Tryz.prog 68 0 = some (0, 36) := by kernel_rfl
theorem fs68 : tflds Tryz.prog 68 = true := by kernel_rfl
theorem po68 : tpos Tryz.prog 68 = true := by kernel_rfl
def z68 : AV := .agg 1 [.sl 1 [] 1]
theorem zo68 : ZeroOK Tryz.prog 68 z68 := ZeroOK.mk (.agg #[.slice none 0 0]) (by kernel_rfl) (by kernel_rfl) (by kernel_rfl) (by kernel_rfl)
theorem sz69 : tsz Tryz.prog 69 = some 1 := by kernel_rfl
theorem by69 : tby Tryz.prog 69 = some 8 := by kernel_rfl
theorem ag69 : tagg Tryz.prog 69 = some false := by kernel_rfl
theorem sl69 : tsl Tryz.prog 69 = none := by kernel_rfl
theorem ar69 : tarr Tryz.prog 69 = none := by kernel_rfl
theorem pt69 : tptr Tryz.prog 69 = some 68 := by kernel_rfl
theorem un69 : (Tryz.prog.underlying 69).isSome = true := by kernel_rfl
theorem po69 : tpos Tryz.prog 69 = true := by kernel_rfl
def z69 : AV := .val (.pointer none)
theorem zo69 : ZeroOK Tryz.prog 69 z69 := ZeroOK.mk (.pointer none) (by kernel_rfl) (by kernel_rfl) (by kernel_rfl) (by kernel_rfl)
theorem sz85 : tsz Tryz.prog 85 = some 1 := by kernel_rfl
theorem by85 : tby Tryz.prog 85 = some 24 := by kernel_rfl
theorem ag85 : tagg Tryz.prog 85 = some false := by kernel_rfl
theorem sl85 : tsl Tryz.prog 85 = some 41 := by kernel_rfl
theorem ar85 : tarr Tryz.prog 85 = none := by kernel_rfl
theorem pt85 : tptr Tryz.prog 85 = none := by kernel_rfl
theorem un85 : (Tryz.prog.underlying 85).isSome = true := by kernel_rfl
theorem po85 : tpos Tryz.prog 85 = true := by kernel_rfl
def z85 : AV := .sl 40 [] 1
theorem zo85 : ZeroOK Tryz.prog 85 z85 := ZeroOK.mk (.slice none 0 0) (by kernel_rfl) (by kernel_rfl) (by kernel_rfl) (by kernel_rfl)
theorem sz96 : tsz Tryz.prog 96 = some 1 := by kernel_rfl
theorem by96 : tby Tryz.prog 96 = some 24 := by kernel_rfl
theorem ag96 : tagg Tryz.prog 96 = some false := by kernel_rfl
theorem sl96 : tsl Tryz.prog 96 = some 177 := by kernel_rfl
theorem ar96 : tarr Tryz.prog 96 = none := by kernel_rfl
theorem pt96 : tptr Tryz.prog 96 = none := by kernel_rfl
theorem un96 : (Tryz.prog.underlying 96).isSome = true := by kernel_rfl
theorem po96 : tpos Tryz.prog 96 = true := by kernel_rfl
def z96 : AV := .sl 274 [] 1
theorem zo96 : ZeroOK Tryz.prog 96 z96 := ZeroOK.mk (.slice none 0 0) (by kernel_rfl) (by kernel_rfl) (by kernel_rfl) (by kernel_rfl)
theorem sz97 : tsz Tryz.prog 97 = some 1 := by kernel_rfl
theorem by97 : tby Tryz.prog 97 = some 8 := by kernel_rfl
theorem ag97 : tagg Tryz.prog 97 = some false := by kernel_rfl
theorem sl97 : tsl Tryz.prog 97 = none := by kernel_rfl
theorem ar97 : tarr Tryz.prog 97 = none := by kernel_rfl
theorem pt97 : tptr Tryz.prog 97 = some 184 := by kernel_rfl
theorem un97 : (Tryz.prog.underlying 97).isSome = true := by kernel_rfl
theorem po97 : tpos Tryz.prog 97 = true := by kernel_rfl
def z97 : AV := .val (.pointer none)
theorem zo97 : ZeroOK Tryz.prog 97 z97 := ZeroOK.mk (.pointer none) (by kernel_rfl) (by kernel_rfl) (by kernel_rfl) (by kernel_rfl)
theorem sz101 : tsz Tryz.prog 101 = some 38 := by kernel_rfl
theorem by101 : tby Tryz.prog 101 = some 80 := by kernel_rfl
theorem ag101 : tagg Tryz.prog 101 = some true := by kernel_rfl
theorem sl101 : tsl Tryz.prog 101 = none := by kernel_rfl
theorem ar101 : tarr Tryz.prog 101 = none := by kernel_rfl
theorem pt101 : tptr Tryz.prog 101 = none := by kernel_rfl
theorem un101 : (Tryz.prog.underlying 101).isSome = true := by kernel_rfl
theorem fl101_0 : tfld Tryz.prog 101 0 = some (0, 4) := by kernel_rfl
theorem fl101_1 : tfld Tryz.prog 101 1 = some (1, 3) := by kernel_rfl
theorem fl101_2 : tfld Tryz.prog 101 2 = some (2, 3) := by kernel_rfl
theorem fl101_3 : tfld Tryz.prog 101 3 = some (3, 23) := by kernel_rfl
theorem fl101_4 : tfld Tryz.prog 101 4 = some (35, 3) := by kernel_rfl
theorem fl101_5 : tfld Tryz.prog 101 5 = some (36, 3) := by kernel_rfl
theorem fl101_6 : tfld Tryz.prog 101 6 = some (37, 3) := by kernel_rfl
theorem fs101 : tflds Tryz.prog 101 = true := by kernel_rfl
theorem po101 : tpos Tryz.prog 101 = true := by kernel_rfl
theorem tq101 : teq Tryz.prog 101 = true := by kernel_rfl
theorem tc101 : tcmp Tryz.prog 101 = some [(0, 4), (1, 3), (2, 3), (3, 23), (35, 3), (36, 3), (37, 3)] := by kernel_rfl
def z101 : AV := .agg 38 [.val (.bool false), .val (.int .i64 0), .val (.int .i64 0), .vec 1 (List.replicate 32 (.val (.int .u8 0))), .val (.int .i64 0), .val (.int .i64 0), .val (.int .i64 0)]
theorem zo101 : ZeroOK Tryz.prog 101 z101 := ZeroOK.mk (.agg #[.bool false, .int .i64 0, .int .i64 0, .int .u8 0, .int .u8 0, .int .u8 0, .int .u8 0, .int .u8 0, .int .u8 0, .int .u8 0, .int .u8 0, .int .u8 0, .int .u8 0, .int .u8 0, .int .u8 0, .int .u8 0, .int .u8 0, .int .u8 0, .int .u8 0, .int .u8 0, .int .u8 0, .int .u8 0, .int .u8 0, .int .u8 0, .int .u8 0, .int .u8 0, .int .u8 0, .int .u8 0, .int .u8 0, .int .u8 0, .int .u8 0, .int .u8 0, .int .u8 0, .int .u8 0, .int .u8 0, .int .i64 0, .int .i64 0, .int .i64 0]) (by kernel_rfl) (by kernel_rfl) (by kernel_rfl) (by kernel_rfl)
theorem sz107 : tsz Tryz.prog 107 = some 1 := by kernel_rfl
theorem by107 : tby Tryz.prog 107 = some 24 := by kernel_rfl
theorem ag107 : tagg Tryz.prog 107 = some false := by kernel_rfl
theorem sl107 : tsl Tryz.prog 107 = some 171 := by kernel_rfl
theorem ar107 : tarr Tryz.prog 107 = none := by kernel_rfl
theorem pt107 : tptr Tryz.prog 107 = none := by kernel_rfl
theorem un107 : (Tryz.prog.underlying 107).isSome = true := by kernel_rfl
theorem po107 : tpos Tryz.prog 107 = true := by kernel_rfl
def z107 : AV := .sl 67 [] 1
theorem zo107 : ZeroOK Tryz.prog 107 z107 := ZeroOK.mk (.slice none 0 0) (by kernel_rfl) (by kernel_rfl) (by kernel_rfl) (by kernel_rfl)
theorem sz110 : tsz Tryz.prog 110 = some 1 := by kernel_rfl
theorem by110 : tby Tryz.prog 110 = some 24 := by kernel_rfl
theorem ag110 : tagg Tryz.prog 110 = some false := by kernel_rfl
theorem sl110 : tsl Tryz.prog 110 = some 3 := by kernel_rfl
theorem ar110 : tarr Tryz.prog 110 = none := by kernel_rfl
theorem pt110 : tptr Tryz.prog 110 = none := by kernel_rfl
theorem un110 : (Tryz.prog.underlying 110).isSome = true := by kernel_rfl
theorem po110 : tpos Tryz.prog 110 = true := by kernel_rfl
def z110 : AV := .sl 1 [] 1
theorem zo110 : ZeroOK Tryz.prog 110 z110 := ZeroOK.mk (.slice none 0 0) (by kernel_rfl) (by kernel_rfl) (by kernel_rfl) (by kernel_rfl)
theorem sz127 : tsz Tryz.prog 127 = some 33 := by kernel_rfl
theorem by127 : tby Tryz.prog 127 = some 40 := by kernel_rfl
theorem ag127 : tagg Tryz.prog 127 = some true := by kernel_rfl
theorem sl127 : tsl Tryz.prog 127 = none := by kernel_rfl
theorem ar127 : tarr Tryz.prog 127 = none := by kernel_rfl
theorem pt127 : tptr Tryz.prog 127 = none := by kernel_rfl
theorem un127 : (Tryz.prog.underlying 127).isSome = true := by kernel_rfl
theorem fl127_0 : tfld Tryz.prog 127 0 = some (0, 3) := by kernel_rfl
theorem fl127_1 : tfld Tryz.prog 127 1 = some (1, 23) := by kernel_rfl
theorem fs127 : tflds Tryz.prog 127 = true := by kernel_rfl
theorem po127 : tpos Tryz.prog 127 = true := by kernel_rfl
theorem tq127 : teq Tryz.prog 127 = true := by kernel_rfl
theorem tc127 : tcmp Tryz.prog 127 = some [(0, 3), (1, 23)] := by kernel_rfl
def z127 : AV := .agg 33 [.val (.int .i64 0), .vec 1 (List.replicate 32 (.val (.int .u8 0)))]
theorem zo127 : ZeroOK Tryz.prog 127 z127 := ZeroOK.mk (.agg #[.int .i64 0, .int .u8 0, .int .u8 0, .int .u8 0, .int .u8 0, .int .u8 0, .int .u8 0, .int .u8 0, .int .u8 0, .int .u8 0, .int .u8 0, .int .u8 0, .int .u8 0, .int .u8 0, .int .u8 0, .int .u8 0, .int .u8 0, .int .u8 0, .int .u8 0, .int .u8 0, .int .u8 0, .int .u8 0, .int .u8 0, .int .u8 0, .int .u8 0, .int .u8 0, .int .u8 0, .int .u8 0, .int .u8 0, .int .u8 0, .int .u8 0, .int .u8 0, .int .u8 0]) (by kernel_rfl) (by kernel_rfl) (by kernel_rfl) (by kernel_rfl)
theorem sz129 : tsz Tryz.prog 129 = some 1 := by kernel_rfl
theorem by129 : tby Tryz.prog 129 = some 8 := by kernel_rfl
theorem ag129 : tagg Tryz.prog 129 = some false := by kernel_rfl
theorem sl129 : tsl Tryz.prog 129 = none := by kernel_rfl
theorem ar129 : tarr Tryz.prog 129 = none := by kernel_rfl
theorem pt129 : tptr Tryz.prog 129 = none := by kernel_rfl
theorem un129 : (Tryz.prog.underlying 129).isSome = true := by kernel_rfl
theorem po129 : tpos Tryz.prog 129 = true := by kernel_rfl
def z129 : AV := .val .nilFunc
theorem zo129 : ZeroOK Tryz.prog 129 z129 := ZeroOK.mk (.nilFunc) (by kernel_rfl) (by kernel_rfl) (by kernel_rfl) (by kernel_rfl)
theorem sz132 : tsz Tryz.prog 132 = some 1 := by kernel_rfl
theorem by132 : tby Tryz.prog 132 = some 8 := by kernel_rfl
theorem ag132 : tagg Tryz.prog 132 = some false := by kernel_rfl
theorem sl132 : tsl Tryz.prog 132 = none := by kernel_rfl
theorem ar132 : tarr Tryz.prog 132 = none := by kernel_rfl
theorem pt132 : tptr Tryz.prog 132 = none := by kernel_rfl
theorem un132 : (Tryz.prog.underlying 132).isSome = true := by kernel_rfl
theorem po132 : tpos Tryz.prog 132 = true := by kernel_rfl
def z132 : AV := .val .nilFunc
theorem zo132 : ZeroOK Tryz.prog 132 z132 := ZeroOK.mk (.nilFunc) (by kernel_rfl) (by kernel_rfl) (by kernel_rfl) (by kernel_rfl)
theorem sz139 : tsz Tryz.prog 139 = some 1 := by kernel_rfl
theorem by139 : tby Tryz.prog 139 = some 24 := by kernel_rfl
theorem ag139 : tagg Tryz.prog 139 = some false := by kernel_rfl
theorem sl139 : tsl Tryz.prog 139 = some 2 := by kernel_rfl
theorem ar139 : tarr Tryz.prog 139 = none := by kernel_rfl
theorem pt139 : tptr Tryz.prog 139 = none := by kernel_rfl
theorem un139 : (Tryz.prog.underlying 139).isSome = true := by kernel_rfl
theorem po139 : tpos Tryz.prog 139 = true := by kernel_rfl
def z139 : AV := .sl 1 [] 1
theorem zo139 : ZeroOK Tryz.prog 139 z139 := ZeroOK.mk (.slice none 0 0) (by kernel_rfl) (by kernel_rfl) (by kernel_rfl) (by kernel_rfl)
theorem sz140 : tsz Tryz.prog 140 = some 1 := by kernel_rfl
theorem by140 : tby Tryz.prog 140 = some 24 := by kernel_rfl
theorem ag140 : tagg Tryz.prog 140 = some false := by kernel_rfl
theorem sl140 : tsl Tryz.prog 140 = some 186 := by kernel_rfl
theorem ar140 : tarr Tryz.prog 140 = none := by kernel_rfl
theorem pt140 : tptr Tryz.prog 140 = none := by kernel_rfl
theorem un140 : (Tryz.prog.underlying 140).isSome = true := by kernel_rfl
theorem po140 : tpos Tryz.prog 140 = true := by kernel_rfl
def z140 : AV := .sl 35 [] 1
theorem zo140 : ZeroOK Tryz.prog 140 z140 := ZeroOK.mk (.slice none 0 0) (by kernel_rfl) (by kernel_rfl) (by kernel_rfl) (by kernel_rfl)
theorem sz142 : tsz Tryz.prog 142 = some 2 := by kernel_rfl
theorem by142 : tby Tryz.prog 142 = some 32 := by kernel_rfl
theorem ag142 : tagg Tryz.prog 142 = some true := by kernel_rfl
theorem sl142 : tsl Tryz.prog 142 = none := by kernel_rfl
theorem ar142 : tarr Tryz.prog 142 = none := by kernel_rfl
theorem pt142 : tptr Tryz.prog 142 = none := by kernel_rfl
theorem un142 : (Tryz.prog.underlying 142).isSome = true := by kernel_rfl
theorem fl142_0 : tfld Tryz.prog 142 0 = some (0, 2) := by kernel_rfl
theorem fl142_1 : tfld Tryz.prog 142 1 = some (1, 140) := by kernel_rfl
theorem fs142 : tflds Tryz.prog 142 = true := by kernel_rfl
theorem po142 : tpos Tryz.prog 142 = true := by kernel_rfl
def z142 : AV := .agg 2 [.val (.int .i64 0), .sl 35 [] 1]
theorem zo142 : ZeroOK Tryz.prog 142 z142 := ZeroOK.mk (.agg #[.int .i64 0, .slice none 0 0]) (by kernel_rfl) (by kernel_rfl) (by kernel_rfl) (by kernel_rfl)
theorem sz146 : tsz Tryz.prog 146 = some 3 := by kernel_rfl
theorem by146 : tby Tryz.prog 146 = some 40 := by kernel_rfl
theorem ag146 : tagg Tryz.prog 146 = some true := by kernel_rfl
theorem sl146 : tsl Tryz.prog 146 = none := by kernel_rfl
theorem ar146 : tarr Tryz.prog 146 = none := by kernel_rfl
theorem pt146 : tptr Tryz.prog 146 = none := by kernel_rfl
theorem un146 : (Tryz.prog.underlying 146).isSome = true := by kernel_rfl
theorem fl146_0 : tfld Tryz.prog 146 0 = some (0, 142) := by kernel_rfl
theorem fl146_1 : tfld Tryz.prog 146 1 = some (2, 3) := by kernel_rfl
theorem fs146 : tflds Tryz.prog 146 = true := by kernel_rfl
theorem po146 : tpos Tryz.prog 146 = true := by kernel_rfl
def z146 : AV := .agg 3 [.agg 2 [.val (.int .i64 0), .sl 35 [] 1], .val (.int .i64 0)]
theorem zo146 : ZeroOK Tryz.prog 146 z146 := ZeroOK.mk (.agg #[.int .i64 0, .slice none 0 0, .int .i64 0]) (by kernel_rfl) (by kernel_rfl) (by kernel_rfl) (by kernel_rfl)
theorem sz156 : tsz Tryz.prog 156 = some 1 := by kernel_rfl
theorem by156 : tby Tryz.prog 156 = some 8 := by kernel_rfl
theorem ag156 : tagg Tryz.prog 156 = some false := by kernel_rfl
theorem sl156 : tsl Tryz.prog 156 = none := by kernel_rfl
theorem ar156 : tarr Tryz.prog 156 = none := by kernel_rfl
theorem pt156 : tptr Tryz.prog 156 = none := by kernel_rfl
theorem in156 : tint Tryz.prog 156 = some .u64 := by kernel_rfl
theorem un156 : (Tryz.prog.underlying 156).isSome = true := by kernel_rfl
theorem po156 : tpos Tryz.prog 156 = true := by kernel_rfl
def z156 : AV := .val (.int .u64 0)
theorem zo156 : ZeroOK Tryz.prog 156 z156 := ZeroOK.mk (.int .u64 0) (by kernel_rfl) (by kernel_rfl) (by kernel_rfl) (by kernel_rfl)
theorem sz157 : tsz Tryz.prog 157 = some 1 := by kernel_rfl
theorem by157 : tby Tryz.prog 157 = some 8 := by kernel_rfl
theorem ag157 : tagg Tryz.prog 157 = some false := by kernel_rfl
theorem sl157 : tsl Tryz.prog 157 = none := by kernel_rfl
theorem ar157 : tarr Tryz.prog 157 = none := by kernel_rfl
theorem pt157 : tptr Tryz.prog 157 = none := by kernel_rfl
theorem in157 : tint Tryz.prog 157 = some .u64 := by kernel_rfl
theorem un157 : (Tryz.prog.underlying 157).isSome = true := by kernel_rfl
theorem po157 : tpos Tryz.prog 157 = true := by kernel_rfl
def z157 : AV := .val (.int .u64 0)
theorem zo157 : ZeroOK Tryz.prog 157 z157 := ZeroOK.mk (.int .u64 0) (by kernel_rfl) (by kernel_rfl) (by kernel_rfl) (by kernel_rfl)
theorem sz158 : tsz Tryz.prog 158 = some 1 := by kernel_rfl
theorem by158 : tby Tryz.prog 158 = some 8 := by kernel_rfl
theorem ag158 : tagg Tryz.prog 158 = some false := by kernel_rfl
theorem sl158 : tsl Tryz.prog 158 = none := by kernel_rfl
theorem ar158 : tarr Tryz.prog 158 = none := by kernel_rfl
theorem pt158 : tptr Tryz.prog 158 = some 249 := by kernel_rfl
theorem un158 : (Tryz.prog.underlying 158).isSome = true := by kernel_rfl
theorem po158 : tpos Tryz.prog 158 = true := by kernel_rfl
def z158 : AV := .val (.pointer none)
theorem zo158 : ZeroOK Tryz.prog 158 z158 := ZeroOK.mk (.pointer none) (by kernel_rfl) (by kernel_rfl) (by kernel_rfl) (by kernel_rfl)
theorem sz169 : tsz Tryz.prog 169 = some 64 := by kernel_rfl
theorem by169 : tby Tryz.prog 169 = some 64 := by kernel_rfl
theorem ag169 : tagg Tryz.prog 169 = some true := by kernel_rfl
theorem sl169 : tsl Tryz.prog 169 = none := by kernel_rfl
theorem ar169 : tarr Tryz.prog 169 = some (2, 23) := by kernel_rfl
theorem pt169 : tptr Tryz.prog 169 = none := by kernel_rfl
theorem un169 : (Tryz.prog.underlying 169).isSome = true := by kernel_rfl
theorem po169 : tpos Tryz.prog 169 = true := by kernel_rfl
theorem tq169 : teq Tryz.prog 169 = true := by kernel_rfl
def z169 : AV := .vec 32 (List.replicate 2 (.vec 1 (List.replicate 32 (.val (.int .u8 0)))))
theorem zo169 : ZeroOK Tryz.prog 169 z169 := ZeroOK.mk (.agg #[.int .u8 0, .int .u8 0, .int .u8 0, .int .u8 0, .int .u8 0, .int .u8 0, .int .u8 0, .int .u8 0, .int .u8 0, .int .u8 0, .int .u8 0, .int .u8 0, .int .u8 0, .int .u8 0, .int .u8 0, .int .u8 0, .int .u8 0, .int .u8 0, .int .u8 0, .int .u8 0, .int .u8 0, .int .u8 0, .int .u8 0, .int .u8 0, .int .u8 0, .int .u8 0, .int .u8 0, .int .u8 0, .int .u8 0, .int .u8 0, .int .u8 0, .int .u8 0, .int .u8 0, .int .u8 0, .int .u8 0, .int .u8 0, .int .u8 0, .int .u8 0, .int .u8 0, .int .u8 0, .int .u8 0, .int .u8 0, .int .u8 0, .int .u8 0, .int .u8 0, .int .u8 0, .int .u8 0, .int .u8 0, .int .u8 0, .int .u8 0, .int .u8 0, .int .u8 0, .int .u8 0, .int .u8 0, .int .u8 0, .int .u8 0, .int .u8 0, .int .u8 0, .int .u8 0, .int .u8 0, .int .u8 0, .int .u8 0, .int .u8 0, .int .u8 0]) (by kernel_rfl) (by kernel_rfl) (by kernel_rfl) (by kernel_rfl)
theorem sz171 : tsz Tryz.prog 171 = some 67 := by kernel_rfl
theorem by171 : tby Tryz.prog 171 = some 88 := by kernel_rfl
theorem ag171 : tagg Tryz.prog 171 = some true := by kernel_rfl
theorem sl171 : tsl Tryz.prog 171 = none := by kernel_rfl
theorem ar171 : tarr Tryz.prog 171 = none := by kernel_rfl
theorem pt171 : tptr Tryz.prog 171 = none := by kernel_rfl
theorem un171 : (Tryz.prog.underlying 171).isSome = true := by kernel_rfl
theorem fl171_0 : tfld Tryz.prog 171 0 = some (0, 3) := by kernel_rfl
theorem fl171_1 : tfld Tryz.prog 171 1 = some (1, 2) := by kernel_rfl
theorem fl171_2 : tfld Tryz.prog 171 2 = some (2, 2) := by kernel_rfl
theorem fl171_3 : tfld Tryz.prog 171 3 = some (3, 169) := by kernel_rfl
theorem fs171 : tflds Tryz.prog 171 = true := by kernel_rfl
theorem po171 : tpos Tryz.prog 171 = true := by kernel_rfl
theorem tq171 : teq Tryz.prog 171 = true := by kernel_rfl
theorem tc171 : tcmp Tryz.prog 171 = some [(0, 3), (1, 2), (2, 2), (3, 169)] := by kernel_rfl
def z171 : AV := .agg 67 [.val (.int .i64 0), .val (.int .i64 0), .val (.int .i64 0), .vec 32 (List.replicate 2 (.vec 1 (List.replicate 32 (.val (.int .u8 0)))))]
theorem zo171 : ZeroOK Tryz.prog 171 z171 := ZeroOK.mk (.agg #[.int .i64 0, .int .i64 0, .int .i64 0, .int .u8 0, .int .u8 0, .int .u8 0, .int .u8 0, .int .u8 0, .int .u8 0, .int .u8 0, .int .u8 0, .int .u8 0, .int .u8 0, .int .u8 0, .int .u8 0, .int .u8 0, .int .u8 0, .int .u8 0, .int .u8 0, .int .u8 0, .int .u8 0, .int .u8 0, .int .u8 0, .int .u8 0, .int .u8 0, .int .u8 0, .int .u8 0, .int .u8 0, .int .u8 0, .int .u8 0, .int .u8 0, .int .u8 0, .int .u8 0, .int .u8 0, .int .u8 0, .int .u8 0, .int .u8 0, .int .u8 0, .int .u8 0, .int .u8 0, .int .u8 0, .int .u8 0, .int .u8 0, .int .u8 0, .int .u8 0, .int .u8 0, .int .u8 0, .int .u8 0, .int .u8 0, .int .u8 0, .int .u8 0, .int .u8 0, .int .u8 0, .int .u8 0, .int .u8 0, .int .u8 0, .int .u8 0, .int .u8 0, .int .u8 0, .int .u8 0, .int .u8 0, .int .u8 0, .int .u8 0, .int .u8 0, .int .u8 0, .int .u8 0, .int .u8 0]) (by kernel_rfl) (by kernel_rfl) (by kernel_rfl) (by kernel_rfl)
theorem sz173 : tsz Tryz.prog 173 = some 67 := by kernel_rfl
theorem by173 : tby Tryz.prog 173 = some 88 := by kernel_rfl
theorem ag173 : tagg Tryz.prog 173 = some true := by kernel_rfl
theorem sl173 : tsl Tryz.prog 173 = none := by kernel_rfl
theorem ar173 : tarr Tryz.prog 173 = none := by kernel_rfl
theorem pt173 : tptr Tryz.prog 173 = none := by kernel_rfl
theorem un173 : (Tryz.prog.underlying 173).isSome = true := by kernel_rfl
theorem fl173_0 : tfld Tryz.prog 173 0 = some (0, 3) := by kernel_rfl
theorem fl173_1 : tfld Tryz.prog 173 1 = some (1, 3) := by kernel_rfl
theorem fl173_2 : tfld Tryz.prog 173 2 = some (2, 3) := by kernel_rfl
theorem fl173_3 : tfld Tryz.prog 173 3 = some (3, 23) := by kernel_rfl
theorem fl173_4 : tfld Tryz.prog 173 4 = some (35, 23) := by kernel_rfl
theorem fs173 : tflds Tryz.prog 173 = true := by kernel_rfl
theorem po173 : tpos Tryz.prog 173 = true := by kernel_rfl
theorem tq173 : teq Tryz.prog 173 = true := by kernel_rfl
theorem tc173 : tcmp Tryz.prog 173 = some [(0, 3), (1, 3), (2, 3), (3, 23), (35, 23)] := by kernel_rfl
def z173 : AV := .agg 67 [.val (.int .i64 0), .val (.int .i64 0), .val (.int .i64 0), .vec 1 (List.replicate 32 (.val (.int .u8 0))), .vec 1 (List.replicate 32 (.val (.int .u8 0)))]
theorem zo173 : ZeroOK Tryz.prog 173 z173 := ZeroOK.mk (.agg #[.int .i64 0, .int .i64 0, .int .i64 0, .int .u8 0, .int .u8 0, .int .u8 0, .int .u8 0, .int .u8 0, .int .u8 0, .int .u8 0, .int .u8 0, .int .u8 0, .int .u8 0, .int .u8 0, .int .u8 0, .int .u8 0, .int .u8 0, .int .u8 0, .int .u8 0, .int .u8 0, .int .u8 0, .int .u8 0, .int .u8 0, .int .u8 0, .int .u8 0, .int .u8 0, .int .u8 0, .int .u8 0, .int .u8 0, .int .u8 0, .int .u8 0, .int .u8 0, .int .u8 0, .int .u8 0, .int .u8 0, .int .u8 0, .int .u8 0, .int .u8 0, .int .u8 0, .int .u8 0, .int .u8 0, .int .u8 0, .int .u8 0, .int .u8 0, .int .u8 0, .int .u8 0, .int .u8 0, .int .u8 0, .int .u8 0, .int .u8 0, .int .u8 0, .int .u8 0, .int .u8 0, .int .u8 0, .int .u8 0, .int .u8 0, .int .u8 0, .int .u8 0, .int .u8 0, .int .u8 0, .int .u8 0, .int .u8 0, .int .u8 0, .int .u8 0, .int .u8 0, .int .u8 0, .int .u8 0]) (by kernel_rfl) (by kernel_rfl) (by kernel_rfl) (by kernel_rfl)
theorem sz175 : tsz Tryz.prog 175 = some 68 := by kernel_rfl
theorem by175 : tby Tryz.prog 175 = some 112 := by kernel_rfl
theorem ag175 : tagg Tryz.prog 175 = some true := by kernel_rfl
theorem sl175 : tsl Tryz.prog 175 = none := by kernel_rfl
theorem ar175 : tarr Tryz.prog 175 = none := by kernel_rfl
theorem pt175 : tptr Tryz.prog 175 = none := by kernel_rfl
theorem un175 : (Tryz.prog.underlying 175).isSome = true := by kernel_rfl
theorem fl175_0 : tfld Tryz.prog 175 0 = some (0, 173) := by kernel_rfl
theorem fl175_1 : tfld Tryz.prog 175 1 = some (67, 36) := by kernel_rfl
theorem fs175 : tflds Tryz.prog 175 = true := by kernel_rfl
theorem po175 : tpos Tryz.prog 175 = true := by kernel_rfl
def z175 : AV := .agg 68 [.agg 67 [.val (.int .i64 0), .val (.int .i64 0), .val (.int .i64 0), .vec 1 (List.replicate 32 (.val (.int .u8 0))), .vec 1 (List.replicate 32 (.val (.int .u8 0)))], .sl 1 [] 1]
theorem zo175 : ZeroOK Tryz.prog 175 z175 := ZeroOK.mk (.agg #[.int .i64 0, .int .i64 0, .int .i64 0, .int .u8 0, .int .u8 0, .int .u8 0, .int .u8 0, .int .u8 0, .int .u8 0, .int .u8 0, .int .u8 0, .int .u8 0, .int .u8 0, .int .u8 0, .int .u8 0, .int .u8 0, .int .u8 0, .int .u8 0, .int .u8 0, .int .u8 0, .int .u8 0, .int .u8 0, .int .u8 0, .int .u8 0, .int .u8 0, .int .u8 0, .int .u8 0, .int .u8 0, .int .u8 0, .int .u8 0, .int .u8 0, .int .u8 0, .int .u8 0, .int .u8 0, .int .u8 0, .int .u8 0, .int .u8 0, .int .u8 0, .int .u8 0, .int .u8 0, .int .u8 0, .int .u8 0, .int .u8 0, .int .u8 0, .int .u8 0, .int .u8 0, .int .u8 0, .int .u8 0, .int .u8 0, .int .u8 0, .int .u8 0, .int .u8 0, .int .u8 0, .int .u8 0, .int .u8 0, .int .u8 0, .int .u8 0, .int .u8 0, .int .u8 0, .int .u8 0, .int .u8 0, .int .u8 0, .int .u8 0, .int .u8 0, .int .u8 0, .int .u8 0, .int .u8 0, .slice none 0 0]) (by kernel_rfl) (by kernel_rfl) (by kernel_rfl) (by kernel_rfl)
theorem sz177 : tsz Tryz.prog 177 = some 274 := by kernel_rfl
theorem by177 : tby Tryz.prog 177 = some 432 := by kernel_rfl
theorem ag177 : tagg Tryz.prog 177 = some true := by kernel_rfl
theorem sl177 : tsl Tryz.prog 177 = none := by kernel_rfl
theorem ar177 : tarr Tryz.prog 177 = none := by kernel_rfl
theorem pt177 : tptr Tryz.prog 177 = none := by kernel_rfl
theorem un177 : (Tryz.prog.underlying 177).isSome = true := by kernel_rfl
theorem fl177_0 : tfld Tryz.prog 177 0 = some (0, 3) := by kernel_rfl
theorem fl177_1 : tfld Tryz.prog 177 1 = some (1, 66) := by kernel_rfl
theorem fl177_2 : tfld Tryz.prog 177 2 = some (40, 171) := by kernel_rfl
theorem fl177_3 : tfld Tryz.prog 177 3 = some (107, 127) := by kernel_rfl
theorem fl177_4 : tfld Tryz.prog 177 4 = some (140, 23) := by kernel_rfl
theorem fl177_5 : tfld Tryz.prog 177 5 = some (172, 3) := by kernel_rfl
theorem fl177_6 : tfld Tryz.prog 177 6 = some (173, 23) := by kernel_rfl
theorem fl177_7 : tfld Tryz.prog 177 7 = some (205, 175) := by kernel_rfl
theorem fl177_8 : tfld Tryz.prog 177 8 = some (273, 36) := by kernel_rfl
theorem fs177 : tflds Tryz.prog 177 = true := by kernel_rfl
theorem po177 : tpos Tryz.prog 177 = true := by kernel_rfl
def z177 : AV := .agg 274 [.val (.int .i64 0), .agg 39 [.val (.int .i64 0), .val (.int .i64 0), .val (.int .i64 0), .agg 33 [.vec 1 (List.replicate 32 (.val (.int .u8 0))), .val (.int .i64 0)], .val (.int .i64 0), .val (.int .i64 0), .val (.int .i64 0)], .agg 67 [.val (.int .i64 0), .val (.int .i64 0), .val (.int .i64 0), .vec 32 (List.replicate 2 (.vec 1 (List.replicate 32 (.val (.int .u8 0)))))], .agg 33 [.val (.int .i64 0), .vec 1 (List.replicate 32 (.val (.int .u8 0)))], .vec 1 (List.replicate 32 (.val (.int .u8 0))), .val (.int .i64 0), .vec 1 (List.replicate 32 (.val (.int .u8 0))), .agg 68 [.agg 67 [.val (.int .i64 0), .val (.int .i64 0), .val (.int .i64 0), .vec 1 (List.replicate 32 (.val (.int .u8 0))), .vec 1 (List.replicate 32 (.val (.int .u8 0)))], .sl 1 [] 1], .sl 1 [] 1]
theorem zo177 : ZeroOK Tryz.prog 177 z177 := ZeroOK.mk (.agg #[.int .i64 0, .int .i64 0, .int .i64 0, .int .i64 0, .int .u8 0, .int .u8 0, .int .u8 0, .int .u8 0, .int .u8 0, .int .u8 0, .int .u8 0, .int .u8 0, .int .u8 0, .int .u8 0, .int .u8 0, .int .u8 0, .int .u8 0, .int .u8 0, .int .u8 0, .int .u8 0, .int .u8 0, .int .u8 0, .int .u8 0, .int .u8 0, .int .u8 0, .int .u8 0, .int .u8 0, .int .u8 0, .int .u8 0, .int .u8 0, .int .u8 0, .int .u8 0, .int .u8 0, .int .u8 0, .int .u8 0, .int .u8 0, .int .i64 0, .int .i64 0, .int .i64 0, .int .i64 0, .int .i64 0, .int .i64 0, .int .i64 0, .int .u8 0, .int .u8 0, .int .u8 0, .int .u8 0, .int .u8 0, .int .u8 0, .int .u8 0, .int .u8 0, .int .u8 0, .int .u8 0, .int .u8 0, .int .u8 0, .int .u8 0, .int .u8 0, .int .u8 0, .int .u8 0, .int .u8 0, .int .u8 0, .int .u8 0, .int .u8 0, .int .u8 0, .int .u8 0, .int .u8 0, .int .u8 0, .int .u8 0, .int .u8 0, .int .u8 0, .int .u8 0, .int .u8 0, .int .u8 0, .int .u8 0, .int .u8 0, .int .u8 0, .int .u8 0, .int .u8 0, .int .u8 0, .int .u8 0, .int .u8 0, .int .u8 0, .int .u8 0, .int .u8 0, .int .u8 0, .int .u8 0, .int .u8 0, .int .u8 0, .int .u8 0, .int .u8 0, .int .u8 0, .int .u8 0, .int .u8 0, .int .u8 0, .int .u8 0, .int .u8 0, .int .u8 0, .int .u8 0, .int .u8 0, .int .u8 0, .int .u8 0, .int .u8 0, .int .u8 0, .int .u8 0, .int .u8 0, .int .u8 0, .int .u8 0, .int .i64 0, .int .u8 0, .int .u8 0, .int .u8 0, .int .u8 0, .int .u8 0, .int .u8 0, .int .u8 0, .int .u8 0, .int .u8 0, .int .u8 0, .int .u8 0, .int .u8 0, .int .u8 0, .int .u8 0, .int .u8 0, .int .u8 0, .int .u8 0, .int .u8 0, .int .u8 0, .int .u8 0, .int .u8 0, .int .u8 0, .int .u8 0, .int .u8 0, .int .u8 0, .int .u8 0, .int .u8 0, .int .u8 0, .int .u8 0, .int .u8 0, .int .u8 0, .int .u8 0, .int .u8 0, .int .u8 0, .int .u8 0, .int .u8 0, .int .u8 0, .int .u8 0, .int .u8 0, .int .u8 0, .int .u8 0, .int .u8 0, .int .u8 0, .int .u8 0, .int .u8 0, .int .u8 0, .int .u8 0, .int .u8 0, .int .u8 0, .int .u8 0, .int .u8 0, .int .u8 0, .int .u8 0, .int .u8 0, .int .u8 0, .int .u8 0, .int .u8 0, .int .u8 0, .int .u8 0, .int .u8 0, .int .u8 0, .int .u8 0, .int .u8 0, .int .u8 0, .int .i64 0, .int .u8 0, .int .u8 0, .int .u8 0, .int .u8 0, .int .u8 0, .int .u8 0, .int .u8 0, .int .u8 0, .int .u8 0, .int .u8 0, .int .u8 0, .int .u8 0, .int .u8 0, .int .u8 0, .int .u8 0, .int .u8 0, .int .u8 0, .int .u8 0, .int .u8 0, .int .u8 0, .int .u8 0, .int .u8 0, .int .u8 0, .int .u8 0, .int .u8 0, .int .u8 0, .int .u8 0, .int .u8 0, .int .u8 0, .int .u8 0, .int .u8 0, .int .u8 0, .int .i64 0, .int .i64 0, .int .i64 0, .int .u8 0, .int .u8 0, .int .u8 0, .int .u8 0, .int .u8 0, .int .u8 0, .int .u8 0, .int .u8 0, .int .u8 0, .int .u8 0, .int .u8 0, .int .u8 0, .int .u8 0, .int .u8 0, .int .u8 0, .int .u8 0, .int .u8 0, .int .u8 0, .int .u8 0, .int .u8 0, .int .u8 0, .int .u8 0, .int .u8 0, .int .u8 0, .int .u8 0, .int .u8 0, .int .u8 0, .int .u8 0, .int .u8 0, .int .u8 0, .int .u8 0, .int .u8 0, .int .u8 0, .int .u8 0, .int .u8 0, .int .u8 0, .int .u8 0, .int .u8 0, .int .u8 0, .int .u8 0, .int .u8 0, .int .u8 0, .int .u8 0, .int .u8 0, .int .u8 0, .int .u8 0, .int .u8 0, .int .u8 0, .int .u8 0, .int .u8 0, .int .u8 0, .int .u8 0, .int .u8 0, .int .u8 0, .int .u8 0, .int .u8 0, .int .u8 0, .int .u8 0, .int .u8 0, .int .u8 0, .int .u8 0, .int .u8 0, .int .u8 0, .int .u8 0, .slice none 0 0, .slice none 0 0]) (by kernel_rfl) (by kernel_rfl) (by kernel_rfl) (by kernel_rfl)
theorem sz180 : tsz Tryz.prog 180 = some 1 := by kernel_rfl
theorem by180 : tby Tryz.prog 180 = some 24 := by kernel_rfl
theorem ag180 : tagg Tryz.prog 180 = some true := by kernel_rfl
theorem sl180 : tsl Tryz.prog 180 = none := by kernel_rfl
theorem ar180 : tarr Tryz.prog 180 = none := by kernel_rfl
theorem pt180 : tptr Tryz.prog 180 = none := by kernel_rfl
theorem un180 : (Tryz.prog.underlying 180).isSome = true := by kernel_rfl
theorem fl180_0 : tfld Tryz.prog 180 0 = some (0, 31) := by kernel_rfl
theorem fs180 : tflds Tryz.prog 180 = true := by kernel_rfl
theorem po180 : tpos Tryz.prog 180 = true := by kernel_rfl
def z180 : AV := .agg 1 [.sl 32 [] 1]
theorem zo180 : ZeroOK Tryz.prog 180 z180 := ZeroOK.mk (.agg #[.slice none 0 0]) (by kernel_rfl) (by kernel_rfl) (by kernel_rfl) (by kernel_rfl)
theorem sz181 : tsz Tryz.prog 181 = some 1 := by kernel_rfl
theorem by181 : tby Tryz.prog 181 = some 24 := by kernel_rfl
theorem ag181 : tagg Tryz.prog 181 = some false := by kernel_rfl
theorem sl181 : tsl Tryz.prog 181 = some 290 := by kernel_rfl
theorem ar181 : tarr Tryz.prog 181 = none := by kernel_rfl
theorem pt181 : tptr Tryz.prog 181 = none := by kernel_rfl
theorem un181 : (Tryz.prog.underlying 181).isSome = true := by kernel_rfl
theorem po181 : tpos Tryz.prog 181 = true := by kernel_rfl
def z181 : AV := .sl 69 [] 1
theorem zo181 : ZeroOK Tryz.prog 181 z181 := ZeroOK.mk (.slice none 0 0) (by kernel_rfl) (by kernel_rfl) (by kernel_rfl) (by kernel_rfl)
theorem sz182 : tsz Tryz.prog 182 = some 1 := by kernel_rfl
theorem by182 : tby Tryz.prog 182 = some 8 := by kernel_rfl
theorem ag182 : tagg Tryz.prog 182 = some false := by kernel_rfl
theorem sl182 : tsl Tryz.prog 182 = none := by kernel_rfl
theorem ar182 : tarr Tryz.prog 182 = none := by kernel_rfl
theorem pt182 : tptr Tryz.prog 182 = none := by kernel_rfl
theorem mp182 : tmap Tryz.prog 182 = some (3, 23) := by kernel_rfl
theorem un182 : (Tryz.prog.underlying 182).isSome = true := by kernel_rfl
theorem po182 : tpos Tryz.prog 182 = true := by kernel_rfl
def z182 : AV := .val (.map none)
theorem zo182 : ZeroOK Tryz.prog 182 z182 := ZeroOK.mk (.map none) (by kernel_rfl) (by kernel_rfl) (by kernel_rfl) (by kernel_rfl)
theorem sz184 : tsz Tryz.prog 184 = some 47 := by kernel_rfl
theorem by184 : tby Tryz.prog 184 = some 216 := by kernel_rfl
theorem ag184 : tagg Tryz.prog 184 = some true := by kernel_rfl
theorem sl184 : tsl Tryz.prog 184 = none := by kernel_rfl
theorem ar184 : tarr Tryz.prog 184 = none := by kernel_rfl
theorem pt184 : tptr Tryz.prog 184 = none := by kernel_rfl
theorem un184 : (Tryz.prog.underlying 184).isSome = true := by kernel_rfl
theorem fl184_0 : tfld Tryz.prog 184 0 = some (0, 66) := by kernel_rfl
theorem fl184_1 : tfld Tryz.prog 184 1 = some (39, 4) := by kernel_rfl
theorem fl184_2 : tfld Tryz.prog 184 2 = some (40, 107) := by kernel_rfl
theorem fl184_3 : tfld Tryz.prog 184 3 = some (41, 39) := by kernel_rfl
theorem fl184_4 : tfld Tryz.prog 184 4 = some (42, 180) := by kernel_rfl
theorem fl184_5 : tfld Tryz.prog 184 5 = some (43, 3) := by kernel_rfl
theorem fl184_6 : tfld Tryz.prog 184 6 = some (44, 181) := by kernel_rfl
theorem fl184_7 : tfld Tryz.prog 184 7 = some (45, 182) := by kernel_rfl
theorem fl184_8 : tfld Tryz.prog 184 8 = some (46, 4) := by kernel_rfl
theorem fs184 : tflds Tryz.prog 184 = true := by kernel_rfl
theorem po184 : tpos Tryz.prog 184 = true := by kernel_rfl
def z184 : AV := .agg 47 [.agg 39 [.val (.int .i64 0), .val (.int .i64 0), .val (.int .i64 0), .agg 33 [.vec 1 (List.replicate 32 (.val (.int .u8 0))), .val (.int .i64 0)], .val (.int .i64 0), .val (.int .i64 0), .val (.int .i64 0)], .val (.bool false), .sl 67 [] 1, .sl 33 [] 1, .agg 1 [.sl 32 [] 1], .val (.int .i64 0), .sl 69 [] 1, .val (.map none), .val (.bool false)]
theorem zo184 : ZeroOK Tryz.prog 184 z184 := ZeroOK.mk (.agg #[.int .i64 0, .int .i64 0, .int .i64 0, .int .u8 0, .int .u8 0, .int .u8 0, .int .u8 0, .int .u8 0, .int .u8 0, .int .u8 0, .int .u8 0, .int .u8 0, .int .u8 0, .int .u8 0, .int .u8 0, .int .u8 0, .int .u8 0, .int .u8 0, .int .u8 0, .int .u8 0, .int .u8 0, .int .u8 0, .int .u8 0, .int .u8 0, .int .u8 0, .int .u8 0, .int .u8 0, .int .u8 0, .int .u8 0, .int .u8 0, .int .u8 0, .int .u8 0, .int .u8 0, .int .u8 0, .int .u8 0, .int .i64 0, .int .i64 0, .int .i64 0, .int .i64 0, .bool false, .slice none 0 0, .slice none 0 0, .slice none 0 0, .int .i64 0, .slice none 0 0, .map none, .bool false]) (by kernel_rfl) (by kernel_rfl) (by kernel_rfl) (by kernel_rfl)
theorem sz186 : tsz Tryz.prog 186 = some 35 := by kernel_rfl
theorem by186 : tby Tryz.prog 186 = some 72 := by kernel_rfl
theorem ag186 : tagg Tryz.prog 186 = some true := by kernel_rfl
theorem sl186 : tsl Tryz.prog 186 = none := by kernel_rfl
theorem ar186 : tarr Tryz.prog 186 = none := by kernel_rfl
theorem pt186 : tptr Tryz.prog 186 = none := by kernel_rfl
theorem un186 : (Tryz.prog.underlying 186).isSome = true := by kernel_rfl
theorem fl186_0 : tfld Tryz.prog 186 0 = some (0, 110) := by kernel_rfl
theorem fl186_1 : tfld Tryz.prog 186 1 = some (1, 23) := by kernel_rfl
theorem fl186_2 : tfld Tryz.prog 186 2 = some (33, 3) := by kernel_rfl
theorem fl186_3 : tfld Tryz.prog 186 3 = some (34, 3) := by kernel_rfl
theorem fs186 : tflds Tryz.prog 186 = true := by kernel_rfl
theorem po186 : tpos Tryz.prog 186 = true := by kernel_rfl
def z186 : AV := .agg 35 [.sl 1 [] 1, .vec 1 (List.replicate 32 (.val (.int .u8 0))), .val (.int .i64 0), .val (.int .i64 0)]
theorem zo186 : ZeroOK Tryz.prog 186 z186 := ZeroOK.mk (.agg #[.slice none 0 0, .int .u8 0, .int .u8 0, .int .u8 0, .int .u8 0, .int .u8 0, .int .u8 0, .int .u8 0, .int .u8 0, .int .u8 0, .int .u8 0, .int .u8 0, .int .u8 0, .int .u8 0, .int .u8 0, .int .u8 0, .int .u8 0, .int .u8 0, .int .u8 0, .int .u8 0, .int .u8 0, .int .u8 0, .int .u8 0, .int .u8 0, .int .u8 0, .int .u8 0, .int .u8 0, .int .u8 0, .int .u8 0, .int .u8 0, .int .u8 0, .int .u8 0, .int .u8 0, .int .i64 0, .int .i64 0]) (by kernel_rfl) (by kernel_rfl) (by kernel_rfl) (by kernel_rfl)
theorem sz187 : tsz Tryz.prog 187 = some 2 := by kernel_rfl
theorem by187 : tby Tryz.prog 187 = some 16 := by kernel_rfl
theorem ag187 : tagg Tryz.prog 187 = some true := by kernel_rfl
theorem sl187 : tsl Tryz.prog 187 = none := by kernel_rfl
theorem ar187 : tarr Tryz.prog 187 = some (2, 3) := by kernel_rfl
theorem pt187 : tptr Tryz.prog 187 = none := by kernel_rfl
theorem un187 : (Tryz.prog.underlying 187).isSome = true := by kernel_rfl
theorem po187 : tpos Tryz.prog 187 = true := by kernel_rfl
theorem tw187 : twide Tryz.prog 187 = true := by kernel_rfl
theorem tq187 : teq Tryz.prog 187 = true := by kernel_rfl
def z187 : AV := .vec 1 (List.replicate 2 (.val (.int .i64 0)))
theorem zo187 : ZeroOK Tryz.prog 187 z187 := ZeroOK.mk (.agg #[.int .i64 0, .int .i64 0]) (by kernel_rfl) (by kernel_rfl) (by kernel_rfl) (by kernel_rfl)
theorem sz210 : tsz Tryz.prog 210 = some 1 := by kernel_rfl
theorem by210 : tby Tryz.prog 210 = some 8 := by kernel_rfl
theorem ag210 : tagg Tryz.prog 210 = some false := by kernel_rfl
theorem sl210 : tsl Tryz.prog 210 = none := by kernel_rfl
theorem ar210 : tarr Tryz.prog 210 = none := by kernel_rfl
theorem pt210 : tptr Tryz.prog 210 = none := by kernel_rfl
theorem un210 : (Tryz.prog.underlying 210).isSome = true := by kernel_rfl
theorem po210 : tpos Tryz.prog 210 = true := by kernel_rfl
def z210 : AV := .val .nilFunc
theorem zo210 : ZeroOK Tryz.prog 210 z210 := ZeroOK.mk (.nilFunc) (by kernel_rfl) (by kernel_rfl) (by kernel_rfl) (by kernel_rfl)
theorem sz213 : tsz Tryz.prog 213 = some 1 := by kernel_rfl
theorem by213 : tby Tryz.prog 213 = some 8 := by kernel_rfl
theorem ag213 : tagg Tryz.prog 213 = some false := by kernel_rfl
theorem sl213 : tsl Tryz.prog 213 = none := by kernel_rfl
theorem ar213 : tarr Tryz.prog 213 = none := by kernel_rfl
theorem pt213 : tptr Tryz.prog 213 = none := by kernel_rfl
theorem un213 : (Tryz.prog.underlying 213).isSome = true := by kernel_rfl
theorem po213 : tpos Tryz.prog 213 = true := by kernel_rfl
def z213 : AV := .val .nilFunc
theorem zo213 : ZeroOK Tryz.prog 213 z213 := ZeroOK.mk (.nilFunc) (by kernel_rfl) (by kernel_rfl) (by kernel_rfl) (by kernel_rfl)
theorem sz219 : tsz Tryz.prog 219 = some 4 := by kernel_rfl
theorem by219 : tby Tryz.prog 219 = some 64 := by kernel_rfl
theorem ag219 : tagg Tryz.prog 219 = some true := by kernel_rfl
theorem sl219 : tsl Tryz.prog 219 = none := by kernel_rfl
theorem ar219 : tarr Tryz.prog 219 = none := by kernel_rfl
theorem pt219 : tptr Tryz.prog 219 = none := by kernel_rfl
theorem un219 : (Tryz.prog.underlying 219).isSome = true := by kernel_rfl
theorem fl219_0 : tfld Tryz.prog 219 0 = some (0, 110) := by kernel_rfl
theorem fl219_1 : tfld Tryz.prog 219 1 = some (1, 36) := by kernel_rfl
theorem fl219_2 : tfld Tryz.prog 219 2 = some (2, 3) := by kernel_rfl
theorem fl219_3 : tfld Tryz.prog 219 3 = some (3, 3) := by kernel_rfl
theorem fs219 : tflds Tryz.prog 219 = true := by kernel_rfl
theorem po219 : tpos Tryz.prog 219 = true := by kernel_rfl
def z219 : AV := .agg 4 [.sl 1 [] 1, .sl 1 [] 1, .val (.int .i64 0), .val (.int .i64 0)]
theorem zo219 : ZeroOK Tryz.prog 219 z219 := ZeroOK.mk (.agg #[.slice none 0 0, .slice none 0 0, .int .i64 0, .int .i64 0]) (by kernel_rfl) (by kernel_rfl) (by kernel_rfl) (by kernel_rfl)
theorem sz220 : tsz Tryz.prog 220 = some 1 := by kernel_rfl
theorem by220 : tby Tryz.prog 220 = some 8 := by kernel_rfl
theorem ag220 : tagg Tryz.prog 220 = some false := by kernel_rfl
theorem sl220 : tsl Tryz.prog 220 = none := by kernel_rfl
theorem ar220 : tarr Tryz.prog 220 = none := by kernel_rfl
theorem pt220 : tptr Tryz.prog 220 = none := by kernel_rfl
theorem mp220 : tmap Tryz.prog 220 = some (3, 223) := by kernel_rfl
theorem un220 : (Tryz.prog.underlying 220).isSome = true := by kernel_rfl
theorem po220 : tpos Tryz.prog 220 = true := by kernel_rfl
def z220 : AV := .val (.map none)
theorem zo220 : ZeroOK Tryz.prog 220 z220 := ZeroOK.mk (.map none) (by kernel_rfl) (by kernel_rfl) (by kernel_rfl) (by kernel_rfl)
theorem sz223 : tsz Tryz.prog 223 = some 35 := by kernel_rfl
theorem by223 : tby Tryz.prog 223 = some 56 := by kernel_rfl
theorem ag223 : tagg Tryz.prog 223 = some true := by kernel_rfl
theorem sl223 : tsl Tryz.prog 223 = none := by kernel_rfl
theorem ar223 : tarr Tryz.prog 223 = none := by kernel_rfl
theorem pt223 : tptr Tryz.prog 223 = none := by kernel_rfl
theorem un223 : (Tryz.prog.underlying 223).isSome = true := by kernel_rfl
theorem fl223_0 : tfld Tryz.prog 223 0 = some (0, 23) := by kernel_rfl
theorem fl223_1 : tfld Tryz.prog 223 1 = some (32, 2) := by kernel_rfl
theorem fl223_2 : tfld Tryz.prog 223 2 = some (33, 2) := by kernel_rfl
theorem fl223_3 : tfld Tryz.prog 223 3 = some (34, 3) := by kernel_rfl
theorem fs223 : tflds Tryz.prog 223 = true := by kernel_rfl
theorem po223 : tpos Tryz.prog 223 = true := by kernel_rfl
theorem tq223 : teq Tryz.prog 223 = true := by kernel_rfl
theorem tc223 : tcmp Tryz.prog 223 = some [(0, 23), (32, 2), (33, 2), (34, 3)] := by kernel_rfl
def z223 : AV := .agg 35 [.vec 1 (List.replicate 32 (.val (.int .u8 0))), .val (.int .i64 0), .val (.int .i64 0), .val (.int .i64 0)]
theorem zo223 : ZeroOK Tryz.prog 223 z223 := ZeroOK.mk (.agg #[.int .u8 0, .int .u8 0, .int .u8 0, .int .u8 0, .int .u8 0, .int .u8 0, .int .u8 0, .int .u8 0, .int .u8 0, .int .u8 0, .int .u8 0, .int .u8 0, .int .u8 0, .int .u8 0, .int .u8 0, .int .u8 0, .int .u8 0, .int .u8 0, .int .u8 0, .int .u8 0, .int .u8 0, .int .u8 0, .int .u8 0, .int .u8 0, .int .u8 0, .int .u8 0, .int .u8 0, .int .u8 0, .int .u8 0, .int .u8 0, .int .u8 0, .int .u8 0, .int .i64 0, .int .i64 0, .int .i64 0]) (by kernel_rfl) (by kernel_rfl) (by kernel_rfl) (by kernel_rfl)
theorem sz224 : tsz Tryz.prog 224 = some 1 := by kernel_rfl
theorem by224 : tby Tryz.prog 224 = some 8 := by kernel_rfl
theorem ag224 : tagg Tryz.prog 224 = some false := by kernel_rfl
theorem sl224 : tsl Tryz.prog 224 = none := by kernel_rfl
theorem ar224 : tarr Tryz.prog 224 = none := by kernel_rfl
theorem pt224 : tptr Tryz.prog 224 = none := by kernel_rfl
theorem mp224 : tmap Tryz.prog 224 = some (187, 229) := by kernel_rfl
theorem un224 : (Tryz.prog.underlying 224).isSome = true := by kernel_rfl
theorem po224 : tpos Tryz.prog 224 = true := by kernel_rfl
def z224 : AV := .val (.map none)
theorem zo224 : ZeroOK Tryz.prog 224 z224 := ZeroOK.mk (.map none) (by kernel_rfl) (by kernel_rfl) (by kernel_rfl) (by kernel_rfl)
theorem sz226 : tsz Tryz.prog 226 = some 2 := by kernel_rfl
theorem by226 : tby Tryz.prog 226 = some 16 := by kernel_rfl
theorem ag226 : tagg Tryz.prog 226 = some true := by kernel_rfl
theorem sl226 : tsl Tryz.prog 226 = none := by kernel_rfl
theorem ar226 : tarr Tryz.prog 226 = none := by kernel_rfl
theorem pt226 : tptr Tryz.prog 226 = none := by kernel_rfl
theorem un226 : (Tryz.prog.underlying 226).isSome = true := by kernel_rfl
theorem fl226_0 : tfld Tryz.prog 226 0 = some (0, 220) := by kernel_rfl
theorem fl226_1 : tfld Tryz.prog 226 1 = some (1, 224) := by kernel_rfl
theorem fs226 : tflds Tryz.prog 226 = true := by kernel_rfl
theorem po226 : tpos Tryz.prog 226 = true := by kernel_rfl
def z226 : AV := .agg 2 [.val (.map none), .val (.map none)]
theorem zo226 : ZeroOK Tryz.prog 226 z226 := ZeroOK.mk (.agg #[.map none, .map none]) (by kernel_rfl) (by kernel_rfl) (by kernel_rfl) (by kernel_rfl)
theorem sz229 : tsz Tryz.prog 229 = some 74 := by kernel_rfl
theorem by229 : tby Tryz.prog 229 = some 144 := by kernel_rfl
theorem ag229 : tagg Tryz.prog 229 = some true := by kernel_rfl
theorem sl229 : tsl Tryz.prog 229 = none := by kernel_rfl
theorem ar229 : tarr Tryz.prog 229 = none := by kernel_rfl
theorem pt229 : tptr Tryz.prog 229 = none := by kernel_rfl
theorem un229 : (Tryz.prog.underlying 229).isSome = true := by kernel_rfl
theorem fl229_0 : tfld Tryz.prog 229 0 = some (0, 66) := by kernel_rfl
theorem fl229_1 : tfld Tryz.prog 229 1 = some (39, 2) := by kernel_rfl
theorem fl229_2 : tfld Tryz.prog 229 2 = some (40, 4) := by kernel_rfl
theorem fl229_3 : tfld Tryz.prog 229 3 = some (41, 3) := by kernel_rfl
theorem fl229_4 : tfld Tryz.prog 229 4 = some (42, 23) := by kernel_rfl
theorem fs229 : tflds Tryz.prog 229 = true := by kernel_rfl
theorem po229 : tpos Tryz.prog 229 = true := by kernel_rfl
theorem tq229 : teq Tryz.prog 229 = true := by kernel_rfl
theorem tc229 : tcmp Tryz.prog 229 = some [(0, 66), (39, 2), (40, 4), (41, 3), (42, 23)] := by kernel_rfl
def z229 : AV := .agg 74 [.agg 39 [.val (.int .i64 0), .val (.int .i64 0), .val (.int .i64 0), .agg 33 [.vec 1 (List.replicate 32 (.val (.int .u8 0))), .val (.int .i64 0)], .val (.int .i64 0), .val (.int .i64 0), .val (.int .i64 0)], .val (.int .i64 0), .val (.bool false), .val (.int .i64 0), .vec 1 (List.replicate 32 (.val (.int .u8 0)))]
theorem zo229 : ZeroOK Tryz.prog 229 z229 := ZeroOK.mk (.agg #[.int .i64 0, .int .i64 0, .int .i64 0, .int .u8 0, .int .u8 0, .int .u8 0, .int .u8 0, .int .u8 0, .int .u8 0, .int .u8 0, .int .u8 0, .int .u8 0, .int .u8 0, .int .u8 0, .int .u8 0, .int .u8 0, .int .u8 0, .int .u8 0, .int .u8 0, .int .u8 0, .int .u8 0, .int .u8 0, .int .u8 0, .int .u8 0, .int .u8 0, .int .u8 0, .int .u8 0, .int .u8 0, .int .u8 0, .int .u8 0, .int .u8 0, .int .u8 0, .int .u8 0, .int .u8 0, .int .u8 0, .int .i64 0, .int .i64 0, .int .i64 0, .int .i64 0, .int .i64 0, .bool false, .int .i64 0, .int .u8 0, .int .u8 0, .int .u8 0, .int .u8 0, .int .u8 0, .int .u8 0, .int .u8 0, .int .u8 0, .int .u8 0, .int .u8 0, .int .u8 0, .int .u8 0, .int .u8 0, .int .u8 0, .int .u8 0, .int .u8 0, .int .u8 0, .int .u8 0, .int .u8 0, .int .u8 0, .int .u8 0, .int .u8 0, .int .u8 0, .int .u8 0, .int .u8 0, .int .u8 0, .int .u8 0, .int .u8 0, .int .u8 0, .int .u8 0, .int .u8 0, .int .u8 0]) (by kernel_rfl) (by kernel_rfl) (by kernel_rfl) (by kernel_rfl)
theorem sz239 : tsz Tryz.prog 239 = some 1 := by kernel_rfl
theorem by239 : tby Tryz.prog 239 = some 8 := by kernel_rfl
theorem ag239 : tagg Tryz.prog 239 = some false := by kernel_rfl
theorem sl239 : tsl Tryz.prog 239 = none := by kernel_rfl
theorem ar239 : tarr Tryz.prog 239 = none := by kernel_rfl
theorem pt239 : tptr Tryz.prog 239 = none := by kernel_rfl
theorem mp239 : tmap Tryz.prog 239 = some (25, 146) := by kernel_rfl
theorem un239 : (Tryz.prog.underlying 239).isSome = true := by kernel_rfl
theorem po239 : tpos Tryz.prog 239 = true := by kernel_rfl
def z239 : AV := .val (.map none)
theorem zo239 : ZeroOK Tryz.prog 239 z239 := ZeroOK.mk (.map none) (by kernel_rfl) (by kernel_rfl) (by kernel_rfl) (by kernel_rfl)
theorem sz241 : tsz Tryz.prog 241 = some 1 := by kernel_rfl
theorem by241 : tby Tryz.prog 241 = some 8 := by kernel_rfl
theorem ag241 : tagg Tryz.prog 241 = some true := by kernel_rfl
theorem sl241 : tsl Tryz.prog 241 = none := by kernel_rfl
theorem ar241 : tarr Tryz.prog 241 = none := by kernel_rfl
theorem pt241 : tptr Tryz.prog 241 = none := by kernel_rfl
theorem un241 : (Tryz.prog.underlying 241).isSome = true := by kernel_rfl
theorem fl241_0 : tfld Tryz.prog 241 0 = some (0, 239) := by kernel_rfl
theorem fs241 : tflds Tryz.prog 241 = true := by kernel_rfl
theorem po241 : tpos Tryz.prog 241 = true := by kernel_rfl
def z241 : AV := .agg 1 [.val (.map none)]
theorem zo241 : ZeroOK Tryz.prog 241 z241 := ZeroOK.mk (.agg #[.map none]) (by kernel_rfl) (by kernel_rfl) (by kernel_rfl) (by kernel_rfl)
theorem sz243 : tsz Tryz.prog 243 = some 1 := by kernel_rfl
theorem by243 : tby Tryz.prog 243 = some 24 := by kernel_rfl
theorem ag243 : tagg Tryz.prog 243 = some false := by kernel_rfl
theorem sl243 : tsl Tryz.prog 243 = some 246 := by kernel_rfl
theorem ar243 : tarr Tryz.prog 243 = none := by kernel_rfl
theorem pt243 : tptr Tryz.prog 243 = none := by kernel_rfl
theorem un243 : (Tryz.prog.underlying 243).isSome = true := by kernel_rfl
theorem po243 : tpos Tryz.prog 243 = true := by kernel_rfl
def z243 : AV := .sl 36 [] 1
theorem zo243 : ZeroOK Tryz.prog 243 z243 := ZeroOK.mk (.slice none 0 0) (by kernel_rfl) (by kernel_rfl) (by kernel_rfl) (by kernel_rfl)
theorem sz246 : tsz Tryz.prog 246 = some 36 := by kernel_rfl
theorem by246 : tby Tryz.prog 246 = some 80 := by kernel_rfl
theorem ag246 : tagg Tryz.prog 246 = some true := by kernel_rfl
theorem sl246 : tsl Tryz.prog 246 = none := by kernel_rfl
theorem ar246 : tarr Tryz.prog 246 = none := by kernel_rfl
theorem pt246 : tptr Tryz.prog 246 = none := by kernel_rfl
theorem un246 : (Tryz.prog.underlying 246).isSome = true := by kernel_rfl
theorem fl246_0 : tfld Tryz.prog 246 0 = some (0, 25) := by kernel_rfl
theorem fl246_1 : tfld Tryz.prog 246 1 = some (33, 146) := by kernel_rfl
theorem fs246 : tflds Tryz.prog 246 = true := by kernel_rfl
theorem po246 : tpos Tryz.prog 246 = true := by kernel_rfl
def z246 : AV := .agg 36 [.agg 33 [.vec 1 (List.replicate 32 (.val (.int .u8 0))), .val (.int .i64 0)], .agg 3 [.agg 2 [.val (.int .i64 0), .sl 35 [] 1], .val (.int .i64 0)]]
theorem zo246 : ZeroOK Tryz.prog 246 z246 := ZeroOK.mk (.agg #[.int .u8 0, .int .u8 0, .int .u8 0, .int .u8 0, .int .u8 0, .int .u8 0, .int .u8 0, .int .u8 0, .int .u8 0, .int .u8 0, .int .u8 0, .int .u8 0, .int .u8 0, .int .u8 0, .int .u8 0, .int .u8 0, .int .u8 0, .int .u8 0, .int .u8 0, .int .u8 0, .int .u8 0, .int .u8 0, .int .u8 0, .int .u8 0, .int .u8 0, .int .u8 0, .int .u8 0, .int .u8 0, .int .u8 0, .int .u8 0, .int .u8 0, .int .u8 0, .int .i64 0, .int .i64 0, .slice none 0 0, .int .i64 0]) (by kernel_rfl) (by kernel_rfl) (by kernel_rfl) (by kernel_rfl)
theorem sz249 : tsz Tryz.prog 249 = some 2 := by kernel_rfl
theorem by249 : tby Tryz.prog 249 = some 32 := by kernel_rfl
theorem ag249 : tagg Tryz.prog 249 = some true := by kernel_rfl
theorem sl249 : tsl Tryz.prog 249 = none := by kernel_rfl
theorem ar249 : tarr Tryz.prog 249 = none := by kernel_rfl
theorem pt249 : tptr Tryz.prog 249 = none := by kernel_rfl
theorem un249 : (Tryz.prog.underlying 249).isSome = true := by kernel_rfl
theorem fl249_0 : tfld Tryz.prog 249 0 = some (0, 36) := by kernel_rfl
theorem fl249_1 : tfld Tryz.prog 249 1 = some (1, 57) := by kernel_rfl
theorem fs249 : tflds Tryz.prog 249 = true := by kernel_rfl
theorem po249 : tpos Tryz.prog 249 = true := by kernel_rfl
def z249 : AV := .agg 2 [.sl 1 [] 1, .val (.int .i64 0)]
theorem zo249 : ZeroOK Tryz.prog 249 z249 := ZeroOK.mk (.agg #[.slice none 0 0, .int .i64 0]) (by kernel_rfl) (by kernel_rfl) (by kernel_rfl) (by kernel_rfl)
theorem sz261 : tsz Tryz.prog 261 = some 1 := by kernel_rfl
theorem by261 : tby Tryz.prog 261 = some 24 := by kernel_rfl
theorem ag261 : tagg Tryz.prog 261 = some false := by kernel_rfl
theorem sl261 : tsl Tryz.prog 261 = some 36 := by kernel_rfl
theorem ar261 : tarr Tryz.prog 261 = none := by kernel_rfl
theorem pt261 : tptr Tryz.prog 261 = none := by kernel_rfl
theorem un261 : (Tryz.prog.underlying 261).isSome = true := by kernel_rfl
theorem po261 : tpos Tryz.prog 261 = true := by kernel_rfl
def z261 : AV := .sl 1 [] 1
theorem zo261 : ZeroOK Tryz.prog 261 z261 := ZeroOK.mk (.slice none 0 0) (by kernel_rfl) (by kernel_rfl) (by kernel_rfl) (by kernel_rfl)
theorem sz268 : tsz Tryz.prog 268 = some 1 := by kernel_rfl
theorem by268 : tby Tryz.prog 268 = some 8 := by kernel_rfl
theorem ag268 : tagg Tryz.prog 268 = some false := by kernel_rfl
theorem sl268 : tsl Tryz.prog 268 = none := by kernel_rfl
theorem ar268 : tarr Tryz.prog 268 = none := by kernel_rfl
theorem pt268 : tptr Tryz.prog 268 = none := by kernel_rfl
theorem un268 : (Tryz.prog.underlying 268).isSome = true := by kernel_rfl
theorem po268 : tpos Tryz.prog 268 = true := by kernel_rfl
def z268 : AV := .val .nilFunc
theorem zo268 : ZeroOK Tryz.prog 268 z268 := ZeroOK.mk (.nilFunc) (by kernel_rfl) (by kernel_rfl) (by kernel_rfl) (by kernel_rfl)
theorem sz275 : tsz Tryz.prog 275 = some 101 := by kernel_rfl
theorem by275 : tby Tryz.prog 275 = some 168 := by kernel_rfl
theorem ag275 : tagg Tryz.prog 275 = some true := by kernel_rfl
theorem sl275 : tsl Tryz.prog 275 = none := by kernel_rfl
theorem ar275 : tarr Tryz.prog 275 = none := by kernel_rfl
theorem pt275 : tptr Tryz.prog 275 = none := by kernel_rfl
theorem un275 : (Tryz.prog.underlying 275).isSome = true := by kernel_rfl
theorem fl275_0 : tfld Tryz.prog 275 0 = some (0, 173) := by kernel_rfl
theorem fl275_1 : tfld Tryz.prog 275 1 = some (67, 36) := by kernel_rfl
theorem fl275_2 : tfld Tryz.prog 275 2 = some (68, 36) := by kernel_rfl
theorem fl275_3 : tfld Tryz.prog 275 3 = some (69, 23) := by kernel_rfl
theorem fs275 : tflds Tryz.prog 275 = true := by kernel_rfl
theorem po275 : tpos Tryz.prog 275 = true := by kernel_rfl
def z275 : AV := .agg 101 [.agg 67 [.val (.int .i64 0), .val (.int .i64 0), .val (.int .i64 0), .vec 1 (List.replicate 32 (.val (.int .u8 0))), .vec 1 (List.replicate 32 (.val (.int .u8 0)))], .sl 1 [] 1, .sl 1 [] 1, .vec 1 (List.replicate 32 (.val (.int .u8 0)))]
theorem zo275 : ZeroOK Tryz.prog 275 z275 := ZeroOK.mk (.agg #[.int .i64 0, .int .i64 0, .int .i64 0, .int .u8 0, .int .u8 0, .int .u8 0, .int .u8 0, .int .u8 0, .int .u8 0, .int .u8 0, .int .u8 0, .int .u8 0, .int .u8 0, .int .u8 0, .int .u8 0, .int .u8 0, .int .u8 0, .int .u8 0, .int .u8 0, .int .u8 0, .int .u8 0, .int .u8 0, .int .u8 0, .int .u8 0, .int .u8 0, .int .u8 0, .int .u8 0, .int .u8 0, .int .u8 0, .int .u8 0, .int .u8 0, .int .u8 0, .int .u8 0, .int .u8 0, .int .u8 0, .int .u8 0, .int .u8 0, .int .u8 0, .int .u8 0, .int .u8 0, .int .u8 0, .int .u8 0, .int .u8 0, .int .u8 0, .int .u8 0, .int .u8 0, .int .u8 0, .int .u8 0, .int .u8 0, .int .u8 0, .int .u8 0, .int .u8 0, .int .u8 0, .int .u8 0, .int .u8 0, .int .u8 0, .int .u8 0, .int .u8 0, .int .u8 0, .int .u8 0, .int .u8 0, .int .u8 0, .int .u8 0, .int .u8 0, .int .u8 0, .int .u8 0, .int .u8 0, .slice none 0 0, .slice none 0 0, .int .u8 0, .int .u8 0, .int .u8 0, .int .u8 0, .int .u8 0, .int .u8 0, .int .u8 0, .int .u8 0, .int .u8 0, .int .u8 0, .int .u8 0, .int .u8 0, .int .u8 0, .int .u8 0, .int .u8 0, .int .u8 0, .int .u8 0, .int .u8 0, .int .u8 0, .int .u8 0, .int .u8 0, .int .u8 0, .int .u8 0, .int .u8 0, .int .u8 0, .int .u8 0, .int .u8 0, .int .u8 0, .int .u8 0, .int .u8 0, .int .u8 0, .int .u8 0]) (by kernel_rfl) (by kernel_rfl) (by kernel_rfl) (by kernel_rfl)
theorem sz284 : tsz Tryz.prog 284 = some 1 := by kernel_rfl
theorem by284 : tby Tryz.prog 284 = some 8 := by kernel_rfl
theorem ag284 : tagg Tryz.prog 284 = some false := by kernel_rfl
theorem sl284 : tsl Tryz.prog 284 = none := by kernel_rfl
theorem ar284 : tarr Tryz.prog 284 = none := by kernel_rfl
theorem pt284 : tptr Tryz.prog 284 = none := by kernel_rfl
theorem un284 : (Tryz.prog.underlying 284).isSome = true := by kernel_rfl
theorem po284 : tpos Tryz.prog 284 = true := by kernel_rfl
def z284 : AV := .val .nilFunc
theorem zo284 : ZeroOK Tryz.prog 284 z284 := ZeroOK.mk (.nilFunc) (by kernel_rfl) (by kernel_rfl) (by kernel_rfl) (by kernel_rfl)
theorem sz290 : tsz Tryz.prog 290 = some 69 := by kernel_rfl
theorem by290 : tby Tryz.prog 290 = some 136 := by kernel_rfl
theorem ag290 : tagg Tryz.prog 290 = some true := by kernel_rfl
theorem sl290 : tsl Tryz.prog 290 = none := by kernel_rfl
theorem ar290 : tarr Tryz.prog 290 = none := by kernel_rfl
theorem pt290 : tptr Tryz.prog 290 = none := by kernel_rfl
theorem un290 : (Tryz.prog.underlying 290).isSome = true := by kernel_rfl
theorem fl290_0 : tfld Tryz.prog 290 0 = some (0, 175) := by kernel_rfl
theorem fl290_1 : tfld Tryz.prog 290 1 = some (68, 36) := by kernel_rfl
theorem fs290 : tflds Tryz.prog 290 = true := by kernel_rfl
theorem po290 : tpos Tryz.prog 290 = true := by kernel_rfl
def z290 : AV := .agg 69 [.agg 68 [.agg 67 [.val (.int .i64 0), .val (.int .i64 0), .val (.int .i64 0), .vec 1 (List.replicate 32 (.val (.int .u8 0))), .vec 1 (List.replicate 32 (.val (.int .u8 0)))], .sl 1 [] 1], .sl 1 [] 1]
theorem zo290 : ZeroOK Tryz.prog 290 z290 := ZeroOK.mk (.agg #[.int .i64 0, .int .i64 0, .int .i64 0, .int .u8 0, .int .u8 0, .int .u8 0, .int .u8 0, .int .u8 0, .int .u8 0, .int .u8 0, .int .u8 0, .int .u8 0, .int .u8 0, .int .u8 0, .int .u8 0, .int .u8 0, .int .u8 0, .int .u8 0, .int .u8 0, .int .u8 0, .int .u8 0, .int .u8 0, .int .u8 0, .int .u8 0, .int .u8 0, .int .u8 0, .int .u8 0, .int .u8 0, .int .u8 0, .int .u8 0, .int .u8 0, .int .u8 0, .int .u8 0, .int .u8 0, .int .u8 0, .int .u8 0, .int .u8 0, .int .u8 0, .int .u8 0, .int .u8 0, .int .u8 0, .int .u8 0, .int .u8 0, .int .u8 0, .int .u8 0, .int .u8 0, .int .u8 0, .int .u8 0, .int .u8 0, .int .u8 0, .int .u8 0, .int .u8 0, .int .u8 0, .int .u8 0, .int .u8 0, .int .u8 0, .int .u8 0, .int .u8 0, .int .u8 0, .int .u8 0, .int .u8 0, .int .u8 0, .int .u8 0, .int .u8 0, .int .u8 0, .int .u8 0, .int .u8 0, .slice none 0 0, .slice none 0 0]) (by kernel_rfl) (by kernel_rfl) (by kernel_rfl) (by kernel_rfl)
theorem sz291 : tsz Tryz.prog 291 = some 1 := by kernel_rfl
theorem by291 : tby Tryz.prog 291 = some 8 := by kernel_rfl
theorem ag291 : tagg Tryz.prog 291 = some false := by kernel_rfl
theorem sl291 : tsl Tryz.prog 291 = none := by kernel_rfl
theorem ar291 : tarr Tryz.prog 291 = none := by kernel_rfl
theorem pt291 : tptr Tryz.prog 291 = none := by kernel_rfl
theorem un291 : (Tryz.prog.underlying 291).isSome = true := by kernel_rfl
theorem po291 : tpos Tryz.prog 291 = true := by kernel_rfl
def z291 : AV := .val .nilFunc
theorem zo291 : ZeroOK Tryz.prog 291 z291 := ZeroOK.mk (.nilFunc) (by kernel_rfl) (by kernel_rfl) (by kernel_rfl) (by kernel_rfl)
theorem sz294 : tsz Tryz.prog 294 = some 1 := by kernel_rfl
theorem by294 : tby Tryz.prog 294 = some 4 := by kernel_rfl
theorem ag294 : tagg Tryz.prog 294 = some false := by kernel_rfl
theorem sl294 : tsl Tryz.prog 294 = none := by kernel_rfl
theorem ar294 : tarr Tryz.prog 294 = none := by kernel_rfl
theorem pt294 : tptr Tryz.prog 294 = none := by kernel_rfl
theorem in294 : tint Tryz.prog 294 = some .u32 := by kernel_rfl
theorem un294 : (Tryz.prog.underlying 294).isSome = true := by kernel_rfl
theorem po294 : tpos Tryz.prog 294 = true := by kernel_rfl
def z294 : AV := .val (.int .u32 0)
theorem zo294 : ZeroOK Tryz.prog 294 z294 := ZeroOK.mk (.int .u32 0) (by kernel_rfl) (by kernel_rfl) (by kernel_rfl) (by kernel_rfl)
theorem sz296 : tsz Tryz.prog 296 = some 8 := by kernel_rfl
theorem by296 : tby Tryz.prog 296 = some 32 := by kernel_rfl
theorem ag296 : tagg Tryz.prog 296 = some true := by kernel_rfl
theorem sl296 : tsl Tryz.prog 296 = none := by kernel_rfl
theorem ar296 : tarr Tryz.prog 296 = some (8, 294) := by kernel_rfl
theorem pt296 : tptr Tryz.prog 296 = none := by kernel_rfl
theorem un296 : (Tryz.prog.underlying 296).isSome = true := by kernel_rfl
theorem po296 : tpos Tryz.prog 296 = true := by kernel_rfl
theorem tq296 : teq Tryz.prog 296 = true := by kernel_rfl
def z296 : AV := .vec 1 (List.replicate 8 (.val (.int .u32 0)))
theorem zo296 : ZeroOK Tryz.prog 296 z296 := ZeroOK.mk (.agg #[.int .u32 0, .int .u32 0, .int .u32 0, .int .u32 0, .int .u32 0, .int .u32 0, .int .u32 0, .int .u32 0]) (by kernel_rfl) (by kernel_rfl) (by kernel_rfl) (by kernel_rfl)
theorem sz298 : tsz Tryz.prog 298 = some 64 := by kernel_rfl
theorem by298 : tby Tryz.prog 298 = some 256 := by kernel_rfl
theorem ag298 : tagg Tryz.prog 298 = some true := by kernel_rfl
theorem sl298 : tsl Tryz.prog 298 = none := by kernel_rfl
theorem ar298 : tarr Tryz.prog 298 = some (64, 294) := by kernel_rfl
theorem pt298 : tptr Tryz.prog 298 = none := by kernel_rfl
theorem un298 : (Tryz.prog.underlying 298).isSome = true := by kernel_rfl
theorem po298 : tpos Tryz.prog 298 = true := by kernel_rfl
theorem tq298 : teq Tryz.prog 298 = true := by kernel_rfl
def z298 : AV := .vec 1 (List.replicate 64 (.val (.int .u32 0)))
theorem zo298 : ZeroOK Tryz.prog 298 z298 := ZeroOK.mk (.agg #[.int .u32 0, .int .u32 0, .int .u32 0, .int .u32 0, .int .u32 0, .int .u32 0, .int .u32 0, .int .u32 0, .int .u32 0, .int .u32 0, .int .u32 0, .int .u32 0, .int .u32 0, .int .u32 0, .int .u32 0, .int .u32 0, .int .u32 0, .int .u32 0, .int .u32 0, .int .u32 0, .int .u32 0, .int .u32 0, .int .u32 0, .int .u32 0, .int .u32 0, .int .u32 0, .int .u32 0, .int .u32 0, .int .u32 0, .int .u32 0, .int .u32 0, .int .u32 0, .int .u32 0, .int .u32 0, .int .u32 0, .int .u32 0, .int .u32 0, .int .u32 0, .int .u32 0, .int .u32 0, .int .u32 0, .int .u32 0, .int .u32 0, .int .u32 0, .int .u32 0, .int .u32 0, .int .u32 0, .int .u32 0, .int .u32 0, .int .u32 0, .int .u32 0, .int .u32 0, .int .u32 0, .int .u32 0, .int .u32 0, .int .u32 0, .int .u32 0, .int .u32 0, .int .u32 0, .int .u32 0, .int .u32 0, .int .u32 0, .int .u32 0, .int .u32 0]) (by kernel_rfl) (by kernel_rfl) (by kernel_rfl) (by kernel_rfl)
theorem sz301 : tsz Tryz.prog 301 = some 1 := by kernel_rfl
theorem by301 : tby Tryz.prog 301 = some 8 := by kernel_rfl
theorem ag301 : tagg Tryz.prog 301 = some false := by kernel_rfl
theorem sl301 : tsl Tryz.prog 301 = none := by kernel_rfl
theorem ar301 : tarr Tryz.prog 301 = none := by kernel_rfl
theorem pt301 : tptr Tryz.prog 301 = some 298 := by kernel_rfl
theorem un301 : (Tryz.prog.underlying 301).isSome = true := by kernel_rfl
theorem po301 : tpos Tryz.prog 301 = true := by kernel_rfl
def z301 : AV := .val (.pointer none)
theorem zo301 : ZeroOK Tryz.prog 301 z301 := ZeroOK.mk (.pointer none) (by kernel_rfl) (by kernel_rfl) (by kernel_rfl) (by kernel_rfl)
theorem sz312 : tsz Tryz.prog 312 = some 1 := by kernel_rfl
theorem by312 : tby Tryz.prog 312 = some 8 := by kernel_rfl
theorem ag312 : tagg Tryz.prog 312 = some false := by kernel_rfl
theorem sl312 : tsl Tryz.prog 312 = none := by kernel_rfl
theorem ar312 : tarr Tryz.prog 312 = none := by kernel_rfl
theorem pt312 : tptr Tryz.prog 312 = none := by kernel_rfl
theorem un312 : (Tryz.prog.underlying 312).isSome = true := by kernel_rfl
theorem po312 : tpos Tryz.prog 312 = true := by kernel_rfl
def z312 : AV := .val .nilFunc
theorem zo312 : ZeroOK Tryz.prog 312 z312 := ZeroOK.mk (.nilFunc) (by kernel_rfl) (by kernel_rfl) (by kernel_rfl) (by kernel_rfl)
theorem sz318 : tsz Tryz.prog 318 = some 1 := by kernel_rfl
theorem by318 : tby Tryz.prog 318 = some 8 := by kernel_rfl
theorem ag318 : tagg Tryz.prog 318 = some false := by kernel_rfl
theorem sl318 : tsl Tryz.prog 318 = none := by kernel_rfl
theorem ar318 : tarr Tryz.prog 318 = none := by kernel_rfl
theorem pt318 : tptr Tryz.prog 318 = some 180 := by kernel_rfl
theorem un318 : (Tryz.prog.underlying 318).isSome = true := by kernel_rfl
theorem po318 : tpos Tryz.prog 318 = true := by kernel_rfl
def z318 : AV := .val (.pointer none)
theorem zo318 : ZeroOK Tryz.prog 318 z318 := ZeroOK.mk (.pointer none) (by kernel_rfl) (by kernel_rfl) (by kernel_rfl) (by kernel_rfl)
theorem sz320 : tsz Tryz.prog 320 = some 1 := by kernel_rfl
theorem by320 : tby Tryz.prog 320 = some 8 := by kernel_rfl
theorem ag320 : tagg Tryz.prog 320 = some false := by kernel_rfl
theorem sl320 : tsl Tryz.prog 320 = none := by kernel_rfl
theorem ar320 : tarr Tryz.prog 320 = none := by kernel_rfl
theorem pt320 : tptr Tryz.prog 320 = some 296 := by kernel_rfl
theorem un320 : (Tryz.prog.underlying 320).isSome = true := by kernel_rfl
theorem po320 : tpos Tryz.prog 320 = true := by kernel_rfl
def z320 : AV := .val (.pointer none)
theorem zo320 : ZeroOK Tryz.prog 320 z320 := ZeroOK.mk (.pointer none) (by kernel_rfl) (by kernel_rfl) (by kernel_rfl) (by kernel_rfl)
theorem sz323 : tsz Tryz.prog 323 = some 1 := by kernel_rfl
theorem by323 : tby Tryz.prog 323 = some 24 := by kernel_rfl
theorem ag323 : tagg Tryz.prog 323 = some false := by kernel_rfl
theorem sl323 : tsl Tryz.prog 323 = some 294 := by kernel_rfl
theorem ar323 : tarr Tryz.prog 323 = none := by kernel_rfl
theorem pt323 : tptr Tryz.prog 323 = none := by kernel_rfl
theorem un323 : (Tryz.prog.underlying 323).isSome = true := by kernel_rfl
theorem po323 : tpos Tryz.prog 323 = true := by kernel_rfl
def z323 : AV := .sl 1 [] 1
theorem zo323 : ZeroOK Tryz.prog 323 z323 := ZeroOK.mk (.slice none 0 0) (by kernel_rfl) (by kernel_rfl) (by kernel_rfl) (by kernel_rfl)
theorem sz330 : tsz Tryz.prog 330 = some 1 := by kernel_rfl
theorem by330 : tby Tryz.prog 330 = some 8 := by kernel_rfl
theorem ag330 : tagg Tryz.prog 330 = some false := by kernel_rfl
theorem sl330 : tsl Tryz.prog 330 = none := by kernel_rfl
theorem ar330 : tarr Tryz.prog 330 = none := by kernel_rfl
theorem pt330 : tptr Tryz.prog 330 = none := by kernel_rfl
theorem in330 : tint Tryz.prog 330 = some .i64 := by kernel_rfl
theorem un330 : (Tryz.prog.underlying 330).isSome = true := by kernel_rfl
theorem po330 : tpos Tryz.prog 330 = true := by kernel_rfl
def z330 : AV := .val (.int .i64 0)
theorem zo330 : ZeroOK Tryz.prog 330 z330 := ZeroOK.mk (.int .i64 0) (by kernel_rfl) (by kernel_rfl) (by kernel_rfl) (by kernel_rfl)
def zl : List (Nat × AV) := [(2, z2), (3, z3), (4, z4), (5, z5), (9, z9), (20, z20), (22, z22), (23, z23), (25, z25), (26, z26), (27, z27), (28, z28), (29, z29), (30, z30), (31, z31), (33, z33), (34, z34), (35, z35), (36, z36), (38, z38), (39, z39), (41, z41), (44, z44), (46, z46), (50, z50), (54, z54), (57, z57), (66, z66), (68, z68), (69, z69), (85, z85), (96, z96), (97, z97), (101, z101), (107, z107), (110, z110), (127, z127), (129, z129), (132, z132), (139, z139), (140, z140), (142, z142), (146, z146), (156, z156), (157, z157), (158, z158), (169, z169), (171, z171), (173, z173), (175, z175), (177, z177), (180, z180), (181, z181), (182, z182), (184, z184), (186, z186), (187, z187), (210, z210), (213, z213), (219, z219), (220, z220), (223, z223), (224, z224), (226, z226), (229, z229), (239, z239), (241, z241), (243, z243), (246, z246), (249, z249), (261, z261), (268, z268), (275, z275), (284, z284), (290, z290), (291, z291), (294, z294), (296, z296), (298, z298), (301, z301), (312, z312), (318, z318), (320, z320), (323, z323), (330, z330)]
theorem zl_ok : zAll Tryz.prog zl := ⟨zo2, zo3, zo4, zo5, zo9, zo20, zo22, zo23, zo25, zo26, zo27, zo28, zo29, zo30, zo31, zo33, zo34, zo35, zo36, zo38, zo39, zo41, zo44, zo46, zo50, zo54, zo57, zo66, zo68, zo69, zo85, zo96, zo97, zo101, zo107, zo110, zo127, zo129, zo132, zo139, zo140, zo142, zo146, zo156, zo157, zo158, zo169, zo171, zo173, zo175, zo177, zo180, zo181, zo182, zo184, zo186, zo187, zo210, zo213, zo219, zo220, zo223, zo224, zo226, zo229, zo239, zo241, zo243, zo246, zo249, zo261, zo268, zo275, zo284, zo290, zo291, zo294, zo296, zo298, zo301, zo312, zo318, zo320, zo323, zo330, trivial⟩
noncomputable def cx : Cx := ⟨Tryz.prog, zLook zl, zLook_ok zl_ok⟩
theorem cxP : cx.P = Tryz.prog := rfl
theorem zt2 : cx.zt 2 = some z2 := by kernel_rfl
theorem zt3 : cx.zt 3 = some z3 := by kernel_rfl
theorem zt4 : cx.zt 4 = some z4 := by kernel_rfl
theorem zt5 : cx.zt 5 = some z5 := by kernel_rfl
theorem zt9 : cx.zt 9 = some z9 := by kernel_rfl
theorem zt20 : cx.zt 20 = some z20 := by kernel_rfl
theorem zt22 : cx.zt 22 = some z22 := by kernel_rfl
theorem zt23 : cx.zt 23 = some z23 := by kernel_rfl
theorem zt25 : cx.zt 25 = some z25 := by kernel_rfl
theorem zt26 : cx.zt 26 = some z26 := by kernel_rfl
theorem zt27 : cx.zt 27 = some z27 := by kernel_rfl
theorem zt28 : cx.zt 28 = some z28 := by kernel_rfl
theorem zt29 : cx.zt 29 = some z29 := by kernel_rfl
theorem zt30 : cx.zt 30 = some z30 := by kernel_rfl
theorem zt31 : cx.zt 31 = some z31 := by kernel_rfl
theorem zt33 : cx.zt 33 = some z33 := by kernel_rfl
theorem zt34 : cx.zt 34 = some z34 := by kernel_rfl
theorem zt35 : cx.zt 35 = some z35 := by kernel_rfl
theorem zt36 : cx.zt 36 = some z36 := by kernel_rfl
theorem zt38 : cx.zt 38 = some z38 := by kernel_rfl
theorem zt39 : cx.zt 39 = some z39 := by kernel_rfl
theorem zt41 : cx.zt 41 = some z41 := by kernel_rfl
theorem zt44 : cx.zt 44 = some z44 := by kernel_rfl
theorem zt46 : cx.zt 46 = some z46 := by kernel_rfl
theorem zt50 : cx.zt 50 = some z50 := by kernel_rfl
theorem zt54 : cx.zt 54 = some z54 := by kernel_rfl
theorem zt57 : cx.zt 57 = some z57 := by kernel_rfl
theorem zt66 : cx.zt 66 = some z66 := by kernel_rfl
theorem zt68 : cx.zt 68 = some z68 := by kernel_rfl
theorem zt69 : cx.zt 69 = some z69 := by kernel_rfl
theorem zt85 : cx.zt 85 = some z85 := by kernel_rfl
theorem zt96 : cx.zt 96 = some z96 := by kernel_rfl
theorem zt97 : cx.zt 97 = some z97 := by kernel_rfl
theorem zt101 : cx.zt 101 = some z101 := by kernel_rfl
theorem zt107 : cx.zt 107 = some z107 := by kernel_rfl
theorem zt110 : cx.zt 110 = some z110 := by kernel_rfl
theorem zt127 : cx.zt 127 = some z127 := by kernel_rfl
theorem zt129 : cx.zt 129 = some z129 := by kernel_rfl
theorem zt132 : cx.zt 132 = some z132 := by kernel_rfl
theorem zt139 : cx.zt 139 = some z139 := by kernel_rfl
theorem zt140 : cx.zt 140 = some z140 := by kernel_rfl
theorem zt142 : cx.zt 142 = some z142 := by kernel_rfl
theorem zt146 : cx.zt 146 = some z146 := by kernel_rfl
theorem zt156 : cx.zt 156 = some z156 := by kernel_rfl
theorem zt157 : cx.zt 157 = some z157 := by kernel_rfl
theorem zt158 : cx.zt 158 = some z158 := by kernel_rfl
theorem zt169 : cx.zt 169 = some z169 := by kernel_rfl
theorem zt171 : cx.zt 171 = some z171 := by kernel_rfl
theorem zt173 : cx.zt 173 = some z173 := by kernel_rfl
theorem zt175 : cx.zt 175 = some z175 := by kernel_rfl
theorem zt177 : cx.zt 177 = some z177 := by kernel_rfl
theorem zt180 : cx.zt 180 = some z180 := by kernel_rfl
theorem zt181 : cx.zt 181 = some z181 := by kernel_rfl
theorem zt182 : cx.zt 182 = some z182 := by kernel_rfl
theorem zt184 : cx.zt 184 = some z184 := by kernel_rfl
theorem zt186 : cx.zt 186 = some z186 := by kernel_rfl
theorem zt187 : cx.zt 187 = some z187 := by kernel_rfl
theorem zt210 : cx.zt 210 = some z210 := by kernel_rfl
theorem zt213 : cx.zt 213 = some z213 := by kernel_rfl
theorem zt219 : cx.zt 219 = some z219 := by kernel_rfl
theorem zt220 : cx.zt 220 = some z220 := by kernel_rfl
theorem zt223 : cx.zt 223 = some z223 := by kernel_rfl
theorem zt224 : cx.zt 224 = some z224 := by kernel_rfl
theorem zt226 : cx.zt 226 = some z226 := by kernel_rfl
theorem zt229 : cx.zt 229 = some z229 := by kernel_rfl
theorem zt239 : cx.zt 239 = some z239 := by kernel_rfl
theorem zt241 : cx.zt 241 = some z241 := by kernel_rfl
theorem zt243 : cx.zt 243 = some z243 := by kernel_rfl
theorem zt246 : cx.zt 246 = some z246 := by kernel_rfl
theorem zt249 : cx.zt 249 = some z249 := by kernel_rfl
theorem zt261 : cx.zt 261 = some z261 := by kernel_rfl
theorem zt268 : cx.zt 268 = some z268 := by kernel_rfl
theorem zt275 : cx.zt 275 = some z275 := by kernel_rfl
theorem zt284 : cx.zt 284 = some z284 := by kernel_rfl
theorem zt290 : cx.zt 290 = some z290 := by kernel_rfl
theorem zt291 : cx.zt 291 = some z291 := by kernel_rfl
theorem zt294 : cx.zt 294 = some z294 := by kernel_rfl
theorem zt296 : cx.zt 296 = some z296 := by kernel_rfl
theorem zt298 : cx.zt 298 = some z298 := by kernel_rfl
theorem zt301 : cx.zt 301 = some z301 := by kernel_rfl
theorem zt312 : cx.zt 312 = some z312 := by kernel_rfl
theorem zt318 : cx.zt 318 = some z318 := by kernel_rfl
theorem zt320 : cx.zt 320 = some z320 := by kernel_rfl
theorem zt323 : cx.zt 323 = some z323 := by kernel_rfl
theorem zt330 : cx.zt 330 = some z330 := by kernel_rfl
theorem t2 : type_of% (sz2) ∧ type_of% (by2) ∧ type_of% (ag2) ∧ type_of% (sl2) ∧ type_of% (ar2) ∧ type_of% (pt2) ∧ type_of% (in2) ∧ type_of% (un2) ∧ type_of% (po2) ∧ type_of% (zt2) ∧ type_of% (@z2.eq_1) :=
  ⟨sz2, by2, ag2, sl2, ar2, pt2, in2, un2, po2, zt2, @z2.eq_1⟩
theorem t3 : type_of% (sz3) ∧ type_of% (by3) ∧ type_of% (ag3) ∧ type_of% (sl3) ∧ type_of% (ar3) ∧ type_of% (pt3) ∧ type_of% (in3) ∧ type_of% (un3) ∧ type_of% (po3) ∧ type_of% (zt3) ∧ type_of% (@z3.eq_1) :=
  ⟨sz3, by3, ag3, sl3, ar3, pt3, in3, un3, po3, zt3, @z3.eq_1⟩
theorem t4 : type_of% (sz4) ∧ type_of% (by4) ∧ type_of% (ag4) ∧ type_of% (sl4) ∧ type_of% (ar4) ∧ type_of% (pt4) ∧ type_of% (un4) ∧ type_of% (tb4) ∧ type_of% (po4) ∧ type_of% (zt4) ∧ type_of% (@z4.eq_1) :=
  ⟨sz4, by4, ag4, sl4, ar4, pt4, un4, tb4, po4, zt4, @z4.eq_1⟩
theorem t5 : type_of% (sz5) ∧ type_of% (by5) ∧ type_of% (ag5) ∧ type_of% (sl5) ∧ type_of% (ar5) ∧ type_of% (pt5) ∧ type_of% (in5) ∧ type_of% (un5) ∧ type_of% (po5) ∧ type_of% (zt5) ∧ type_of% (@z5.eq_1) :=
  ⟨sz5, by5, ag5, sl5, ar5, pt5, in5, un5, po5, zt5, @z5.eq_1⟩
theorem t9 : type_of% (sz9) ∧ type_of% (by9) ∧ type_of% (ag9) ∧ type_of% (sl9) ∧ type_of% (ar9) ∧ type_of% (pt9) ∧ type_of% (st9) ∧ type_of% (un9) ∧ type_of% (po9) ∧ type_of% (zt9) ∧ type_of% (@z9.eq_1) :=
  ⟨sz9, by9, ag9, sl9, ar9, pt9, st9, un9, po9, zt9, @z9.eq_1⟩
theorem t20 : type_of% (sz20) ∧ type_of% (by20) ∧ type_of% (ag20) ∧ type_of% (sl20) ∧ type_of% (ar20) ∧ type_of% (pt20) ∧ type_of% (un20) ∧ type_of% (po20) ∧ type_of% (zt20) ∧ type_of% (@z20.eq_1) :=
  ⟨sz20, by20, ag20, sl20, ar20, pt20, un20, po20, zt20, @z20.eq_1⟩
theorem t22 : type_of% (sz22) ∧ type_of% (by22) ∧ type_of% (ag22) ∧ type_of% (sl22) ∧ type_of% (ar22) ∧ type_of% (pt22) ∧ type_of% (un22) ∧ type_of% (po22) ∧ type_of% (tq22) ∧ type_of% (zt22) ∧ type_of% (@z22.eq_1) :=
  ⟨sz22, by22, ag22, sl22, ar22, pt22, un22, po22, tq22, zt22, @z22.eq_1⟩
theorem t23 : type_of% (sz23) ∧ type_of% (by23) ∧ type_of% (ag23) ∧ type_of% (sl23) ∧ type_of% (ar23) ∧ type_of% (pt23) ∧ type_of% (un23) ∧ type_of% (po23) ∧ type_of% (tw23) ∧ type_of% (tq23) ∧ type_of% (zt23) ∧ type_of% (@z23.eq_1) :=
  ⟨sz23, by23, ag23, sl23, ar23, pt23, un23, po23, tw23, tq23, zt23, @z23.eq_1⟩
theorem t25 : type_of% (sz25) ∧ type_of% (by25) ∧ type_of% (ag25) ∧ type_of% (sl25) ∧ type_of% (ar25) ∧ type_of% (pt25) ∧ type_of% (un25) ∧ type_of% (fl25_0) ∧ type_of% (fl25_1) ∧ type_of% (fs25) ∧ type_of% (po25) ∧ type_of% (tw25) ∧ type_of% (tq25) ∧ type_of% (tc25) ∧ type_of% (zt25) ∧ type_of% (@z25.eq_1) :=
  ⟨sz25, by25, ag25, sl25, ar25, pt25, un25, fl25_0, fl25_1, fs25, po25, tw25, tq25, tc25, zt25, @z25.eq_1⟩
theorem t26 : type_of% (sz26) ∧ type_of% (by26) ∧ type_of% (ag26) ∧ type_of% (sl26) ∧ type_of% (ar26) ∧ type_of% (pt26) ∧ type_of% (un26) ∧ type_of% (po26) ∧ type_of% (zt26) ∧ type_of% (@z26.eq_1) :=
  ⟨sz26, by26, ag26, sl26, ar26, pt26, un26, po26, zt26, @z26.eq_1⟩
theorem t27 : type_of% (sz27) ∧ type_of% (by27) ∧ type_of% (ag27) ∧ type_of% (sl27) ∧ type_of% (ar27) ∧ type_of% (pt27) ∧ type_of% (un27) ∧ type_of% (po27) ∧ type_of% (zt27) ∧ type_of% (@z27.eq_1) :=
  ⟨sz27, by27, ag27, sl27, ar27, pt27, un27, po27, zt27, @z27.eq_1⟩
theorem t28 : type_of% (sz28) ∧ type_of% (by28) ∧ type_of% (ag28) ∧ type_of% (sl28) ∧ type_of% (ar28) ∧ type_of% (pt28) ∧ type_of% (un28) ∧ type_of% (po28) ∧ type_of% (zt28) ∧ type_of% (@z28.eq_1) :=
  ⟨sz28, by28, ag28, sl28, ar28, pt28, un28, po28, zt28, @z28.eq_1⟩
theorem t29 : type_of% (sz29) ∧ type_of% (by29) ∧ type_of% (ag29) ∧ type_of% (sl29) ∧ type_of% (ar29) ∧ type_of% (pt29) ∧ type_of% (mp29) ∧ type_of% (un29) ∧ type_of% (po29) ∧ type_of% (zt29) ∧ type_of% (@z29.eq_1) :=
  ⟨sz29, by29, ag29, sl29, ar29, pt29, mp29, un29, po29, zt29, @z29.eq_1⟩
theorem t30 : type_of% (sz30) ∧ type_of% (by30) ∧ type_of% (ag30) ∧ type_of% (sl30) ∧ type_of% (ar30) ∧ type_of% (pt30) ∧ type_of% (mp30) ∧ type_of% (un30) ∧ type_of% (po30) ∧ type_of% (zt30) ∧ type_of% (@z30.eq_1) :=
  ⟨sz30, by30, ag30, sl30, ar30, pt30, mp30, un30, po30, zt30, @z30.eq_1⟩
theorem t31 : type_of% (sz31) ∧ type_of% (by31) ∧ type_of% (ag31) ∧ type_of% (sl31) ∧ type_of% (ar31) ∧ type_of% (pt31) ∧ type_of% (un31) ∧ type_of% (po31) ∧ type_of% (zt31) ∧ type_of% (@z31.eq_1) :=
  ⟨sz31, by31, ag31, sl31, ar31, pt31, un31, po31, zt31, @z31.eq_1⟩
theorem t33 : type_of% (sz33) ∧ type_of% (by33) ∧ type_of% (ag33) ∧ type_of% (sl33) ∧ type_of% (ar33) ∧ type_of% (pt33) ∧ type_of% (un33) ∧ type_of% (fl33_0) ∧ type_of% (fl33_1) ∧ type_of% (fl33_2) ∧ type_of% (fl33_3) ∧ type_of% (fl33_4) ∧ type_of% (fl33_5) ∧ type_of% (fs33) ∧ type_of% (po33) ∧ type_of% (zt33) ∧ type_of% (@z33.eq_1) :=
  ⟨sz33, by33, ag33, sl33, ar33, pt33, un33, fl33_0, fl33_1, fl33_2, fl33_3, fl33_4, fl33_5, fs33, po33, zt33, @z33.eq_1⟩
theorem t34 : type_of% (sz34) ∧ type_of% (by34) ∧ type_of% (ag34) ∧ type_of% (sl34) ∧ type_of% (ar34) ∧ type_of% (pt34) ∧ type_of% (un34) ∧ type_of% (po34) ∧ type_of% (zt34) ∧ type_of% (@z34.eq_1) :=
  ⟨sz34, by34, ag34, sl34, ar34, pt34, un34, po34, zt34, @z34.eq_1⟩
theorem t35 : type_of% (sz35) ∧ type_of% (by35) ∧ type_of% (ag35) ∧ type_of% (sl35) ∧ type_of% (ar35) ∧ type_of% (pt35) ∧ type_of% (un35) ∧ type_of% (po35) ∧ type_of% (zt35) ∧ type_of% (@z35.eq_1) :=
  ⟨sz35, by35, ag35, sl35, ar35, pt35, un35, po35, zt35, @z35.eq_1⟩
theorem t36 : type_of% (sz36) ∧ type_of% (by36) ∧ type_of% (ag36) ∧ type_of% (sl36) ∧ type_of% (ar36) ∧ type_of% (pt36) ∧ type_of% (un36) ∧ type_of% (po36) ∧ type_of% (zt36) ∧ type_of% (@z36.eq_1) :=
  ⟨sz36, by36, ag36, sl36, ar36, pt36, un36, po36, zt36, @z36.eq_1⟩
theorem t38 : type_of% (sz38) ∧ type_of% (by38) ∧ type_of% (ag38) ∧ type_of% (sl38) ∧ type_of% (ar38) ∧ type_of% (pt38) ∧ type_of% (un38) ∧ type_of% (fl38_0) ∧ type_of% (fl38_1) ∧ type_of% (fl38_2) ∧ type_of% (fl38_3) ∧ type_of% (fl38_4) ∧ type_of% (fl38_5) ∧ type_of% (fs38) ∧ type_of% (po38) ∧ type_of% (zt38) ∧ type_of% (@z38.eq_1) :=
  ⟨sz38, by38, ag38, sl38, ar38, pt38, un38, fl38_0, fl38_1, fl38_2, fl38_3, fl38_4, fl38_5, fs38, po38, zt38, @z38.eq_1⟩
theorem t39 : type_of% (sz39) ∧ type_of% (by39) ∧ type_of% (ag39) ∧ type_of% (sl39) ∧ type_of% (ar39) ∧ type_of% (pt39) ∧ type_of% (un39) ∧ type_of% (po39) ∧ type_of% (zt39) ∧ type_of% (@z39.eq_1) :=
  ⟨sz39, by39, ag39, sl39, ar39, pt39, un39, po39, zt39, @z39.eq_1⟩
theorem t41 : type_of% (sz41) ∧ type_of% (by41) ∧ type_of% (ag41) ∧ type_of% (sl41) ∧ type_of% (ar41) ∧ type_of% (pt41) ∧ type_of% (un41) ∧ type_of% (fl41_0) ∧ type_of% (fl41_1) ∧ type_of% (fl41_2) ∧ type_of% (fl41_3) ∧ type_of% (fs41) ∧ type_of% (po41) ∧ type_of% (zt41) ∧ type_of% (@z41.eq_1) :=
  ⟨sz41, by41, ag41, sl41, ar41, pt41, un41, fl41_0, fl41_1, fl41_2, fl41_3, fs41, po41, zt41, @z41.eq_1⟩
theorem t44 : type_of% (sz44) ∧ type_of% (by44) ∧ type_of% (ag44) ∧ type_of% (sl44) ∧ type_of% (ar44) ∧ type_of% (pt44) ∧ type_of% (un44) ∧ type_of% (fl44_0) ∧ type_of% (fl44_1) ∧ type_of% (fl44_2) ∧ type_of% (fs44) ∧ type_of% (po44) ∧ type_of% (zt44) ∧ type_of% (@z44.eq_1) :=
  ⟨sz44, by44, ag44, sl44, ar44, pt44, un44, fl44_0, fl44_1, fl44_2, fs44, po44, zt44, @z44.eq_1⟩
theorem t46 : type_of% (sz46) ∧ type_of% (by46) ∧ type_of% (ag46) ∧ type_of% (sl46) ∧ type_of% (ar46) ∧ type_of% (pt46) ∧ type_of% (un46) ∧ type_of% (fl46_0) ∧ type_of% (fl46_1) ∧ type_of% (fs46) ∧ type_of% (po46) ∧ type_of% (zt46) ∧ type_of% (@z46.eq_1) :=
  ⟨sz46, by46, ag46, sl46, ar46, pt46, un46, fl46_0, fl46_1, fs46, po46, zt46, @z46.eq_1⟩
theorem t50 : type_of% (sz50) ∧ type_of% (by50) ∧ type_of% (ag50) ∧ type_of% (sl50) ∧ type_of% (ar50) ∧ type_of% (pt50) ∧ type_of% (un50) ∧ type_of% (fl50_0) ∧ type_of% (fl50_1) ∧ type_of% (fl50_2) ∧ type_of% (fs50) ∧ type_of% (po50) ∧ type_of% (tq50) ∧ type_of% (tc50) ∧ type_of% (zt50) ∧ type_of% (@z50.eq_1) :=
  ⟨sz50, by50, ag50, sl50, ar50, pt50, un50, fl50_0, fl50_1, fl50_2, fs50, po50, tq50, tc50, zt50, @z50.eq_1⟩
theorem t54 : type_of% (sz54) ∧ type_of% (by54) ∧ type_of% (ag54) ∧ type_of% (sl54) ∧ type_of% (ar54) ∧ type_of% (pt54) ∧ type_of% (un54) ∧ type_of% (fl54_0) ∧ type_of% (fl54_1) ∧ type_of% (fl54_2) ∧ type_of% (fl54_3) ∧ type_of% (fs54) ∧ type_of% (po54) ∧ type_of% (zt54) ∧ type_of% (@z54.eq_1) :=
  ⟨sz54, by54, ag54, sl54, ar54, pt54, un54, fl54_0, fl54_1, fl54_2, fl54_3, fs54, po54, zt54, @z54.eq_1⟩
theorem t57 : type_of% (sz57) ∧ type_of% (by57) ∧ type_of% (ag57) ∧ type_of% (sl57) ∧ type_of% (ar57) ∧ type_of% (pt57) ∧ type_of% (in57) ∧ type_of% (un57) ∧ type_of% (po57) ∧ type_of% (zt57) ∧ type_of% (@z57.eq_1) :=
  ⟨sz57, by57, ag57, sl57, ar57, pt57, in57, un57, po57, zt57, @z57.eq_1⟩
theorem t66 : type_of% (sz66) ∧ type_of% (by66) ∧ type_of% (ag66) ∧ type_of% (sl66) ∧ type_of% (ar66) ∧ type_of% (pt66) ∧ type_of% (un66) ∧ type_of% (fl66_0) ∧ type_of% (fl66_1) ∧ type_of% (fl66_2) ∧ type_of% (fl66_3) ∧ type_of% (fl66_4) ∧ type_of% (fl66_5) ∧ type_of% (fl66_6) ∧ type_of% (fs66) ∧ type_of% (po66) ∧ type_of% (tq66) ∧ type_of% (tc66) ∧ type_of% (zt66) ∧ type_of% (@z66.eq_1) :=
  ⟨sz66, by66, ag66, sl66, ar66, pt66, un66, fl66_0, fl66_1, fl66_2, fl66_3, fl66_4, fl66_5, fl66_6, fs66, po66, tq66, tc66, zt66, @z66.eq_1⟩
theorem t68 : type_of% (sz68) ∧ type_of% (by68) ∧ type_of% (ag68) ∧ type_of% (sl68) ∧ type_of% (ar68) ∧ type_of% (pt68) ∧ type_of% (un68) ∧ type_of% (fl68_0) ∧ type_of% (fs68) ∧ type_of% (po68) ∧ type_of% (zt68) ∧ type_of% (@z68.eq_1) :=
  ⟨sz68, by68, ag68, sl68, ar68, pt68, un68, fl68_0, fs68, po68, zt68, @z68.eq_1⟩
theorem t69 : type_of% (sz69) ∧ type_of% (by69) ∧ type_of% (ag69) ∧ type_of% (sl69) ∧ type_of% (ar69) ∧ type_of% (pt69) ∧ type_of% (un69) ∧ type_of% (po69) ∧ type_of% (zt69) ∧ type_of% (@z69.eq_1) :=
  ⟨sz69, by69, ag69, sl69, ar69, pt69, un69, po69, zt69, @z69.eq_1⟩
theorem t85 : type_of% (sz85) ∧ type_of% (by85) ∧ type_of% (ag85) ∧ type_of% (sl85) ∧ type_of% (ar85) ∧ type_of% (pt85) ∧ type_of% (un85) ∧ type_of% (po85) ∧ type_of% (zt85) ∧ type_of% (@z85.eq_1) :=
  ⟨sz85, by85, ag85, sl85, ar85, pt85, un85, po85, zt85, @z85.eq_1⟩
theorem t96 : type_of% (sz96) ∧ type_of% (by96) ∧ type_of% (ag96) ∧ type_of% (sl96) ∧ type_of% (ar96) ∧ type_of% (pt96) ∧ type_of% (un96) ∧ type_of% (po96) ∧ type_of% (zt96) ∧ type_of% (@z96.eq_1) :=
  ⟨sz96, by96, ag96, sl96, ar96, pt96, un96, po96, zt96, @z96.eq_1⟩
theorem t97 : type_of% (sz97) ∧ type_of% (by97) ∧ type_of% (ag97) ∧ type_of% (sl97) ∧ type_of% (ar97) ∧ type_of% (pt97) ∧ type_of% (un97) ∧ type_of% (po97) ∧ type_of% (zt97) ∧ type_of% (@z97.eq_1) :=
  ⟨sz97, by97, ag97, sl97, ar97, pt97, un97, po97, zt97, @z97.eq_1⟩
theorem t101 : type_of% (sz101) ∧ type_of% (by101) ∧ type_of% (ag101) ∧ type_of% (sl101) ∧ type_of% (ar101) ∧ type_of% (pt101) ∧ type_of% (un101) ∧ type_of% (fl101_0) ∧ type_of% (fl101_1) ∧ type_of% (fl101_2) ∧ type_of% (fl101_3) ∧ type_of% (fl101_4) ∧ type_of% (fl101_5) ∧ type_of% (fl101_6) ∧ type_of% (fs101) ∧ type_of% (po101) ∧ type_of% (tq101) ∧ type_of% (tc101) ∧ type_of% (zt101) ∧ type_of% (@z101.eq_1) :=
  ⟨sz101, by101, ag101, sl101, ar101, pt101, un101, fl101_0, fl101_1, fl101_2, fl101_3, fl101_4, fl101_5, fl101_6, fs101, po101, tq101, tc101, zt101, @z101.eq_1⟩
theorem t107 : type_of% (sz107) ∧ type_of% (by107) ∧ type_of% (ag107) ∧ type_of% (sl107) ∧ type_of% (ar107) ∧ type_of% (pt107) ∧ type_of% (un107) ∧ type_of% (po107) ∧ type_of% (zt107) ∧ type_of% (@z107.eq_1) :=
  ⟨sz107, by107, ag107, sl107, ar107, pt107, un107, po107, zt107, @z107.eq_1⟩
theorem t110 : type_of% (sz110) ∧ type_of% (by110) ∧ type_of% (ag110) ∧ type_of% (sl110) ∧ type_of% (ar110) ∧ type_of% (pt110) ∧ type_of% (un110) ∧ type_of% (po110) ∧ type_of% (zt110) ∧ type_of% (@z110.eq_1) :=
  ⟨sz110, by110, ag110, sl110, ar110, pt110, un110, po110, zt110, @z110.eq_1⟩
theorem t127 : type_of% (sz127) ∧ type_of% (by127) ∧ type_of% (ag127) ∧ type_of% (sl127) ∧ type_of% (ar127) ∧ type_of% (pt127) ∧ type_of% (un127) ∧ type_of% (fl127_0) ∧ type_of% (fl127_1) ∧ type_of% (fs127) ∧ type_of% (po127) ∧ type_of% (tq127) ∧ type_of% (tc127) ∧ type_of% (zt127) ∧ type_of% (@z127.eq_1) :=
  ⟨sz127, by127, ag127, sl127, ar127, pt127, un127, fl127_0, fl127_1, fs127, po127, tq127, tc127, zt127, @z127.eq_1⟩
theorem t129 : type_of% (sz129) ∧ type_of% (by129) ∧ type_of% (ag129) ∧ type_of% (sl129) ∧ type_of% (ar129) ∧ type_of% (pt129) ∧ type_of% (un129) ∧ type_of% (po129) ∧ type_of% (zt129) ∧ type_of% (@z129.eq_1) :=
  ⟨sz129, by129, ag129, sl129, ar129, pt129, un129, po129, zt129, @z129.eq_1⟩
theorem t132 : type_of% (sz132) ∧ type_of% (by132) ∧ type_of% (ag132) ∧ type_of% (sl132) ∧ type_of% (ar132) ∧ type_of% (pt132) ∧ type_of% (un132) ∧ type_of% (po132) ∧ type_of% (zt132) ∧ type_of% (@z132.eq_1) :=
  ⟨sz132, by132, ag132, sl132, ar132, pt132, un132, po132, zt132, @z132.eq_1⟩
theorem t139 : type_of% (sz139) ∧ type_of% (by139) ∧ type_of% (ag139) ∧ type_of% (sl139) ∧ type_of% (ar139) ∧ type_of% (pt139) ∧ type_of% (un139) ∧ type_of% (po139) ∧ type_of% (zt139) ∧ type_of% (@z139.eq_1) :=
  ⟨sz139, by139, ag139, sl139, ar139, pt139, un139, po139, zt139, @z139.eq_1⟩
theorem t140 : type_of% (sz140) ∧ type_of% (by140) ∧ type_of% (ag140) ∧ type_of% (sl140) ∧ type_of% (ar140) ∧ type_of% (pt140) ∧ type_of% (un140) ∧ type_of% (po140) ∧ type_of% (zt140) ∧ type_of% (@z140.eq_1) :=
  ⟨sz140, by140, ag140, sl140, ar140, pt140, un140, po140, zt140, @z140.eq_1⟩
theorem t142 : type_of% (sz142) ∧ type_of% (by142) ∧ type_of% (ag142) ∧ type_of% (sl142) ∧ type_of% (ar142) ∧ type_of% (pt142) ∧ type_of% (un142) ∧ type_of% (fl142_0) ∧ type_of% (fl142_1) ∧ type_of% (fs142) ∧ type_of% (po142) ∧ type_of% (zt142) ∧ type_of% (@z142.eq_1) :=
  ⟨sz142, by142, ag142, sl142, ar142, pt142, un142, fl142_0, fl142_1, fs142, po142, zt142, @z142.eq_1⟩
theorem t146 : type_of% (sz146) ∧ type_of% (by146) ∧ type_of% (ag146) ∧ type_of% (sl146) ∧ type_of% (ar146) ∧ type_of% (pt146) ∧ type_of% (un146) ∧ type_of% (fl146_0) ∧ type_of% (fl146_1) ∧ type_of% (fs146) ∧ type_of% (po146) ∧ type_of% (zt146) ∧ type_of% (@z146.eq_1) :=
  ⟨sz146, by146, ag146, sl146, ar146, pt146, un146, fl146_0, fl146_1, fs146, po146, zt146, @z146.eq_1⟩
theorem t156 : type_of% (sz156) ∧ type_of% (by156) ∧ type_of% (ag156) ∧ type_of% (sl156) ∧ type_of% (ar156) ∧ type_of% (pt156) ∧ type_of% (in156) ∧ type_of% (un156) ∧ type_of% (po156) ∧ type_of% (zt156) ∧ type_of% (@z156.eq_1) :=
  ⟨sz156, by156, ag156, sl156, ar156, pt156, in156, un156, po156, zt156, @z156.eq_1⟩
theorem t157 : type_of% (sz157) ∧ type_of% (by157) ∧ type_of% (ag157) ∧ type_of% (sl157) ∧ type_of% (ar157) ∧ type_of% (pt157) ∧ type_of% (in157) ∧ type_of% (un157) ∧ type_of% (po157) ∧ type_of% (zt157) ∧ type_of% (@z157.eq_1) :=
  ⟨sz157, by157, ag157, sl157, ar157, pt157, in157, un157, po157, zt157, @z157.eq_1⟩
theorem t158 : type_of% (sz158) ∧ type_of% (by158) ∧ type_of% (ag158) ∧ type_of% (sl158) ∧ type_of% (ar158) ∧ type_of% (pt158) ∧ type_of% (un158) ∧ type_of% (po158) ∧ type_of% (zt158) ∧ type_of% (@z158.eq_1) :=
  ⟨sz158, by158, ag158, sl158, ar158, pt158, un158, po158, zt158, @z158.eq_1⟩
theorem t169 : type_of% (sz169) ∧ type_of% (by169) ∧ type_of% (ag169) ∧ type_of% (sl169) ∧ type_of% (ar169) ∧ type_of% (pt169) ∧ type_of% (un169) ∧ type_of% (po169) ∧ type_of% (tq169) ∧ type_of% (zt169) ∧ type_of% (@z169.eq_1) :=
  ⟨sz169, by169, ag169, sl169, ar169, pt169, un169, po169, tq169, zt169, @z169.eq_1⟩
theorem t171 : type_of% (sz171) ∧ type_of% (by171) ∧ type_of% (ag171) ∧ type_of% (sl171) ∧ type_of% (ar171) ∧ type_of% (pt171) ∧ type_of% (un171) ∧ type_of% (fl171_0) ∧ type_of% (fl171_1) ∧ type_of% (fl171_2) ∧ type_of% (fl171_3) ∧ type_of% (fs171) ∧ type_of% (po171) ∧ type_of% (tq171) ∧ type_of% (tc171) ∧ type_of% (zt171) ∧ type_of% (@z171.eq_1) :=
  ⟨sz171, by171, ag171, sl171, ar171, pt171, un171, fl171_0, fl171_1, fl171_2, fl171_3, fs171, po171, tq171, tc171, zt171, @z171.eq_1⟩
theorem t173 : type_of% (sz173) ∧ type_of% (by173) ∧ type_of% (ag173) ∧ type_of% (sl173) ∧ type_of% (ar173) ∧ type_of% (pt173) ∧ type_of% (un173) ∧ type_of% (fl173_0) ∧ type_of% (fl173_1) ∧ type_of% (fl173_2) ∧ type_of% (fl173_3) ∧ type_of% (fl173_4) ∧ type_of% (fs173) ∧ type_of% (po173) ∧ type_of% (tq173) ∧ type_of% (tc173) ∧ type_of% (zt173) ∧ type_of% (@z173.eq_1) :=
  ⟨sz173, by173, ag173, sl173, ar173, pt173, un173, fl173_0, fl173_1, fl173_2, fl173_3, fl173_4, fs173, po173, tq173, tc173, zt173, @z173.eq_1⟩
theorem t175 : type_of% (sz175) ∧ type_of% (by175) ∧ type_of% (ag175) ∧ type_of% (sl175) ∧ type_of% (ar175) ∧ type_of% (pt175) ∧ type_of% (un175) ∧ type_of% (fl175_0) ∧ type_of% (fl175_1) ∧ type_of% (fs175) ∧ type_of% (po175) ∧ type_of% (zt175) ∧ type_of% (@z175.eq_1) :=
  ⟨sz175, by175, ag175, sl175, ar175, pt175, un175, fl175_0, fl175_1, fs175, po175, zt175, @z175.eq_1⟩
theorem t177 : type_of% (sz177) ∧ type_of% (by177) ∧ type_of% (ag177) ∧ type_of% (sl177) ∧ type_of% (ar177) ∧ type_of% (pt177) ∧ type_of% (un177) ∧ type_of% (fl177_0) ∧ type_of% (fl177_1) ∧ type_of% (fl177_2) ∧ type_of% (fl177_3) ∧ type_of% (fl177_4) ∧ type_of% (fl177_5) ∧ type_of% (fl177_6) ∧ type_of% (fl177_7) ∧ type_of% (fl177_8) ∧ type_of% (fs177) ∧ type_of% (po177) ∧ type_of% (zt177) ∧ type_of% (@z177.eq_1) :=
  ⟨sz177, by177, ag177, sl177, ar177, pt177, un177, fl177_0, fl177_1, fl177_2, fl177_3, fl177_4, fl177_5, fl177_6, fl177_7, fl177_8, fs177, po177, zt177, @z177.eq_1⟩
theorem t180 : type_of% (sz180) ∧ type_of% (by180) ∧ type_of% (ag180) ∧ type_of% (sl180) ∧ type_of% (ar180) ∧ type_of% (pt180) ∧ type_of% (un180) ∧ type_of% (fl180_0) ∧ type_of% (fs180) ∧ type_of% (po180) ∧ type_of% (zt180) ∧ type_of% (@z180.eq_1) :=
  ⟨sz180, by180, ag180, sl180, ar180, pt180, un180, fl180_0, fs180, po180, zt180, @z180.eq_1⟩
theorem t181 : type_of% (sz181) ∧ type_of% (by181) ∧ type_of% (ag181) ∧ type_of% (sl181) ∧ type_of% (ar181) ∧ type_of% (pt181) ∧ type_of% (un181) ∧ type_of% (po181) ∧ type_of% (zt181) ∧ type_of% (@z181.eq_1) :=
  ⟨sz181, by181, ag181, sl181, ar181, pt181, un181, po181, zt181, @z181.eq_1⟩
theorem t182 : type_of% (sz182) ∧ type_of% (by182) ∧ type_of% (ag182) ∧ type_of% (sl182) ∧ type_of% (ar182) ∧ type_of% (pt182) ∧ type_of% (mp182) ∧ type_of% (un182) ∧ type_of% (po182) ∧ type_of% (zt182) ∧ type_of% (@z182.eq_1) :=
  ⟨sz182, by182, ag182, sl182, ar182, pt182, mp182, un182, po182, zt182, @z182.eq_1⟩
theorem t184 : type_of% (sz184) ∧ type_of% (by184) ∧ type_of% (ag184) ∧ type_of% (sl184) ∧ type_of% (ar184) ∧ type_of% (pt184) ∧ type_of% (un184) ∧ type_of% (fl184_0) ∧ type_of% (fl184_1) ∧ type_of% (fl184_2) ∧ type_of% (fl184_3) ∧ type_of% (fl184_4) ∧ type_of% (fl184_5) ∧ type_of% (fl184_6) ∧ type_of% (fl184_7) ∧ type_of% (fl184_8) ∧ type_of% (fs184) ∧ type_of% (po184) ∧ type_of% (zt184) ∧ type_of% (@z184.eq_1) :=
  ⟨sz184, by184, ag184, sl184, ar184, pt184, un184, fl184_0, fl184_1, fl184_2, fl184_3, fl184_4, fl184_5, fl184_6, fl184_7, fl184_8, fs184, po184, zt184, @z184.eq_1⟩
theorem t186 : type_of% (sz186) ∧ type_of% (by186) ∧ type_of% (ag186) ∧ type_of% (sl186) ∧ type_of% (ar186) ∧ type_of% (pt186) ∧ type_of% (un186) ∧ type_of% (fl186_0) ∧ type_of% (fl186_1) ∧ type_of% (fl186_2) ∧ type_of% (fl186_3) ∧ type_of% (fs186) ∧ type_of% (po186) ∧ type_of% (zt186) ∧ type_of% (@z186.eq_1) :=
  ⟨sz186, by186, ag186, sl186, ar186, pt186, un186, fl186_0, fl186_1, fl186_2, fl186_3, fs186, po186, zt186, @z186.eq_1⟩
theorem t187 : type_of% (sz187) ∧ type_of% (by187) ∧ type_of% (ag187) ∧ type_of% (sl187) ∧ type_of% (ar187) ∧ type_of% (pt187) ∧ type_of% (un187) ∧ type_of% (po187) ∧ type_of% (tw187) ∧ type_of% (tq187) ∧ type_of% (zt187) ∧ type_of% (@z187.eq_1) :=
  ⟨sz187, by187, ag187, sl187, ar187, pt187, un187, po187, tw187, tq187, zt187, @z187.eq_1⟩
theorem t210 : type_of% (sz210) ∧ type_of% (by210) ∧ type_of% (ag210) ∧ type_of% (sl210) ∧ type_of% (ar210) ∧ type_of% (pt210) ∧ type_of% (un210) ∧ type_of% (po210) ∧ type_of% (zt210) ∧ type_of% (@z210.eq_1) :=
  ⟨sz210, by210, ag210, sl210, ar210, pt210, un210, po210, zt210, @z210.eq_1⟩
theorem t213 : type_of% (sz213) ∧ type_of% (by213) ∧ type_of% (ag213) ∧ type_of% (sl213) ∧ type_of% (ar213) ∧ type_of% (pt213) ∧ type_of% (un213) ∧ type_of% (po213) ∧ type_of% (zt213) ∧ type_of% (@z213.eq_1) :=
  ⟨sz213, by213, ag213, sl213, ar213, pt213, un213, po213, zt213, @z213.eq_1⟩
theorem t219 : type_of% (sz219) ∧ type_of% (by219) ∧ type_of% (ag219) ∧ type_of% (sl219) ∧ type_of% (ar219) ∧ type_of% (pt219) ∧ type_of% (un219) ∧ type_of% (fl219_0) ∧ type_of% (fl219_1) ∧ type_of% (fl219_2) ∧ type_of% (fl219_3) ∧ type_of% (fs219) ∧ type_of% (po219) ∧ type_of% (zt219) ∧ type_of% (@z219.eq_1) :=
  ⟨sz219, by219, ag219, sl219, ar219, pt219, un219, fl219_0, fl219_1, fl219_2, fl219_3, fs219, po219, zt219, @z219.eq_1⟩
theorem t220 : type_of% (sz220) ∧ type_of% (by220) ∧ type_of% (ag220) ∧ type_of% (sl220) ∧ type_of% (ar220) ∧ type_of% (pt220) ∧ type_of% (mp220) ∧ type_of% (un220) ∧ type_of% (po220) ∧ type_of% (zt220) ∧ type_of% (@z220.eq_1) :=
  ⟨sz220, by220, ag220, sl220, ar220, pt220, mp220, un220, po220, zt220, @z220.eq_1⟩
theorem t223 : type_of% (sz223) ∧ type_of% (by223) ∧ type_of% (ag223) ∧ type_of% (sl223) ∧ type_of% (ar223) ∧ type_of% (pt223) ∧ type_of% (un223) ∧ type_of% (fl223_0) ∧ type_of% (fl223_1) ∧ type_of% (fl223_2) ∧ type_of% (fl223_3) ∧ type_of% (fs223) ∧ type_of% (po223) ∧ type_of% (tq223) ∧ type_of% (tc223) ∧ type_of% (zt223) ∧ type_of% (@z223.eq_1) :=
  ⟨sz223, by223, ag223, sl223, ar223, pt223, un223, fl223_0, fl223_1, fl223_2, fl223_3, fs223, po223, tq223, tc223, zt223, @z223.eq_1⟩
theorem t224 : type_of% (sz224) ∧ type_of% (by224) ∧ type_of% (ag224) ∧ type_of% (sl224) ∧ type_of% (ar224) ∧ type_of% (pt224) ∧ type_of% (mp224) ∧ type_of% (un224) ∧ type_of% (po224) ∧ type_of% (zt224) ∧ type_of% (@z224.eq_1) :=
  ⟨sz224, by224, ag224, sl224, ar224, pt224, mp224, un224, po224, zt224, @z224.eq_1⟩
theorem t226 : type_of% (sz226) ∧ type_of% (by226) ∧ type_of% (ag226) ∧ type_of% (sl226) ∧ type_of% (ar226) ∧ type_of% (pt226) ∧ type_of% (un226) ∧ type_of% (fl226_0) ∧ type_of% (fl226_1) ∧ type_of% (fs226) ∧ type_of% (po226) ∧ type_of% (zt226) ∧ type_of% (@z226.eq_1) :=
  ⟨sz226, by226, ag226, sl226, ar226, pt226, un226, fl226_0, fl226_1, fs226, po226, zt226, @z226.eq_1⟩
theorem t229 : type_of% (sz229) ∧ type_of% (by229) ∧ type_of% (ag229) ∧ type_of% (sl229) ∧ type_of% (ar229) ∧ type_of% (pt229) ∧ type_of% (un229) ∧ type_of% (fl229_0) ∧ type_of% (fl229_1) ∧ type_of% (fl229_2) ∧ type_of% (fl229_3) ∧ type_of% (fl229_4) ∧ type_of% (fs229) ∧ type_of% (po229) ∧ type_of% (tq229) ∧ type_of% (tc229) ∧ type_of% (zt229) ∧ type_of% (@z229.eq_1) :=
  ⟨sz229, by229, ag229, sl229, ar229, pt229, un229, fl229_0, fl229_1, fl229_2, fl229_3, fl229_4, fs229, po229, tq229, tc229, zt229, @z229.eq_1⟩
theorem t239 : type_of% (sz239) ∧ type_of% (by239) ∧ type_of% (ag239) ∧ type_of% (sl239) ∧ type_of% (ar239) ∧ type_of% (pt239) ∧ type_of% (mp239) ∧ type_of% (un239) ∧ type_of% (po239) ∧ type_of% (zt239) ∧ type_of% (@z239.eq_1) :=
  ⟨sz239, by239, ag239, sl239, ar239, pt239, mp239, un239, po239, zt239, @z239.eq_1⟩
theorem t241 : type_of% (sz241) ∧ type_of% (by241) ∧ type_of% (ag241) ∧ type_of% (sl241) ∧ type_of% (ar241) ∧ type_of% (pt241) ∧ type_of% (un241) ∧ type_of% (fl241_0) ∧ type_of% (fs241) ∧ type_of% (po241) ∧ type_of% (zt241) ∧ type_of% (@z241.eq_1) :=
  ⟨sz241, by241, ag241, sl241, ar241, pt241, un241, fl241_0, fs241, po241, zt241, @z241.eq_1⟩
theorem t243 : type_of% (sz243) ∧ type_of% (by243) ∧ type_of% (ag243) ∧ type_of% (sl243) ∧ type_of% (ar243) ∧ type_of% (pt243) ∧ type_of% (un243) ∧ type_of% (po243) ∧ type_of% (zt243) ∧ type_of% (@z243.eq_1) :=
  ⟨sz243, by243, ag243, sl243, ar243, pt243, un243, po243, zt243, @z243.eq_1⟩
theorem t246 : type_of% (sz246) ∧ type_of% (by246) ∧ type_of% (ag246) ∧ type_of% (sl246) ∧ type_of% (ar246) ∧ type_of% (pt246) ∧ type_of% (un246) ∧ type_of% (fl246_0) ∧ type_of% (fl246_1) ∧ type_of% (fs246) ∧ type_of% (po246) ∧ type_of% (zt246) ∧ type_of% (@z246.eq_1) :=
  ⟨sz246, by246, ag246, sl246, ar246, pt246, un246, fl246_0, fl246_1, fs246, po246, zt246, @z246.eq_1⟩
theorem t249 : type_of% (sz249) ∧ type_of% (by249) ∧ type_of% (ag249) ∧ type_of% (sl249) ∧ type_of% (ar249) ∧ type_of% (pt249) ∧ type_of% (un249) ∧ type_of% (fl249_0) ∧ type_of% (fl249_1) ∧ type_of% (fs249) ∧ type_of% (po249) ∧ type_of% (zt249) ∧ type_of% (@z249.eq_1) :=
  ⟨sz249, by249, ag249, sl249, ar249, pt249, un249, fl249_0, fl249_1, fs249, po249, zt249, @z249.eq_1⟩
theorem t261 : type_of% (sz261) ∧ type_of% (by261) ∧ type_of% (ag261) ∧ type_of% (sl261) ∧ type_of% (ar261) ∧ type_of% (pt261) ∧ type_of% (un261) ∧ type_of% (po261) ∧ type_of% (zt261) ∧ type_of% (@z261.eq_1) :=
  ⟨sz261, by261, ag261, sl261, ar261, pt261, un261, po261, zt261, @z261.eq_1⟩
theorem t268 : type_of% (sz268) ∧ type_of% (by268) ∧ type_of% (ag268) ∧ type_of% (sl268) ∧ type_of% (ar268) ∧ type_of% (pt268) ∧ type_of% (un268) ∧ type_of% (po268) ∧ type_of% (zt268) ∧ type_of% (@z268.eq_1) :=
  ⟨sz268, by268, ag268, sl268, ar268, pt268, un268, po268, zt268, @z268.eq_1⟩
theorem t275 : type_of% (sz275) ∧ type_of% (by275) ∧ type_of% (ag275) ∧ type_of% (sl275) ∧ type_of% (ar275) ∧ type_of% (pt275) ∧ type_of% (un275) ∧ type_of% (fl275_0) ∧ type_of% (fl275_1) ∧ type_of% (fl275_2) ∧ type_of% (fl275_3) ∧ type_of% (fs275) ∧ type_of% (po275) ∧ type_of% (zt275) ∧ type_of% (@z275.eq_1) :=
  ⟨sz275, by275, ag275, sl275, ar275, pt275, un275, fl275_0, fl275_1, fl275_2, fl275_3, fs275, po275, zt275, @z275.eq_1⟩
theorem t284 : type_of% (sz284) ∧ type_of% (by284) ∧ type_of% (ag284) ∧ type_of% (sl284) ∧ type_of% (ar284) ∧ type_of% (pt284) ∧ type_of% (un284) ∧ type_of% (po284) ∧ type_of% (zt284) ∧ type_of% (@z284.eq_1) :=
  ⟨sz284, by284, ag284, sl284, ar284, pt284, un284, po284, zt284, @z284.eq_1⟩
theorem t290 : type_of% (sz290) ∧ type_of% (by290) ∧ type_of% (ag290) ∧ type_of% (sl290) ∧ type_of% (ar290) ∧ type_of% (pt290) ∧ type_of% (un290) ∧ type_of% (fl290_0) ∧ type_of% (fl290_1) ∧ type_of% (fs290) ∧ type_of% (po290) ∧ type_of% (zt290) ∧ type_of% (@z290.eq_1) :=
  ⟨sz290, by290, ag290, sl290, ar290, pt290, un290, fl290_0, fl290_1, fs290, po290, zt290, @z290.eq_1⟩
theorem t291 : type_of% (sz291) ∧ type_of% (by291) ∧ type_of% (ag291) ∧ type_of% (sl291) ∧ type_of% (ar291) ∧ type_of% (pt291) ∧ type_of% (un291) ∧ type_of% (po291) ∧ type_of% (zt291) ∧ type_of% (@z291.eq_1) :=
  ⟨sz291, by291, ag291, sl291, ar291, pt291, un291, po291, zt291, @z291.eq_1⟩
theorem t294 : type_of% (sz294) ∧ type_of% (by294) ∧ type_of% (ag294) ∧ type_of% (sl294) ∧ type_of% (ar294) ∧ type_of% (pt294) ∧ type_of% (in294) ∧ type_of% (un294) ∧ type_of% (po294) ∧ type_of% (zt294) ∧ type_of% (@z294.eq_1) :=
  ⟨sz294, by294, ag294, sl294, ar294, pt294, in294, un294, po294, zt294, @z294.eq_1⟩
theorem t296 : type_of% (sz296) ∧ type_of% (by296) ∧ type_of% (ag296) ∧ type_of% (sl296) ∧ type_of% (ar296) ∧ type_of% (pt296) ∧ type_of% (un296) ∧ type_of% (po296) ∧ type_of% (tq296) ∧ type_of% (zt296) ∧ type_of% (@z296.eq_1) :=
  ⟨sz296, by296, ag296, sl296, ar296, pt296, un296, po296, tq296, zt296, @z296.eq_1⟩
theorem t298 : type_of% (sz298) ∧ type_of% (by298) ∧ type_of% (ag298) ∧ type_of% (sl298) ∧ type_of% (ar298) ∧ type_of% (pt298) ∧ type_of% (un298) ∧ type_of% (po298) ∧ type_of% (tq298) ∧ type_of% (zt298) ∧ type_of% (@z298.eq_1) :=
  ⟨sz298, by298, ag298, sl298, ar298, pt298, un298, po298, tq298, zt298, @z298.eq_1⟩
theorem t301 : type_of% (sz301) ∧ type_of% (by301) ∧ type_of% (ag301) ∧ type_of% (sl301) ∧ type_of% (ar301) ∧ type_of% (pt301) ∧ type_of% (un301) ∧ type_of% (po301) ∧ type_of% (zt301) ∧ type_of% (@z301.eq_1) :=
  ⟨sz301, by301, ag301, sl301, ar301, pt301, un301, po301, zt301, @z301.eq_1⟩
theorem t312 : type_of% (sz312) ∧ type_of% (by312) ∧ type_of% (ag312) ∧ type_of% (sl312) ∧ type_of% (ar312) ∧ type_of% (pt312) ∧ type_of% (un312) ∧ type_of% (po312) ∧ type_of% (zt312) ∧ type_of% (@z312.eq_1) :=
  ⟨sz312, by312, ag312, sl312, ar312, pt312, un312, po312, zt312, @z312.eq_1⟩
theorem t318 : type_of% (sz318) ∧ type_of% (by318) ∧ type_of% (ag318) ∧ type_of% (sl318) ∧ type_of% (ar318) ∧ type_of% (pt318) ∧ type_of% (un318) ∧ type_of% (po318) ∧ type_of% (zt318) ∧ type_of% (@z318.eq_1) :=
  ⟨sz318, by318, ag318, sl318, ar318, pt318, un318, po318, zt318, @z318.eq_1⟩
theorem t320 : type_of% (sz320) ∧ type_of% (by320) ∧ type_of% (ag320) ∧ type_of% (sl320) ∧ type_of% (ar320) ∧ type_of% (pt320) ∧ type_of% (un320) ∧ type_of% (po320) ∧ type_of% (zt320) ∧ type_of% (@z320.eq_1) :=
  ⟨sz320, by320, ag320, sl320, ar320, pt320, un320, po320, zt320, @z320.eq_1⟩
theorem t323 : type_of% (sz323) ∧ type_of% (by323) ∧ type_of% (ag323) ∧ type_of% (sl323) ∧ type_of% (ar323) ∧ type_of% (pt323) ∧ type_of% (un323) ∧ type_of% (po323) ∧ type_of% (zt323) ∧ type_of% (@z323.eq_1) :=
  ⟨sz323, by323, ag323, sl323, ar323, pt323, un323, po323, zt323, @z323.eq_1⟩
theorem t330 : type_of% (sz330) ∧ type_of% (by330) ∧ type_of% (ag330) ∧ type_of% (sl330) ∧ type_of% (ar330) ∧ type_of% (pt330) ∧ type_of% (in330) ∧ type_of% (un330) ∧ type_of% (po330) ∧ type_of% (zt330) ∧ type_of% (@z330.eq_1) :=
  ⟨sz330, by330, ag330, sl330, ar330, pt330, in330, un330, po330, zt330, @z330.eq_1⟩
theorem mo : cx.P.follows .mixedOrders = true := by kernel_rfl
end Go.Proofs.YthfoeaokfhbdaaaGreat.T
