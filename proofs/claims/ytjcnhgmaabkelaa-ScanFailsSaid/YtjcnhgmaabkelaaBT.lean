/-
  The table of types of this seat, told lemma by lemma (written by gentypes.py out of the translation).
-/
import Derived.Test.YtjcnhgmaabkelaaProg
import Derived.Test.YtjcnhgmaabkelaaAL18
set_option linter.unusedSimpArgs false
set_option maxRecDepth 10000
namespace Go.Proofs.Ytjcnhgmaabkelaa.T
open Go Go.AL
theorem sz2 : tsz Try.prog 2 = some 1 := by kernel_rfl
theorem by2 : tby Try.prog 2 = some 8 := by kernel_rfl
theorem ag2 : tagg Try.prog 2 = some false := by kernel_rfl
theorem sl2 : tsl Try.prog 2 = none := by kernel_rfl
theorem ar2 : tarr Try.prog 2 = none := by kernel_rfl
theorem pt2 : tptr Try.prog 2 = none := by kernel_rfl
theorem in2 : tint Try.prog 2 = some .i64 := by kernel_rfl
theorem un2 : (Try.prog.underlying 2).isSome = true := by kernel_rfl
theorem po2 : tpos Try.prog 2 = true := by kernel_rfl
def z2 : AV := .val (.int .i64 0)
theorem zo2 : ZeroOK Try.prog 2 z2 := ZeroOK.mk (.int .i64 0) (by kernel_rfl) (by kernel_rfl) (by kernel_rfl) (by kernel_rfl)
theorem sz3 : tsz Try.prog 3 = some 1 := by kernel_rfl
theorem by3 : tby Try.prog 3 = some 8 := by kernel_rfl
theorem ag3 : tagg Try.prog 3 = some false := by kernel_rfl
theorem sl3 : tsl Try.prog 3 = none := by kernel_rfl
theorem ar3 : tarr Try.prog 3 = none := by kernel_rfl
theorem pt3 : tptr Try.prog 3 = none := by kernel_rfl
theorem in3 : tint Try.prog 3 = some .i64 := by kernel_rfl
theorem un3 : (Try.prog.underlying 3).isSome = true := by kernel_rfl
theorem po3 : tpos Try.prog 3 = true := by kernel_rfl
def z3 : AV := .val (.int .i64 0)
theorem zo3 : ZeroOK Try.prog 3 z3 := ZeroOK.mk (.int .i64 0) (by kernel_rfl) (by kernel_rfl) (by kernel_rfl) (by kernel_rfl)
theorem sz4 : tsz Try.prog 4 = some 1 := by kernel_rfl
theorem by4 : tby Try.prog 4 = some 1 := by kernel_rfl
theorem ag4 : tagg Try.prog 4 = some false := by kernel_rfl
theorem sl4 : tsl Try.prog 4 = none := by kernel_rfl
theorem ar4 : tarr Try.prog 4 = none := by kernel_rfl
theorem pt4 : tptr Try.prog 4 = none := by kernel_rfl
theorem un4 : (Try.prog.underlying 4).isSome = true := by kernel_rfl
theorem tb4 : tbool Try.prog 4 = some () := by kernel_rfl
theorem po4 : tpos Try.prog 4 = true := by kernel_rfl
def z4 : AV := .val (.bool false)
theorem zo4 : ZeroOK Try.prog 4 z4 := ZeroOK.mk (.bool false) (by kernel_rfl) (by kernel_rfl) (by kernel_rfl) (by kernel_rfl)
theorem sz5 : tsz Try.prog 5 = some 1 := by kernel_rfl
theorem by5 : tby Try.prog 5 = some 1 := by kernel_rfl
theorem ag5 : tagg Try.prog 5 = some false := by kernel_rfl
theorem sl5 : tsl Try.prog 5 = none := by kernel_rfl
theorem ar5 : tarr Try.prog 5 = none := by kernel_rfl
theorem pt5 : tptr Try.prog 5 = none := by kernel_rfl
theorem in5 : tint Try.prog 5 = some .u8 := by kernel_rfl
theorem un5 : (Try.prog.underlying 5).isSome = true := by kernel_rfl
theorem po5 : tpos Try.prog 5 = true := by kernel_rfl
def z5 : AV := .val (.int .u8 0)
theorem zo5 : ZeroOK Try.prog 5 z5 := ZeroOK.mk (.int .u8 0) (by kernel_rfl) (by kernel_rfl) (by kernel_rfl) (by kernel_rfl)
theorem sz22 : tsz Try.prog 22 = some 32 := by kernel_rfl
theorem by22 : tby Try.prog 22 = some 32 := by kernel_rfl
theorem ag22 : tagg Try.prog 22 = some true := by kernel_rfl
theorem sl22 : tsl Try.prog 22 = none := by kernel_rfl
theorem ar22 : tarr Try.prog 22 = some (32, 5) := by kernel_rfl
theorem pt22 : tptr Try.prog 22 = none := by kernel_rfl
theorem un22 : (Try.prog.underlying 22).isSome = true := by kernel_rfl
theorem po22 : tpos Try.prog 22 = true := by kernel_rfl
theorem tq22 : teq Try.prog 22 = true := by kernel_rfl
def z22 : AV := .vec 1 (List.replicate 32 (.val (.int .u8 0)))
theorem zo22 : ZeroOK Try.prog 22 z22 := ZeroOK.mk (.agg #[.int .u8 0, .int .u8 0, .int .u8 0, .int .u8 0, .int .u8 0, .int .u8 0, .int .u8 0, .int .u8 0, .int .u8 0, .int .u8 0, .int .u8 0, .int .u8 0, .int .u8 0, .int .u8 0, .int .u8 0, .int .u8 0, .int .u8 0, .int .u8 0, .int .u8 0, .int .u8 0, .int .u8 0, .int .u8 0, .int .u8 0, .int .u8 0, .int .u8 0, .int .u8 0, .int .u8 0, .int .u8 0, .int .u8 0, .int .u8 0, .int .u8 0, .int .u8 0]) (by kernel_rfl) (by kernel_rfl) (by kernel_rfl) (by kernel_rfl)
theorem sz23 : tsz Try.prog 23 = some 32 := by kernel_rfl
theorem by23 : tby Try.prog 23 = some 32 := by kernel_rfl
theorem ag23 : tagg Try.prog 23 = some true := by kernel_rfl
theorem sl23 : tsl Try.prog 23 = none := by kernel_rfl
theorem ar23 : tarr Try.prog 23 = some (32, 5) := by kernel_rfl
theorem pt23 : tptr Try.prog 23 = none := by kernel_rfl
theorem un23 : (Try.prog.underlying 23).isSome = true := by kernel_rfl
theorem po23 : tpos Try.prog 23 = true := by kernel_rfl
theorem tq23 : teq Try.prog 23 = true := by kernel_rfl
def z23 : AV := .vec 1 (List.replicate 32 (.val (.int .u8 0)))
theorem zo23 : ZeroOK Try.prog 23 z23 := ZeroOK.mk (.agg #[.int .u8 0, .int .u8 0, .int .u8 0, .int .u8 0, .int .u8 0, .int .u8 0, .int .u8 0, .int .u8 0, .int .u8 0, .int .u8 0, .int .u8 0, .int .u8 0, .int .u8 0, .int .u8 0, .int .u8 0, .int .u8 0, .int .u8 0, .int .u8 0, .int .u8 0, .int .u8 0, .int .u8 0, .int .u8 0, .int .u8 0, .int .u8 0, .int .u8 0, .int .u8 0, .int .u8 0, .int .u8 0, .int .u8 0, .int .u8 0, .int .u8 0, .int .u8 0]) (by kernel_rfl) (by kernel_rfl) (by kernel_rfl) (by kernel_rfl)
theorem sz25 : tsz Try.prog 25 = some 33 := by kernel_rfl
theorem by25 : tby Try.prog 25 = some 40 := by kernel_rfl
theorem ag25 : tagg Try.prog 25 = some true := by kernel_rfl
theorem sl25 : tsl Try.prog 25 = none := by kernel_rfl
theorem ar25 : tarr Try.prog 25 = none := by kernel_rfl
theorem pt25 : tptr Try.prog 25 = none := by kernel_rfl
theorem un25 : (Try.prog.underlying 25).isSome = true := by kernel_rfl
theorem fl25_0 : tfld Try.prog 25 0 = some (0, 23) := by kernel_rfl
theorem fl25_1 : tfld Try.prog 25 1 = some (32, 3) := by kernel_rfl
theorem fs25 : tflds Try.prog 25 = true := by kernel_rfl
theorem po25 : tpos Try.prog 25 = true := by kernel_rfl
theorem tq25 : teq Try.prog 25 = true := by kernel_rfl
theorem tc25 : tcmp Try.prog 25 = some [(0, 23), (32, 3)] := by kernel_rfl
def z25 : AV := .agg 33 [.vec 1 (List.replicate 32 (.val (.int .u8 0))), .val (.int .i64 0)]
theorem zo25 : ZeroOK Try.prog 25 z25 := ZeroOK.mk (.agg #[.int .u8 0, .int .u8 0, .int .u8 0, .int .u8 0, .int .u8 0, .int .u8 0, .int .u8 0, .int .u8 0, .int .u8 0, .int .u8 0, .int .u8 0, .int .u8 0, .int .u8 0, .int .u8 0, .int .u8 0, .int .u8 0, .int .u8 0, .int .u8 0, .int .u8 0, .int .u8 0, .int .u8 0, .int .u8 0, .int .u8 0, .int .u8 0, .int .u8 0, .int .u8 0, .int .u8 0, .int .u8 0, .int .u8 0, .int .u8 0, .int .u8 0, .int .u8 0, .int .i64 0]) (by kernel_rfl) (by kernel_rfl) (by kernel_rfl) (by kernel_rfl)
theorem sz27 : tsz Try.prog 27 = some 39 := by kernel_rfl
theorem by27 : tby Try.prog 27 = some 88 := by kernel_rfl
theorem ag27 : tagg Try.prog 27 = some true := by kernel_rfl
theorem sl27 : tsl Try.prog 27 = none := by kernel_rfl
theorem ar27 : tarr Try.prog 27 = none := by kernel_rfl
theorem pt27 : tptr Try.prog 27 = none := by kernel_rfl
theorem un27 : (Try.prog.underlying 27).isSome = true := by kernel_rfl
theorem fl27_0 : tfld Try.prog 27 0 = some (0, 3) := by kernel_rfl
theorem fl27_1 : tfld Try.prog 27 1 = some (1, 3) := by kernel_rfl
theorem fl27_2 : tfld Try.prog 27 2 = some (2, 3) := by kernel_rfl
theorem fl27_3 : tfld Try.prog 27 3 = some (3, 25) := by kernel_rfl
theorem fl27_4 : tfld Try.prog 27 4 = some (36, 2) := by kernel_rfl
theorem fl27_5 : tfld Try.prog 27 5 = some (37, 3) := by kernel_rfl
theorem fl27_6 : tfld Try.prog 27 6 = some (38, 3) := by kernel_rfl
theorem fs27 : tflds Try.prog 27 = true := by kernel_rfl
theorem po27 : tpos Try.prog 27 = true := by kernel_rfl
theorem tq27 : teq Try.prog 27 = true := by kernel_rfl
theorem tc27 : tcmp Try.prog 27 = some [(0, 3), (1, 3), (2, 3), (3, 25), (36, 2), (37, 3), (38, 3)] := by kernel_rfl
def z27 : AV := .agg 39 [.val (.int .i64 0), .val (.int .i64 0), .val (.int .i64 0), .agg 33 [.vec 1 (List.replicate 32 (.val (.int .u8 0))), .val (.int .i64 0)], .val (.int .i64 0), .val (.int .i64 0), .val (.int .i64 0)]
theorem zo27 : ZeroOK Try.prog 27 z27 := ZeroOK.mk (.agg #[.int .i64 0, .int .i64 0, .int .i64 0, .int .u8 0, .int .u8 0, .int .u8 0, .int .u8 0, .int .u8 0, .int .u8 0, .int .u8 0, .int .u8 0, .int .u8 0, .int .u8 0, .int .u8 0, .int .u8 0, .int .u8 0, .int .u8 0, .int .u8 0, .int .u8 0, .int .u8 0, .int .u8 0, .int .u8 0, .int .u8 0, .int .u8 0, .int .u8 0, .int .u8 0, .int .u8 0, .int .u8 0, .int .u8 0, .int .u8 0, .int .u8 0, .int .u8 0, .int .u8 0, .int .u8 0, .int .u8 0, .int .i64 0, .int .i64 0, .int .i64 0, .int .i64 0]) (by kernel_rfl) (by kernel_rfl) (by kernel_rfl) (by kernel_rfl)
theorem sz28 : tsz Try.prog 28 = some 1 := by kernel_rfl
theorem by28 : tby Try.prog 28 = some 8 := by kernel_rfl
theorem ag28 : tagg Try.prog 28 = some false := by kernel_rfl
theorem sl28 : tsl Try.prog 28 = none := by kernel_rfl
theorem ar28 : tarr Try.prog 28 = none := by kernel_rfl
theorem pt28 : tptr Try.prog 28 = some 83 := by kernel_rfl
theorem un28 : (Try.prog.underlying 28).isSome = true := by kernel_rfl
theorem po28 : tpos Try.prog 28 = true := by kernel_rfl
def z28 : AV := .val (.pointer none)
theorem zo28 : ZeroOK Try.prog 28 z28 := ZeroOK.mk (.pointer none) (by kernel_rfl) (by kernel_rfl) (by kernel_rfl) (by kernel_rfl)
theorem sz29 : tsz Try.prog 29 = some 1 := by kernel_rfl
theorem by29 : tby Try.prog 29 = some 8 := by kernel_rfl
theorem ag29 : tagg Try.prog 29 = some false := by kernel_rfl
theorem sl29 : tsl Try.prog 29 = none := by kernel_rfl
theorem ar29 : tarr Try.prog 29 = none := by kernel_rfl
theorem pt29 : tptr Try.prog 29 = none := by kernel_rfl
theorem in29 : tint Try.prog 29 = some .i64 := by kernel_rfl
theorem un29 : (Try.prog.underlying 29).isSome = true := by kernel_rfl
theorem po29 : tpos Try.prog 29 = true := by kernel_rfl
def z29 : AV := .val (.int .i64 0)
theorem zo29 : ZeroOK Try.prog 29 z29 := ZeroOK.mk (.int .i64 0) (by kernel_rfl) (by kernel_rfl) (by kernel_rfl) (by kernel_rfl)
theorem sz33 : tsz Try.prog 33 = some 1 := by kernel_rfl
theorem by33 : tby Try.prog 33 = some 24 := by kernel_rfl
theorem ag33 : tagg Try.prog 33 = some false := by kernel_rfl
theorem sl33 : tsl Try.prog 33 = some 5 := by kernel_rfl
theorem ar33 : tarr Try.prog 33 = none := by kernel_rfl
theorem pt33 : tptr Try.prog 33 = none := by kernel_rfl
theorem un33 : (Try.prog.underlying 33).isSome = true := by kernel_rfl
theorem po33 : tpos Try.prog 33 = true := by kernel_rfl
def z33 : AV := .sl 1 [] 1
theorem zo33 : ZeroOK Try.prog 33 z33 := ZeroOK.mk (.slice none 0 0) (by kernel_rfl) (by kernel_rfl) (by kernel_rfl) (by kernel_rfl)
theorem sz35 : tsz Try.prog 35 = some 35 := by kernel_rfl
theorem by35 : tby Try.prog 35 = some 72 := by kernel_rfl
theorem ag35 : tagg Try.prog 35 = some true := by kernel_rfl
theorem sl35 : tsl Try.prog 35 = none := by kernel_rfl
theorem ar35 : tarr Try.prog 35 = none := by kernel_rfl
theorem pt35 : tptr Try.prog 35 = none := by kernel_rfl
theorem un35 : (Try.prog.underlying 35).isSome = true := by kernel_rfl
theorem fl35_0 : tfld Try.prog 35 0 = some (0, 25) := by kernel_rfl
theorem fl35_1 : tfld Try.prog 35 1 = some (33, 3) := by kernel_rfl
theorem fl35_2 : tfld Try.prog 35 2 = some (34, 33) := by kernel_rfl
theorem fs35 : tflds Try.prog 35 = true := by kernel_rfl
theorem po35 : tpos Try.prog 35 = true := by kernel_rfl
def z35 : AV := .agg 35 [.agg 33 [.vec 1 (List.replicate 32 (.val (.int .u8 0))), .val (.int .i64 0)], .val (.int .i64 0), .sl 1 [] 1]
theorem zo35 : ZeroOK Try.prog 35 z35 := ZeroOK.mk (.agg #[.int .u8 0, .int .u8 0, .int .u8 0, .int .u8 0, .int .u8 0, .int .u8 0, .int .u8 0, .int .u8 0, .int .u8 0, .int .u8 0, .int .u8 0, .int .u8 0, .int .u8 0, .int .u8 0, .int .u8 0, .int .u8 0, .int .u8 0, .int .u8 0, .int .u8 0, .int .u8 0, .int .u8 0, .int .u8 0, .int .u8 0, .int .u8 0, .int .u8 0, .int .u8 0, .int .u8 0, .int .u8 0, .int .u8 0, .int .u8 0, .int .u8 0, .int .u8 0, .int .i64 0, .int .i64 0, .slice none 0 0]) (by kernel_rfl) (by kernel_rfl) (by kernel_rfl) (by kernel_rfl)
theorem sz36 : tsz Try.prog 36 = some 1 := by kernel_rfl
theorem by36 : tby Try.prog 36 = some 24 := by kernel_rfl
theorem ag36 : tagg Try.prog 36 = some false := by kernel_rfl
theorem sl36 : tsl Try.prog 36 = some 35 := by kernel_rfl
theorem ar36 : tarr Try.prog 36 = none := by kernel_rfl
theorem pt36 : tptr Try.prog 36 = none := by kernel_rfl
theorem un36 : (Try.prog.underlying 36).isSome = true := by kernel_rfl
theorem po36 : tpos Try.prog 36 = true := by kernel_rfl
def z36 : AV := .sl 35 [] 1
theorem zo36 : ZeroOK Try.prog 36 z36 := ZeroOK.mk (.slice none 0 0) (by kernel_rfl) (by kernel_rfl) (by kernel_rfl) (by kernel_rfl)
theorem sz39 : tsz Try.prog 39 = some 37 := by kernel_rfl
theorem by39 : tby Try.prog 39 = some 88 := by kernel_rfl
theorem ag39 : tagg Try.prog 39 = some true := by kernel_rfl
theorem sl39 : tsl Try.prog 39 = none := by kernel_rfl
theorem ar39 : tarr Try.prog 39 = none := by kernel_rfl
theorem pt39 : tptr Try.prog 39 = none := by kernel_rfl
theorem un39 : (Try.prog.underlying 39).isSome = true := by kernel_rfl
theorem fl39_0 : tfld Try.prog 39 0 = some (0, 3) := by kernel_rfl
theorem fl39_1 : tfld Try.prog 39 1 = some (1, 3) := by kernel_rfl
theorem fl39_2 : tfld Try.prog 39 2 = some (2, 3) := by kernel_rfl
theorem fl39_3 : tfld Try.prog 39 3 = some (3, 2) := by kernel_rfl
theorem fl39_4 : tfld Try.prog 39 4 = some (4, 23) := by kernel_rfl
theorem fl39_5 : tfld Try.prog 39 5 = some (36, 33) := by kernel_rfl
theorem fs39 : tflds Try.prog 39 = true := by kernel_rfl
theorem po39 : tpos Try.prog 39 = true := by kernel_rfl
def z39 : AV := .agg 37 [.val (.int .i64 0), .val (.int .i64 0), .val (.int .i64 0), .val (.int .i64 0), .vec 1 (List.replicate 32 (.val (.int .u8 0))), .sl 1 [] 1]
theorem zo39 : ZeroOK Try.prog 39 z39 := ZeroOK.mk (.agg #[.int .i64 0, .int .i64 0, .int .i64 0, .int .i64 0, .int .u8 0, .int .u8 0, .int .u8 0, .int .u8 0, .int .u8 0, .int .u8 0, .int .u8 0, .int .u8 0, .int .u8 0, .int .u8 0, .int .u8 0, .int .u8 0, .int .u8 0, .int .u8 0, .int .u8 0, .int .u8 0, .int .u8 0, .int .u8 0, .int .u8 0, .int .u8 0, .int .u8 0, .int .u8 0, .int .u8 0, .int .u8 0, .int .u8 0, .int .u8 0, .int .u8 0, .int .u8 0, .int .u8 0, .int .u8 0, .int .u8 0, .int .u8 0, .slice none 0 0]) (by kernel_rfl) (by kernel_rfl) (by kernel_rfl) (by kernel_rfl)
theorem sz40 : tsz Try.prog 40 = some 1 := by kernel_rfl
theorem by40 : tby Try.prog 40 = some 24 := by kernel_rfl
theorem ag40 : tagg Try.prog 40 = some false := by kernel_rfl
theorem sl40 : tsl Try.prog 40 = some 46 := by kernel_rfl
theorem ar40 : tarr Try.prog 40 = none := by kernel_rfl
theorem pt40 : tptr Try.prog 40 = none := by kernel_rfl
theorem un40 : (Try.prog.underlying 40).isSome = true := by kernel_rfl
theorem po40 : tpos Try.prog 40 = true := by kernel_rfl
def z40 : AV := .sl 2 [] 1
theorem zo40 : ZeroOK Try.prog 40 z40 := ZeroOK.mk (.slice none 0 0) (by kernel_rfl) (by kernel_rfl) (by kernel_rfl) (by kernel_rfl)
theorem sz41 : tsz Try.prog 41 = some 1 := by kernel_rfl
theorem by41 : tby Try.prog 41 = some 24 := by kernel_rfl
theorem ag41 : tagg Try.prog 41 = some false := by kernel_rfl
theorem sl41 : tsl Try.prog 41 = some 65 := by kernel_rfl
theorem ar41 : tarr Try.prog 41 = none := by kernel_rfl
theorem pt41 : tptr Try.prog 41 = none := by kernel_rfl
theorem un41 : (Try.prog.underlying 41).isSome = true := by kernel_rfl
theorem po41 : tpos Try.prog 41 = true := by kernel_rfl
def z41 : AV := .sl 33 [] 1
theorem zo41 : ZeroOK Try.prog 41 z41 := ZeroOK.mk (.slice none 0 0) (by kernel_rfl) (by kernel_rfl) (by kernel_rfl) (by kernel_rfl)
theorem sz43 : tsz Try.prog 43 = some 40 := by kernel_rfl
theorem by43 : tby Try.prog 43 = some 160 := by kernel_rfl
theorem ag43 : tagg Try.prog 43 = some true := by kernel_rfl
theorem sl43 : tsl Try.prog 43 = none := by kernel_rfl
theorem ar43 : tarr Try.prog 43 = none := by kernel_rfl
theorem pt43 : tptr Try.prog 43 = none := by kernel_rfl
theorem un43 : (Try.prog.underlying 43).isSome = true := by kernel_rfl
theorem fl43_0 : tfld Try.prog 43 0 = some (0, 36) := by kernel_rfl
theorem fl43_1 : tfld Try.prog 43 1 = some (1, 40) := by kernel_rfl
theorem fl43_2 : tfld Try.prog 43 2 = some (2, 39) := by kernel_rfl
theorem fl43_3 : tfld Try.prog 43 3 = some (39, 41) := by kernel_rfl
theorem fs43 : tflds Try.prog 43 = true := by kernel_rfl
theorem po43 : tpos Try.prog 43 = true := by kernel_rfl
def z43 : AV := .agg 40 [.sl 35 [] 1, .sl 2 [] 1, .agg 37 [.val (.int .i64 0), .val (.int .i64 0), .val (.int .i64 0), .val (.int .i64 0), .vec 1 (List.replicate 32 (.val (.int .u8 0))), .sl 1 [] 1], .sl 33 [] 1]
theorem zo43 : ZeroOK Try.prog 43 z43 := ZeroOK.mk (.agg #[.slice none 0 0, .slice none 0 0, .int .i64 0, .int .i64 0, .int .i64 0, .int .i64 0, .int .u8 0, .int .u8 0, .int .u8 0, .int .u8 0, .int .u8 0, .int .u8 0, .int .u8 0, .int .u8 0, .int .u8 0, .int .u8 0, .int .u8 0, .int .u8 0, .int .u8 0, .int .u8 0, .int .u8 0, .int .u8 0, .int .u8 0, .int .u8 0, .int .u8 0, .int .u8 0, .int .u8 0, .int .u8 0, .int .u8 0, .int .u8 0, .int .u8 0, .int .u8 0, .int .u8 0, .int .u8 0, .int .u8 0, .int .u8 0, .int .u8 0, .int .u8 0, .slice none 0 0, .slice none 0 0]) (by kernel_rfl) (by kernel_rfl) (by kernel_rfl) (by kernel_rfl)
theorem sz44 : tsz Try.prog 44 = some 1 := by kernel_rfl
theorem by44 : tby Try.prog 44 = some 24 := by kernel_rfl
theorem ag44 : tagg Try.prog 44 = some false := by kernel_rfl
theorem sl44 : tsl Try.prog 44 = some 88 := by kernel_rfl
theorem ar44 : tarr Try.prog 44 = none := by kernel_rfl
theorem pt44 : tptr Try.prog 44 = none := by kernel_rfl
theorem un44 : (Try.prog.underlying 44).isSome = true := by kernel_rfl
theorem po44 : tpos Try.prog 44 = true := by kernel_rfl
def z44 : AV := .sl 35 [] 1
theorem zo44 : ZeroOK Try.prog 44 z44 := ZeroOK.mk (.slice none 0 0) (by kernel_rfl) (by kernel_rfl) (by kernel_rfl) (by kernel_rfl)
theorem sz46 : tsz Try.prog 46 = some 2 := by kernel_rfl
theorem by46 : tby Try.prog 46 = some 32 := by kernel_rfl
theorem ag46 : tagg Try.prog 46 = some true := by kernel_rfl
theorem sl46 : tsl Try.prog 46 = none := by kernel_rfl
theorem ar46 : tarr Try.prog 46 = none := by kernel_rfl
theorem pt46 : tptr Try.prog 46 = none := by kernel_rfl
theorem un46 : (Try.prog.underlying 46).isSome = true := by kernel_rfl
theorem fl46_0 : tfld Try.prog 46 0 = some (0, 2) := by kernel_rfl
theorem fl46_1 : tfld Try.prog 46 1 = some (1, 44) := by kernel_rfl
theorem fs46 : tflds Try.prog 46 = true := by kernel_rfl
theorem po46 : tpos Try.prog 46 = true := by kernel_rfl
def z46 : AV := .agg 2 [.val (.int .i64 0), .sl 35 [] 1]
theorem zo46 : ZeroOK Try.prog 46 z46 := ZeroOK.mk (.agg #[.int .i64 0, .slice none 0 0]) (by kernel_rfl) (by kernel_rfl) (by kernel_rfl) (by kernel_rfl)
theorem sz54 : tsz Try.prog 54 = some 1 := by kernel_rfl
theorem by54 : tby Try.prog 54 = some 24 := by kernel_rfl
theorem ag54 : tagg Try.prog 54 = some false := by kernel_rfl
theorem sl54 : tsl Try.prog 54 = some 71 := by kernel_rfl
theorem ar54 : tarr Try.prog 54 = none := by kernel_rfl
theorem pt54 : tptr Try.prog 54 = none := by kernel_rfl
theorem un54 : (Try.prog.underlying 54).isSome = true := by kernel_rfl
theorem po54 : tpos Try.prog 54 = true := by kernel_rfl
def z54 : AV := .sl 274 [] 1
theorem zo54 : ZeroOK Try.prog 54 z54 := ZeroOK.mk (.slice none 0 0) (by kernel_rfl) (by kernel_rfl) (by kernel_rfl) (by kernel_rfl)
theorem sz56 : tsz Try.prog 56 = some 38 := by kernel_rfl
theorem by56 : tby Try.prog 56 = some 80 := by kernel_rfl
theorem ag56 : tagg Try.prog 56 = some true := by kernel_rfl
theorem sl56 : tsl Try.prog 56 = none := by kernel_rfl
theorem ar56 : tarr Try.prog 56 = none := by kernel_rfl
theorem pt56 : tptr Try.prog 56 = none := by kernel_rfl
theorem un56 : (Try.prog.underlying 56).isSome = true := by kernel_rfl
theorem fl56_0 : tfld Try.prog 56 0 = some (0, 4) := by kernel_rfl
theorem fl56_1 : tfld Try.prog 56 1 = some (1, 3) := by kernel_rfl
theorem fl56_2 : tfld Try.prog 56 2 = some (2, 3) := by kernel_rfl
theorem fl56_3 : tfld Try.prog 56 3 = some (3, 23) := by kernel_rfl
theorem fl56_4 : tfld Try.prog 56 4 = some (35, 3) := by kernel_rfl
theorem fl56_5 : tfld Try.prog 56 5 = some (36, 3) := by kernel_rfl
theorem fl56_6 : tfld Try.prog 56 6 = some (37, 3) := by kernel_rfl
theorem fs56 : tflds Try.prog 56 = true := by kernel_rfl
theorem po56 : tpos Try.prog 56 = true := by kernel_rfl
theorem tq56 : teq Try.prog 56 = true := by kernel_rfl
theorem tc56 : tcmp Try.prog 56 = some [(0, 4), (1, 3), (2, 3), (3, 23), (35, 3), (36, 3), (37, 3)] := by kernel_rfl
def z56 : AV := .agg 38 [.val (.bool false), .val (.int .i64 0), .val (.int .i64 0), .vec 1 (List.replicate 32 (.val (.int .u8 0))), .val (.int .i64 0), .val (.int .i64 0), .val (.int .i64 0)]
theorem zo56 : ZeroOK Try.prog 56 z56 := ZeroOK.mk (.agg #[.bool false, .int .i64 0, .int .i64 0, .int .u8 0, .int .u8 0, .int .u8 0, .int .u8 0, .int .u8 0, .int .u8 0, .int .u8 0, .int .u8 0, .int .u8 0, .int .u8 0, .int .u8 0, .int .u8 0, .int .u8 0, .int .u8 0, .int .u8 0, .int .u8 0, .int .u8 0, .int .u8 0, .int .u8 0, .int .u8 0, .int .u8 0, .int .u8 0, .int .u8 0, .int .u8 0, .int .u8 0, .int .u8 0, .int .u8 0, .int .u8 0, .int .u8 0, .int .u8 0, .int .u8 0, .int .u8 0, .int .i64 0, .int .i64 0, .int .i64 0]) (by kernel_rfl) (by kernel_rfl) (by kernel_rfl) (by kernel_rfl)
theorem sz58 : tsz Try.prog 58 = some 1 := by kernel_rfl
theorem by58 : tby Try.prog 58 = some 8 := by kernel_rfl
theorem ag58 : tagg Try.prog 58 = some false := by kernel_rfl
theorem sl58 : tsl Try.prog 58 = none := by kernel_rfl
theorem ar58 : tarr Try.prog 58 = none := by kernel_rfl
theorem pt58 : tptr Try.prog 58 = some 107 := by kernel_rfl
theorem un58 : (Try.prog.underlying 58).isSome = true := by kernel_rfl
theorem po58 : tpos Try.prog 58 = true := by kernel_rfl
def z58 : AV := .val (.pointer none)
theorem zo58 : ZeroOK Try.prog 58 z58 := ZeroOK.mk (.pointer none) (by kernel_rfl) (by kernel_rfl) (by kernel_rfl) (by kernel_rfl)
theorem sz61 : tsz Try.prog 61 = some 64 := by kernel_rfl
theorem by61 : tby Try.prog 61 = some 64 := by kernel_rfl
theorem ag61 : tagg Try.prog 61 = some true := by kernel_rfl
theorem sl61 : tsl Try.prog 61 = none := by kernel_rfl
theorem ar61 : tarr Try.prog 61 = some (2, 23) := by kernel_rfl
theorem pt61 : tptr Try.prog 61 = none := by kernel_rfl
theorem un61 : (Try.prog.underlying 61).isSome = true := by kernel_rfl
theorem po61 : tpos Try.prog 61 = true := by kernel_rfl
theorem tq61 : teq Try.prog 61 = true := by kernel_rfl
def z61 : AV := .vec 32 (List.replicate 2 (.vec 1 (List.replicate 32 (.val (.int .u8 0)))))
theorem zo61 : ZeroOK Try.prog 61 z61 := ZeroOK.mk (.agg #[.int .u8 0, .int .u8 0, .int .u8 0, .int .u8 0, .int .u8 0, .int .u8 0, .int .u8 0, .int .u8 0, .int .u8 0, .int .u8 0, .int .u8 0, .int .u8 0, .int .u8 0, .int .u8 0, .int .u8 0, .int .u8 0, .int .u8 0, .int .u8 0, .int .u8 0, .int .u8 0, .int .u8 0, .int .u8 0, .int .u8 0, .int .u8 0, .int .u8 0, .int .u8 0, .int .u8 0, .int .u8 0, .int .u8 0, .int .u8 0, .int .u8 0, .int .u8 0, .int .u8 0, .int .u8 0, .int .u8 0, .int .u8 0, .int .u8 0, .int .u8 0, .int .u8 0, .int .u8 0, .int .u8 0, .int .u8 0, .int .u8 0, .int .u8 0, .int .u8 0, .int .u8 0, .int .u8 0, .int .u8 0, .int .u8 0, .int .u8 0, .int .u8 0, .int .u8 0, .int .u8 0, .int .u8 0, .int .u8 0, .int .u8 0, .int .u8 0, .int .u8 0, .int .u8 0, .int .u8 0, .int .u8 0, .int .u8 0, .int .u8 0, .int .u8 0]) (by kernel_rfl) (by kernel_rfl) (by kernel_rfl) (by kernel_rfl)
theorem sz63 : tsz Try.prog 63 = some 67 := by kernel_rfl
theorem by63 : tby Try.prog 63 = some 88 := by kernel_rfl
theorem ag63 : tagg Try.prog 63 = some true := by kernel_rfl
theorem sl63 : tsl Try.prog 63 = none := by kernel_rfl
theorem ar63 : tarr Try.prog 63 = none := by kernel_rfl
theorem pt63 : tptr Try.prog 63 = none := by kernel_rfl
theorem un63 : (Try.prog.underlying 63).isSome = true := by kernel_rfl
theorem fl63_0 : tfld Try.prog 63 0 = some (0, 3) := by kernel_rfl
theorem fl63_1 : tfld Try.prog 63 1 = some (1, 2) := by kernel_rfl
theorem fl63_2 : tfld Try.prog 63 2 = some (2, 2) := by kernel_rfl
theorem fl63_3 : tfld Try.prog 63 3 = some (3, 61) := by kernel_rfl
theorem fs63 : tflds Try.prog 63 = true := by kernel_rfl
theorem po63 : tpos Try.prog 63 = true := by kernel_rfl
theorem tq63 : teq Try.prog 63 = true := by kernel_rfl
theorem tc63 : tcmp Try.prog 63 = some [(0, 3), (1, 2), (2, 2), (3, 61)] := by kernel_rfl
def z63 : AV := .agg 67 [.val (.int .i64 0), .val (.int .i64 0), .val (.int .i64 0), .vec 32 (List.replicate 2 (.vec 1 (List.replicate 32 (.val (.int .u8 0)))))]
theorem zo63 : ZeroOK Try.prog 63 z63 := ZeroOK.mk (.agg #[.int .i64 0, .int .i64 0, .int .i64 0, .int .u8 0, .int .u8 0, .int .u8 0, .int .u8 0, .int .u8 0, .int .u8 0, .int .u8 0, .int .u8 0, .int .u8 0, .int .u8 0, .int .u8 0, .int .u8 0, .int .u8 0, .int .u8 0, .int .u8 0, .int .u8 0, .int .u8 0, .int .u8 0, .int .u8 0, .int .u8 0, .int .u8 0, .int .u8 0, .int .u8 0, .int .u8 0, .int .u8 0, .int .u8 0, .int .u8 0, .int .u8 0, .int .u8 0, .int .u8 0, .int .u8 0, .int .u8 0, .int .u8 0, .int .u8 0, .int .u8 0, .int .u8 0, .int .u8 0, .int .u8 0, .int .u8 0, .int .u8 0, .int .u8 0, .int .u8 0, .int .u8 0, .int .u8 0, .int .u8 0, .int .u8 0, .int .u8 0, .int .u8 0, .int .u8 0, .int .u8 0, .int .u8 0, .int .u8 0, .int .u8 0, .int .u8 0, .int .u8 0, .int .u8 0, .int .u8 0, .int .u8 0, .int .u8 0, .int .u8 0, .int .u8 0, .int .u8 0, .int .u8 0, .int .u8 0]) (by kernel_rfl) (by kernel_rfl) (by kernel_rfl) (by kernel_rfl)
theorem sz65 : tsz Try.prog 65 = some 33 := by kernel_rfl
theorem by65 : tby Try.prog 65 = some 40 := by kernel_rfl
theorem ag65 : tagg Try.prog 65 = some true := by kernel_rfl
theorem sl65 : tsl Try.prog 65 = none := by kernel_rfl
theorem ar65 : tarr Try.prog 65 = none := by kernel_rfl
theorem pt65 : tptr Try.prog 65 = none := by kernel_rfl
theorem un65 : (Try.prog.underlying 65).isSome = true := by kernel_rfl
theorem fl65_0 : tfld Try.prog 65 0 = some (0, 3) := by kernel_rfl
theorem fl65_1 : tfld Try.prog 65 1 = some (1, 23) := by kernel_rfl
theorem fs65 : tflds Try.prog 65 = true := by kernel_rfl
theorem po65 : tpos Try.prog 65 = true := by kernel_rfl
theorem tq65 : teq Try.prog 65 = true := by kernel_rfl
theorem tc65 : tcmp Try.prog 65 = some [(0, 3), (1, 23)] := by kernel_rfl
def z65 : AV := .agg 33 [.val (.int .i64 0), .vec 1 (List.replicate 32 (.val (.int .u8 0)))]
theorem zo65 : ZeroOK Try.prog 65 z65 := ZeroOK.mk (.agg #[.int .i64 0, .int .u8 0, .int .u8 0, .int .u8 0, .int .u8 0, .int .u8 0, .int .u8 0, .int .u8 0, .int .u8 0, .int .u8 0, .int .u8 0, .int .u8 0, .int .u8 0, .int .u8 0, .int .u8 0, .int .u8 0, .int .u8 0, .int .u8 0, .int .u8 0, .int .u8 0, .int .u8 0, .int .u8 0, .int .u8 0, .int .u8 0, .int .u8 0, .int .u8 0, .int .u8 0, .int .u8 0, .int .u8 0, .int .u8 0, .int .u8 0, .int .u8 0, .int .u8 0]) (by kernel_rfl) (by kernel_rfl) (by kernel_rfl) (by kernel_rfl)
theorem sz67 : tsz Try.prog 67 = some 67 := by kernel_rfl
theorem by67 : tby Try.prog 67 = some 88 := by kernel_rfl
theorem ag67 : tagg Try.prog 67 = some true := by kernel_rfl
theorem sl67 : tsl Try.prog 67 = none := by kernel_rfl
theorem ar67 : tarr Try.prog 67 = none := by kernel_rfl
theorem pt67 : tptr Try.prog 67 = none := by kernel_rfl
theorem un67 : (Try.prog.underlying 67).isSome = true := by kernel_rfl
theorem fl67_0 : tfld Try.prog 67 0 = some (0, 3) := by kernel_rfl
theorem fl67_1 : tfld Try.prog 67 1 = some (1, 3) := by kernel_rfl
theorem fl67_2 : tfld Try.prog 67 2 = some (2, 3) := by kernel_rfl
theorem fl67_3 : tfld Try.prog 67 3 = some (3, 23) := by kernel_rfl
theorem fl67_4 : tfld Try.prog 67 4 = some (35, 23) := by kernel_rfl
theorem fs67 : tflds Try.prog 67 = true := by kernel_rfl
theorem po67 : tpos Try.prog 67 = true := by kernel_rfl
theorem tq67 : teq Try.prog 67 = true := by kernel_rfl
theorem tc67 : tcmp Try.prog 67 = some [(0, 3), (1, 3), (2, 3), (3, 23), (35, 23)] := by kernel_rfl
def z67 : AV := .agg 67 [.val (.int .i64 0), .val (.int .i64 0), .val (.int .i64 0), .vec 1 (List.replicate 32 (.val (.int .u8 0))), .vec 1 (List.replicate 32 (.val (.int .u8 0)))]
theorem zo67 : ZeroOK Try.prog 67 z67 := ZeroOK.mk (.agg #[.int .i64 0, .int .i64 0, .int .i64 0, .int .u8 0, .int .u8 0, .int .u8 0, .int .u8 0, .int .u8 0, .int .u8 0, .int .u8 0, .int .u8 0, .int .u8 0, .int .u8 0, .int .u8 0, .int .u8 0, .int .u8 0, .int .u8 0, .int .u8 0, .int .u8 0, .int .u8 0, .int .u8 0, .int .u8 0, .int .u8 0, .int .u8 0, .int .u8 0, .int .u8 0, .int .u8 0, .int .u8 0, .int .u8 0, .int .u8 0, .int .u8 0, .int .u8 0, .int .u8 0, .int .u8 0, .int .u8 0, .int .u8 0, .int .u8 0, .int .u8 0, .int .u8 0, .int .u8 0, .int .u8 0, .int .u8 0, .int .u8 0, .int .u8 0, .int .u8 0, .int .u8 0, .int .u8 0, .int .u8 0, .int .u8 0, .int .u8 0, .int .u8 0, .int .u8 0, .int .u8 0, .int .u8 0, .int .u8 0, .int .u8 0, .int .u8 0, .int .u8 0, .int .u8 0, .int .u8 0, .int .u8 0, .int .u8 0, .int .u8 0, .int .u8 0, .int .u8 0, .int .u8 0, .int .u8 0]) (by kernel_rfl) (by kernel_rfl) (by kernel_rfl) (by kernel_rfl)
theorem sz69 : tsz Try.prog 69 = some 68 := by kernel_rfl
theorem by69 : tby Try.prog 69 = some 112 := by kernel_rfl
theorem ag69 : tagg Try.prog 69 = some true := by kernel_rfl
theorem sl69 : tsl Try.prog 69 = none := by kernel_rfl
theorem ar69 : tarr Try.prog 69 = none := by kernel_rfl
theorem pt69 : tptr Try.prog 69 = none := by kernel_rfl
theorem un69 : (Try.prog.underlying 69).isSome = true := by kernel_rfl
theorem fl69_0 : tfld Try.prog 69 0 = some (0, 67) := by kernel_rfl
theorem fl69_1 : tfld Try.prog 69 1 = some (67, 33) := by kernel_rfl
theorem fs69 : tflds Try.prog 69 = true := by kernel_rfl
theorem po69 : tpos Try.prog 69 = true := by kernel_rfl
def z69 : AV := .agg 68 [.agg 67 [.val (.int .i64 0), .val (.int .i64 0), .val (.int .i64 0), .vec 1 (List.replicate 32 (.val (.int .u8 0))), .vec 1 (List.replicate 32 (.val (.int .u8 0)))], .sl 1 [] 1]
theorem zo69 : ZeroOK Try.prog 69 z69 := ZeroOK.mk (.agg #[.int .i64 0, .int .i64 0, .int .i64 0, .int .u8 0, .int .u8 0, .int .u8 0, .int .u8 0, .int .u8 0, .int .u8 0, .int .u8 0, .int .u8 0, .int .u8 0, .int .u8 0, .int .u8 0, .int .u8 0, .int .u8 0, .int .u8 0, .int .u8 0, .int .u8 0, .int .u8 0, .int .u8 0, .int .u8 0, .int .u8 0, .int .u8 0, .int .u8 0, .int .u8 0, .int .u8 0, .int .u8 0, .int .u8 0, .int .u8 0, .int .u8 0, .int .u8 0, .int .u8 0, .int .u8 0, .int .u8 0, .int .u8 0, .int .u8 0, .int .u8 0, .int .u8 0, .int .u8 0, .int .u8 0, .int .u8 0, .int .u8 0, .int .u8 0, .int .u8 0, .int .u8 0, .int .u8 0, .int .u8 0, .int .u8 0, .int .u8 0, .int .u8 0, .int .u8 0, .int .u8 0, .int .u8 0, .int .u8 0, .int .u8 0, .int .u8 0, .int .u8 0, .int .u8 0, .int .u8 0, .int .u8 0, .int .u8 0, .int .u8 0, .int .u8 0, .int .u8 0, .int .u8 0, .int .u8 0, .slice none 0 0]) (by kernel_rfl) (by kernel_rfl) (by kernel_rfl) (by kernel_rfl)
theorem sz71 : tsz Try.prog 71 = some 274 := by kernel_rfl
theorem by71 : tby Try.prog 71 = some 432 := by kernel_rfl
theorem ag71 : tagg Try.prog 71 = some true := by kernel_rfl
theorem sl71 : tsl Try.prog 71 = none := by kernel_rfl
theorem ar71 : tarr Try.prog 71 = none := by kernel_rfl
theorem pt71 : tptr Try.prog 71 = none := by kernel_rfl
theorem un71 : (Try.prog.underlying 71).isSome = true := by kernel_rfl
theorem fl71_0 : tfld Try.prog 71 0 = some (0, 3) := by kernel_rfl
theorem fl71_1 : tfld Try.prog 71 1 = some (1, 27) := by kernel_rfl
theorem fl71_2 : tfld Try.prog 71 2 = some (40, 63) := by kernel_rfl
theorem fl71_3 : tfld Try.prog 71 3 = some (107, 65) := by kernel_rfl
theorem fl71_4 : tfld Try.prog 71 4 = some (140, 23) := by kernel_rfl
theorem fl71_5 : tfld Try.prog 71 5 = some (172, 3) := by kernel_rfl
theorem fl71_6 : tfld Try.prog 71 6 = some (173, 23) := by kernel_rfl
theorem fl71_7 : tfld Try.prog 71 7 = some (205, 69) := by kernel_rfl
theorem fl71_8 : tfld Try.prog 71 8 = some (273, 33) := by kernel_rfl
theorem fs71 : tflds Try.prog 71 = true := by kernel_rfl
theorem po71 : tpos Try.prog 71 = true := by kernel_rfl
def z71 : AV := .agg 274 [.val (.int .i64 0), .agg 39 [.val (.int .i64 0), .val (.int .i64 0), .val (.int .i64 0), .agg 33 [.vec 1 (List.replicate 32 (.val (.int .u8 0))), .val (.int .i64 0)], .val (.int .i64 0), .val (.int .i64 0), .val (.int .i64 0)], .agg 67 [.val (.int .i64 0), .val (.int .i64 0), .val (.int .i64 0), .vec 32 (List.replicate 2 (.vec 1 (List.replicate 32 (.val (.int .u8 0)))))], .agg 33 [.val (.int .i64 0), .vec 1 (List.replicate 32 (.val (.int .u8 0)))], .vec 1 (List.replicate 32 (.val (.int .u8 0))), .val (.int .i64 0), .vec 1 (List.replicate 32 (.val (.int .u8 0))), .agg 68 [.agg 67 [.val (.int .i64 0), .val (.int .i64 0), .val (.int .i64 0), .vec 1 (List.replicate 32 (.val (.int .u8 0))), .vec 1 (List.replicate 32 (.val (.int .u8 0)))], .sl 1 [] 1], .sl 1 [] 1]
theorem zo71 : ZeroOK Try.prog 71 z71 := ZeroOK.mk (.agg #[.int .i64 0, .int .i64 0, .int .i64 0, .int .i64 0, .int .u8 0, .int .u8 0, .int .u8 0, .int .u8 0, .int .u8 0, .int .u8 0, .int .u8 0, .int .u8 0, .int .u8 0, .int .u8 0, .int .u8 0, .int .u8 0, .int .u8 0, .int .u8 0, .int .u8 0, .int .u8 0, .int .u8 0, .int .u8 0, .int .u8 0, .int .u8 0, .int .u8 0, .int .u8 0, .int .u8 0, .int .u8 0, .int .u8 0, .int .u8 0, .int .u8 0, .int .u8 0, .int .u8 0, .int .u8 0, .int .u8 0, .int .u8 0, .int .i64 0, .int .i64 0, .int .i64 0, .int .i64 0, .int .i64 0, .int .i64 0, .int .i64 0, .int .u8 0, .int .u8 0, .int .u8 0, .int .u8 0, .int .u8 0, .int .u8 0, .int .u8 0, .int .u8 0, .int .u8 0, .int .u8 0, .int .u8 0, .int .u8 0, .int .u8 0, .int .u8 0, .int .u8 0, .int .u8 0, .int .u8 0, .int .u8 0, .int .u8 0, .int .u8 0, .int .u8 0, .int .u8 0, .int .u8 0, .int .u8 0, .int .u8 0, .int .u8 0, .int .u8 0, .int .u8 0, .int .u8 0, .int .u8 0, .int .u8 0, .int .u8 0, .int .u8 0, .int .u8 0, .int .u8 0, .int .u8 0, .int .u8 0, .int .u8 0, .int .u8 0, .int .u8 0, .int .u8 0, .int .u8 0, .int .u8 0, .int .u8 0, .int .u8 0, .int .u8 0, .int .u8 0, .int .u8 0, .int .u8 0, .int .u8 0, .int .u8 0, .int .u8 0, .int .u8 0, .int .u8 0, .int .u8 0, .int .u8 0, .int .u8 0, .int .u8 0, .int .u8 0, .int .u8 0, .int .u8 0, .int .u8 0, .int .u8 0, .int .u8 0, .int .i64 0, .int .u8 0, .int .u8 0, .int .u8 0, .int .u8 0, .int .u8 0, .int .u8 0, .int .u8 0, .int .u8 0, .int .u8 0, .int .u8 0, .int .u8 0, .int .u8 0, .int .u8 0, .int .u8 0, .int .u8 0, .int .u8 0, .int .u8 0, .int .u8 0, .int .u8 0, .int .u8 0, .int .u8 0, .int .u8 0, .int .u8 0, .int .u8 0, .int .u8 0, .int .u8 0, .int .u8 0, .int .u8 0, .int .u8 0, .int .u8 0, .int .u8 0, .int .u8 0, .int .u8 0, .int .u8 0, .int .u8 0, .int .u8 0, .int .u8 0, .int .u8 0, .int .u8 0, .int .u8 0, .int .u8 0, .int .u8 0, .int .u8 0, .int .u8 0, .int .u8 0, .int .u8 0, .int .u8 0, .int .u8 0, .int .u8 0, .int .u8 0, .int .u8 0, .int .u8 0, .int .u8 0, .int .u8 0, .int .u8 0, .int .u8 0, .int .u8 0, .int .u8 0, .int .u8 0, .int .u8 0, .int .u8 0, .int .u8 0, .int .u8 0, .int .u8 0, .int .i64 0, .int .u8 0, .int .u8 0, .int .u8 0, .int .u8 0, .int .u8 0, .int .u8 0, .int .u8 0, .int .u8 0, .int .u8 0, .int .u8 0, .int .u8 0, .int .u8 0, .int .u8 0, .int .u8 0, .int .u8 0, .int .u8 0, .int .u8 0, .int .u8 0, .int .u8 0, .int .u8 0, .int .u8 0, .int .u8 0, .int .u8 0, .int .u8 0, .int .u8 0, .int .u8 0, .int .u8 0, .int .u8 0, .int .u8 0, .int .u8 0, .int .u8 0, .int .u8 0, .int .i64 0, .int .i64 0, .int .i64 0, .int .u8 0, .int .u8 0, .int .u8 0, .int .u8 0, .int .u8 0, .int .u8 0, .int .u8 0, .int .u8 0, .int .u8 0, .int .u8 0, .int .u8 0, .int .u8 0, .int .u8 0, .int .u8 0, .int .u8 0, .int .u8 0, .int .u8 0, .int .u8 0, .int .u8 0, .int .u8 0, .int .u8 0, .int .u8 0, .int .u8 0, .int .u8 0, .int .u8 0, .int .u8 0, .int .u8 0, .int .u8 0, .int .u8 0, .int .u8 0, .int .u8 0, .int .u8 0, .int .u8 0, .int .u8 0, .int .u8 0, .int .u8 0, .int .u8 0, .int .u8 0, .int .u8 0, .int .u8 0, .int .u8 0, .int .u8 0, .int .u8 0, .int .u8 0, .int .u8 0, .int .u8 0, .int .u8 0, .int .u8 0, .int .u8 0, .int .u8 0, .int .u8 0, .int .u8 0, .int .u8 0, .int .u8 0, .int .u8 0, .int .u8 0, .int .u8 0, .int .u8 0, .int .u8 0, .int .u8 0, .int .u8 0, .int .u8 0, .int .u8 0, .int .u8 0, .slice none 0 0, .slice none 0 0]) (by kernel_rfl) (by kernel_rfl) (by kernel_rfl) (by kernel_rfl)
theorem sz72 : tsz Try.prog 72 = some 1 := by kernel_rfl
theorem by72 : tby Try.prog 72 = some 24 := by kernel_rfl
theorem ag72 : tagg Try.prog 72 = some false := by kernel_rfl
theorem sl72 : tsl Try.prog 72 = some 23 := by kernel_rfl
theorem ar72 : tarr Try.prog 72 = none := by kernel_rfl
theorem pt72 : tptr Try.prog 72 = none := by kernel_rfl
theorem un72 : (Try.prog.underlying 72).isSome = true := by kernel_rfl
theorem po72 : tpos Try.prog 72 = true := by kernel_rfl
def z72 : AV := .sl 32 [] 1
theorem zo72 : ZeroOK Try.prog 72 z72 := ZeroOK.mk (.slice none 0 0) (by kernel_rfl) (by kernel_rfl) (by kernel_rfl) (by kernel_rfl)
theorem sz77 : tsz Try.prog 77 = some 1 := by kernel_rfl
theorem by77 : tby Try.prog 77 = some 8 := by kernel_rfl
theorem ag77 : tagg Try.prog 77 = some false := by kernel_rfl
theorem sl77 : tsl Try.prog 77 = none := by kernel_rfl
theorem ar77 : tarr Try.prog 77 = none := by kernel_rfl
theorem pt77 : tptr Try.prog 77 = some 110 := by kernel_rfl
theorem un77 : (Try.prog.underlying 77).isSome = true := by kernel_rfl
theorem po77 : tpos Try.prog 77 = true := by kernel_rfl
def z77 : AV := .val (.pointer none)
theorem zo77 : ZeroOK Try.prog 77 z77 := ZeroOK.mk (.pointer none) (by kernel_rfl) (by kernel_rfl) (by kernel_rfl) (by kernel_rfl)
theorem sz80 : tsz Try.prog 80 = some 1 := by kernel_rfl
theorem by80 : tby Try.prog 80 = some 24 := by kernel_rfl
theorem ag80 : tagg Try.prog 80 = some false := by kernel_rfl
theorem sl80 : tsl Try.prog 80 = some 115 := by kernel_rfl
theorem ar80 : tarr Try.prog 80 = none := by kernel_rfl
theorem pt80 : tptr Try.prog 80 = none := by kernel_rfl
theorem un80 : (Try.prog.underlying 80).isSome = true := by kernel_rfl
theorem po80 : tpos Try.prog 80 = true := by kernel_rfl
def z80 : AV := .sl 35 [] 1
theorem zo80 : ZeroOK Try.prog 80 z80 := ZeroOK.mk (.slice none 0 0) (by kernel_rfl) (by kernel_rfl) (by kernel_rfl) (by kernel_rfl)
theorem sz81 : tsz Try.prog 81 = some 1 := by kernel_rfl
theorem by81 : tby Try.prog 81 = some 24 := by kernel_rfl
theorem ag81 : tagg Try.prog 81 = some false := by kernel_rfl
theorem sl81 : tsl Try.prog 81 = some 69 := by kernel_rfl
theorem ar81 : tarr Try.prog 81 = none := by kernel_rfl
theorem pt81 : tptr Try.prog 81 = none := by kernel_rfl
theorem un81 : (Try.prog.underlying 81).isSome = true := by kernel_rfl
theorem po81 : tpos Try.prog 81 = true := by kernel_rfl
def z81 : AV := .sl 68 [] 1
theorem zo81 : ZeroOK Try.prog 81 z81 := ZeroOK.mk (.slice none 0 0) (by kernel_rfl) (by kernel_rfl) (by kernel_rfl) (by kernel_rfl)
theorem sz83 : tsz Try.prog 83 = some 4 := by kernel_rfl
theorem by83 : tby Try.prog 83 = some 64 := by kernel_rfl
theorem ag83 : tagg Try.prog 83 = some true := by kernel_rfl
theorem sl83 : tsl Try.prog 83 = none := by kernel_rfl
theorem ar83 : tarr Try.prog 83 = none := by kernel_rfl
theorem pt83 : tptr Try.prog 83 = none := by kernel_rfl
theorem un83 : (Try.prog.underlying 83).isSome = true := by kernel_rfl
theorem fl83_0 : tfld Try.prog 83 0 = some (0, 3) := by kernel_rfl
theorem fl83_1 : tfld Try.prog 83 1 = some (1, 77) := by kernel_rfl
theorem fl83_2 : tfld Try.prog 83 2 = some (2, 80) := by kernel_rfl
theorem fl83_3 : tfld Try.prog 83 3 = some (3, 81) := by kernel_rfl
theorem fs83 : tflds Try.prog 83 = true := by kernel_rfl
theorem po83 : tpos Try.prog 83 = true := by kernel_rfl
def z83 : AV := .agg 4 [.val (.int .i64 0), .val (.pointer none), .sl 35 [] 1, .sl 68 [] 1]
theorem zo83 : ZeroOK Try.prog 83 z83 := ZeroOK.mk (.agg #[.int .i64 0, .pointer none, .slice none 0 0, .slice none 0 0]) (by kernel_rfl) (by kernel_rfl) (by kernel_rfl) (by kernel_rfl)
theorem sz86 : tsz Try.prog 86 = some 1 := by kernel_rfl
theorem by86 : tby Try.prog 86 = some 24 := by kernel_rfl
theorem ag86 : tagg Try.prog 86 = some false := by kernel_rfl
theorem sl86 : tsl Try.prog 86 = some 3 := by kernel_rfl
theorem ar86 : tarr Try.prog 86 = none := by kernel_rfl
theorem pt86 : tptr Try.prog 86 = none := by kernel_rfl
theorem un86 : (Try.prog.underlying 86).isSome = true := by kernel_rfl
theorem po86 : tpos Try.prog 86 = true := by kernel_rfl
def z86 : AV := .sl 1 [] 1
theorem zo86 : ZeroOK Try.prog 86 z86 := ZeroOK.mk (.slice none 0 0) (by kernel_rfl) (by kernel_rfl) (by kernel_rfl) (by kernel_rfl)
theorem sz88 : tsz Try.prog 88 = some 35 := by kernel_rfl
theorem by88 : tby Try.prog 88 = some 72 := by kernel_rfl
theorem ag88 : tagg Try.prog 88 = some true := by kernel_rfl
theorem sl88 : tsl Try.prog 88 = none := by kernel_rfl
theorem ar88 : tarr Try.prog 88 = none := by kernel_rfl
theorem pt88 : tptr Try.prog 88 = none := by kernel_rfl
theorem un88 : (Try.prog.underlying 88).isSome = true := by kernel_rfl
theorem fl88_0 : tfld Try.prog 88 0 = some (0, 86) := by kernel_rfl
theorem fl88_1 : tfld Try.prog 88 1 = some (1, 23) := by kernel_rfl
theorem fl88_2 : tfld Try.prog 88 2 = some (33, 3) := by kernel_rfl
theorem fl88_3 : tfld Try.prog 88 3 = some (34, 3) := by kernel_rfl
theorem fs88 : tflds Try.prog 88 = true := by kernel_rfl
theorem po88 : tpos Try.prog 88 = true := by kernel_rfl
def z88 : AV := .agg 35 [.sl 1 [] 1, .vec 1 (List.replicate 32 (.val (.int .u8 0))), .val (.int .i64 0), .val (.int .i64 0)]
theorem zo88 : ZeroOK Try.prog 88 z88 := ZeroOK.mk (.agg #[.slice none 0 0, .int .u8 0, .int .u8 0, .int .u8 0, .int .u8 0, .int .u8 0, .int .u8 0, .int .u8 0, .int .u8 0, .int .u8 0, .int .u8 0, .int .u8 0, .int .u8 0, .int .u8 0, .int .u8 0, .int .u8 0, .int .u8 0, .int .u8 0, .int .u8 0, .int .u8 0, .int .u8 0, .int .u8 0, .int .u8 0, .int .u8 0, .int .u8 0, .int .u8 0, .int .u8 0, .int .u8 0, .int .u8 0, .int .u8 0, .int .u8 0, .int .u8 0, .int .u8 0, .int .i64 0, .int .i64 0]) (by kernel_rfl) (by kernel_rfl) (by kernel_rfl) (by kernel_rfl)
theorem sz90 : tsz Try.prog 90 = some 1 := by kernel_rfl
theorem by90 : tby Try.prog 90 = some 24 := by kernel_rfl
theorem ag90 : tagg Try.prog 90 = some true := by kernel_rfl
theorem sl90 : tsl Try.prog 90 = none := by kernel_rfl
theorem ar90 : tarr Try.prog 90 = none := by kernel_rfl
theorem pt90 : tptr Try.prog 90 = none := by kernel_rfl
theorem un90 : (Try.prog.underlying 90).isSome = true := by kernel_rfl
theorem fl90_0 : tfld Try.prog 90 0 = some (0, 33) := by kernel_rfl
theorem fs90 : tflds Try.prog 90 = true := by kernel_rfl
theorem po90 : tpos Try.prog 90 = true := by kernel_rfl
def z90 : AV := .agg 1 [.sl 1 [] 1]
theorem zo90 : ZeroOK Try.prog 90 z90 := ZeroOK.mk (.agg #[.slice none 0 0]) (by kernel_rfl) (by kernel_rfl) (by kernel_rfl) (by kernel_rfl)
theorem sz91 : tsz Try.prog 91 = some 1 := by kernel_rfl
theorem by91 : tby Try.prog 91 = some 8 := by kernel_rfl
theorem ag91 : tagg Try.prog 91 = some false := by kernel_rfl
theorem sl91 : tsl Try.prog 91 = none := by kernel_rfl
theorem ar91 : tarr Try.prog 91 = none := by kernel_rfl
theorem pt91 : tptr Try.prog 91 = some 90 := by kernel_rfl
theorem un91 : (Try.prog.underlying 91).isSome = true := by kernel_rfl
theorem po91 : tpos Try.prog 91 = true := by kernel_rfl
def z91 : AV := .val (.pointer none)
theorem zo91 : ZeroOK Try.prog 91 z91 := ZeroOK.mk (.pointer none) (by kernel_rfl) (by kernel_rfl) (by kernel_rfl) (by kernel_rfl)
theorem sz101 : tsz Try.prog 101 = some 1 := by kernel_rfl
theorem by101 : tby Try.prog 101 = some 8 := by kernel_rfl
theorem ag101 : tagg Try.prog 101 = some false := by kernel_rfl
theorem sl101 : tsl Try.prog 101 = none := by kernel_rfl
theorem ar101 : tarr Try.prog 101 = none := by kernel_rfl
theorem pt101 : tptr Try.prog 101 = none := by kernel_rfl
theorem mp101 : tmap Try.prog 101 = some (3, 23) := by kernel_rfl
theorem un101 : (Try.prog.underlying 101).isSome = true := by kernel_rfl
theorem po101 : tpos Try.prog 101 = true := by kernel_rfl
def z101 : AV := .val (.map none)
theorem zo101 : ZeroOK Try.prog 101 z101 := ZeroOK.mk (.map none) (by kernel_rfl) (by kernel_rfl) (by kernel_rfl) (by kernel_rfl)
theorem sz102 : tsz Try.prog 102 = some 1 := by kernel_rfl
theorem by102 : tby Try.prog 102 = some 24 := by kernel_rfl
theorem ag102 : tagg Try.prog 102 = some false := by kernel_rfl
theorem sl102 : tsl Try.prog 102 = some 63 := by kernel_rfl
theorem ar102 : tarr Try.prog 102 = none := by kernel_rfl
theorem pt102 : tptr Try.prog 102 = none := by kernel_rfl
theorem un102 : (Try.prog.underlying 102).isSome = true := by kernel_rfl
theorem po102 : tpos Try.prog 102 = true := by kernel_rfl
def z102 : AV := .sl 67 [] 1
theorem zo102 : ZeroOK Try.prog 102 z102 := ZeroOK.mk (.slice none 0 0) (by kernel_rfl) (by kernel_rfl) (by kernel_rfl) (by kernel_rfl)
theorem sz104 : tsz Try.prog 104 = some 1 := by kernel_rfl
theorem by104 : tby Try.prog 104 = some 24 := by kernel_rfl
theorem ag104 : tagg Try.prog 104 = some true := by kernel_rfl
theorem sl104 : tsl Try.prog 104 = none := by kernel_rfl
theorem ar104 : tarr Try.prog 104 = none := by kernel_rfl
theorem pt104 : tptr Try.prog 104 = none := by kernel_rfl
theorem un104 : (Try.prog.underlying 104).isSome = true := by kernel_rfl
theorem fl104_0 : tfld Try.prog 104 0 = some (0, 72) := by kernel_rfl
theorem fs104 : tflds Try.prog 104 = true := by kernel_rfl
theorem po104 : tpos Try.prog 104 = true := by kernel_rfl
def z104 : AV := .agg 1 [.sl 32 [] 1]
theorem zo104 : ZeroOK Try.prog 104 z104 := ZeroOK.mk (.agg #[.slice none 0 0]) (by kernel_rfl) (by kernel_rfl) (by kernel_rfl) (by kernel_rfl)
theorem sz105 : tsz Try.prog 105 = some 1 := by kernel_rfl
theorem by105 : tby Try.prog 105 = some 24 := by kernel_rfl
theorem ag105 : tagg Try.prog 105 = some false := by kernel_rfl
theorem sl105 : tsl Try.prog 105 = some 146 := by kernel_rfl
theorem ar105 : tarr Try.prog 105 = none := by kernel_rfl
theorem pt105 : tptr Try.prog 105 = none := by kernel_rfl
theorem un105 : (Try.prog.underlying 105).isSome = true := by kernel_rfl
theorem po105 : tpos Try.prog 105 = true := by kernel_rfl
def z105 : AV := .sl 69 [] 1
theorem zo105 : ZeroOK Try.prog 105 z105 := ZeroOK.mk (.slice none 0 0) (by kernel_rfl) (by kernel_rfl) (by kernel_rfl) (by kernel_rfl)
theorem sz107 : tsz Try.prog 107 = some 47 := by kernel_rfl
theorem by107 : tby Try.prog 107 = some 216 := by kernel_rfl
theorem ag107 : tagg Try.prog 107 = some true := by kernel_rfl
theorem sl107 : tsl Try.prog 107 = none := by kernel_rfl
theorem ar107 : tarr Try.prog 107 = none := by kernel_rfl
theorem pt107 : tptr Try.prog 107 = none := by kernel_rfl
theorem un107 : (Try.prog.underlying 107).isSome = true := by kernel_rfl
theorem fl107_0 : tfld Try.prog 107 0 = some (0, 27) := by kernel_rfl
theorem fl107_1 : tfld Try.prog 107 1 = some (39, 4) := by kernel_rfl
theorem fl107_2 : tfld Try.prog 107 2 = some (40, 102) := by kernel_rfl
theorem fl107_3 : tfld Try.prog 107 3 = some (41, 41) := by kernel_rfl
theorem fl107_4 : tfld Try.prog 107 4 = some (42, 104) := by kernel_rfl
theorem fl107_5 : tfld Try.prog 107 5 = some (43, 3) := by kernel_rfl
theorem fl107_6 : tfld Try.prog 107 6 = some (44, 105) := by kernel_rfl
theorem fl107_7 : tfld Try.prog 107 7 = some (45, 101) := by kernel_rfl
theorem fl107_8 : tfld Try.prog 107 8 = some (46, 4) := by kernel_rfl
theorem fs107 : tflds Try.prog 107 = true := by kernel_rfl
theorem po107 : tpos Try.prog 107 = true := by kernel_rfl
def z107 : AV := .agg 47 [.agg 39 [.val (.int .i64 0), .val (.int .i64 0), .val (.int .i64 0), .agg 33 [.vec 1 (List.replicate 32 (.val (.int .u8 0))), .val (.int .i64 0)], .val (.int .i64 0), .val (.int .i64 0), .val (.int .i64 0)], .val (.bool false), .sl 67 [] 1, .sl 33 [] 1, .agg 1 [.sl 32 [] 1], .val (.int .i64 0), .sl 69 [] 1, .val (.map none), .val (.bool false)]
theorem zo107 : ZeroOK Try.prog 107 z107 := ZeroOK.mk (.agg #[.int .i64 0, .int .i64 0, .int .i64 0, .int .u8 0, .int .u8 0, .int .u8 0, .int .u8 0, .int .u8 0, .int .u8 0, .int .u8 0, .int .u8 0, .int .u8 0, .int .u8 0, .int .u8 0, .int .u8 0, .int .u8 0, .int .u8 0, .int .u8 0, .int .u8 0, .int .u8 0, .int .u8 0, .int .u8 0, .int .u8 0, .int .u8 0, .int .u8 0, .int .u8 0, .int .u8 0, .int .u8 0, .int .u8 0, .int .u8 0, .int .u8 0, .int .u8 0, .int .u8 0, .int .u8 0, .int .u8 0, .int .i64 0, .int .i64 0, .int .i64 0, .int .i64 0, .bool false, .slice none 0 0, .slice none 0 0, .slice none 0 0, .int .i64 0, .slice none 0 0, .map none, .bool false]) (by kernel_rfl) (by kernel_rfl) (by kernel_rfl) (by kernel_rfl)
theorem sz110 : tsz Try.prog 110 = some 34 := by kernel_rfl
theorem by110 : tby Try.prog 110 = some 64 := by kernel_rfl
theorem ag110 : tagg Try.prog 110 = some true := by kernel_rfl
theorem sl110 : tsl Try.prog 110 = none := by kernel_rfl
theorem ar110 : tarr Try.prog 110 = none := by kernel_rfl
theorem pt110 : tptr Try.prog 110 = none := by kernel_rfl
theorem un110 : (Try.prog.underlying 110).isSome = true := by kernel_rfl
theorem fl110_0 : tfld Try.prog 110 0 = some (0, 23) := by kernel_rfl
theorem fl110_1 : tfld Try.prog 110 1 = some (32, 72) := by kernel_rfl
theorem fl110_2 : tfld Try.prog 110 2 = some (33, 3) := by kernel_rfl
theorem fs110 : tflds Try.prog 110 = true := by kernel_rfl
theorem po110 : tpos Try.prog 110 = true := by kernel_rfl
def z110 : AV := .agg 34 [.vec 1 (List.replicate 32 (.val (.int .u8 0))), .sl 32 [] 1, .val (.int .i64 0)]
theorem zo110 : ZeroOK Try.prog 110 z110 := ZeroOK.mk (.agg #[.int .u8 0, .int .u8 0, .int .u8 0, .int .u8 0, .int .u8 0, .int .u8 0, .int .u8 0, .int .u8 0, .int .u8 0, .int .u8 0, .int .u8 0, .int .u8 0, .int .u8 0, .int .u8 0, .int .u8 0, .int .u8 0, .int .u8 0, .int .u8 0, .int .u8 0, .int .u8 0, .int .u8 0, .int .u8 0, .int .u8 0, .int .u8 0, .int .u8 0, .int .u8 0, .int .u8 0, .int .u8 0, .int .u8 0, .int .u8 0, .int .u8 0, .int .u8 0, .slice none 0 0, .int .i64 0]) (by kernel_rfl) (by kernel_rfl) (by kernel_rfl) (by kernel_rfl)
theorem sz115 : tsz Try.prog 115 = some 35 := by kernel_rfl
theorem by115 : tby Try.prog 115 = some 72 := by kernel_rfl
theorem ag115 : tagg Try.prog 115 = some true := by kernel_rfl
theorem sl115 : tsl Try.prog 115 = none := by kernel_rfl
theorem ar115 : tarr Try.prog 115 = none := by kernel_rfl
theorem pt115 : tptr Try.prog 115 = none := by kernel_rfl
theorem un115 : (Try.prog.underlying 115).isSome = true := by kernel_rfl
theorem fl115_0 : tfld Try.prog 115 0 = some (0, 3) := by kernel_rfl
theorem fl115_1 : tfld Try.prog 115 1 = some (1, 3) := by kernel_rfl
theorem fl115_2 : tfld Try.prog 115 2 = some (2, 23) := by kernel_rfl
theorem fl115_3 : tfld Try.prog 115 3 = some (34, 33) := by kernel_rfl
theorem fs115 : tflds Try.prog 115 = true := by kernel_rfl
theorem po115 : tpos Try.prog 115 = true := by kernel_rfl
def z115 : AV := .agg 35 [.val (.int .i64 0), .val (.int .i64 0), .vec 1 (List.replicate 32 (.val (.int .u8 0))), .sl 1 [] 1]
theorem zo115 : ZeroOK Try.prog 115 z115 := ZeroOK.mk (.agg #[.int .i64 0, .int .i64 0, .int .u8 0, .int .u8 0, .int .u8 0, .int .u8 0, .int .u8 0, .int .u8 0, .int .u8 0, .int .u8 0, .int .u8 0, .int .u8 0, .int .u8 0, .int .u8 0, .int .u8 0, .int .u8 0, .int .u8 0, .int .u8 0, .int .u8 0, .int .u8 0, .int .u8 0, .int .u8 0, .int .u8 0, .int .u8 0, .int .u8 0, .int .u8 0, .int .u8 0, .int .u8 0, .int .u8 0, .int .u8 0, .int .u8 0, .int .u8 0, .int .u8 0, .int .u8 0, .slice none 0 0]) (by kernel_rfl) (by kernel_rfl) (by kernel_rfl) (by kernel_rfl)
theorem sz122 : tsz Try.prog 122 = some 1 := by kernel_rfl
theorem by122 : tby Try.prog 122 = some 8 := by kernel_rfl
theorem ag122 : tagg Try.prog 122 = some false := by kernel_rfl
theorem sl122 : tsl Try.prog 122 = none := by kernel_rfl
theorem ar122 : tarr Try.prog 122 = none := by kernel_rfl
theorem pt122 : tptr Try.prog 122 = none := by kernel_rfl
theorem un122 : (Try.prog.underlying 122).isSome = true := by kernel_rfl
theorem po122 : tpos Try.prog 122 = true := by kernel_rfl
def z122 : AV := .val .nilFunc
theorem zo122 : ZeroOK Try.prog 122 z122 := ZeroOK.mk (.nilFunc) (by kernel_rfl) (by kernel_rfl) (by kernel_rfl) (by kernel_rfl)
theorem sz125 : tsz Try.prog 125 = some 1 := by kernel_rfl
theorem by125 : tby Try.prog 125 = some 8 := by kernel_rfl
theorem ag125 : tagg Try.prog 125 = some false := by kernel_rfl
theorem sl125 : tsl Try.prog 125 = none := by kernel_rfl
theorem ar125 : tarr Try.prog 125 = none := by kernel_rfl
theorem pt125 : tptr Try.prog 125 = none := by kernel_rfl
theorem un125 : (Try.prog.underlying 125).isSome = true := by kernel_rfl
theorem po125 : tpos Try.prog 125 = true := by kernel_rfl
def z125 : AV := .val .nilFunc
theorem zo125 : ZeroOK Try.prog 125 z125 := ZeroOK.mk (.nilFunc) (by kernel_rfl) (by kernel_rfl) (by kernel_rfl) (by kernel_rfl)
theorem sz126 : tsz Try.prog 126 = some 1 := by kernel_rfl
theorem by126 : tby Try.prog 126 = some 8 := by kernel_rfl
theorem ag126 : tagg Try.prog 126 = some false := by kernel_rfl
theorem sl126 : tsl Try.prog 126 = none := by kernel_rfl
theorem ar126 : tarr Try.prog 126 = none := by kernel_rfl
theorem pt126 : tptr Try.prog 126 = some 167 := by kernel_rfl
theorem un126 : (Try.prog.underlying 126).isSome = true := by kernel_rfl
theorem po126 : tpos Try.prog 126 = true := by kernel_rfl
def z126 : AV := .val (.pointer none)
theorem zo126 : ZeroOK Try.prog 126 z126 := ZeroOK.mk (.pointer none) (by kernel_rfl) (by kernel_rfl) (by kernel_rfl) (by kernel_rfl)
theorem sz130 : tsz Try.prog 130 = some 34 := by kernel_rfl
theorem by130 : tby Try.prog 130 = some 48 := by kernel_rfl
theorem ag130 : tagg Try.prog 130 = some true := by kernel_rfl
theorem sl130 : tsl Try.prog 130 = none := by kernel_rfl
theorem ar130 : tarr Try.prog 130 = none := by kernel_rfl
theorem pt130 : tptr Try.prog 130 = none := by kernel_rfl
theorem un130 : (Try.prog.underlying 130).isSome = true := by kernel_rfl
theorem fl130_0 : tfld Try.prog 130 0 = some (0, 23) := by kernel_rfl
theorem fl130_1 : tfld Try.prog 130 1 = some (32, 3) := by kernel_rfl
theorem fl130_2 : tfld Try.prog 130 2 = some (33, 3) := by kernel_rfl
theorem fs130 : tflds Try.prog 130 = true := by kernel_rfl
theorem po130 : tpos Try.prog 130 = true := by kernel_rfl
theorem tq130 : teq Try.prog 130 = true := by kernel_rfl
theorem tc130 : tcmp Try.prog 130 = some [(0, 23), (32, 3), (33, 3)] := by kernel_rfl
def z130 : AV := .agg 34 [.vec 1 (List.replicate 32 (.val (.int .u8 0))), .val (.int .i64 0), .val (.int .i64 0)]
theorem zo130 : ZeroOK Try.prog 130 z130 := ZeroOK.mk (.agg #[.int .u8 0, .int .u8 0, .int .u8 0, .int .u8 0, .int .u8 0, .int .u8 0, .int .u8 0, .int .u8 0, .int .u8 0, .int .u8 0, .int .u8 0, .int .u8 0, .int .u8 0, .int .u8 0, .int .u8 0, .int .u8 0, .int .u8 0, .int .u8 0, .int .u8 0, .int .u8 0, .int .u8 0, .int .u8 0, .int .u8 0, .int .u8 0, .int .u8 0, .int .u8 0, .int .u8 0, .int .u8 0, .int .u8 0, .int .u8 0, .int .u8 0, .int .u8 0, .int .i64 0, .int .i64 0]) (by kernel_rfl) (by kernel_rfl) (by kernel_rfl) (by kernel_rfl)
theorem sz134 : tsz Try.prog 134 = some 41 := by kernel_rfl
theorem by134 : tby Try.prog 134 = some 168 := by kernel_rfl
theorem ag134 : tagg Try.prog 134 = some true := by kernel_rfl
theorem sl134 : tsl Try.prog 134 = none := by kernel_rfl
theorem ar134 : tarr Try.prog 134 = none := by kernel_rfl
theorem pt134 : tptr Try.prog 134 = none := by kernel_rfl
theorem un134 : (Try.prog.underlying 134).isSome = true := by kernel_rfl
theorem fl134_0 : tfld Try.prog 134 0 = some (0, 43) := by kernel_rfl
theorem fl134_1 : tfld Try.prog 134 1 = some (40, 3) := by kernel_rfl
theorem fs134 : tflds Try.prog 134 = true := by kernel_rfl
theorem po134 : tpos Try.prog 134 = true := by kernel_rfl
def z134 : AV := .agg 41 [.agg 40 [.sl 35 [] 1, .sl 2 [] 1, .agg 37 [.val (.int .i64 0), .val (.int .i64 0), .val (.int .i64 0), .val (.int .i64 0), .vec 1 (List.replicate 32 (.val (.int .u8 0))), .sl 1 [] 1], .sl 33 [] 1], .val (.int .i64 0)]
theorem zo134 : ZeroOK Try.prog 134 z134 := ZeroOK.mk (.agg #[.slice none 0 0, .slice none 0 0, .int .i64 0, .int .i64 0, .int .i64 0, .int .i64 0, .int .u8 0, .int .u8 0, .int .u8 0, .int .u8 0, .int .u8 0, .int .u8 0, .int .u8 0, .int .u8 0, .int .u8 0, .int .u8 0, .int .u8 0, .int .u8 0, .int .u8 0, .int .u8 0, .int .u8 0, .int .u8 0, .int .u8 0, .int .u8 0, .int .u8 0, .int .u8 0, .int .u8 0, .int .u8 0, .int .u8 0, .int .u8 0, .int .u8 0, .int .u8 0, .int .u8 0, .int .u8 0, .int .u8 0, .int .u8 0, .int .u8 0, .int .u8 0, .slice none 0 0, .slice none 0 0, .int .i64 0]) (by kernel_rfl) (by kernel_rfl) (by kernel_rfl) (by kernel_rfl)
theorem sz146 : tsz Try.prog 146 = some 69 := by kernel_rfl
theorem by146 : tby Try.prog 146 = some 136 := by kernel_rfl
theorem ag146 : tagg Try.prog 146 = some true := by kernel_rfl
theorem sl146 : tsl Try.prog 146 = none := by kernel_rfl
theorem ar146 : tarr Try.prog 146 = none := by kernel_rfl
theorem pt146 : tptr Try.prog 146 = none := by kernel_rfl
theorem un146 : (Try.prog.underlying 146).isSome = true := by kernel_rfl
theorem fl146_0 : tfld Try.prog 146 0 = some (0, 69) := by kernel_rfl
theorem fl146_1 : tfld Try.prog 146 1 = some (68, 33) := by kernel_rfl
theorem fs146 : tflds Try.prog 146 = true := by kernel_rfl
theorem po146 : tpos Try.prog 146 = true := by kernel_rfl
def z146 : AV := .agg 69 [.agg 68 [.agg 67 [.val (.int .i64 0), .val (.int .i64 0), .val (.int .i64 0), .vec 1 (List.replicate 32 (.val (.int .u8 0))), .vec 1 (List.replicate 32 (.val (.int .u8 0)))], .sl 1 [] 1], .sl 1 [] 1]
theorem zo146 : ZeroOK Try.prog 146 z146 := ZeroOK.mk (.agg #[.int .i64 0, .int .i64 0, .int .i64 0, .int .u8 0, .int .u8 0, .int .u8 0, .int .u8 0, .int .u8 0, .int .u8 0, .int .u8 0, .int .u8 0, .int .u8 0, .int .u8 0, .int .u8 0, .int .u8 0, .int .u8 0, .int .u8 0, .int .u8 0, .int .u8 0, .int .u8 0, .int .u8 0, .int .u8 0, .int .u8 0, .int .u8 0, .int .u8 0, .int .u8 0, .int .u8 0, .int .u8 0, .int .u8 0, .int .u8 0, .int .u8 0, .int .u8 0, .int .u8 0, .int .u8 0, .int .u8 0, .int .u8 0, .int .u8 0, .int .u8 0, .int .u8 0, .int .u8 0, .int .u8 0, .int .u8 0, .int .u8 0, .int .u8 0, .int .u8 0, .int .u8 0, .int .u8 0, .int .u8 0, .int .u8 0, .int .u8 0, .int .u8 0, .int .u8 0, .int .u8 0, .int .u8 0, .int .u8 0, .int .u8 0, .int .u8 0, .int .u8 0, .int .u8 0, .int .u8 0, .int .u8 0, .int .u8 0, .int .u8 0, .int .u8 0, .int .u8 0, .int .u8 0, .int .u8 0, .slice none 0 0, .slice none 0 0]) (by kernel_rfl) (by kernel_rfl) (by kernel_rfl) (by kernel_rfl)
theorem sz147 : tsz Try.prog 147 = some 1 := by kernel_rfl
theorem by147 : tby Try.prog 147 = some 8 := by kernel_rfl
theorem ag147 : tagg Try.prog 147 = some false := by kernel_rfl
theorem sl147 : tsl Try.prog 147 = none := by kernel_rfl
theorem ar147 : tarr Try.prog 147 = none := by kernel_rfl
theorem pt147 : tptr Try.prog 147 = none := by kernel_rfl
theorem un147 : (Try.prog.underlying 147).isSome = true := by kernel_rfl
theorem po147 : tpos Try.prog 147 = true := by kernel_rfl
def z147 : AV := .val .nilFunc
theorem zo147 : ZeroOK Try.prog 147 z147 := ZeroOK.mk (.nilFunc) (by kernel_rfl) (by kernel_rfl) (by kernel_rfl) (by kernel_rfl)
theorem sz150 : tsz Try.prog 150 = some 1 := by kernel_rfl
theorem by150 : tby Try.prog 150 = some 8 := by kernel_rfl
theorem ag150 : tagg Try.prog 150 = some false := by kernel_rfl
theorem sl150 : tsl Try.prog 150 = none := by kernel_rfl
theorem ar150 : tarr Try.prog 150 = none := by kernel_rfl
theorem pt150 : tptr Try.prog 150 = some 104 := by kernel_rfl
theorem un150 : (Try.prog.underlying 150).isSome = true := by kernel_rfl
theorem po150 : tpos Try.prog 150 = true := by kernel_rfl
def z150 : AV := .val (.pointer none)
theorem zo150 : ZeroOK Try.prog 150 z150 := ZeroOK.mk (.pointer none) (by kernel_rfl) (by kernel_rfl) (by kernel_rfl) (by kernel_rfl)
theorem sz153 : tsz Try.prog 153 = some 1 := by kernel_rfl
theorem by153 : tby Try.prog 153 = some 8 := by kernel_rfl
theorem ag153 : tagg Try.prog 153 = some false := by kernel_rfl
theorem sl153 : tsl Try.prog 153 = none := by kernel_rfl
theorem ar153 : tarr Try.prog 153 = none := by kernel_rfl
theorem pt153 : tptr Try.prog 153 = none := by kernel_rfl
theorem in153 : tint Try.prog 153 = some .u64 := by kernel_rfl
theorem un153 : (Try.prog.underlying 153).isSome = true := by kernel_rfl
theorem po153 : tpos Try.prog 153 = true := by kernel_rfl
def z153 : AV := .val (.int .u64 0)
theorem zo153 : ZeroOK Try.prog 153 z153 := ZeroOK.mk (.int .u64 0) (by kernel_rfl) (by kernel_rfl) (by kernel_rfl) (by kernel_rfl)
theorem sz154 : tsz Try.prog 154 = some 1 := by kernel_rfl
theorem by154 : tby Try.prog 154 = some 8 := by kernel_rfl
theorem ag154 : tagg Try.prog 154 = some false := by kernel_rfl
theorem sl154 : tsl Try.prog 154 = none := by kernel_rfl
theorem ar154 : tarr Try.prog 154 = none := by kernel_rfl
theorem pt154 : tptr Try.prog 154 = none := by kernel_rfl
theorem in154 : tint Try.prog 154 = some .u64 := by kernel_rfl
theorem un154 : (Try.prog.underlying 154).isSome = true := by kernel_rfl
theorem po154 : tpos Try.prog 154 = true := by kernel_rfl
def z154 : AV := .val (.int .u64 0)
theorem zo154 : ZeroOK Try.prog 154 z154 := ZeroOK.mk (.int .u64 0) (by kernel_rfl) (by kernel_rfl) (by kernel_rfl) (by kernel_rfl)
theorem sz157 : tsz Try.prog 157 = some 1 := by kernel_rfl
theorem by157 : tby Try.prog 157 = some 24 := by kernel_rfl
theorem ag157 : tagg Try.prog 157 = some false := by kernel_rfl
theorem sl157 : tsl Try.prog 157 = some 33 := by kernel_rfl
theorem ar157 : tarr Try.prog 157 = none := by kernel_rfl
theorem pt157 : tptr Try.prog 157 = none := by kernel_rfl
theorem un157 : (Try.prog.underlying 157).isSome = true := by kernel_rfl
theorem po157 : tpos Try.prog 157 = true := by kernel_rfl
def z157 : AV := .sl 1 [] 1
theorem zo157 : ZeroOK Try.prog 157 z157 := ZeroOK.mk (.slice none 0 0) (by kernel_rfl) (by kernel_rfl) (by kernel_rfl) (by kernel_rfl)
theorem sz179 : tsz Try.prog 179 = some 1 := by kernel_rfl
theorem by179 : tby Try.prog 179 = some 4 := by kernel_rfl
theorem ag179 : tagg Try.prog 179 = some false := by kernel_rfl
theorem sl179 : tsl Try.prog 179 = none := by kernel_rfl
theorem ar179 : tarr Try.prog 179 = none := by kernel_rfl
theorem pt179 : tptr Try.prog 179 = none := by kernel_rfl
theorem in179 : tint Try.prog 179 = some .u32 := by kernel_rfl
theorem un179 : (Try.prog.underlying 179).isSome = true := by kernel_rfl
theorem po179 : tpos Try.prog 179 = true := by kernel_rfl
def z179 : AV := .val (.int .u32 0)
theorem zo179 : ZeroOK Try.prog 179 z179 := ZeroOK.mk (.int .u32 0) (by kernel_rfl) (by kernel_rfl) (by kernel_rfl) (by kernel_rfl)
theorem sz181 : tsz Try.prog 181 = some 8 := by kernel_rfl
theorem by181 : tby Try.prog 181 = some 32 := by kernel_rfl
theorem ag181 : tagg Try.prog 181 = some true := by kernel_rfl
theorem sl181 : tsl Try.prog 181 = none := by kernel_rfl
theorem ar181 : tarr Try.prog 181 = some (8, 179) := by kernel_rfl
theorem pt181 : tptr Try.prog 181 = none := by kernel_rfl
theorem un181 : (Try.prog.underlying 181).isSome = true := by kernel_rfl
theorem po181 : tpos Try.prog 181 = true := by kernel_rfl
theorem tq181 : teq Try.prog 181 = true := by kernel_rfl
def z181 : AV := .vec 1 (List.replicate 8 (.val (.int .u32 0)))
theorem zo181 : ZeroOK Try.prog 181 z181 := ZeroOK.mk (.agg #[.int .u32 0, .int .u32 0, .int .u32 0, .int .u32 0, .int .u32 0, .int .u32 0, .int .u32 0, .int .u32 0]) (by kernel_rfl) (by kernel_rfl) (by kernel_rfl) (by kernel_rfl)
theorem sz183 : tsz Try.prog 183 = some 64 := by kernel_rfl
theorem by183 : tby Try.prog 183 = some 256 := by kernel_rfl
theorem ag183 : tagg Try.prog 183 = some true := by kernel_rfl
theorem sl183 : tsl Try.prog 183 = none := by kernel_rfl
theorem ar183 : tarr Try.prog 183 = some (64, 179) := by kernel_rfl
theorem pt183 : tptr Try.prog 183 = none := by kernel_rfl
theorem un183 : (Try.prog.underlying 183).isSome = true := by kernel_rfl
theorem po183 : tpos Try.prog 183 = true := by kernel_rfl
theorem tq183 : teq Try.prog 183 = true := by kernel_rfl
def z183 : AV := .vec 1 (List.replicate 64 (.val (.int .u32 0)))
theorem zo183 : ZeroOK Try.prog 183 z183 := ZeroOK.mk (.agg #[.int .u32 0, .int .u32 0, .int .u32 0, .int .u32 0, .int .u32 0, .int .u32 0, .int .u32 0, .int .u32 0, .int .u32 0, .int .u32 0, .int .u32 0, .int .u32 0, .int .u32 0, .int .u32 0, .int .u32 0, .int .u32 0, .int .u32 0, .int .u32 0, .int .u32 0, .int .u32 0, .int .u32 0, .int .u32 0, .int .u32 0, .int .u32 0, .int .u32 0, .int .u32 0, .int .u32 0, .int .u32 0, .int .u32 0, .int .u32 0, .int .u32 0, .int .u32 0, .int .u32 0, .int .u32 0, .int .u32 0, .int .u32 0, .int .u32 0, .int .u32 0, .int .u32 0, .int .u32 0, .int .u32 0, .int .u32 0, .int .u32 0, .int .u32 0, .int .u32 0, .int .u32 0, .int .u32 0, .int .u32 0, .int .u32 0, .int .u32 0, .int .u32 0, .int .u32 0, .int .u32 0, .int .u32 0, .int .u32 0, .int .u32 0, .int .u32 0, .int .u32 0, .int .u32 0, .int .u32 0, .int .u32 0, .int .u32 0, .int .u32 0, .int .u32 0]) (by kernel_rfl) (by kernel_rfl) (by kernel_rfl) (by kernel_rfl)
theorem sz186 : tsz Try.prog 186 = some 1 := by kernel_rfl
theorem by186 : tby Try.prog 186 = some 8 := by kernel_rfl
theorem ag186 : tagg Try.prog 186 = some false := by kernel_rfl
theorem sl186 : tsl Try.prog 186 = none := by kernel_rfl
theorem ar186 : tarr Try.prog 186 = none := by kernel_rfl
theorem pt186 : tptr Try.prog 186 = some 183 := by kernel_rfl
theorem un186 : (Try.prog.underlying 186).isSome = true := by kernel_rfl
theorem po186 : tpos Try.prog 186 = true := by kernel_rfl
def z186 : AV := .val (.pointer none)
theorem zo186 : ZeroOK Try.prog 186 z186 := ZeroOK.mk (.pointer none) (by kernel_rfl) (by kernel_rfl) (by kernel_rfl) (by kernel_rfl)
theorem sz190 : tsz Try.prog 190 = some 1 := by kernel_rfl
theorem by190 : tby Try.prog 190 = some 24 := by kernel_rfl
theorem ag190 : tagg Try.prog 190 = some false := by kernel_rfl
theorem sl190 : tsl Try.prog 190 = some 2 := by kernel_rfl
theorem ar190 : tarr Try.prog 190 = none := by kernel_rfl
theorem pt190 : tptr Try.prog 190 = none := by kernel_rfl
theorem un190 : (Try.prog.underlying 190).isSome = true := by kernel_rfl
theorem po190 : tpos Try.prog 190 = true := by kernel_rfl
def z190 : AV := .sl 1 [] 1
theorem zo190 : ZeroOK Try.prog 190 z190 := ZeroOK.mk (.slice none 0 0) (by kernel_rfl) (by kernel_rfl) (by kernel_rfl) (by kernel_rfl)
theorem sz194 : tsz Try.prog 194 = some 1 := by kernel_rfl
theorem by194 : tby Try.prog 194 = some 8 := by kernel_rfl
theorem ag194 : tagg Try.prog 194 = some false := by kernel_rfl
theorem sl194 : tsl Try.prog 194 = none := by kernel_rfl
theorem ar194 : tarr Try.prog 194 = none := by kernel_rfl
theorem pt194 : tptr Try.prog 194 = some 181 := by kernel_rfl
theorem un194 : (Try.prog.underlying 194).isSome = true := by kernel_rfl
theorem po194 : tpos Try.prog 194 = true := by kernel_rfl
def z194 : AV := .val (.pointer none)
theorem zo194 : ZeroOK Try.prog 194 z194 := ZeroOK.mk (.pointer none) (by kernel_rfl) (by kernel_rfl) (by kernel_rfl) (by kernel_rfl)
theorem sz197 : tsz Try.prog 197 = some 1 := by kernel_rfl
theorem by197 : tby Try.prog 197 = some 24 := by kernel_rfl
theorem ag197 : tagg Try.prog 197 = some false := by kernel_rfl
theorem sl197 : tsl Try.prog 197 = some 179 := by kernel_rfl
theorem ar197 : tarr Try.prog 197 = none := by kernel_rfl
theorem pt197 : tptr Try.prog 197 = none := by kernel_rfl
theorem un197 : (Try.prog.underlying 197).isSome = true := by kernel_rfl
theorem po197 : tpos Try.prog 197 = true := by kernel_rfl
def z197 : AV := .sl 1 [] 1
theorem zo197 : ZeroOK Try.prog 197 z197 := ZeroOK.mk (.slice none 0 0) (by kernel_rfl) (by kernel_rfl) (by kernel_rfl) (by kernel_rfl)
theorem sz203 : tsz Try.prog 203 = some 1 := by kernel_rfl
theorem by203 : tby Try.prog 203 = some 8 := by kernel_rfl
theorem ag203 : tagg Try.prog 203 = some false := by kernel_rfl
theorem sl203 : tsl Try.prog 203 = none := by kernel_rfl
theorem ar203 : tarr Try.prog 203 = none := by kernel_rfl
theorem pt203 : tptr Try.prog 203 = some 208 := by kernel_rfl
theorem un203 : (Try.prog.underlying 203).isSome = true := by kernel_rfl
theorem po203 : tpos Try.prog 203 = true := by kernel_rfl
def z203 : AV := .val (.pointer none)
theorem zo203 : ZeroOK Try.prog 203 z203 := ZeroOK.mk (.pointer none) (by kernel_rfl) (by kernel_rfl) (by kernel_rfl) (by kernel_rfl)
theorem sz208 : tsz Try.prog 208 = some 2 := by kernel_rfl
theorem by208 : tby Try.prog 208 = some 32 := by kernel_rfl
theorem ag208 : tagg Try.prog 208 = some true := by kernel_rfl
theorem sl208 : tsl Try.prog 208 = none := by kernel_rfl
theorem ar208 : tarr Try.prog 208 = none := by kernel_rfl
theorem pt208 : tptr Try.prog 208 = none := by kernel_rfl
theorem un208 : (Try.prog.underlying 208).isSome = true := by kernel_rfl
theorem fl208_0 : tfld Try.prog 208 0 = some (0, 33) := by kernel_rfl
theorem fl208_1 : tfld Try.prog 208 1 = some (1, 29) := by kernel_rfl
theorem fs208 : tflds Try.prog 208 = true := by kernel_rfl
theorem po208 : tpos Try.prog 208 = true := by kernel_rfl
def z208 : AV := .agg 2 [.sl 1 [] 1, .val (.int .i64 0)]
theorem zo208 : ZeroOK Try.prog 208 z208 := ZeroOK.mk (.agg #[.slice none 0 0, .int .i64 0]) (by kernel_rfl) (by kernel_rfl) (by kernel_rfl) (by kernel_rfl)
def zl : List (Nat × AV) := [(2, z2), (3, z3), (4, z4), (5, z5), (22, z22), (23, z23), (25, z25), (27, z27), (28, z28), (29, z29), (33, z33), (35, z35), (36, z36), (39, z39), (40, z40), (41, z41), (43, z43), (44, z44), (46, z46), (54, z54), (56, z56), (58, z58), (61, z61), (63, z63), (65, z65), (67, z67), (69, z69), (71, z71), (72, z72), (77, z77), (80, z80), (81, z81), (83, z83), (86, z86), (88, z88), (90, z90), (91, z91), (101, z101), (102, z102), (104, z104), (105, z105), (107, z107), (110, z110), (115, z115), (122, z122), (125, z125), (126, z126), (130, z130), (134, z134), (146, z146), (147, z147), (150, z150), (153, z153), (154, z154), (157, z157), (179, z179), (181, z181), (183, z183), (186, z186), (190, z190), (194, z194), (197, z197), (203, z203), (208, z208)]
theorem zl_ok : zAll Try.prog zl := ⟨zo2, zo3, zo4, zo5, zo22, zo23, zo25, zo27, zo28, zo29, zo33, zo35, zo36, zo39, zo40, zo41, zo43, zo44, zo46, zo54, zo56, zo58, zo61, zo63, zo65, zo67, zo69, zo71, zo72, zo77, zo80, zo81, zo83, zo86, zo88, zo90, zo91, zo101, zo102, zo104, zo105, zo107, zo110, zo115, zo122, zo125, zo126, zo130, zo134, zo146, zo147, zo150, zo153, zo154, zo157, zo179, zo181, zo183, zo186, zo190, zo194, zo197, zo203, zo208, trivial⟩
/-- the program, its zero values -/
noncomputable def cx : Cx := ⟨Try.prog, zLook zl, zLook_ok zl_ok⟩
theorem cxP : cx.P = Try.prog := rfl
theorem zt2 : cx.zt 2 = some z2 := by kernel_rfl
theorem zt3 : cx.zt 3 = some z3 := by kernel_rfl
theorem zt4 : cx.zt 4 = some z4 := by kernel_rfl
theorem zt5 : cx.zt 5 = some z5 := by kernel_rfl
theorem zt22 : cx.zt 22 = some z22 := by kernel_rfl
theorem zt23 : cx.zt 23 = some z23 := by kernel_rfl
theorem zt25 : cx.zt 25 = some z25 := by kernel_rfl
theorem zt27 : cx.zt 27 = some z27 := by kernel_rfl
theorem zt28 : cx.zt 28 = some z28 := by kernel_rfl
theorem zt29 : cx.zt 29 = some z29 := by kernel_rfl
theorem zt33 : cx.zt 33 = some z33 := by kernel_rfl
theorem zt35 : cx.zt 35 = some z35 := by kernel_rfl
theorem zt36 : cx.zt 36 = some z36 := by kernel_rfl
theorem zt39 : cx.zt 39 = some z39 := by kernel_rfl
theorem zt40 : cx.zt 40 = some z40 := by kernel_rfl
theorem zt41 : cx.zt 41 = some z41 := by kernel_rfl
theorem zt43 : cx.zt 43 = some z43 := by kernel_rfl
theorem zt44 : cx.zt 44 = some z44 := by kernel_rfl
theorem zt46 : cx.zt 46 = some z46 := by kernel_rfl
theorem zt54 : cx.zt 54 = some z54 := by kernel_rfl
theorem zt56 : cx.zt 56 = some z56 := by kernel_rfl
theorem zt58 : cx.zt 58 = some z58 := by kernel_rfl
theorem zt61 : cx.zt 61 = some z61 := by kernel_rfl
theorem zt63 : cx.zt 63 = some z63 := by kernel_rfl
theorem zt65 : cx.zt 65 = some z65 := by kernel_rfl
theorem zt67 : cx.zt 67 = some z67 := by kernel_rfl
theorem zt69 : cx.zt 69 = some z69 := by kernel_rfl
theorem zt71 : cx.zt 71 = some z71 := by kernel_rfl
theorem zt72 : cx.zt 72 = some z72 := by kernel_rfl
theorem zt77 : cx.zt 77 = some z77 := by kernel_rfl
theorem zt80 : cx.zt 80 = some z80 := by kernel_rfl
theorem zt81 : cx.zt 81 = some z81 := by kernel_rfl
theorem zt83 : cx.zt 83 = some z83 := by kernel_rfl
theorem zt86 : cx.zt 86 = some z86 := by kernel_rfl
theorem zt88 : cx.zt 88 = some z88 := by kernel_rfl
theorem zt90 : cx.zt 90 = some z90 := by kernel_rfl
theorem zt91 : cx.zt 91 = some z91 := by kernel_rfl
theorem zt101 : cx.zt 101 = some z101 := by kernel_rfl
theorem zt102 : cx.zt 102 = some z102 := by kernel_rfl
theorem zt104 : cx.zt 104 = some z104 := by kernel_rfl
theorem zt105 : cx.zt 105 = some z105 := by kernel_rfl
theorem zt107 : cx.zt 107 = some z107 := by kernel_rfl
theorem zt110 : cx.zt 110 = some z110 := by kernel_rfl
theorem zt115 : cx.zt 115 = some z115 := by kernel_rfl
theorem zt122 : cx.zt 122 = some z122 := by kernel_rfl
theorem zt125 : cx.zt 125 = some z125 := by kernel_rfl
theorem zt126 : cx.zt 126 = some z126 := by kernel_rfl
theorem zt130 : cx.zt 130 = some z130 := by kernel_rfl
theorem zt134 : cx.zt 134 = some z134 := by kernel_rfl
theorem zt146 : cx.zt 146 = some z146 := by kernel_rfl
theorem zt147 : cx.zt 147 = some z147 := by kernel_rfl
theorem zt150 : cx.zt 150 = some z150 := by kernel_rfl
theorem zt153 : cx.zt 153 = some z153 := by kernel_rfl
theorem zt154 : cx.zt 154 = some z154 := by kernel_rfl
theorem zt157 : cx.zt 157 = some z157 := by kernel_rfl
theorem zt179 : cx.zt 179 = some z179 := by kernel_rfl
theorem zt181 : cx.zt 181 = some z181 := by kernel_rfl
theorem zt183 : cx.zt 183 = some z183 := by kernel_rfl
theorem zt186 : cx.zt 186 = some z186 := by kernel_rfl
theorem zt190 : cx.zt 190 = some z190 := by kernel_rfl
theorem zt194 : cx.zt 194 = some z194 := by kernel_rfl
theorem zt197 : cx.zt 197 = some z197 := by kernel_rfl
theorem zt203 : cx.zt 203 = some z203 := by kernel_rfl
theorem zt208 : cx.zt 208 = some z208 := by kernel_rfl
theorem t2 : type_of% (sz2) ∧ type_of% (by2) ∧ type_of% (ag2) ∧ type_of% (sl2) ∧ type_of% (ar2) ∧ type_of% (pt2) ∧ type_of% (in2) ∧ type_of% (un2) ∧ type_of% (po2) ∧ type_of% (zt2) ∧ type_of% (@z2.eq_1) :=
  ⟨sz2, by2, ag2, sl2, ar2, pt2, in2, un2, po2, zt2, @z2.eq_1⟩
theorem t3 : type_of% (sz3) ∧ type_of% (by3) ∧ type_of% (ag3) ∧ type_of% (sl3) ∧ type_of% (ar3) ∧ type_of% (pt3) ∧ type_of% (in3) ∧ type_of% (un3) ∧ type_of% (po3) ∧ type_of% (zt3) ∧ type_of% (@z3.eq_1) :=
  ⟨sz3, by3, ag3, sl3, ar3, pt3, in3, un3, po3, zt3, @z3.eq_1⟩
theorem t4 : type_of% (sz4) ∧ type_of% (by4) ∧ type_of% (ag4) ∧ type_of% (sl4) ∧ type_of% (ar4) ∧ type_of% (pt4) ∧ type_of% (un4) ∧ type_of% (tb4) ∧ type_of% (po4) ∧ type_of% (zt4) ∧ type_of% (@z4.eq_1) :=
  ⟨sz4, by4, ag4, sl4, ar4, pt4, un4, tb4, po4, zt4, @z4.eq_1⟩
theorem t5 : type_of% (sz5) ∧ type_of% (by5) ∧ type_of% (ag5) ∧ type_of% (sl5) ∧ type_of% (ar5) ∧ type_of% (pt5) ∧ type_of% (in5) ∧ type_of% (un5) ∧ type_of% (po5) ∧ type_of% (zt5) ∧ type_of% (@z5.eq_1) :=
  ⟨sz5, by5, ag5, sl5, ar5, pt5, in5, un5, po5, zt5, @z5.eq_1⟩
theorem t22 : type_of% (sz22) ∧ type_of% (by22) ∧ type_of% (ag22) ∧ type_of% (sl22) ∧ type_of% (ar22) ∧ type_of% (pt22) ∧ type_of% (un22) ∧ type_of% (po22) ∧ type_of% (tq22) ∧ type_of% (zt22) ∧ type_of% (@z22.eq_1) :=
  ⟨sz22, by22, ag22, sl22, ar22, pt22, un22, po22, tq22, zt22, @z22.eq_1⟩
theorem t23 : type_of% (sz23) ∧ type_of% (by23) ∧ type_of% (ag23) ∧ type_of% (sl23) ∧ type_of% (ar23) ∧ type_of% (pt23) ∧ type_of% (un23) ∧ type_of% (po23) ∧ type_of% (tq23) ∧ type_of% (zt23) ∧ type_of% (@z23.eq_1) :=
  ⟨sz23, by23, ag23, sl23, ar23, pt23, un23, po23, tq23, zt23, @z23.eq_1⟩
theorem t25 : type_of% (sz25) ∧ type_of% (by25) ∧ type_of% (ag25) ∧ type_of% (sl25) ∧ type_of% (ar25) ∧ type_of% (pt25) ∧ type_of% (un25) ∧ type_of% (fl25_0) ∧ type_of% (fl25_1) ∧ type_of% (fs25) ∧ type_of% (po25) ∧ type_of% (tq25) ∧ type_of% (tc25) ∧ type_of% (zt25) ∧ type_of% (@z25.eq_1) :=
  ⟨sz25, by25, ag25, sl25, ar25, pt25, un25, fl25_0, fl25_1, fs25, po25, tq25, tc25, zt25, @z25.eq_1⟩
theorem t27 : type_of% (sz27) ∧ type_of% (by27) ∧ type_of% (ag27) ∧ type_of% (sl27) ∧ type_of% (ar27) ∧ type_of% (pt27) ∧ type_of% (un27) ∧ type_of% (fl27_0) ∧ type_of% (fl27_1) ∧ type_of% (fl27_2) ∧ type_of% (fl27_3) ∧ type_of% (fl27_4) ∧ type_of% (fl27_5) ∧ type_of% (fl27_6) ∧ type_of% (fs27) ∧ type_of% (po27) ∧ type_of% (tq27) ∧ type_of% (tc27) ∧ type_of% (zt27) ∧ type_of% (@z27.eq_1) :=
  ⟨sz27, by27, ag27, sl27, ar27, pt27, un27, fl27_0, fl27_1, fl27_2, fl27_3, fl27_4, fl27_5, fl27_6, fs27, po27, tq27, tc27, zt27, @z27.eq_1⟩
theorem t28 : type_of% (sz28) ∧ type_of% (by28) ∧ type_of% (ag28) ∧ type_of% (sl28) ∧ type_of% (ar28) ∧ type_of% (pt28) ∧ type_of% (un28) ∧ type_of% (po28) ∧ type_of% (zt28) ∧ type_of% (@z28.eq_1) :=
  ⟨sz28, by28, ag28, sl28, ar28, pt28, un28, po28, zt28, @z28.eq_1⟩
theorem t29 : type_of% (sz29) ∧ type_of% (by29) ∧ type_of% (ag29) ∧ type_of% (sl29) ∧ type_of% (ar29) ∧ type_of% (pt29) ∧ type_of% (in29) ∧ type_of% (un29) ∧ type_of% (po29) ∧ type_of% (zt29) ∧ type_of% (@z29.eq_1) :=
  ⟨sz29, by29, ag29, sl29, ar29, pt29, in29, un29, po29, zt29, @z29.eq_1⟩
theorem t33 : type_of% (sz33) ∧ type_of% (by33) ∧ type_of% (ag33) ∧ type_of% (sl33) ∧ type_of% (ar33) ∧ type_of% (pt33) ∧ type_of% (un33) ∧ type_of% (po33) ∧ type_of% (zt33) ∧ type_of% (@z33.eq_1) :=
  ⟨sz33, by33, ag33, sl33, ar33, pt33, un33, po33, zt33, @z33.eq_1⟩
theorem t35 : type_of% (sz35) ∧ type_of% (by35) ∧ type_of% (ag35) ∧ type_of% (sl35) ∧ type_of% (ar35) ∧ type_of% (pt35) ∧ type_of% (un35) ∧ type_of% (fl35_0) ∧ type_of% (fl35_1) ∧ type_of% (fl35_2) ∧ type_of% (fs35) ∧ type_of% (po35) ∧ type_of% (zt35) ∧ type_of% (@z35.eq_1) :=
  ⟨sz35, by35, ag35, sl35, ar35, pt35, un35, fl35_0, fl35_1, fl35_2, fs35, po35, zt35, @z35.eq_1⟩
theorem t36 : type_of% (sz36) ∧ type_of% (by36) ∧ type_of% (ag36) ∧ type_of% (sl36) ∧ type_of% (ar36) ∧ type_of% (pt36) ∧ type_of% (un36) ∧ type_of% (po36) ∧ type_of% (zt36) ∧ type_of% (@z36.eq_1) :=
  ⟨sz36, by36, ag36, sl36, ar36, pt36, un36, po36, zt36, @z36.eq_1⟩
theorem t39 : type_of% (sz39) ∧ type_of% (by39) ∧ type_of% (ag39) ∧ type_of% (sl39) ∧ type_of% (ar39) ∧ type_of% (pt39) ∧ type_of% (un39) ∧ type_of% (fl39_0) ∧ type_of% (fl39_1) ∧ type_of% (fl39_2) ∧ type_of% (fl39_3) ∧ type_of% (fl39_4) ∧ type_of% (fl39_5) ∧ type_of% (fs39) ∧ type_of% (po39) ∧ type_of% (zt39) ∧ type_of% (@z39.eq_1) :=
  ⟨sz39, by39, ag39, sl39, ar39, pt39, un39, fl39_0, fl39_1, fl39_2, fl39_3, fl39_4, fl39_5, fs39, po39, zt39, @z39.eq_1⟩
theorem t40 : type_of% (sz40) ∧ type_of% (by40) ∧ type_of% (ag40) ∧ type_of% (sl40) ∧ type_of% (ar40) ∧ type_of% (pt40) ∧ type_of% (un40) ∧ type_of% (po40) ∧ type_of% (zt40) ∧ type_of% (@z40.eq_1) :=
  ⟨sz40, by40, ag40, sl40, ar40, pt40, un40, po40, zt40, @z40.eq_1⟩
theorem t41 : type_of% (sz41) ∧ type_of% (by41) ∧ type_of% (ag41) ∧ type_of% (sl41) ∧ type_of% (ar41) ∧ type_of% (pt41) ∧ type_of% (un41) ∧ type_of% (po41) ∧ type_of% (zt41) ∧ type_of% (@z41.eq_1) :=
  ⟨sz41, by41, ag41, sl41, ar41, pt41, un41, po41, zt41, @z41.eq_1⟩
theorem t43 : type_of% (sz43) ∧ type_of% (by43) ∧ type_of% (ag43) ∧ type_of% (sl43) ∧ type_of% (ar43) ∧ type_of% (pt43) ∧ type_of% (un43) ∧ type_of% (fl43_0) ∧ type_of% (fl43_1) ∧ type_of% (fl43_2) ∧ type_of% (fl43_3) ∧ type_of% (fs43) ∧ type_of% (po43) ∧ type_of% (zt43) ∧ type_of% (@z43.eq_1) :=
  ⟨sz43, by43, ag43, sl43, ar43, pt43, un43, fl43_0, fl43_1, fl43_2, fl43_3, fs43, po43, zt43, @z43.eq_1⟩
theorem t44 : type_of% (sz44) ∧ type_of% (by44) ∧ type_of% (ag44) ∧ type_of% (sl44) ∧ type_of% (ar44) ∧ type_of% (pt44) ∧ type_of% (un44) ∧ type_of% (po44) ∧ type_of% (zt44) ∧ type_of% (@z44.eq_1) :=
  ⟨sz44, by44, ag44, sl44, ar44, pt44, un44, po44, zt44, @z44.eq_1⟩
theorem t46 : type_of% (sz46) ∧ type_of% (by46) ∧ type_of% (ag46) ∧ type_of% (sl46) ∧ type_of% (ar46) ∧ type_of% (pt46) ∧ type_of% (un46) ∧ type_of% (fl46_0) ∧ type_of% (fl46_1) ∧ type_of% (fs46) ∧ type_of% (po46) ∧ type_of% (zt46) ∧ type_of% (@z46.eq_1) :=
  ⟨sz46, by46, ag46, sl46, ar46, pt46, un46, fl46_0, fl46_1, fs46, po46, zt46, @z46.eq_1⟩
theorem t54 : type_of% (sz54) ∧ type_of% (by54) ∧ type_of% (ag54) ∧ type_of% (sl54) ∧ type_of% (ar54) ∧ type_of% (pt54) ∧ type_of% (un54) ∧ type_of% (po54) ∧ type_of% (zt54) ∧ type_of% (@z54.eq_1) :=
  ⟨sz54, by54, ag54, sl54, ar54, pt54, un54, po54, zt54, @z54.eq_1⟩
theorem t56 : type_of% (sz56) ∧ type_of% (by56) ∧ type_of% (ag56) ∧ type_of% (sl56) ∧ type_of% (ar56) ∧ type_of% (pt56) ∧ type_of% (un56) ∧ type_of% (fl56_0) ∧ type_of% (fl56_1) ∧ type_of% (fl56_2) ∧ type_of% (fl56_3) ∧ type_of% (fl56_4) ∧ type_of% (fl56_5) ∧ type_of% (fl56_6) ∧ type_of% (fs56) ∧ type_of% (po56) ∧ type_of% (tq56) ∧ type_of% (tc56) ∧ type_of% (zt56) ∧ type_of% (@z56.eq_1) :=
  ⟨sz56, by56, ag56, sl56, ar56, pt56, un56, fl56_0, fl56_1, fl56_2, fl56_3, fl56_4, fl56_5, fl56_6, fs56, po56, tq56, tc56, zt56, @z56.eq_1⟩
theorem t58 : type_of% (sz58) ∧ type_of% (by58) ∧ type_of% (ag58) ∧ type_of% (sl58) ∧ type_of% (ar58) ∧ type_of% (pt58) ∧ type_of% (un58) ∧ type_of% (po58) ∧ type_of% (zt58) ∧ type_of% (@z58.eq_1) :=
  ⟨sz58, by58, ag58, sl58, ar58, pt58, un58, po58, zt58, @z58.eq_1⟩
theorem t61 : type_of% (sz61) ∧ type_of% (by61) ∧ type_of% (ag61) ∧ type_of% (sl61) ∧ type_of% (ar61) ∧ type_of% (pt61) ∧ type_of% (un61) ∧ type_of% (po61) ∧ type_of% (tq61) ∧ type_of% (zt61) ∧ type_of% (@z61.eq_1) :=
  ⟨sz61, by61, ag61, sl61, ar61, pt61, un61, po61, tq61, zt61, @z61.eq_1⟩
theorem t63 : type_of% (sz63) ∧ type_of% (by63) ∧ type_of% (ag63) ∧ type_of% (sl63) ∧ type_of% (ar63) ∧ type_of% (pt63) ∧ type_of% (un63) ∧ type_of% (fl63_0) ∧ type_of% (fl63_1) ∧ type_of% (fl63_2) ∧ type_of% (fl63_3) ∧ type_of% (fs63) ∧ type_of% (po63) ∧ type_of% (tq63) ∧ type_of% (tc63) ∧ type_of% (zt63) ∧ type_of% (@z63.eq_1) :=
  ⟨sz63, by63, ag63, sl63, ar63, pt63, un63, fl63_0, fl63_1, fl63_2, fl63_3, fs63, po63, tq63, tc63, zt63, @z63.eq_1⟩
theorem t65 : type_of% (sz65) ∧ type_of% (by65) ∧ type_of% (ag65) ∧ type_of% (sl65) ∧ type_of% (ar65) ∧ type_of% (pt65) ∧ type_of% (un65) ∧ type_of% (fl65_0) ∧ type_of% (fl65_1) ∧ type_of% (fs65) ∧ type_of% (po65) ∧ type_of% (tq65) ∧ type_of% (tc65) ∧ type_of% (zt65) ∧ type_of% (@z65.eq_1) :=
  ⟨sz65, by65, ag65, sl65, ar65, pt65, un65, fl65_0, fl65_1, fs65, po65, tq65, tc65, zt65, @z65.eq_1⟩
theorem t67 : type_of% (sz67) ∧ type_of% (by67) ∧ type_of% (ag67) ∧ type_of% (sl67) ∧ type_of% (ar67) ∧ type_of% (pt67) ∧ type_of% (un67) ∧ type_of% (fl67_0) ∧ type_of% (fl67_1) ∧ type_of% (fl67_2) ∧ type_of% (fl67_3) ∧ type_of% (fl67_4) ∧ type_of% (fs67) ∧ type_of% (po67) ∧ type_of% (tq67) ∧ type_of% (tc67) ∧ type_of% (zt67) ∧ type_of% (@z67.eq_1) :=
  ⟨sz67, by67, ag67, sl67, ar67, pt67, un67, fl67_0, fl67_1, fl67_2, fl67_3, fl67_4, fs67, po67, tq67, tc67, zt67, @z67.eq_1⟩
theorem t69 : type_of% (sz69) ∧ type_of% (by69) ∧ type_of% (ag69) ∧ type_of% (sl69) ∧ type_of% (ar69) ∧ type_of% (pt69) ∧ type_of% (un69) ∧ type_of% (fl69_0) ∧ type_of% (fl69_1) ∧ type_of% (fs69) ∧ type_of% (po69) ∧ type_of% (zt69) ∧ type_of% (@z69.eq_1) :=
  ⟨sz69, by69, ag69, sl69, ar69, pt69, un69, fl69_0, fl69_1, fs69, po69, zt69, @z69.eq_1⟩
theorem t71 : type_of% (sz71) ∧ type_of% (by71) ∧ type_of% (ag71) ∧ type_of% (sl71) ∧ type_of% (ar71) ∧ type_of% (pt71) ∧ type_of% (un71) ∧ type_of% (fl71_0) ∧ type_of% (fl71_1) ∧ type_of% (fl71_2) ∧ type_of% (fl71_3) ∧ type_of% (fl71_4) ∧ type_of% (fl71_5) ∧ type_of% (fl71_6) ∧ type_of% (fl71_7) ∧ type_of% (fl71_8) ∧ type_of% (fs71) ∧ type_of% (po71) ∧ type_of% (zt71) ∧ type_of% (@z71.eq_1) :=
  ⟨sz71, by71, ag71, sl71, ar71, pt71, un71, fl71_0, fl71_1, fl71_2, fl71_3, fl71_4, fl71_5, fl71_6, fl71_7, fl71_8, fs71, po71, zt71, @z71.eq_1⟩
theorem t72 : type_of% (sz72) ∧ type_of% (by72) ∧ type_of% (ag72) ∧ type_of% (sl72) ∧ type_of% (ar72) ∧ type_of% (pt72) ∧ type_of% (un72) ∧ type_of% (po72) ∧ type_of% (zt72) ∧ type_of% (@z72.eq_1) :=
  ⟨sz72, by72, ag72, sl72, ar72, pt72, un72, po72, zt72, @z72.eq_1⟩
theorem t77 : type_of% (sz77) ∧ type_of% (by77) ∧ type_of% (ag77) ∧ type_of% (sl77) ∧ type_of% (ar77) ∧ type_of% (pt77) ∧ type_of% (un77) ∧ type_of% (po77) ∧ type_of% (zt77) ∧ type_of% (@z77.eq_1) :=
  ⟨sz77, by77, ag77, sl77, ar77, pt77, un77, po77, zt77, @z77.eq_1⟩
theorem t80 : type_of% (sz80) ∧ type_of% (by80) ∧ type_of% (ag80) ∧ type_of% (sl80) ∧ type_of% (ar80) ∧ type_of% (pt80) ∧ type_of% (un80) ∧ type_of% (po80) ∧ type_of% (zt80) ∧ type_of% (@z80.eq_1) :=
  ⟨sz80, by80, ag80, sl80, ar80, pt80, un80, po80, zt80, @z80.eq_1⟩
theorem t81 : type_of% (sz81) ∧ type_of% (by81) ∧ type_of% (ag81) ∧ type_of% (sl81) ∧ type_of% (ar81) ∧ type_of% (pt81) ∧ type_of% (un81) ∧ type_of% (po81) ∧ type_of% (zt81) ∧ type_of% (@z81.eq_1) :=
  ⟨sz81, by81, ag81, sl81, ar81, pt81, un81, po81, zt81, @z81.eq_1⟩
theorem t83 : type_of% (sz83) ∧ type_of% (by83) ∧ type_of% (ag83) ∧ type_of% (sl83) ∧ type_of% (ar83) ∧ type_of% (pt83) ∧ type_of% (un83) ∧ type_of% (fl83_0) ∧ type_of% (fl83_1) ∧ type_of% (fl83_2) ∧ type_of% (fl83_3) ∧ type_of% (fs83) ∧ type_of% (po83) ∧ type_of% (zt83) ∧ type_of% (@z83.eq_1) :=
  ⟨sz83, by83, ag83, sl83, ar83, pt83, un83, fl83_0, fl83_1, fl83_2, fl83_3, fs83, po83, zt83, @z83.eq_1⟩
theorem t86 : type_of% (sz86) ∧ type_of% (by86) ∧ type_of% (ag86) ∧ type_of% (sl86) ∧ type_of% (ar86) ∧ type_of% (pt86) ∧ type_of% (un86) ∧ type_of% (po86) ∧ type_of% (zt86) ∧ type_of% (@z86.eq_1) :=
  ⟨sz86, by86, ag86, sl86, ar86, pt86, un86, po86, zt86, @z86.eq_1⟩
theorem t88 : type_of% (sz88) ∧ type_of% (by88) ∧ type_of% (ag88) ∧ type_of% (sl88) ∧ type_of% (ar88) ∧ type_of% (pt88) ∧ type_of% (un88) ∧ type_of% (fl88_0) ∧ type_of% (fl88_1) ∧ type_of% (fl88_2) ∧ type_of% (fl88_3) ∧ type_of% (fs88) ∧ type_of% (po88) ∧ type_of% (zt88) ∧ type_of% (@z88.eq_1) :=
  ⟨sz88, by88, ag88, sl88, ar88, pt88, un88, fl88_0, fl88_1, fl88_2, fl88_3, fs88, po88, zt88, @z88.eq_1⟩
theorem t90 : type_of% (sz90) ∧ type_of% (by90) ∧ type_of% (ag90) ∧ type_of% (sl90) ∧ type_of% (ar90) ∧ type_of% (pt90) ∧ type_of% (un90) ∧ type_of% (fl90_0) ∧ type_of% (fs90) ∧ type_of% (po90) ∧ type_of% (zt90) ∧ type_of% (@z90.eq_1) :=
  ⟨sz90, by90, ag90, sl90, ar90, pt90, un90, fl90_0, fs90, po90, zt90, @z90.eq_1⟩
theorem t91 : type_of% (sz91) ∧ type_of% (by91) ∧ type_of% (ag91) ∧ type_of% (sl91) ∧ type_of% (ar91) ∧ type_of% (pt91) ∧ type_of% (un91) ∧ type_of% (po91) ∧ type_of% (zt91) ∧ type_of% (@z91.eq_1) :=
  ⟨sz91, by91, ag91, sl91, ar91, pt91, un91, po91, zt91, @z91.eq_1⟩
theorem t101 : type_of% (sz101) ∧ type_of% (by101) ∧ type_of% (ag101) ∧ type_of% (sl101) ∧ type_of% (ar101) ∧ type_of% (pt101) ∧ type_of% (mp101) ∧ type_of% (un101) ∧ type_of% (po101) ∧ type_of% (zt101) ∧ type_of% (@z101.eq_1) :=
  ⟨sz101, by101, ag101, sl101, ar101, pt101, mp101, un101, po101, zt101, @z101.eq_1⟩
theorem t102 : type_of% (sz102) ∧ type_of% (by102) ∧ type_of% (ag102) ∧ type_of% (sl102) ∧ type_of% (ar102) ∧ type_of% (pt102) ∧ type_of% (un102) ∧ type_of% (po102) ∧ type_of% (zt102) ∧ type_of% (@z102.eq_1) :=
  ⟨sz102, by102, ag102, sl102, ar102, pt102, un102, po102, zt102, @z102.eq_1⟩
theorem t104 : type_of% (sz104) ∧ type_of% (by104) ∧ type_of% (ag104) ∧ type_of% (sl104) ∧ type_of% (ar104) ∧ type_of% (pt104) ∧ type_of% (un104) ∧ type_of% (fl104_0) ∧ type_of% (fs104) ∧ type_of% (po104) ∧ type_of% (zt104) ∧ type_of% (@z104.eq_1) :=
  ⟨sz104, by104, ag104, sl104, ar104, pt104, un104, fl104_0, fs104, po104, zt104, @z104.eq_1⟩
theorem t105 : type_of% (sz105) ∧ type_of% (by105) ∧ type_of% (ag105) ∧ type_of% (sl105) ∧ type_of% (ar105) ∧ type_of% (pt105) ∧ type_of% (un105) ∧ type_of% (po105) ∧ type_of% (zt105) ∧ type_of% (@z105.eq_1) :=
  ⟨sz105, by105, ag105, sl105, ar105, pt105, un105, po105, zt105, @z105.eq_1⟩
theorem t107 : type_of% (sz107) ∧ type_of% (by107) ∧ type_of% (ag107) ∧ type_of% (sl107) ∧ type_of% (ar107) ∧ type_of% (pt107) ∧ type_of% (un107) ∧ type_of% (fl107_0) ∧ type_of% (fl107_1) ∧ type_of% (fl107_2) ∧ type_of% (fl107_3) ∧ type_of% (fl107_4) ∧ type_of% (fl107_5) ∧ type_of% (fl107_6) ∧ type_of% (fl107_7) ∧ type_of% (fl107_8) ∧ type_of% (fs107) ∧ type_of% (po107) ∧ type_of% (zt107) ∧ type_of% (@z107.eq_1) :=
  ⟨sz107, by107, ag107, sl107, ar107, pt107, un107, fl107_0, fl107_1, fl107_2, fl107_3, fl107_4, fl107_5, fl107_6, fl107_7, fl107_8, fs107, po107, zt107, @z107.eq_1⟩
theorem t110 : type_of% (sz110) ∧ type_of% (by110) ∧ type_of% (ag110) ∧ type_of% (sl110) ∧ type_of% (ar110) ∧ type_of% (pt110) ∧ type_of% (un110) ∧ type_of% (fl110_0) ∧ type_of% (fl110_1) ∧ type_of% (fl110_2) ∧ type_of% (fs110) ∧ type_of% (po110) ∧ type_of% (zt110) ∧ type_of% (@z110.eq_1) :=
  ⟨sz110, by110, ag110, sl110, ar110, pt110, un110, fl110_0, fl110_1, fl110_2, fs110, po110, zt110, @z110.eq_1⟩
theorem t115 : type_of% (sz115) ∧ type_of% (by115) ∧ type_of% (ag115) ∧ type_of% (sl115) ∧ type_of% (ar115) ∧ type_of% (pt115) ∧ type_of% (un115) ∧ type_of% (fl115_0) ∧ type_of% (fl115_1) ∧ type_of% (fl115_2) ∧ type_of% (fl115_3) ∧ type_of% (fs115) ∧ type_of% (po115) ∧ type_of% (zt115) ∧ type_of% (@z115.eq_1) :=
  ⟨sz115, by115, ag115, sl115, ar115, pt115, un115, fl115_0, fl115_1, fl115_2, fl115_3, fs115, po115, zt115, @z115.eq_1⟩
theorem t122 : type_of% (sz122) ∧ type_of% (by122) ∧ type_of% (ag122) ∧ type_of% (sl122) ∧ type_of% (ar122) ∧ type_of% (pt122) ∧ type_of% (un122) ∧ type_of% (po122) ∧ type_of% (zt122) ∧ type_of% (@z122.eq_1) :=
  ⟨sz122, by122, ag122, sl122, ar122, pt122, un122, po122, zt122, @z122.eq_1⟩
theorem t125 : type_of% (sz125) ∧ type_of% (by125) ∧ type_of% (ag125) ∧ type_of% (sl125) ∧ type_of% (ar125) ∧ type_of% (pt125) ∧ type_of% (un125) ∧ type_of% (po125) ∧ type_of% (zt125) ∧ type_of% (@z125.eq_1) :=
  ⟨sz125, by125, ag125, sl125, ar125, pt125, un125, po125, zt125, @z125.eq_1⟩
theorem t126 : type_of% (sz126) ∧ type_of% (by126) ∧ type_of% (ag126) ∧ type_of% (sl126) ∧ type_of% (ar126) ∧ type_of% (pt126) ∧ type_of% (un126) ∧ type_of% (po126) ∧ type_of% (zt126) ∧ type_of% (@z126.eq_1) :=
  ⟨sz126, by126, ag126, sl126, ar126, pt126, un126, po126, zt126, @z126.eq_1⟩
theorem t130 : type_of% (sz130) ∧ type_of% (by130) ∧ type_of% (ag130) ∧ type_of% (sl130) ∧ type_of% (ar130) ∧ type_of% (pt130) ∧ type_of% (un130) ∧ type_of% (fl130_0) ∧ type_of% (fl130_1) ∧ type_of% (fl130_2) ∧ type_of% (fs130) ∧ type_of% (po130) ∧ type_of% (tq130) ∧ type_of% (tc130) ∧ type_of% (zt130) ∧ type_of% (@z130.eq_1) :=
  ⟨sz130, by130, ag130, sl130, ar130, pt130, un130, fl130_0, fl130_1, fl130_2, fs130, po130, tq130, tc130, zt130, @z130.eq_1⟩
theorem t134 : type_of% (sz134) ∧ type_of% (by134) ∧ type_of% (ag134) ∧ type_of% (sl134) ∧ type_of% (ar134) ∧ type_of% (pt134) ∧ type_of% (un134) ∧ type_of% (fl134_0) ∧ type_of% (fl134_1) ∧ type_of% (fs134) ∧ type_of% (po134) ∧ type_of% (zt134) ∧ type_of% (@z134.eq_1) :=
  ⟨sz134, by134, ag134, sl134, ar134, pt134, un134, fl134_0, fl134_1, fs134, po134, zt134, @z134.eq_1⟩
theorem t146 : type_of% (sz146) ∧ type_of% (by146) ∧ type_of% (ag146) ∧ type_of% (sl146) ∧ type_of% (ar146) ∧ type_of% (pt146) ∧ type_of% (un146) ∧ type_of% (fl146_0) ∧ type_of% (fl146_1) ∧ type_of% (fs146) ∧ type_of% (po146) ∧ type_of% (zt146) ∧ type_of% (@z146.eq_1) :=
  ⟨sz146, by146, ag146, sl146, ar146, pt146, un146, fl146_0, fl146_1, fs146, po146, zt146, @z146.eq_1⟩
theorem t147 : type_of% (sz147) ∧ type_of% (by147) ∧ type_of% (ag147) ∧ type_of% (sl147) ∧ type_of% (ar147) ∧ type_of% (pt147) ∧ type_of% (un147) ∧ type_of% (po147) ∧ type_of% (zt147) ∧ type_of% (@z147.eq_1) :=
  ⟨sz147, by147, ag147, sl147, ar147, pt147, un147, po147, zt147, @z147.eq_1⟩
theorem t150 : type_of% (sz150) ∧ type_of% (by150) ∧ type_of% (ag150) ∧ type_of% (sl150) ∧ type_of% (ar150) ∧ type_of% (pt150) ∧ type_of% (un150) ∧ type_of% (po150) ∧ type_of% (zt150) ∧ type_of% (@z150.eq_1) :=
  ⟨sz150, by150, ag150, sl150, ar150, pt150, un150, po150, zt150, @z150.eq_1⟩
theorem t153 : type_of% (sz153) ∧ type_of% (by153) ∧ type_of% (ag153) ∧ type_of% (sl153) ∧ type_of% (ar153) ∧ type_of% (pt153) ∧ type_of% (in153) ∧ type_of% (un153) ∧ type_of% (po153) ∧ type_of% (zt153) ∧ type_of% (@z153.eq_1) :=
  ⟨sz153, by153, ag153, sl153, ar153, pt153, in153, un153, po153, zt153, @z153.eq_1⟩
theorem t154 : type_of% (sz154) ∧ type_of% (by154) ∧ type_of% (ag154) ∧ type_of% (sl154) ∧ type_of% (ar154) ∧ type_of% (pt154) ∧ type_of% (in154) ∧ type_of% (un154) ∧ type_of% (po154) ∧ type_of% (zt154) ∧ type_of% (@z154.eq_1) :=
  ⟨sz154, by154, ag154, sl154, ar154, pt154, in154, un154, po154, zt154, @z154.eq_1⟩
theorem t157 : type_of% (sz157) ∧ type_of% (by157) ∧ type_of% (ag157) ∧ type_of% (sl157) ∧ type_of% (ar157) ∧ type_of% (pt157) ∧ type_of% (un157) ∧ type_of% (po157) ∧ type_of% (zt157) ∧ type_of% (@z157.eq_1) :=
  ⟨sz157, by157, ag157, sl157, ar157, pt157, un157, po157, zt157, @z157.eq_1⟩
theorem t179 : type_of% (sz179) ∧ type_of% (by179) ∧ type_of% (ag179) ∧ type_of% (sl179) ∧ type_of% (ar179) ∧ type_of% (pt179) ∧ type_of% (in179) ∧ type_of% (un179) ∧ type_of% (po179) ∧ type_of% (zt179) ∧ type_of% (@z179.eq_1) :=
  ⟨sz179, by179, ag179, sl179, ar179, pt179, in179, un179, po179, zt179, @z179.eq_1⟩
theorem t181 : type_of% (sz181) ∧ type_of% (by181) ∧ type_of% (ag181) ∧ type_of% (sl181) ∧ type_of% (ar181) ∧ type_of% (pt181) ∧ type_of% (un181) ∧ type_of% (po181) ∧ type_of% (tq181) ∧ type_of% (zt181) ∧ type_of% (@z181.eq_1) :=
  ⟨sz181, by181, ag181, sl181, ar181, pt181, un181, po181, tq181, zt181, @z181.eq_1⟩
theorem t183 : type_of% (sz183) ∧ type_of% (by183) ∧ type_of% (ag183) ∧ type_of% (sl183) ∧ type_of% (ar183) ∧ type_of% (pt183) ∧ type_of% (un183) ∧ type_of% (po183) ∧ type_of% (tq183) ∧ type_of% (zt183) ∧ type_of% (@z183.eq_1) :=
  ⟨sz183, by183, ag183, sl183, ar183, pt183, un183, po183, tq183, zt183, @z183.eq_1⟩
theorem t186 : type_of% (sz186) ∧ type_of% (by186) ∧ type_of% (ag186) ∧ type_of% (sl186) ∧ type_of% (ar186) ∧ type_of% (pt186) ∧ type_of% (un186) ∧ type_of% (po186) ∧ type_of% (zt186) ∧ type_of% (@z186.eq_1) :=
  ⟨sz186, by186, ag186, sl186, ar186, pt186, un186, po186, zt186, @z186.eq_1⟩
theorem t190 : type_of% (sz190) ∧ type_of% (by190) ∧ type_of% (ag190) ∧ type_of% (sl190) ∧ type_of% (ar190) ∧ type_of% (pt190) ∧ type_of% (un190) ∧ type_of% (po190) ∧ type_of% (zt190) ∧ type_of% (@z190.eq_1) :=
  ⟨sz190, by190, ag190, sl190, ar190, pt190, un190, po190, zt190, @z190.eq_1⟩
theorem t194 : type_of% (sz194) ∧ type_of% (by194) ∧ type_of% (ag194) ∧ type_of% (sl194) ∧ type_of% (ar194) ∧ type_of% (pt194) ∧ type_of% (un194) ∧ type_of% (po194) ∧ type_of% (zt194) ∧ type_of% (@z194.eq_1) :=
  ⟨sz194, by194, ag194, sl194, ar194, pt194, un194, po194, zt194, @z194.eq_1⟩
theorem t197 : type_of% (sz197) ∧ type_of% (by197) ∧ type_of% (ag197) ∧ type_of% (sl197) ∧ type_of% (ar197) ∧ type_of% (pt197) ∧ type_of% (un197) ∧ type_of% (po197) ∧ type_of% (zt197) ∧ type_of% (@z197.eq_1) :=
  ⟨sz197, by197, ag197, sl197, ar197, pt197, un197, po197, zt197, @z197.eq_1⟩
theorem t203 : type_of% (sz203) ∧ type_of% (by203) ∧ type_of% (ag203) ∧ type_of% (sl203) ∧ type_of% (ar203) ∧ type_of% (pt203) ∧ type_of% (un203) ∧ type_of% (po203) ∧ type_of% (zt203) ∧ type_of% (@z203.eq_1) :=
  ⟨sz203, by203, ag203, sl203, ar203, pt203, un203, po203, zt203, @z203.eq_1⟩
theorem t208 : type_of% (sz208) ∧ type_of% (by208) ∧ type_of% (ag208) ∧ type_of% (sl208) ∧ type_of% (ar208) ∧ type_of% (pt208) ∧ type_of% (un208) ∧ type_of% (fl208_0) ∧ type_of% (fl208_1) ∧ type_of% (fs208) ∧ type_of% (po208) ∧ type_of% (zt208) ∧ type_of% (@z208.eq_1) :=
  ⟨sz208, by208, ag208, sl208, ar208, pt208, un208, fl208_0, fl208_1, fs208, po208, zt208, @z208.eq_1⟩
theorem mo : cx.P.follows .mixedOrders = true := by kernel_rfl
end Go.Proofs.Ytjcnhgmaabkelaa.T
