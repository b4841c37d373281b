/-
  The table of types of this seat, told lemma by lemma (written by gentypes.py out of the translation).
-/
import Derived.Test.YtjcnhgmaabkelaaGreatProg
import Derived.Test.YtjcnhgmaabkelaaGreatAL18
set_option linter.unusedSimpArgs false
set_option maxRecDepth 10000
namespace Go.Proofs.YtjcnhgmaabkelaaGreat.T
open Go Go.AL
theorem sz2 : tsz Tryz.prog 2 = some 1 := by kernel_rfl
theorem by2 : tby Tryz.prog 2 = some 8 := by kernel_rfl
theorem ag2 : tagg Tryz.prog 2 = some false := by kernel_rfl
theorem sl2 : tsl Tryz.prog 2 = none := by kernel_rfl
theorem ar2 : tarr Tryz.prog 2 = none := by kernel_rfl
theorem pt2 : tptr Tryz.prog 2 = none := by kernel_rfl
theorem in2 : tint Tryz.prog 2 = some .i64 := by kernel_rfl
theorem un2 : (Tryz.prog.underlying 2).isSome = true := by kernel_rfl
theorem po2 : tpos Tryz.prog 2 = true := by kernel_rfl
def z2 : AV := .val (.int .i64 0)
theorem zo2 : ZeroOK Tryz.prog 2 z2 := ZeroOK.mk (.int .i64 0) (by kernel_rfl) (by kernel_rfl) (by kernel_rfl) (by kernel_rfl)
theorem sz3 : tsz Tryz.prog 3 = some 1 := by kernel_rfl
theorem by3 : tby Tryz.prog 3 = some 8 := by kernel_rfl
theorem ag3 : tagg Tryz.prog 3 = some false := by kernel_rfl
theorem sl3 : tsl Tryz.prog 3 = none := by kernel_rfl
theorem ar3 : tarr Tryz.prog 3 = none := by kernel_rfl
theorem pt3 : tptr Tryz.prog 3 = none := by kernel_rfl
theorem in3 : tint Tryz.prog 3 = some .i64 := by kernel_rfl
theorem un3 : (Tryz.prog.underlying 3).isSome = true := by kernel_rfl
theorem po3 : tpos Tryz.prog 3 = true := by kernel_rfl
def z3 : AV := .val (.int .i64 0)
theorem zo3 : ZeroOK Tryz.prog 3 z3 := ZeroOK.mk (.int .i64 0) (by kernel_rfl) (by kernel_rfl) (by kernel_rfl) (by kernel_rfl)
theorem sz4 : tsz Tryz.prog 4 = some 1 := by kernel_rfl
theorem by4 : tby Tryz.prog 4 = some 1 := by kernel_rfl
theorem ag4 : tagg Tryz.prog 4 = some false := by kernel_rfl
theorem sl4 : tsl Tryz.prog 4 = none := by kernel_rfl
theorem ar4 : tarr Tryz.prog 4 = none := by kernel_rfl
theorem pt4 : tptr Tryz.prog 4 = none := by kernel_rfl
theorem un4 : (Tryz.prog.underlying 4).isSome = true := by kernel_rfl
theorem tb4 : tbool Tryz.prog 4 = some () := by kernel_rfl
theorem po4 : tpos Tryz.prog 4 = true := by kernel_rfl
def z4 : AV := .val (.bool false)
theorem zo4 : ZeroOK Tryz.prog 4 z4 := ZeroOK.mk (.bool false) (by kernel_rfl) (by kernel_rfl) (by kernel_rfl) (by kernel_rfl)
theorem sz5 : tsz Tryz.prog 5 = some 1 := by kernel_rfl
theorem by5 : tby Tryz.prog 5 = some 1 := by kernel_rfl
theorem ag5 : tagg Tryz.prog 5 = some false := by kernel_rfl
theorem sl5 : tsl Tryz.prog 5 = none := by kernel_rfl
theorem ar5 : tarr Tryz.prog 5 = none := by kernel_rfl
theorem pt5 : tptr Tryz.prog 5 = none := by kernel_rfl
theorem in5 : tint Tryz.prog 5 = some .u8 := by kernel_rfl
theorem un5 : (Tryz.prog.underlying 5).isSome = true := by kernel_rfl
theorem po5 : tpos Tryz.prog 5 = true := by kernel_rfl
def z5 : AV := .val (.int .u8 0)
theorem zo5 : ZeroOK Tryz.prog 5 z5 := ZeroOK.mk (.int .u8 0) (by kernel_rfl) (by kernel_rfl) (by kernel_rfl) (by kernel_rfl)
theorem sz22 : tsz Tryz.prog 22 = some 32 := by kernel_rfl
theorem by22 : tby Tryz.prog 22 = some 32 := by kernel_rfl
theorem ag22 : tagg Tryz.prog 22 = some true := by kernel_rfl
theorem sl22 : tsl Tryz.prog 22 = none := by kernel_rfl
theorem ar22 : tarr Tryz.prog 22 = some (32, 5) := by kernel_rfl
theorem pt22 : tptr Tryz.prog 22 = none := by kernel_rfl
theorem un22 : (Tryz.prog.underlying 22).isSome = true := by kernel_rfl
theorem po22 : tpos Tryz.prog 22 = true := by kernel_rfl
theorem tq22 : teq Tryz.prog 22 = true := by kernel_rfl
def z22 : AV := .vec 1 (List.replicate 32 (.val (.int .u8 0)))
theorem zo22 : ZeroOK Tryz.prog 22 z22 := ZeroOK.mk (.agg #[.int .u8 0, .int .u8 0, .int .u8 0, .int .u8 0, .int .u8 0, .int .u8 0, .int .u8 0, .int .u8 0, .int .u8 0, .int .u8 0, .int .u8 0, .int .u8 0, .int .u8 0, .int .u8 0, .int .u8 0, .int .u8 0, .int .u8 0, .int .u8 0, .int .u8 0, .int .u8 0, .int .u8 0, .int .u8 0, .int .u8 0, .int .u8 0, .int .u8 0, .int .u8 0, .int .u8 0, .int .u8 0, .int .u8 0, .int .u8 0, .int .u8 0, .int .u8 0]) (by kernel_rfl) (by kernel_rfl) (by kernel_rfl) (by kernel_rfl)
theorem sz23 : tsz Tryz.prog 23 = some 32 := by kernel_rfl
theorem by23 : tby Tryz.prog 23 = some 32 := by kernel_rfl
theorem ag23 : tagg Tryz.prog 23 = some true := by kernel_rfl
theorem sl23 : tsl Tryz.prog 23 = none := by kernel_rfl
theorem ar23 : tarr Tryz.prog 23 = some (32, 5) := by kernel_rfl
theorem pt23 : tptr Tryz.prog 23 = none := by kernel_rfl
theorem un23 : (Tryz.prog.underlying 23).isSome = true := by kernel_rfl
theorem po23 : tpos Tryz.prog 23 = true := by kernel_rfl
theorem tq23 : teq Tryz.prog 23 = true := by kernel_rfl
def z23 : AV := .vec 1 (List.replicate 32 (.val (.int .u8 0)))
theorem zo23 : ZeroOK Tryz.prog 23 z23 := ZeroOK.mk (.agg #[.int .u8 0, .int .u8 0, .int .u8 0, .int .u8 0, .int .u8 0, .int .u8 0, .int .u8 0, .int .u8 0, .int .u8 0, .int .u8 0, .int .u8 0, .int .u8 0, .int .u8 0, .int .u8 0, .int .u8 0, .int .u8 0, .int .u8 0, .int .u8 0, .int .u8 0, .int .u8 0, .int .u8 0, .int .u8 0, .int .u8 0, .int .u8 0, .int .u8 0, .int .u8 0, .int .u8 0, .int .u8 0, .int .u8 0, .int .u8 0, .int .u8 0, .int .u8 0]) (by kernel_rfl) (by kernel_rfl) (by kernel_rfl) (by kernel_rfl)
theorem sz25 : tsz Tryz.prog 25 = some 33 := by kernel_rfl
theorem by25 : tby Tryz.prog 25 = some 40 := by kernel_rfl
theorem ag25 : tagg Tryz.prog 25 = some true := by kernel_rfl
theorem sl25 : tsl Tryz.prog 25 = none := by kernel_rfl
theorem ar25 : tarr Tryz.prog 25 = none := by kernel_rfl
theorem pt25 : tptr Tryz.prog 25 = none := by kernel_rfl
theorem un25 : (Tryz.prog.underlying 25).isSome = true := by kernel_rfl
theorem fl25_0 : tfld Tryz.prog 25 0 = some (0, 23) := by kernel_rfl
theorem fl25_1 : tfld Tryz.prog 25 1 = some (32, 3) := by kernel_rfl
theorem fs25 : tflds Tryz.prog 25 = true := by kernel_rfl
theorem po25 : tpos Tryz.prog 25 = true := by kernel_rfl
theorem tq25 : teq Tryz.prog 25 = true := by kernel_rfl
theorem tc25 : tcmp Tryz.prog 25 = some [(0, 23), (32, 3)] := by kernel_rfl
def z25 : AV := .agg 33 [.vec 1 (List.replicate 32 (.val (.int .u8 0))), .val (.int .i64 0)]
theorem zo25 : ZeroOK Tryz.prog 25 z25 := ZeroOK.mk (.agg #[.int .u8 0, .int .u8 0, .int .u8 0, .int .u8 0, .int .u8 0, .int .u8 0, .int .u8 0, .int .u8 0, .int .u8 0, .int .u8 0, .int .u8 0, .int .u8 0, .int .u8 0, .int .u8 0, .int .u8 0, .int .u8 0, .int .u8 0, .int .u8 0, .int .u8 0, .int .u8 0, .int .u8 0, .int .u8 0, .int .u8 0, .int .u8 0, .int .u8 0, .int .u8 0, .int .u8 0, .int .u8 0, .int .u8 0, .int .u8 0, .int .u8 0, .int .u8 0, .int .i64 0]) (by kernel_rfl) (by kernel_rfl) (by kernel_rfl) (by kernel_rfl)
theorem sz27 : tsz Tryz.prog 27 = some 39 := by kernel_rfl
theorem by27 : tby Tryz.prog 27 = some 88 := by kernel_rfl
theorem ag27 : tagg Tryz.prog 27 = some true := by kernel_rfl
theorem sl27 : tsl Tryz.prog 27 = none := by kernel_rfl
theorem ar27 : tarr Tryz.prog 27 = none := by kernel_rfl
theorem pt27 : tptr Tryz.prog 27 = none := by kernel_rfl
theorem un27 : (Tryz.prog.underlying 27).isSome = true := by kernel_rfl
theorem fl27_0 : tfld Tryz.prog 27 0 = some (0, 3) := by kernel_rfl
theorem fl27_1 : tfld Tryz.prog 27 1 = some (1, 3) := by kernel_rfl
theorem fl27_2 : tfld Tryz.prog 27 2 = some (2, 3) := by kernel_rfl
theorem fl27_3 : tfld Tryz.prog 27 3 = some (3, 25) := by kernel_rfl
theorem fl27_4 : tfld Tryz.prog 27 4 = some (36, 2) := by kernel_rfl
theorem fl27_5 : tfld Tryz.prog 27 5 = some (37, 3) := by kernel_rfl
theorem fl27_6 : tfld Tryz.prog 27 6 = some (38, 3) := by kernel_rfl
theorem fs27 : tflds Tryz.prog 27 = true := by kernel_rfl
theorem po27 : tpos Tryz.prog 27 = true := by kernel_rfl
theorem tq27 : teq Tryz.prog 27 = true := by kernel_rfl
theorem tc27 : tcmp Tryz.prog 27 = some [(0, 3), (1, 3), (2, 3), (3, 25), (36, 2), (37, 3), (38, 3)] := by kernel_rfl
def z27 : AV := .agg 39 [.val (.int .i64 0), .val (.int .i64 0), .val (.int .i64 0), .agg 33 [.vec 1 (List.replicate 32 (.val (.int .u8 0))), .val (.int .i64 0)], .val (.int .i64 0), .val (.int .i64 0), .val (.int .i64 0)]
theorem zo27 : ZeroOK Tryz.prog 27 z27 := ZeroOK.mk (.agg #[.int .i64 0, .int .i64 0, .int .i64 0, .int .u8 0, .int .u8 0, .int .u8 0, .int .u8 0, .int .u8 0, .int .u8 0, .int .u8 0, .int .u8 0, .int .u8 0, .int .u8 0, .int .u8 0, .int .u8 0, .int .u8 0, .int .u8 0, .int .u8 0, .int .u8 0, .int .u8 0, .int .u8 0, .int .u8 0, .int .u8 0, .int .u8 0, .int .u8 0, .int .u8 0, .int .u8 0, .int .u8 0, .int .u8 0, .int .u8 0, .int .u8 0, .int .u8 0, .int .u8 0, .int .u8 0, .int .u8 0, .int .i64 0, .int .i64 0, .int .i64 0, .int .i64 0]) (by kernel_rfl) (by kernel_rfl) (by kernel_rfl) (by kernel_rfl)
theorem sz29 : tsz Tryz.prog 29 = some 67 := by kernel_rfl
theorem by29 : tby Tryz.prog 29 = some 88 := by kernel_rfl
theorem ag29 : tagg Tryz.prog 29 = some true := by kernel_rfl
theorem sl29 : tsl Tryz.prog 29 = none := by kernel_rfl
theorem ar29 : tarr Tryz.prog 29 = none := by kernel_rfl
theorem pt29 : tptr Tryz.prog 29 = none := by kernel_rfl
theorem un29 : (Tryz.prog.underlying 29).isSome = true := by kernel_rfl
theorem fl29_0 : tfld Tryz.prog 29 0 = some (0, 3) := by kernel_rfl
theorem fl29_1 : tfld Tryz.prog 29 1 = some (1, 3) := by kernel_rfl
theorem fl29_2 : tfld Tryz.prog 29 2 = some (2, 3) := by kernel_rfl
theorem fl29_3 : tfld Tryz.prog 29 3 = some (3, 23) := by kernel_rfl
theorem fl29_4 : tfld Tryz.prog 29 4 = some (35, 23) := by kernel_rfl
theorem fs29 : tflds Tryz.prog 29 = true := by kernel_rfl
theorem po29 : tpos Tryz.prog 29 = true := by kernel_rfl
theorem tq29 : teq Tryz.prog 29 = true := by kernel_rfl
theorem tc29 : tcmp Tryz.prog 29 = some [(0, 3), (1, 3), (2, 3), (3, 23), (35, 23)] := by kernel_rfl
def z29 : AV := .agg 67 [.val (.int .i64 0), .val (.int .i64 0), .val (.int .i64 0), .vec 1 (List.replicate 32 (.val (.int .u8 0))), .vec 1 (List.replicate 32 (.val (.int .u8 0)))]
theorem zo29 : ZeroOK Tryz.prog 29 z29 := ZeroOK.mk (.agg #[.int .i64 0, .int .i64 0, .int .i64 0, .int .u8 0, .int .u8 0, .int .u8 0, .int .u8 0, .int .u8 0, .int .u8 0, .int .u8 0, .int .u8 0, .int .u8 0, .int .u8 0, .int .u8 0, .int .u8 0, .int .u8 0, .int .u8 0, .int .u8 0, .int .u8 0, .int .u8 0, .int .u8 0, .int .u8 0, .int .u8 0, .int .u8 0, .int .u8 0, .int .u8 0, .int .u8 0, .int .u8 0, .int .u8 0, .int .u8 0, .int .u8 0, .int .u8 0, .int .u8 0, .int .u8 0, .int .u8 0, .int .u8 0, .int .u8 0, .int .u8 0, .int .u8 0, .int .u8 0, .int .u8 0, .int .u8 0, .int .u8 0, .int .u8 0, .int .u8 0, .int .u8 0, .int .u8 0, .int .u8 0, .int .u8 0, .int .u8 0, .int .u8 0, .int .u8 0, .int .u8 0, .int .u8 0, .int .u8 0, .int .u8 0, .int .u8 0, .int .u8 0, .int .u8 0, .int .u8 0, .int .u8 0, .int .u8 0, .int .u8 0, .int .u8 0, .int .u8 0, .int .u8 0, .int .u8 0]) (by kernel_rfl) (by kernel_rfl) (by kernel_rfl) (by kernel_rfl)
theorem sz30 : tsz Tryz.prog 30 = some 1 := by kernel_rfl
theorem by30 : tby Tryz.prog 30 = some 24 := by kernel_rfl
theorem ag30 : tagg Tryz.prog 30 = some false := by kernel_rfl
theorem sl30 : tsl Tryz.prog 30 = some 5 := by kernel_rfl
theorem ar30 : tarr Tryz.prog 30 = none := by kernel_rfl
theorem pt30 : tptr Tryz.prog 30 = none := by kernel_rfl
theorem un30 : (Tryz.prog.underlying 30).isSome = true := by kernel_rfl
theorem po30 : tpos Tryz.prog 30 = true := by kernel_rfl
def z30 : AV := .sl 1 [] 1
theorem zo30 : ZeroOK Tryz.prog 30 z30 := ZeroOK.mk (.slice none 0 0) (by kernel_rfl) (by kernel_rfl) (by kernel_rfl) (by kernel_rfl)
theorem sz32 : tsz Tryz.prog 32 = some 68 := by kernel_rfl
theorem by32 : tby Tryz.prog 32 = some 112 := by kernel_rfl
theorem ag32 : tagg Tryz.prog 32 = some true := by kernel_rfl
theorem sl32 : tsl Tryz.prog 32 = none := by kernel_rfl
theorem ar32 : tarr Tryz.prog 32 = none := by kernel_rfl
theorem pt32 : tptr Tryz.prog 32 = none := by kernel_rfl
theorem un32 : (Tryz.prog.underlying 32).isSome = true := by kernel_rfl
theorem fl32_0 : tfld Tryz.prog 32 0 = some (0, 29) := by kernel_rfl
theorem fl32_1 : tfld Tryz.prog 32 1 = some (67, 30) := by kernel_rfl
theorem fs32 : tflds Tryz.prog 32 = true := by kernel_rfl
theorem po32 : tpos Tryz.prog 32 = true := by kernel_rfl
def z32 : AV := .agg 68 [.agg 67 [.val (.int .i64 0), .val (.int .i64 0), .val (.int .i64 0), .vec 1 (List.replicate 32 (.val (.int .u8 0))), .vec 1 (List.replicate 32 (.val (.int .u8 0)))], .sl 1 [] 1]
theorem zo32 : ZeroOK Tryz.prog 32 z32 := ZeroOK.mk (.agg #[.int .i64 0, .int .i64 0, .int .i64 0, .int .u8 0, .int .u8 0, .int .u8 0, .int .u8 0, .int .u8 0, .int .u8 0, .int .u8 0, .int .u8 0, .int .u8 0, .int .u8 0, .int .u8 0, .int .u8 0, .int .u8 0, .int .u8 0, .int .u8 0, .int .u8 0, .int .u8 0, .int .u8 0, .int .u8 0, .int .u8 0, .int .u8 0, .int .u8 0, .int .u8 0, .int .u8 0, .int .u8 0, .int .u8 0, .int .u8 0, .int .u8 0, .int .u8 0, .int .u8 0, .int .u8 0, .int .u8 0, .int .u8 0, .int .u8 0, .int .u8 0, .int .u8 0, .int .u8 0, .int .u8 0, .int .u8 0, .int .u8 0, .int .u8 0, .int .u8 0, .int .u8 0, .int .u8 0, .int .u8 0, .int .u8 0, .int .u8 0, .int .u8 0, .int .u8 0, .int .u8 0, .int .u8 0, .int .u8 0, .int .u8 0, .int .u8 0, .int .u8 0, .int .u8 0, .int .u8 0, .int .u8 0, .int .u8 0, .int .u8 0, .int .u8 0, .int .u8 0, .int .u8 0, .int .u8 0, .slice none 0 0]) (by kernel_rfl) (by kernel_rfl) (by kernel_rfl) (by kernel_rfl)
theorem sz34 : tsz Tryz.prog 34 = some 69 := by kernel_rfl
theorem by34 : tby Tryz.prog 34 = some 136 := by kernel_rfl
theorem ag34 : tagg Tryz.prog 34 = some true := by kernel_rfl
theorem sl34 : tsl Tryz.prog 34 = none := by kernel_rfl
theorem ar34 : tarr Tryz.prog 34 = none := by kernel_rfl
theorem pt34 : tptr Tryz.prog 34 = none := by kernel_rfl
theorem un34 : (Tryz.prog.underlying 34).isSome = true := by kernel_rfl
theorem fl34_0 : tfld Tryz.prog 34 0 = some (0, 32) := by kernel_rfl
theorem fl34_1 : tfld Tryz.prog 34 1 = some (68, 30) := by kernel_rfl
theorem fs34 : tflds Tryz.prog 34 = true := by kernel_rfl
theorem po34 : tpos Tryz.prog 34 = true := by kernel_rfl
def z34 : AV := .agg 69 [.agg 68 [.agg 67 [.val (.int .i64 0), .val (.int .i64 0), .val (.int .i64 0), .vec 1 (List.replicate 32 (.val (.int .u8 0))), .vec 1 (List.replicate 32 (.val (.int .u8 0)))], .sl 1 [] 1], .sl 1 [] 1]
theorem zo34 : ZeroOK Tryz.prog 34 z34 := ZeroOK.mk (.agg #[.int .i64 0, .int .i64 0, .int .i64 0, .int .u8 0, .int .u8 0, .int .u8 0, .int .u8 0, .int .u8 0, .int .u8 0, .int .u8 0, .int .u8 0, .int .u8 0, .int .u8 0, .int .u8 0, .int .u8 0, .int .u8 0, .int .u8 0, .int .u8 0, .int .u8 0, .int .u8 0, .int .u8 0, .int .u8 0, .int .u8 0, .int .u8 0, .int .u8 0, .int .u8 0, .int .u8 0, .int .u8 0, .int .u8 0, .int .u8 0, .int .u8 0, .int .u8 0, .int .u8 0, .int .u8 0, .int .u8 0, .int .u8 0, .int .u8 0, .int .u8 0, .int .u8 0, .int .u8 0, .int .u8 0, .int .u8 0, .int .u8 0, .int .u8 0, .int .u8 0, .int .u8 0, .int .u8 0, .int .u8 0, .int .u8 0, .int .u8 0, .int .u8 0, .int .u8 0, .int .u8 0, .int .u8 0, .int .u8 0, .int .u8 0, .int .u8 0, .int .u8 0, .int .u8 0, .int .u8 0, .int .u8 0, .int .u8 0, .int .u8 0, .int .u8 0, .int .u8 0, .int .u8 0, .int .u8 0, .slice none 0 0, .slice none 0 0]) (by kernel_rfl) (by kernel_rfl) (by kernel_rfl) (by kernel_rfl)
theorem sz36 : tsz Tryz.prog 36 = some 1 := by kernel_rfl
theorem by36 : tby Tryz.prog 36 = some 24 := by kernel_rfl
theorem ag36 : tagg Tryz.prog 36 = some false := by kernel_rfl
theorem sl36 : tsl Tryz.prog 36 = some 48 := by kernel_rfl
theorem ar36 : tarr Tryz.prog 36 = none := by kernel_rfl
theorem pt36 : tptr Tryz.prog 36 = none := by kernel_rfl
theorem un36 : (Tryz.prog.underlying 36).isSome = true := by kernel_rfl
theorem po36 : tpos Tryz.prog 36 = true := by kernel_rfl
def z36 : AV := .sl 35 [] 1
theorem zo36 : ZeroOK Tryz.prog 36 z36 := ZeroOK.mk (.slice none 0 0) (by kernel_rfl) (by kernel_rfl) (by kernel_rfl) (by kernel_rfl)
theorem sz37 : tsz Tryz.prog 37 = some 1 := by kernel_rfl
theorem by37 : tby Tryz.prog 37 = some 24 := by kernel_rfl
theorem ag37 : tagg Tryz.prog 37 = some false := by kernel_rfl
theorem sl37 : tsl Tryz.prog 37 = some 51 := by kernel_rfl
theorem ar37 : tarr Tryz.prog 37 = none := by kernel_rfl
theorem pt37 : tptr Tryz.prog 37 = none := by kernel_rfl
theorem un37 : (Tryz.prog.underlying 37).isSome = true := by kernel_rfl
theorem po37 : tpos Tryz.prog 37 = true := by kernel_rfl
def z37 : AV := .sl 2 [] 1
theorem zo37 : ZeroOK Tryz.prog 37 z37 := ZeroOK.mk (.slice none 0 0) (by kernel_rfl) (by kernel_rfl) (by kernel_rfl) (by kernel_rfl)
theorem sz39 : tsz Tryz.prog 39 = some 37 := by kernel_rfl
theorem by39 : tby Tryz.prog 39 = some 88 := by kernel_rfl
theorem ag39 : tagg Tryz.prog 39 = some true := by kernel_rfl
theorem sl39 : tsl Tryz.prog 39 = none := by kernel_rfl
theorem ar39 : tarr Tryz.prog 39 = none := by kernel_rfl
theorem pt39 : tptr Tryz.prog 39 = none := by kernel_rfl
theorem un39 : (Tryz.prog.underlying 39).isSome = true := by kernel_rfl
theorem fl39_0 : tfld Tryz.prog 39 0 = some (0, 3) := by kernel_rfl
theorem fl39_1 : tfld Tryz.prog 39 1 = some (1, 3) := by kernel_rfl
theorem fl39_2 : tfld Tryz.prog 39 2 = some (2, 3) := by kernel_rfl
theorem fl39_3 : tfld Tryz.prog 39 3 = some (3, 2) := by kernel_rfl
theorem fl39_4 : tfld Tryz.prog 39 4 = some (4, 23) := by kernel_rfl
theorem fl39_5 : tfld Tryz.prog 39 5 = some (36, 30) := by kernel_rfl
theorem fs39 : tflds Tryz.prog 39 = true := by kernel_rfl
theorem po39 : tpos Tryz.prog 39 = true := by kernel_rfl
def z39 : AV := .agg 37 [.val (.int .i64 0), .val (.int .i64 0), .val (.int .i64 0), .val (.int .i64 0), .vec 1 (List.replicate 32 (.val (.int .u8 0))), .sl 1 [] 1]
theorem zo39 : ZeroOK Tryz.prog 39 z39 := ZeroOK.mk (.agg #[.int .i64 0, .int .i64 0, .int .i64 0, .int .i64 0, .int .u8 0, .int .u8 0, .int .u8 0, .int .u8 0, .int .u8 0, .int .u8 0, .int .u8 0, .int .u8 0, .int .u8 0, .int .u8 0, .int .u8 0, .int .u8 0, .int .u8 0, .int .u8 0, .int .u8 0, .int .u8 0, .int .u8 0, .int .u8 0, .int .u8 0, .int .u8 0, .int .u8 0, .int .u8 0, .int .u8 0, .int .u8 0, .int .u8 0, .int .u8 0, .int .u8 0, .int .u8 0, .int .u8 0, .int .u8 0, .int .u8 0, .int .u8 0, .slice none 0 0]) (by kernel_rfl) (by kernel_rfl) (by kernel_rfl) (by kernel_rfl)
theorem sz40 : tsz Tryz.prog 40 = some 1 := by kernel_rfl
theorem by40 : tby Tryz.prog 40 = some 24 := by kernel_rfl
theorem ag40 : tagg Tryz.prog 40 = some false := by kernel_rfl
theorem sl40 : tsl Tryz.prog 40 = some 66 := by kernel_rfl
theorem ar40 : tarr Tryz.prog 40 = none := by kernel_rfl
theorem pt40 : tptr Tryz.prog 40 = none := by kernel_rfl
theorem un40 : (Tryz.prog.underlying 40).isSome = true := by kernel_rfl
theorem po40 : tpos Tryz.prog 40 = true := by kernel_rfl
def z40 : AV := .sl 33 [] 1
theorem zo40 : ZeroOK Tryz.prog 40 z40 := ZeroOK.mk (.slice none 0 0) (by kernel_rfl) (by kernel_rfl) (by kernel_rfl) (by kernel_rfl)
theorem sz42 : tsz Tryz.prog 42 = some 40 := by kernel_rfl
theorem by42 : tby Tryz.prog 42 = some 160 := by kernel_rfl
theorem ag42 : tagg Tryz.prog 42 = some true := by kernel_rfl
theorem sl42 : tsl Tryz.prog 42 = none := by kernel_rfl
theorem ar42 : tarr Tryz.prog 42 = none := by kernel_rfl
theorem pt42 : tptr Tryz.prog 42 = none := by kernel_rfl
theorem un42 : (Tryz.prog.underlying 42).isSome = true := by kernel_rfl
theorem fl42_0 : tfld Tryz.prog 42 0 = some (0, 36) := by kernel_rfl
theorem fl42_1 : tfld Tryz.prog 42 1 = some (1, 37) := by kernel_rfl
theorem fl42_2 : tfld Tryz.prog 42 2 = some (2, 39) := by kernel_rfl
theorem fl42_3 : tfld Tryz.prog 42 3 = some (39, 40) := by kernel_rfl
theorem fs42 : tflds Tryz.prog 42 = true := by kernel_rfl
theorem po42 : tpos Tryz.prog 42 = true := by kernel_rfl
def z42 : AV := .agg 40 [.sl 35 [] 1, .sl 2 [] 1, .agg 37 [.val (.int .i64 0), .val (.int .i64 0), .val (.int .i64 0), .val (.int .i64 0), .vec 1 (List.replicate 32 (.val (.int .u8 0))), .sl 1 [] 1], .sl 33 [] 1]
theorem zo42 : ZeroOK Tryz.prog 42 z42 := ZeroOK.mk (.agg #[.slice none 0 0, .slice none 0 0, .int .i64 0, .int .i64 0, .int .i64 0, .int .i64 0, .int .u8 0, .int .u8 0, .int .u8 0, .int .u8 0, .int .u8 0, .int .u8 0, .int .u8 0, .int .u8 0, .int .u8 0, .int .u8 0, .int .u8 0, .int .u8 0, .int .u8 0, .int .u8 0, .int .u8 0, .int .u8 0, .int .u8 0, .int .u8 0, .int .u8 0, .int .u8 0, .int .u8 0, .int .u8 0, .int .u8 0, .int .u8 0, .int .u8 0, .int .u8 0, .int .u8 0, .int .u8 0, .int .u8 0, .int .u8 0, .int .u8 0, .int .u8 0, .slice none 0 0, .slice none 0 0]) (by kernel_rfl) (by kernel_rfl) (by kernel_rfl) (by kernel_rfl)
theorem sz43 : tsz Tryz.prog 43 = some 1 := by kernel_rfl
theorem by43 : tby Tryz.prog 43 = some 8 := by kernel_rfl
theorem ag43 : tagg Tryz.prog 43 = some false := by kernel_rfl
theorem sl43 : tsl Tryz.prog 43 = none := by kernel_rfl
theorem ar43 : tarr Tryz.prog 43 = none := by kernel_rfl
theorem pt43 : tptr Tryz.prog 43 = none := by kernel_rfl
theorem in43 : tint Tryz.prog 43 = some .i64 := by kernel_rfl
theorem un43 : (Tryz.prog.underlying 43).isSome = true := by kernel_rfl
theorem po43 : tpos Tryz.prog 43 = true := by kernel_rfl
def z43 : AV := .val (.int .i64 0)
theorem zo43 : ZeroOK Tryz.prog 43 z43 := ZeroOK.mk (.int .i64 0) (by kernel_rfl) (by kernel_rfl) (by kernel_rfl) (by kernel_rfl)
theorem sz48 : tsz Tryz.prog 48 = some 35 := by kernel_rfl
theorem by48 : tby Tryz.prog 48 = some 72 := by kernel_rfl
theorem ag48 : tagg Tryz.prog 48 = some true := by kernel_rfl
theorem sl48 : tsl Tryz.prog 48 = none := by kernel_rfl
theorem ar48 : tarr Tryz.prog 48 = none := by kernel_rfl
theorem pt48 : tptr Tryz.prog 48 = none := by kernel_rfl
theorem un48 : (Tryz.prog.underlying 48).isSome = true := by kernel_rfl
theorem fl48_0 : tfld Tryz.prog 48 0 = some (0, 25) := by kernel_rfl
theorem fl48_1 : tfld Tryz.prog 48 1 = some (33, 3) := by kernel_rfl
theorem fl48_2 : tfld Tryz.prog 48 2 = some (34, 30) := by kernel_rfl
theorem fs48 : tflds Tryz.prog 48 = true := by kernel_rfl
theorem po48 : tpos Tryz.prog 48 = true := by kernel_rfl
def z48 : AV := .agg 35 [.agg 33 [.vec 1 (List.replicate 32 (.val (.int .u8 0))), .val (.int .i64 0)], .val (.int .i64 0), .sl 1 [] 1]
theorem zo48 : ZeroOK Tryz.prog 48 z48 := ZeroOK.mk (.agg #[.int .u8 0, .int .u8 0, .int .u8 0, .int .u8 0, .int .u8 0, .int .u8 0, .int .u8 0, .int .u8 0, .int .u8 0, .int .u8 0, .int .u8 0, .int .u8 0, .int .u8 0, .int .u8 0, .int .u8 0, .int .u8 0, .int .u8 0, .int .u8 0, .int .u8 0, .int .u8 0, .int .u8 0, .int .u8 0, .int .u8 0, .int .u8 0, .int .u8 0, .int .u8 0, .int .u8 0, .int .u8 0, .int .u8 0, .int .u8 0, .int .u8 0, .int .u8 0, .int .i64 0, .int .i64 0, .slice none 0 0]) (by kernel_rfl) (by kernel_rfl) (by kernel_rfl) (by kernel_rfl)
theorem sz49 : tsz Tryz.prog 49 = some 1 := by kernel_rfl
theorem by49 : tby Tryz.prog 49 = some 24 := by kernel_rfl
theorem ag49 : tagg Tryz.prog 49 = some false := by kernel_rfl
theorem sl49 : tsl Tryz.prog 49 = some 90 := by kernel_rfl
theorem ar49 : tarr Tryz.prog 49 = none := by kernel_rfl
theorem pt49 : tptr Tryz.prog 49 = none := by kernel_rfl
theorem un49 : (Tryz.prog.underlying 49).isSome = true := by kernel_rfl
theorem po49 : tpos Tryz.prog 49 = true := by kernel_rfl
def z49 : AV := .sl 35 [] 1
theorem zo49 : ZeroOK Tryz.prog 49 z49 := ZeroOK.mk (.slice none 0 0) (by kernel_rfl) (by kernel_rfl) (by kernel_rfl) (by kernel_rfl)
theorem sz51 : tsz Tryz.prog 51 = some 2 := by kernel_rfl
theorem by51 : tby Tryz.prog 51 = some 32 := by kernel_rfl
theorem ag51 : tagg Tryz.prog 51 = some true := by kernel_rfl
theorem sl51 : tsl Tryz.prog 51 = none := by kernel_rfl
theorem ar51 : tarr Tryz.prog 51 = none := by kernel_rfl
theorem pt51 : tptr Tryz.prog 51 = none := by kernel_rfl
theorem un51 : (Tryz.prog.underlying 51).isSome = true := by kernel_rfl
theorem fl51_0 : tfld Tryz.prog 51 0 = some (0, 2) := by kernel_rfl
theorem fl51_1 : tfld Tryz.prog 51 1 = some (1, 49) := by kernel_rfl
theorem fs51 : tflds Tryz.prog 51 = true := by kernel_rfl
theorem po51 : tpos Tryz.prog 51 = true := by kernel_rfl
def z51 : AV := .agg 2 [.val (.int .i64 0), .sl 35 [] 1]
theorem zo51 : ZeroOK Tryz.prog 51 z51 := ZeroOK.mk (.agg #[.int .i64 0, .slice none 0 0]) (by kernel_rfl) (by kernel_rfl) (by kernel_rfl) (by kernel_rfl)
theorem sz57 : tsz Tryz.prog 57 = some 1 := by kernel_rfl
theorem by57 : tby Tryz.prog 57 = some 24 := by kernel_rfl
theorem ag57 : tagg Tryz.prog 57 = some false := by kernel_rfl
theorem sl57 : tsl Tryz.prog 57 = some 68 := by kernel_rfl
theorem ar57 : tarr Tryz.prog 57 = none := by kernel_rfl
theorem pt57 : tptr Tryz.prog 57 = none := by kernel_rfl
theorem un57 : (Tryz.prog.underlying 57).isSome = true := by kernel_rfl
theorem po57 : tpos Tryz.prog 57 = true := by kernel_rfl
def z57 : AV := .sl 274 [] 1
theorem zo57 : ZeroOK Tryz.prog 57 z57 := ZeroOK.mk (.slice none 0 0) (by kernel_rfl) (by kernel_rfl) (by kernel_rfl) (by kernel_rfl)
theorem sz59 : tsz Tryz.prog 59 = some 1 := by kernel_rfl
theorem by59 : tby Tryz.prog 59 = some 8 := by kernel_rfl
theorem ag59 : tagg Tryz.prog 59 = some false := by kernel_rfl
theorem sl59 : tsl Tryz.prog 59 = none := by kernel_rfl
theorem ar59 : tarr Tryz.prog 59 = none := by kernel_rfl
theorem pt59 : tptr Tryz.prog 59 = some 98 := by kernel_rfl
theorem un59 : (Tryz.prog.underlying 59).isSome = true := by kernel_rfl
theorem po59 : tpos Tryz.prog 59 = true := by kernel_rfl
def z59 : AV := .val (.pointer none)
theorem zo59 : ZeroOK Tryz.prog 59 z59 := ZeroOK.mk (.pointer none) (by kernel_rfl) (by kernel_rfl) (by kernel_rfl) (by kernel_rfl)
theorem sz62 : tsz Tryz.prog 62 = some 64 := by kernel_rfl
theorem by62 : tby Tryz.prog 62 = some 64 := by kernel_rfl
theorem ag62 : tagg Tryz.prog 62 = some true := by kernel_rfl
theorem sl62 : tsl Tryz.prog 62 = none := by kernel_rfl
theorem ar62 : tarr Tryz.prog 62 = some (2, 23) := by kernel_rfl
theorem pt62 : tptr Tryz.prog 62 = none := by kernel_rfl
theorem un62 : (Tryz.prog.underlying 62).isSome = true := by kernel_rfl
theorem po62 : tpos Tryz.prog 62 = true := by kernel_rfl
theorem tq62 : teq Tryz.prog 62 = true := by kernel_rfl
def z62 : AV := .vec 32 (List.replicate 2 (.vec 1 (List.replicate 32 (.val (.int .u8 0)))))
theorem zo62 : ZeroOK Tryz.prog 62 z62 := ZeroOK.mk (.agg #[.int .u8 0, .int .u8 0, .int .u8 0, .int .u8 0, .int .u8 0, .int .u8 0, .int .u8 0, .int .u8 0, .int .u8 0, .int .u8 0, .int .u8 0, .int .u8 0, .int .u8 0, .int .u8 0, .int .u8 0, .int .u8 0, .int .u8 0, .int .u8 0, .int .u8 0, .int .u8 0, .int .u8 0, .int .u8 0, .int .u8 0, .int .u8 0, .int .u8 0, .int .u8 0, .int .u8 0, .int .u8 0, .int .u8 0, .int .u8 0, .int .u8 0, .int .u8 0, .int .u8 0, .int .u8 0, .int .u8 0, .int .u8 0, .int .u8 0, .int .u8 0, .int .u8 0, .int .u8 0, .int .u8 0, .int .u8 0, .int .u8 0, .int .u8 0, .int .u8 0, .int .u8 0, .int .u8 0, .int .u8 0, .int .u8 0, .int .u8 0, .int .u8 0, .int .u8 0, .int .u8 0, .int .u8 0, .int .u8 0, .int .u8 0, .int .u8 0, .int .u8 0, .int .u8 0, .int .u8 0, .int .u8 0, .int .u8 0, .int .u8 0, .int .u8 0]) (by kernel_rfl) (by kernel_rfl) (by kernel_rfl) (by kernel_rfl)
theorem sz64 : tsz Tryz.prog 64 = some 67 := by kernel_rfl
theorem by64 : tby Tryz.prog 64 = some 88 := by kernel_rfl
theorem ag64 : tagg Tryz.prog 64 = some true := by kernel_rfl
theorem sl64 : tsl Tryz.prog 64 = none := by kernel_rfl
theorem ar64 : tarr Tryz.prog 64 = none := by kernel_rfl
theorem pt64 : tptr Tryz.prog 64 = none := by kernel_rfl
theorem un64 : (Tryz.prog.underlying 64).isSome = true := by kernel_rfl
theorem fl64_0 : tfld Tryz.prog 64 0 = some (0, 3) := by kernel_rfl
theorem fl64_1 : tfld Tryz.prog 64 1 = some (1, 2) := by kernel_rfl
theorem fl64_2 : tfld Tryz.prog 64 2 = some (2, 2) := by kernel_rfl
theorem fl64_3 : tfld Tryz.prog 64 3 = some (3, 62) := by kernel_rfl
theorem fs64 : tflds Tryz.prog 64 = true := by kernel_rfl
theorem po64 : tpos Tryz.prog 64 = true := by kernel_rfl
theorem tq64 : teq Tryz.prog 64 = true := by kernel_rfl
theorem tc64 : tcmp Tryz.prog 64 = some [(0, 3), (1, 2), (2, 2), (3, 62)] := by kernel_rfl
def z64 : AV := .agg 67 [.val (.int .i64 0), .val (.int .i64 0), .val (.int .i64 0), .vec 32 (List.replicate 2 (.vec 1 (List.replicate 32 (.val (.int .u8 0)))))]
theorem zo64 : ZeroOK Tryz.prog 64 z64 := ZeroOK.mk (.agg #[.int .i64 0, .int .i64 0, .int .i64 0, .int .u8 0, .int .u8 0, .int .u8 0, .int .u8 0, .int .u8 0, .int .u8 0, .int .u8 0, .int .u8 0, .int .u8 0, .int .u8 0, .int .u8 0, .int .u8 0, .int .u8 0, .int .u8 0, .int .u8 0, .int .u8 0, .int .u8 0, .int .u8 0, .int .u8 0, .int .u8 0, .int .u8 0, .int .u8 0, .int .u8 0, .int .u8 0, .int .u8 0, .int .u8 0, .int .u8 0, .int .u8 0, .int .u8 0, .int .u8 0, .int .u8 0, .int .u8 0, .int .u8 0, .int .u8 0, .int .u8 0, .int .u8 0, .int .u8 0, .int .u8 0, .int .u8 0, .int .u8 0, .int .u8 0, .int .u8 0, .int .u8 0, .int .u8 0, .int .u8 0, .int .u8 0, .int .u8 0, .int .u8 0, .int .u8 0, .int .u8 0, .int .u8 0, .int .u8 0, .int .u8 0, .int .u8 0, .int .u8 0, .int .u8 0, .int .u8 0, .int .u8 0, .int .u8 0, .int .u8 0, .int .u8 0, .int .u8 0, .int .u8 0, .int .u8 0]) (by kernel_rfl) (by kernel_rfl) (by kernel_rfl) (by kernel_rfl)
theorem sz66 : tsz Tryz.prog 66 = some 33 := by kernel_rfl
theorem by66 : tby Tryz.prog 66 = some 40 := by kernel_rfl
theorem ag66 : tagg Tryz.prog 66 = some true := by kernel_rfl
theorem sl66 : tsl Tryz.prog 66 = none := by kernel_rfl
theorem ar66 : tarr Tryz.prog 66 = none := by kernel_rfl
theorem pt66 : tptr Tryz.prog 66 = none := by kernel_rfl
theorem un66 : (Tryz.prog.underlying 66).isSome = true := by kernel_rfl
theorem fl66_0 : tfld Tryz.prog 66 0 = some (0, 3) := by kernel_rfl
theorem fl66_1 : tfld Tryz.prog 66 1 = some (1, 23) := by kernel_rfl
theorem fs66 : tflds Tryz.prog 66 = true := by kernel_rfl
theorem po66 : tpos Tryz.prog 66 = true := by kernel_rfl
theorem tq66 : teq Tryz.prog 66 = true := by kernel_rfl
theorem tc66 : tcmp Tryz.prog 66 = some [(0, 3), (1, 23)] := by kernel_rfl
def z66 : AV := .agg 33 [.val (.int .i64 0), .vec 1 (List.replicate 32 (.val (.int .u8 0)))]
theorem zo66 : ZeroOK Tryz.prog 66 z66 := ZeroOK.mk (.agg #[.int .i64 0, .int .u8 0, .int .u8 0, .int .u8 0, .int .u8 0, .int .u8 0, .int .u8 0, .int .u8 0, .int .u8 0, .int .u8 0, .int .u8 0, .int .u8 0, .int .u8 0, .int .u8 0, .int .u8 0, .int .u8 0, .int .u8 0, .int .u8 0, .int .u8 0, .int .u8 0, .int .u8 0, .int .u8 0, .int .u8 0, .int .u8 0, .int .u8 0, .int .u8 0, .int .u8 0, .int .u8 0, .int .u8 0, .int .u8 0, .int .u8 0, .int .u8 0, .int .u8 0]) (by kernel_rfl) (by kernel_rfl) (by kernel_rfl) (by kernel_rfl)
theorem sz68 : tsz Tryz.prog 68 = some 274 := by kernel_rfl
theorem by68 : tby Tryz.prog 68 = some 432 := by kernel_rfl
theorem ag68 : tagg Tryz.prog 68 = some true := by kernel_rfl
theorem sl68 : tsl Tryz.prog 68 = none := by kernel_rfl
theorem ar68 : tarr Tryz.prog 68 = none := by kernel_rfl
theorem pt68 : tptr Tryz.prog 68 = none := by kernel_rfl
theorem un68 : (Tryz.prog.underlying 68).isSome = true := by kernel_rfl
theorem fl68_0 : tfld Tryz.prog 68 0 = some (0, 3) := by kernel_rfl
theorem fl68_1 : tfld Tryz.prog 68 1 = some (1, 27) := by kernel_rfl
theorem fl68_2 : tfld Tryz.prog 68 2 = some (40, 64) := by kernel_rfl
theorem fl68_3 : tfld Tryz.prog 68 3 = some (107, 66) := by kernel_rfl
theorem fl68_4 : tfld Tryz.prog 68 4 = some (140, 23) := by kernel_rfl
theorem fl68_5 : tfld Tryz.prog 68 5 = some (172, 3) := by kernel_rfl
theorem fl68_6 : tfld Tryz.prog 68 6 = some (173, 23) := by kernel_rfl
theorem fl68_7 : tfld Tryz.prog 68 7 = some (205, 32) := by kernel_rfl
theorem fl68_8 : tfld Tryz.prog 68 8 = some (273, 30) := by kernel_rfl
theorem fs68 : tflds Tryz.prog 68 = true := by kernel_rfl
theorem po68 : tpos Tryz.prog 68 = true := by kernel_rfl
def z68 : AV := .agg 274 [.val (.int .i64 0), .agg 39 [.val (.int .i64 0), .val (.int .i64 0), .val (.int .i64 0), .agg 33 [.vec 1 (List.replicate 32 (.val (.int .u8 0))), .val (.int .i64 0)], .val (.int .i64 0), .val (.int .i64 0), .val (.int .i64 0)], .agg 67 [.val (.int .i64 0), .val (.int .i64 0), .val (.int .i64 0), .vec 32 (List.replicate 2 (.vec 1 (List.replicate 32 (.val (.int .u8 0)))))], .agg 33 [.val (.int .i64 0), .vec 1 (List.replicate 32 (.val (.int .u8 0)))], .vec 1 (List.replicate 32 (.val (.int .u8 0))), .val (.int .i64 0), .vec 1 (List.replicate 32 (.val (.int .u8 0))), .agg 68 [.agg 67 [.val (.int .i64 0), .val (.int .i64 0), .val (.int .i64 0), .vec 1 (List.replicate 32 (.val (.int .u8 0))), .vec 1 (List.replicate 32 (.val (.int .u8 0)))], .sl 1 [] 1], .sl 1 [] 1]
theorem zo68 : ZeroOK Tryz.prog 68 z68 := ZeroOK.mk (.agg #[.int .i64 0, .int .i64 0, .int .i64 0, .int .i64 0, .int .u8 0, .int .u8 0, .int .u8 0, .int .u8 0, .int .u8 0, .int .u8 0, .int .u8 0, .int .u8 0, .int .u8 0, .int .u8 0, .int .u8 0, .int .u8 0, .int .u8 0, .int .u8 0, .int .u8 0, .int .u8 0, .int .u8 0, .int .u8 0, .int .u8 0, .int .u8 0, .int .u8 0, .int .u8 0, .int .u8 0, .int .u8 0, .int .u8 0, .int .u8 0, .int .u8 0, .int .u8 0, .int .u8 0, .int .u8 0, .int .u8 0, .int .u8 0, .int .i64 0, .int .i64 0, .int .i64 0, .int .i64 0, .int .i64 0, .int .i64 0, .int .i64 0, .int .u8 0, .int .u8 0, .int .u8 0, .int .u8 0, .int .u8 0, .int .u8 0, .int .u8 0, .int .u8 0, .int .u8 0, .int .u8 0, .int .u8 0, .int .u8 0, .int .u8 0, .int .u8 0, .int .u8 0, .int .u8 0, .int .u8 0, .int .u8 0, .int .u8 0, .int .u8 0, .int .u8 0, .int .u8 0, .int .u8 0, .int .u8 0, .int .u8 0, .int .u8 0, .int .u8 0, .int .u8 0, .int .u8 0, .int .u8 0, .int .u8 0, .int .u8 0, .int .u8 0, .int .u8 0, .int .u8 0, .int .u8 0, .int .u8 0, .int .u8 0, .int .u8 0, .int .u8 0, .int .u8 0, .int .u8 0, .int .u8 0, .int .u8 0, .int .u8 0, .int .u8 0, .int .u8 0, .int .u8 0, .int .u8 0, .int .u8 0, .int .u8 0, .int .u8 0, .int .u8 0, .int .u8 0, .int .u8 0, .int .u8 0, .int .u8 0, .int .u8 0, .int .u8 0, .int .u8 0, .int .u8 0, .int .u8 0, .int .u8 0, .int .u8 0, .int .i64 0, .int .u8 0, .int .u8 0, .int .u8 0, .int .u8 0, .int .u8 0, .int .u8 0, .int .u8 0, .int .u8 0, .int .u8 0, .int .u8 0, .int .u8 0, .int .u8 0, .int .u8 0, .int .u8 0, .int .u8 0, .int .u8 0, .int .u8 0, .int .u8 0, .int .u8 0, .int .u8 0, .int .u8 0, .int .u8 0, .int .u8 0, .int .u8 0, .int .u8 0, .int .u8 0, .int .u8 0, .int .u8 0, .int .u8 0, .int .u8 0, .int .u8 0, .int .u8 0, .int .u8 0, .int .u8 0, .int .u8 0, .int .u8 0, .int .u8 0, .int .u8 0, .int .u8 0, .int .u8 0, .int .u8 0, .int .u8 0, .int .u8 0, .int .u8 0, .int .u8 0, .int .u8 0, .int .u8 0, .int .u8 0, .int .u8 0, .int .u8 0, .int .u8 0, .int .u8 0, .int .u8 0, .int .u8 0, .int .u8 0, .int .u8 0, .int .u8 0, .int .u8 0, .int .u8 0, .int .u8 0, .int .u8 0, .int .u8 0, .int .u8 0, .int .u8 0, .int .i64 0, .int .u8 0, .int .u8 0, .int .u8 0, .int .u8 0, .int .u8 0, .int .u8 0, .int .u8 0, .int .u8 0, .int .u8 0, .int .u8 0, .int .u8 0, .int .u8 0, .int .u8 0, .int .u8 0, .int .u8 0, .int .u8 0, .int .u8 0, .int .u8 0, .int .u8 0, .int .u8 0, .int .u8 0, .int .u8 0, .int .u8 0, .int .u8 0, .int .u8 0, .int .u8 0, .int .u8 0, .int .u8 0, .int .u8 0, .int .u8 0, .int .u8 0, .int .u8 0, .int .i64 0, .int .i64 0, .int .i64 0, .int .u8 0, .int .u8 0, .int .u8 0, .int .u8 0, .int .u8 0, .int .u8 0, .int .u8 0, .int .u8 0, .int .u8 0, .int .u8 0, .int .u8 0, .int .u8 0, .int .u8 0, .int .u8 0, .int .u8 0, .int .u8 0, .int .u8 0, .int .u8 0, .int .u8 0, .int .u8 0, .int .u8 0, .int .u8 0, .int .u8 0, .int .u8 0, .int .u8 0, .int .u8 0, .int .u8 0, .int .u8 0, .int .u8 0, .int .u8 0, .int .u8 0, .int .u8 0, .int .u8 0, .int .u8 0, .int .u8 0, .int .u8 0, .int .u8 0, .int .u8 0, .int .u8 0, .int .u8 0, .int .u8 0, .int .u8 0, .int .u8 0, .int .u8 0, .int .u8 0, .int .u8 0, .int .u8 0, .int .u8 0, .int .u8 0, .int .u8 0, .int .u8 0, .int .u8 0, .int .u8 0, .int .u8 0, .int .u8 0, .int .u8 0, .int .u8 0, .int .u8 0, .int .u8 0, .int .u8 0, .int .u8 0, .int .u8 0, .int .u8 0, .int .u8 0, .slice none 0 0, .slice none 0 0]) (by kernel_rfl) (by kernel_rfl) (by kernel_rfl) (by kernel_rfl)
theorem sz69 : tsz Tryz.prog 69 = some 1 := by kernel_rfl
theorem by69 : tby Tryz.prog 69 = some 24 := by kernel_rfl
theorem ag69 : tagg Tryz.prog 69 = some false := by kernel_rfl
theorem sl69 : tsl Tryz.prog 69 = some 64 := by kernel_rfl
theorem ar69 : tarr Tryz.prog 69 = none := by kernel_rfl
theorem pt69 : tptr Tryz.prog 69 = none := by kernel_rfl
theorem un69 : (Tryz.prog.underlying 69).isSome = true := by kernel_rfl
theorem po69 : tpos Tryz.prog 69 = true := by kernel_rfl
def z69 : AV := .sl 67 [] 1
theorem zo69 : ZeroOK Tryz.prog 69 z69 := ZeroOK.mk (.slice none 0 0) (by kernel_rfl) (by kernel_rfl) (by kernel_rfl) (by kernel_rfl)
theorem sz75 : tsz Tryz.prog 75 = some 1 := by kernel_rfl
theorem by75 : tby Tryz.prog 75 = some 24 := by kernel_rfl
theorem ag75 : tagg Tryz.prog 75 = some false := by kernel_rfl
theorem sl75 : tsl Tryz.prog 75 = some 42 := by kernel_rfl
theorem ar75 : tarr Tryz.prog 75 = none := by kernel_rfl
theorem pt75 : tptr Tryz.prog 75 = none := by kernel_rfl
theorem un75 : (Tryz.prog.underlying 75).isSome = true := by kernel_rfl
theorem po75 : tpos Tryz.prog 75 = true := by kernel_rfl
def z75 : AV := .sl 40 [] 1
theorem zo75 : ZeroOK Tryz.prog 75 z75 := ZeroOK.mk (.slice none 0 0) (by kernel_rfl) (by kernel_rfl) (by kernel_rfl) (by kernel_rfl)
theorem sz80 : tsz Tryz.prog 80 = some 101 := by kernel_rfl
theorem by80 : tby Tryz.prog 80 = some 168 := by kernel_rfl
theorem ag80 : tagg Tryz.prog 80 = some true := by kernel_rfl
theorem sl80 : tsl Tryz.prog 80 = none := by kernel_rfl
theorem ar80 : tarr Tryz.prog 80 = none := by kernel_rfl
theorem pt80 : tptr Tryz.prog 80 = none := by kernel_rfl
theorem un80 : (Tryz.prog.underlying 80).isSome = true := by kernel_rfl
theorem fl80_0 : tfld Tryz.prog 80 0 = some (0, 29) := by kernel_rfl
theorem fl80_1 : tfld Tryz.prog 80 1 = some (67, 30) := by kernel_rfl
theorem fl80_2 : tfld Tryz.prog 80 2 = some (68, 30) := by kernel_rfl
theorem fl80_3 : tfld Tryz.prog 80 3 = some (69, 23) := by kernel_rfl
theorem fs80 : tflds Tryz.prog 80 = true := by kernel_rfl
theorem po80 : tpos Tryz.prog 80 = true := by kernel_rfl
def z80 : AV := .agg 101 [.agg 67 [.val (.int .i64 0), .val (.int .i64 0), .val (.int .i64 0), .vec 1 (List.replicate 32 (.val (.int .u8 0))), .vec 1 (List.replicate 32 (.val (.int .u8 0)))], .sl 1 [] 1, .sl 1 [] 1, .vec 1 (List.replicate 32 (.val (.int .u8 0)))]
theorem zo80 : ZeroOK Tryz.prog 80 z80 := ZeroOK.mk (.agg #[.int .i64 0, .int .i64 0, .int .i64 0, .int .u8 0, .int .u8 0, .int .u8 0, .int .u8 0, .int .u8 0, .int .u8 0, .int .u8 0, .int .u8 0, .int .u8 0, .int .u8 0, .int .u8 0, .int .u8 0, .int .u8 0, .int .u8 0, .int .u8 0, .int .u8 0, .int .u8 0, .int .u8 0, .int .u8 0, .int .u8 0, .int .u8 0, .int .u8 0, .int .u8 0, .int .u8 0, .int .u8 0, .int .u8 0, .int .u8 0, .int .u8 0, .int .u8 0, .int .u8 0, .int .u8 0, .int .u8 0, .int .u8 0, .int .u8 0, .int .u8 0, .int .u8 0, .int .u8 0, .int .u8 0, .int .u8 0, .int .u8 0, .int .u8 0, .int .u8 0, .int .u8 0, .int .u8 0, .int .u8 0, .int .u8 0, .int .u8 0, .int .u8 0, .int .u8 0, .int .u8 0, .int .u8 0, .int .u8 0, .int .u8 0, .int .u8 0, .int .u8 0, .int .u8 0, .int .u8 0, .int .u8 0, .int .u8 0, .int .u8 0, .int .u8 0, .int .u8 0, .int .u8 0, .int .u8 0, .slice none 0 0, .slice none 0 0, .int .u8 0, .int .u8 0, .int .u8 0, .int .u8 0, .int .u8 0, .int .u8 0, .int .u8 0, .int .u8 0, .int .u8 0, .int .u8 0, .int .u8 0, .int .u8 0, .int .u8 0, .int .u8 0, .int .u8 0, .int .u8 0, .int .u8 0, .int .u8 0, .int .u8 0, .int .u8 0, .int .u8 0, .int .u8 0, .int .u8 0, .int .u8 0, .int .u8 0, .int .u8 0, .int .u8 0, .int .u8 0, .int .u8 0, .int .u8 0, .int .u8 0, .int .u8 0]) (by kernel_rfl) (by kernel_rfl) (by kernel_rfl) (by kernel_rfl)
theorem sz81 : tsz Tryz.prog 81 = some 1 := by kernel_rfl
theorem by81 : tby Tryz.prog 81 = some 24 := by kernel_rfl
theorem ag81 : tagg Tryz.prog 81 = some false := by kernel_rfl
theorem sl81 : tsl Tryz.prog 81 = some 3 := by kernel_rfl
theorem ar81 : tarr Tryz.prog 81 = none := by kernel_rfl
theorem pt81 : tptr Tryz.prog 81 = none := by kernel_rfl
theorem un81 : (Tryz.prog.underlying 81).isSome = true := by kernel_rfl
theorem po81 : tpos Tryz.prog 81 = true := by kernel_rfl
def z81 : AV := .sl 1 [] 1
theorem zo81 : ZeroOK Tryz.prog 81 z81 := ZeroOK.mk (.slice none 0 0) (by kernel_rfl) (by kernel_rfl) (by kernel_rfl) (by kernel_rfl)
theorem sz85 : tsz Tryz.prog 85 = some 1 := by kernel_rfl
theorem by85 : tby Tryz.prog 85 = some 8 := by kernel_rfl
theorem ag85 : tagg Tryz.prog 85 = some false := by kernel_rfl
theorem sl85 : tsl Tryz.prog 85 = none := by kernel_rfl
theorem ar85 : tarr Tryz.prog 85 = none := by kernel_rfl
theorem pt85 : tptr Tryz.prog 85 = none := by kernel_rfl
theorem un85 : (Tryz.prog.underlying 85).isSome = true := by kernel_rfl
theorem po85 : tpos Tryz.prog 85 = true := by kernel_rfl
def z85 : AV := .val .nilFunc
theorem zo85 : ZeroOK Tryz.prog 85 z85 := ZeroOK.mk (.nilFunc) (by kernel_rfl) (by kernel_rfl) (by kernel_rfl) (by kernel_rfl)
theorem sz88 : tsz Tryz.prog 88 = some 1 := by kernel_rfl
theorem by88 : tby Tryz.prog 88 = some 8 := by kernel_rfl
theorem ag88 : tagg Tryz.prog 88 = some false := by kernel_rfl
theorem sl88 : tsl Tryz.prog 88 = none := by kernel_rfl
theorem ar88 : tarr Tryz.prog 88 = none := by kernel_rfl
theorem pt88 : tptr Tryz.prog 88 = none := by kernel_rfl
theorem un88 : (Tryz.prog.underlying 88).isSome = true := by kernel_rfl
theorem po88 : tpos Tryz.prog 88 = true := by kernel_rfl
def z88 : AV := .val .nilFunc
theorem zo88 : ZeroOK Tryz.prog 88 z88 := ZeroOK.mk (.nilFunc) (by kernel_rfl) (by kernel_rfl) (by kernel_rfl) (by kernel_rfl)
theorem sz90 : tsz Tryz.prog 90 = some 35 := by kernel_rfl
theorem by90 : tby Tryz.prog 90 = some 72 := by kernel_rfl
theorem ag90 : tagg Tryz.prog 90 = some true := by kernel_rfl
theorem sl90 : tsl Tryz.prog 90 = none := by kernel_rfl
theorem ar90 : tarr Tryz.prog 90 = none := by kernel_rfl
theorem pt90 : tptr Tryz.prog 90 = none := by kernel_rfl
theorem un90 : (Tryz.prog.underlying 90).isSome = true := by kernel_rfl
theorem fl90_0 : tfld Tryz.prog 90 0 = some (0, 81) := by kernel_rfl
theorem fl90_1 : tfld Tryz.prog 90 1 = some (1, 23) := by kernel_rfl
theorem fl90_2 : tfld Tryz.prog 90 2 = some (33, 3) := by kernel_rfl
theorem fl90_3 : tfld Tryz.prog 90 3 = some (34, 3) := by kernel_rfl
theorem fs90 : tflds Tryz.prog 90 = true := by kernel_rfl
theorem po90 : tpos Tryz.prog 90 = true := by kernel_rfl
def z90 : AV := .agg 35 [.sl 1 [] 1, .vec 1 (List.replicate 32 (.val (.int .u8 0))), .val (.int .i64 0), .val (.int .i64 0)]
theorem zo90 : ZeroOK Tryz.prog 90 z90 := ZeroOK.mk (.agg #[.slice none 0 0, .int .u8 0, .int .u8 0, .int .u8 0, .int .u8 0, .int .u8 0, .int .u8 0, .int .u8 0, .int .u8 0, .int .u8 0, .int .u8 0, .int .u8 0, .int .u8 0, .int .u8 0, .int .u8 0, .int .u8 0, .int .u8 0, .int .u8 0, .int .u8 0, .int .u8 0, .int .u8 0, .int .u8 0, .int .u8 0, .int .u8 0, .int .u8 0, .int .u8 0, .int .u8 0, .int .u8 0, .int .u8 0, .int .u8 0, .int .u8 0, .int .u8 0, .int .u8 0, .int .i64 0, .int .i64 0]) (by kernel_rfl) (by kernel_rfl) (by kernel_rfl) (by kernel_rfl)
theorem sz92 : tsz Tryz.prog 92 = some 1 := by kernel_rfl
theorem by92 : tby Tryz.prog 92 = some 8 := by kernel_rfl
theorem ag92 : tagg Tryz.prog 92 = some false := by kernel_rfl
theorem sl92 : tsl Tryz.prog 92 = none := by kernel_rfl
theorem ar92 : tarr Tryz.prog 92 = none := by kernel_rfl
theorem pt92 : tptr Tryz.prog 92 = none := by kernel_rfl
theorem mp92 : tmap Tryz.prog 92 = some (3, 23) := by kernel_rfl
theorem un92 : (Tryz.prog.underlying 92).isSome = true := by kernel_rfl
theorem po92 : tpos Tryz.prog 92 = true := by kernel_rfl
def z92 : AV := .val (.map none)
theorem zo92 : ZeroOK Tryz.prog 92 z92 := ZeroOK.mk (.map none) (by kernel_rfl) (by kernel_rfl) (by kernel_rfl) (by kernel_rfl)
theorem sz93 : tsz Tryz.prog 93 = some 1 := by kernel_rfl
theorem by93 : tby Tryz.prog 93 = some 24 := by kernel_rfl
theorem ag93 : tagg Tryz.prog 93 = some false := by kernel_rfl
theorem sl93 : tsl Tryz.prog 93 = some 23 := by kernel_rfl
theorem ar93 : tarr Tryz.prog 93 = none := by kernel_rfl
theorem pt93 : tptr Tryz.prog 93 = none := by kernel_rfl
theorem un93 : (Tryz.prog.underlying 93).isSome = true := by kernel_rfl
theorem po93 : tpos Tryz.prog 93 = true := by kernel_rfl
def z93 : AV := .sl 32 [] 1
theorem zo93 : ZeroOK Tryz.prog 93 z93 := ZeroOK.mk (.slice none 0 0) (by kernel_rfl) (by kernel_rfl) (by kernel_rfl) (by kernel_rfl)
theorem sz95 : tsz Tryz.prog 95 = some 1 := by kernel_rfl
theorem by95 : tby Tryz.prog 95 = some 24 := by kernel_rfl
theorem ag95 : tagg Tryz.prog 95 = some true := by kernel_rfl
theorem sl95 : tsl Tryz.prog 95 = none := by kernel_rfl
theorem ar95 : tarr Tryz.prog 95 = none := by kernel_rfl
theorem pt95 : tptr Tryz.prog 95 = none := by kernel_rfl
theorem un95 : (Tryz.prog.underlying 95).isSome = true := by kernel_rfl
theorem fl95_0 : tfld Tryz.prog 95 0 = some (0, 93) := by kernel_rfl
theorem fs95 : tflds Tryz.prog 95 = true := by kernel_rfl
theorem po95 : tpos Tryz.prog 95 = true := by kernel_rfl
def z95 : AV := .agg 1 [.sl 32 [] 1]
theorem zo95 : ZeroOK Tryz.prog 95 z95 := ZeroOK.mk (.agg #[.slice none 0 0]) (by kernel_rfl) (by kernel_rfl) (by kernel_rfl) (by kernel_rfl)
theorem sz96 : tsz Tryz.prog 96 = some 1 := by kernel_rfl
theorem by96 : tby Tryz.prog 96 = some 24 := by kernel_rfl
theorem ag96 : tagg Tryz.prog 96 = some false := by kernel_rfl
theorem sl96 : tsl Tryz.prog 96 = some 34 := by kernel_rfl
theorem ar96 : tarr Tryz.prog 96 = none := by kernel_rfl
theorem pt96 : tptr Tryz.prog 96 = none := by kernel_rfl
theorem un96 : (Tryz.prog.underlying 96).isSome = true := by kernel_rfl
theorem po96 : tpos Tryz.prog 96 = true := by kernel_rfl
def z96 : AV := .sl 69 [] 1
theorem zo96 : ZeroOK Tryz.prog 96 z96 := ZeroOK.mk (.slice none 0 0) (by kernel_rfl) (by kernel_rfl) (by kernel_rfl) (by kernel_rfl)
theorem sz98 : tsz Tryz.prog 98 = some 47 := by kernel_rfl
theorem by98 : tby Tryz.prog 98 = some 216 := by kernel_rfl
theorem ag98 : tagg Tryz.prog 98 = some true := by kernel_rfl
theorem sl98 : tsl Tryz.prog 98 = none := by kernel_rfl
theorem ar98 : tarr Tryz.prog 98 = none := by kernel_rfl
theorem pt98 : tptr Tryz.prog 98 = none := by kernel_rfl
theorem un98 : (Tryz.prog.underlying 98).isSome = true := by kernel_rfl
theorem fl98_0 : tfld Tryz.prog 98 0 = some (0, 27) := by kernel_rfl
theorem fl98_1 : tfld Tryz.prog 98 1 = some (39, 4) := by kernel_rfl
theorem fl98_2 : tfld Tryz.prog 98 2 = some (40, 69) := by kernel_rfl
theorem fl98_3 : tfld Tryz.prog 98 3 = some (41, 40) := by kernel_rfl
theorem fl98_4 : tfld Tryz.prog 98 4 = some (42, 95) := by kernel_rfl
theorem fl98_5 : tfld Tryz.prog 98 5 = some (43, 3) := by kernel_rfl
theorem fl98_6 : tfld Tryz.prog 98 6 = some (44, 96) := by kernel_rfl
theorem fl98_7 : tfld Tryz.prog 98 7 = some (45, 92) := by kernel_rfl
theorem fl98_8 : tfld Tryz.prog 98 8 = some (46, 4) := by kernel_rfl
theorem fs98 : tflds Tryz.prog 98 = true := by kernel_rfl
theorem po98 : tpos Tryz.prog 98 = true := by kernel_rfl
def z98 : AV := .agg 47 [.agg 39 [.val (.int .i64 0), .val (.int .i64 0), .val (.int .i64 0), .agg 33 [.vec 1 (List.replicate 32 (.val (.int .u8 0))), .val (.int .i64 0)], .val (.int .i64 0), .val (.int .i64 0), .val (.int .i64 0)], .val (.bool false), .sl 67 [] 1, .sl 33 [] 1, .agg 1 [.sl 32 [] 1], .val (.int .i64 0), .sl 69 [] 1, .val (.map none), .val (.bool false)]
theorem zo98 : ZeroOK Tryz.prog 98 z98 := ZeroOK.mk (.agg #[.int .i64 0, .int .i64 0, .int .i64 0, .int .u8 0, .int .u8 0, .int .u8 0, .int .u8 0, .int .u8 0, .int .u8 0, .int .u8 0, .int .u8 0, .int .u8 0, .int .u8 0, .int .u8 0, .int .u8 0, .int .u8 0, .int .u8 0, .int .u8 0, .int .u8 0, .int .u8 0, .int .u8 0, .int .u8 0, .int .u8 0, .int .u8 0, .int .u8 0, .int .u8 0, .int .u8 0, .int .u8 0, .int .u8 0, .int .u8 0, .int .u8 0, .int .u8 0, .int .u8 0, .int .u8 0, .int .u8 0, .int .i64 0, .int .i64 0, .int .i64 0, .int .i64 0, .bool false, .slice none 0 0, .slice none 0 0, .slice none 0 0, .int .i64 0, .slice none 0 0, .map none, .bool false]) (by kernel_rfl) (by kernel_rfl) (by kernel_rfl) (by kernel_rfl)
theorem sz108 : tsz Tryz.prog 108 = some 1 := by kernel_rfl
theorem by108 : tby Tryz.prog 108 = some 8 := by kernel_rfl
theorem ag108 : tagg Tryz.prog 108 = some false := by kernel_rfl
theorem sl108 : tsl Tryz.prog 108 = none := by kernel_rfl
theorem ar108 : tarr Tryz.prog 108 = none := by kernel_rfl
theorem pt108 : tptr Tryz.prog 108 = some 161 := by kernel_rfl
theorem un108 : (Tryz.prog.underlying 108).isSome = true := by kernel_rfl
theorem po108 : tpos Tryz.prog 108 = true := by kernel_rfl
def z108 : AV := .val (.pointer none)
theorem zo108 : ZeroOK Tryz.prog 108 z108 := ZeroOK.mk (.pointer none) (by kernel_rfl) (by kernel_rfl) (by kernel_rfl) (by kernel_rfl)
theorem sz110 : tsz Tryz.prog 110 = some 38 := by kernel_rfl
theorem by110 : tby Tryz.prog 110 = some 80 := by kernel_rfl
theorem ag110 : tagg Tryz.prog 110 = some true := by kernel_rfl
theorem sl110 : tsl Tryz.prog 110 = none := by kernel_rfl
theorem ar110 : tarr Tryz.prog 110 = none := by kernel_rfl
theorem pt110 : tptr Tryz.prog 110 = none := by kernel_rfl
theorem un110 : (Tryz.prog.underlying 110).isSome = true := by kernel_rfl
theorem fl110_0 : tfld Tryz.prog 110 0 = some (0, 4) := by kernel_rfl
theorem fl110_1 : tfld Tryz.prog 110 1 = some (1, 3) := by kernel_rfl
theorem fl110_2 : tfld Tryz.prog 110 2 = some (2, 3) := by kernel_rfl
theorem fl110_3 : tfld Tryz.prog 110 3 = some (3, 23) := by kernel_rfl
theorem fl110_4 : tfld Tryz.prog 110 4 = some (35, 3) := by kernel_rfl
theorem fl110_5 : tfld Tryz.prog 110 5 = some (36, 3) := by kernel_rfl
theorem fl110_6 : tfld Tryz.prog 110 6 = some (37, 3) := by kernel_rfl
theorem fs110 : tflds Tryz.prog 110 = true := by kernel_rfl
theorem po110 : tpos Tryz.prog 110 = true := by kernel_rfl
theorem tq110 : teq Tryz.prog 110 = true := by kernel_rfl
theorem tc110 : tcmp Tryz.prog 110 = some [(0, 4), (1, 3), (2, 3), (3, 23), (35, 3), (36, 3), (37, 3)] := by kernel_rfl
def z110 : AV := .agg 38 [.val (.bool false), .val (.int .i64 0), .val (.int .i64 0), .vec 1 (List.replicate 32 (.val (.int .u8 0))), .val (.int .i64 0), .val (.int .i64 0), .val (.int .i64 0)]
theorem zo110 : ZeroOK Tryz.prog 110 z110 := ZeroOK.mk (.agg #[.bool false, .int .i64 0, .int .i64 0, .int .u8 0, .int .u8 0, .int .u8 0, .int .u8 0, .int .u8 0, .int .u8 0, .int .u8 0, .int .u8 0, .int .u8 0, .int .u8 0, .int .u8 0, .int .u8 0, .int .u8 0, .int .u8 0, .int .u8 0, .int .u8 0, .int .u8 0, .int .u8 0, .int .u8 0, .int .u8 0, .int .u8 0, .int .u8 0, .int .u8 0, .int .u8 0, .int .u8 0, .int .u8 0, .int .u8 0, .int .u8 0, .int .u8 0, .int .u8 0, .int .u8 0, .int .u8 0, .int .i64 0, .int .i64 0, .int .i64 0]) (by kernel_rfl) (by kernel_rfl) (by kernel_rfl) (by kernel_rfl)
theorem sz115 : tsz Tryz.prog 115 = some 41 := by kernel_rfl
theorem by115 : tby Tryz.prog 115 = some 168 := by kernel_rfl
theorem ag115 : tagg Tryz.prog 115 = some true := by kernel_rfl
theorem sl115 : tsl Tryz.prog 115 = none := by kernel_rfl
theorem ar115 : tarr Tryz.prog 115 = none := by kernel_rfl
theorem pt115 : tptr Tryz.prog 115 = none := by kernel_rfl
theorem un115 : (Tryz.prog.underlying 115).isSome = true := by kernel_rfl
theorem fl115_0 : tfld Tryz.prog 115 0 = some (0, 42) := by kernel_rfl
theorem fl115_1 : tfld Tryz.prog 115 1 = some (40, 3) := by kernel_rfl
theorem fs115 : tflds Tryz.prog 115 = true := by kernel_rfl
theorem po115 : tpos Tryz.prog 115 = true := by kernel_rfl
def z115 : AV := .agg 41 [.agg 40 [.sl 35 [] 1, .sl 2 [] 1, .agg 37 [.val (.int .i64 0), .val (.int .i64 0), .val (.int .i64 0), .val (.int .i64 0), .vec 1 (List.replicate 32 (.val (.int .u8 0))), .sl 1 [] 1], .sl 33 [] 1], .val (.int .i64 0)]
theorem zo115 : ZeroOK Tryz.prog 115 z115 := ZeroOK.mk (.agg #[.slice none 0 0, .slice none 0 0, .int .i64 0, .int .i64 0, .int .i64 0, .int .i64 0, .int .u8 0, .int .u8 0, .int .u8 0, .int .u8 0, .int .u8 0, .int .u8 0, .int .u8 0, .int .u8 0, .int .u8 0, .int .u8 0, .int .u8 0, .int .u8 0, .int .u8 0, .int .u8 0, .int .u8 0, .int .u8 0, .int .u8 0, .int .u8 0, .int .u8 0, .int .u8 0, .int .u8 0, .int .u8 0, .int .u8 0, .int .u8 0, .int .u8 0, .int .u8 0, .int .u8 0, .int .u8 0, .int .u8 0, .int .u8 0, .int .u8 0, .int .u8 0, .slice none 0 0, .slice none 0 0, .int .i64 0]) (by kernel_rfl) (by kernel_rfl) (by kernel_rfl) (by kernel_rfl)
theorem sz124 : tsz Tryz.prog 124 = some 1 := by kernel_rfl
theorem by124 : tby Tryz.prog 124 = some 24 := by kernel_rfl
theorem ag124 : tagg Tryz.prog 124 = some true := by kernel_rfl
theorem sl124 : tsl Tryz.prog 124 = none := by kernel_rfl
theorem ar124 : tarr Tryz.prog 124 = none := by kernel_rfl
theorem pt124 : tptr Tryz.prog 124 = none := by kernel_rfl
theorem un124 : (Tryz.prog.underlying 124).isSome = true := by kernel_rfl
theorem fl124_0 : tfld Tryz.prog 124 0 = some (0, 30) := by kernel_rfl
theorem fs124 : tflds Tryz.prog 124 = true := by kernel_rfl
theorem po124 : tpos Tryz.prog 124 = true := by kernel_rfl
def z124 : AV := .agg 1 [.sl 1 [] 1]
theorem zo124 : ZeroOK Tryz.prog 124 z124 := ZeroOK.mk (.agg #[.slice none 0 0]) (by kernel_rfl) (by kernel_rfl) (by kernel_rfl) (by kernel_rfl)
theorem sz125 : tsz Tryz.prog 125 = some 1 := by kernel_rfl
theorem by125 : tby Tryz.prog 125 = some 8 := by kernel_rfl
theorem ag125 : tagg Tryz.prog 125 = some false := by kernel_rfl
theorem sl125 : tsl Tryz.prog 125 = none := by kernel_rfl
theorem ar125 : tarr Tryz.prog 125 = none := by kernel_rfl
theorem pt125 : tptr Tryz.prog 125 = some 124 := by kernel_rfl
theorem un125 : (Tryz.prog.underlying 125).isSome = true := by kernel_rfl
theorem po125 : tpos Tryz.prog 125 = true := by kernel_rfl
def z125 : AV := .val (.pointer none)
theorem zo125 : ZeroOK Tryz.prog 125 z125 := ZeroOK.mk (.pointer none) (by kernel_rfl) (by kernel_rfl) (by kernel_rfl) (by kernel_rfl)
theorem sz147 : tsz Tryz.prog 147 = some 1 := by kernel_rfl
theorem by147 : tby Tryz.prog 147 = some 8 := by kernel_rfl
theorem ag147 : tagg Tryz.prog 147 = some false := by kernel_rfl
theorem sl147 : tsl Tryz.prog 147 = none := by kernel_rfl
theorem ar147 : tarr Tryz.prog 147 = none := by kernel_rfl
theorem pt147 : tptr Tryz.prog 147 = none := by kernel_rfl
theorem un147 : (Tryz.prog.underlying 147).isSome = true := by kernel_rfl
theorem po147 : tpos Tryz.prog 147 = true := by kernel_rfl
def z147 : AV := .val .nilFunc
theorem zo147 : ZeroOK Tryz.prog 147 z147 := ZeroOK.mk (.nilFunc) (by kernel_rfl) (by kernel_rfl) (by kernel_rfl) (by kernel_rfl)
theorem sz172 : tsz Tryz.prog 172 = some 1 := by kernel_rfl
theorem by172 : tby Tryz.prog 172 = some 24 := by kernel_rfl
theorem ag172 : tagg Tryz.prog 172 = some false := by kernel_rfl
theorem sl172 : tsl Tryz.prog 172 = some 30 := by kernel_rfl
theorem ar172 : tarr Tryz.prog 172 = none := by kernel_rfl
theorem pt172 : tptr Tryz.prog 172 = none := by kernel_rfl
theorem un172 : (Tryz.prog.underlying 172).isSome = true := by kernel_rfl
theorem po172 : tpos Tryz.prog 172 = true := by kernel_rfl
def z172 : AV := .sl 1 [] 1
theorem zo172 : ZeroOK Tryz.prog 172 z172 := ZeroOK.mk (.slice none 0 0) (by kernel_rfl) (by kernel_rfl) (by kernel_rfl) (by kernel_rfl)
theorem sz173 : tsz Tryz.prog 173 = some 1 := by kernel_rfl
theorem by173 : tby Tryz.prog 173 = some 8 := by kernel_rfl
theorem ag173 : tagg Tryz.prog 173 = some false := by kernel_rfl
theorem sl173 : tsl Tryz.prog 173 = none := by kernel_rfl
theorem ar173 : tarr Tryz.prog 173 = none := by kernel_rfl
theorem pt173 : tptr Tryz.prog 173 = none := by kernel_rfl
theorem in173 : tint Tryz.prog 173 = some .u64 := by kernel_rfl
theorem un173 : (Tryz.prog.underlying 173).isSome = true := by kernel_rfl
theorem po173 : tpos Tryz.prog 173 = true := by kernel_rfl
def z173 : AV := .val (.int .u64 0)
theorem zo173 : ZeroOK Tryz.prog 173 z173 := ZeroOK.mk (.int .u64 0) (by kernel_rfl) (by kernel_rfl) (by kernel_rfl) (by kernel_rfl)
theorem sz184 : tsz Tryz.prog 184 = some 1 := by kernel_rfl
theorem by184 : tby Tryz.prog 184 = some 8 := by kernel_rfl
theorem ag184 : tagg Tryz.prog 184 = some false := by kernel_rfl
theorem sl184 : tsl Tryz.prog 184 = none := by kernel_rfl
theorem ar184 : tarr Tryz.prog 184 = none := by kernel_rfl
theorem pt184 : tptr Tryz.prog 184 = some 95 := by kernel_rfl
theorem un184 : (Tryz.prog.underlying 184).isSome = true := by kernel_rfl
theorem po184 : tpos Tryz.prog 184 = true := by kernel_rfl
def z184 : AV := .val (.pointer none)
theorem zo184 : ZeroOK Tryz.prog 184 z184 := ZeroOK.mk (.pointer none) (by kernel_rfl) (by kernel_rfl) (by kernel_rfl) (by kernel_rfl)
theorem sz198 : tsz Tryz.prog 198 = some 1 := by kernel_rfl
theorem by198 : tby Tryz.prog 198 = some 8 := by kernel_rfl
theorem ag198 : tagg Tryz.prog 198 = some false := by kernel_rfl
theorem sl198 : tsl Tryz.prog 198 = none := by kernel_rfl
theorem ar198 : tarr Tryz.prog 198 = none := by kernel_rfl
theorem pt198 : tptr Tryz.prog 198 = none := by kernel_rfl
theorem in198 : tint Tryz.prog 198 = some .u64 := by kernel_rfl
theorem un198 : (Tryz.prog.underlying 198).isSome = true := by kernel_rfl
theorem po198 : tpos Tryz.prog 198 = true := by kernel_rfl
def z198 : AV := .val (.int .u64 0)
theorem zo198 : ZeroOK Tryz.prog 198 z198 := ZeroOK.mk (.int .u64 0) (by kernel_rfl) (by kernel_rfl) (by kernel_rfl) (by kernel_rfl)
theorem sz199 : tsz Tryz.prog 199 = some 1 := by kernel_rfl
theorem by199 : tby Tryz.prog 199 = some 4 := by kernel_rfl
theorem ag199 : tagg Tryz.prog 199 = some false := by kernel_rfl
theorem sl199 : tsl Tryz.prog 199 = none := by kernel_rfl
theorem ar199 : tarr Tryz.prog 199 = none := by kernel_rfl
theorem pt199 : tptr Tryz.prog 199 = none := by kernel_rfl
theorem in199 : tint Tryz.prog 199 = some .u32 := by kernel_rfl
theorem un199 : (Tryz.prog.underlying 199).isSome = true := by kernel_rfl
theorem po199 : tpos Tryz.prog 199 = true := by kernel_rfl
def z199 : AV := .val (.int .u32 0)
theorem zo199 : ZeroOK Tryz.prog 199 z199 := ZeroOK.mk (.int .u32 0) (by kernel_rfl) (by kernel_rfl) (by kernel_rfl) (by kernel_rfl)
theorem sz201 : tsz Tryz.prog 201 = some 8 := by kernel_rfl
theorem by201 : tby Tryz.prog 201 = some 32 := by kernel_rfl
theorem ag201 : tagg Tryz.prog 201 = some true := by kernel_rfl
theorem sl201 : tsl Tryz.prog 201 = none := by kernel_rfl
theorem ar201 : tarr Tryz.prog 201 = some (8, 199) := by kernel_rfl
theorem pt201 : tptr Tryz.prog 201 = none := by kernel_rfl
theorem un201 : (Tryz.prog.underlying 201).isSome = true := by kernel_rfl
theorem po201 : tpos Tryz.prog 201 = true := by kernel_rfl
theorem tq201 : teq Tryz.prog 201 = true := by kernel_rfl
def z201 : AV := .vec 1 (List.replicate 8 (.val (.int .u32 0)))
theorem zo201 : ZeroOK Tryz.prog 201 z201 := ZeroOK.mk (.agg #[.int .u32 0, .int .u32 0, .int .u32 0, .int .u32 0, .int .u32 0, .int .u32 0, .int .u32 0, .int .u32 0]) (by kernel_rfl) (by kernel_rfl) (by kernel_rfl) (by kernel_rfl)
theorem sz203 : tsz Tryz.prog 203 = some 64 := by kernel_rfl
theorem by203 : tby Tryz.prog 203 = some 256 := by kernel_rfl
theorem ag203 : tagg Tryz.prog 203 = some true := by kernel_rfl
theorem sl203 : tsl Tryz.prog 203 = none := by kernel_rfl
theorem ar203 : tarr Tryz.prog 203 = some (64, 199) := by kernel_rfl
theorem pt203 : tptr Tryz.prog 203 = none := by kernel_rfl
theorem un203 : (Tryz.prog.underlying 203).isSome = true := by kernel_rfl
theorem po203 : tpos Tryz.prog 203 = true := by kernel_rfl
theorem tq203 : teq Tryz.prog 203 = true := by kernel_rfl
def z203 : AV := .vec 1 (List.replicate 64 (.val (.int .u32 0)))
theorem zo203 : ZeroOK Tryz.prog 203 z203 := ZeroOK.mk (.agg #[.int .u32 0, .int .u32 0, .int .u32 0, .int .u32 0, .int .u32 0, .int .u32 0, .int .u32 0, .int .u32 0, .int .u32 0, .int .u32 0, .int .u32 0, .int .u32 0, .int .u32 0, .int .u32 0, .int .u32 0, .int .u32 0, .int .u32 0, .int .u32 0, .int .u32 0, .int .u32 0, .int .u32 0, .int .u32 0, .int .u32 0, .int .u32 0, .int .u32 0, .int .u32 0, .int .u32 0, .int .u32 0, .int .u32 0, .int .u32 0, .int .u32 0, .int .u32 0, .int .u32 0, .int .u32 0, .int .u32 0, .int .u32 0, .int .u32 0, .int .u32 0, .int .u32 0, .int .u32 0, .int .u32 0, .int .u32 0, .int .u32 0, .int .u32 0, .int .u32 0, .int .u32 0, .int .u32 0, .int .u32 0, .int .u32 0, .int .u32 0, .int .u32 0, .int .u32 0, .int .u32 0, .int .u32 0, .int .u32 0, .int .u32 0, .int .u32 0, .int .u32 0, .int .u32 0, .int .u32 0, .int .u32 0, .int .u32 0, .int .u32 0, .int .u32 0]) (by kernel_rfl) (by kernel_rfl) (by kernel_rfl) (by kernel_rfl)
theorem sz206 : tsz Tryz.prog 206 = some 1 := by kernel_rfl
theorem by206 : tby Tryz.prog 206 = some 8 := by kernel_rfl
theorem ag206 : tagg Tryz.prog 206 = some false := by kernel_rfl
theorem sl206 : tsl Tryz.prog 206 = none := by kernel_rfl
theorem ar206 : tarr Tryz.prog 206 = none := by kernel_rfl
theorem pt206 : tptr Tryz.prog 206 = some 203 := by kernel_rfl
theorem un206 : (Tryz.prog.underlying 206).isSome = true := by kernel_rfl
theorem po206 : tpos Tryz.prog 206 = true := by kernel_rfl
def z206 : AV := .val (.pointer none)
theorem zo206 : ZeroOK Tryz.prog 206 z206 := ZeroOK.mk (.pointer none) (by kernel_rfl) (by kernel_rfl) (by kernel_rfl) (by kernel_rfl)
theorem sz209 : tsz Tryz.prog 209 = some 1 := by kernel_rfl
theorem by209 : tby Tryz.prog 209 = some 24 := by kernel_rfl
theorem ag209 : tagg Tryz.prog 209 = some false := by kernel_rfl
theorem sl209 : tsl Tryz.prog 209 = some 2 := by kernel_rfl
theorem ar209 : tarr Tryz.prog 209 = none := by kernel_rfl
theorem pt209 : tptr Tryz.prog 209 = none := by kernel_rfl
theorem un209 : (Tryz.prog.underlying 209).isSome = true := by kernel_rfl
theorem po209 : tpos Tryz.prog 209 = true := by kernel_rfl
def z209 : AV := .sl 1 [] 1
theorem zo209 : ZeroOK Tryz.prog 209 z209 := ZeroOK.mk (.slice none 0 0) (by kernel_rfl) (by kernel_rfl) (by kernel_rfl) (by kernel_rfl)
theorem sz212 : tsz Tryz.prog 212 = some 1 := by kernel_rfl
theorem by212 : tby Tryz.prog 212 = some 8 := by kernel_rfl
theorem ag212 : tagg Tryz.prog 212 = some false := by kernel_rfl
theorem sl212 : tsl Tryz.prog 212 = none := by kernel_rfl
theorem ar212 : tarr Tryz.prog 212 = none := by kernel_rfl
theorem pt212 : tptr Tryz.prog 212 = some 201 := by kernel_rfl
theorem un212 : (Tryz.prog.underlying 212).isSome = true := by kernel_rfl
theorem po212 : tpos Tryz.prog 212 = true := by kernel_rfl
def z212 : AV := .val (.pointer none)
theorem zo212 : ZeroOK Tryz.prog 212 z212 := ZeroOK.mk (.pointer none) (by kernel_rfl) (by kernel_rfl) (by kernel_rfl) (by kernel_rfl)
theorem sz215 : tsz Tryz.prog 215 = some 1 := by kernel_rfl
theorem by215 : tby Tryz.prog 215 = some 24 := by kernel_rfl
theorem ag215 : tagg Tryz.prog 215 = some false := by kernel_rfl
theorem sl215 : tsl Tryz.prog 215 = some 199 := by kernel_rfl
theorem ar215 : tarr Tryz.prog 215 = none := by kernel_rfl
theorem pt215 : tptr Tryz.prog 215 = none := by kernel_rfl
theorem un215 : (Tryz.prog.underlying 215).isSome = true := by kernel_rfl
theorem po215 : tpos Tryz.prog 215 = true := by kernel_rfl
def z215 : AV := .sl 1 [] 1
theorem zo215 : ZeroOK Tryz.prog 215 z215 := ZeroOK.mk (.slice none 0 0) (by kernel_rfl) (by kernel_rfl) (by kernel_rfl) (by kernel_rfl)
theorem sz221 : tsz Tryz.prog 221 = some 1 := by kernel_rfl
theorem by221 : tby Tryz.prog 221 = some 8 := by kernel_rfl
theorem ag221 : tagg Tryz.prog 221 = some false := by kernel_rfl
theorem sl221 : tsl Tryz.prog 221 = none := by kernel_rfl
theorem ar221 : tarr Tryz.prog 221 = none := by kernel_rfl
theorem pt221 : tptr Tryz.prog 221 = some 228 := by kernel_rfl
theorem un221 : (Tryz.prog.underlying 221).isSome = true := by kernel_rfl
theorem po221 : tpos Tryz.prog 221 = true := by kernel_rfl
def z221 : AV := .val (.pointer none)
theorem zo221 : ZeroOK Tryz.prog 221 z221 := ZeroOK.mk (.pointer none) (by kernel_rfl) (by kernel_rfl) (by kernel_rfl) (by kernel_rfl)
theorem sz228 : tsz Tryz.prog 228 = some 2 := by kernel_rfl
theorem by228 : tby Tryz.prog 228 = some 32 := by kernel_rfl
theorem ag228 : tagg Tryz.prog 228 = some true := by kernel_rfl
theorem sl228 : tsl Tryz.prog 228 = none := by kernel_rfl
theorem ar228 : tarr Tryz.prog 228 = none := by kernel_rfl
theorem pt228 : tptr Tryz.prog 228 = none := by kernel_rfl
theorem un228 : (Tryz.prog.underlying 228).isSome = true := by kernel_rfl
theorem fl228_0 : tfld Tryz.prog 228 0 = some (0, 30) := by kernel_rfl
theorem fl228_1 : tfld Tryz.prog 228 1 = some (1, 43) := by kernel_rfl
theorem fs228 : tflds Tryz.prog 228 = true := by kernel_rfl
theorem po228 : tpos Tryz.prog 228 = true := by kernel_rfl
def z228 : AV := .agg 2 [.sl 1 [] 1, .val (.int .i64 0)]
theorem zo228 : ZeroOK Tryz.prog 228 z228 := ZeroOK.mk (.agg #[.slice none 0 0, .int .i64 0]) (by kernel_rfl) (by kernel_rfl) (by kernel_rfl) (by kernel_rfl)
def zl : List (Nat × AV) := [(2, z2), (3, z3), (4, z4), (5, z5), (22, z22), (23, z23), (25, z25), (27, z27), (29, z29), (30, z30), (32, z32), (34, z34), (36, z36), (37, z37), (39, z39), (40, z40), (42, z42), (43, z43), (48, z48), (49, z49), (51, z51), (57, z57), (59, z59), (62, z62), (64, z64), (66, z66), (68, z68), (69, z69), (75, z75), (80, z80), (81, z81), (85, z85), (88, z88), (90, z90), (92, z92), (93, z93), (95, z95), (96, z96), (98, z98), (108, z108), (110, z110), (115, z115), (124, z124), (125, z125), (147, z147), (172, z172), (173, z173), (184, z184), (198, z198), (199, z199), (201, z201), (203, z203), (206, z206), (209, z209), (212, z212), (215, z215), (221, z221), (228, z228)]
theorem zl_ok : zAll Tryz.prog zl := ⟨zo2, zo3, zo4, zo5, zo22, zo23, zo25, zo27, zo29, zo30, zo32, zo34, zo36, zo37, zo39, zo40, zo42, zo43, zo48, zo49, zo51, zo57, zo59, zo62, zo64, zo66, zo68, zo69, zo75, zo80, zo81, zo85, zo88, zo90, zo92, zo93, zo95, zo96, zo98, zo108, zo110, zo115, zo124, zo125, zo147, zo172, zo173, zo184, zo198, zo199, zo201, zo203, zo206, zo209, zo212, zo215, zo221, zo228, trivial⟩
/-- the program, its zero values -/
noncomputable def cx : Cx := ⟨Tryz.prog, zLook zl, zLook_ok zl_ok⟩
theorem cxP : cx.P = Tryz.prog := rfl
theorem zt2 : cx.zt 2 = some z2 := by kernel_rfl
theorem zt3 : cx.zt 3 = some z3 := by kernel_rfl
theorem zt4 : cx.zt 4 = some z4 := by kernel_rfl
theorem zt5 : cx.zt 5 = some z5 := by kernel_rfl
theorem zt22 : cx.zt 22 = some z22 := by kernel_rfl
theorem zt23 : cx.zt 23 = some z23 := by kernel_rfl
theorem zt25 : cx.zt 25 = some z25 := by kernel_rfl
theorem zt27 : cx.zt 27 = some z27 := by kernel_rfl
theorem zt29 : cx.zt 29 = some z29 := by kernel_rfl
theorem zt30 : cx.zt 30 = some z30 := by kernel_rfl
theorem zt32 : cx.zt 32 = some z32 := by kernel_rfl
theorem zt34 : cx.zt 34 = some z34 := by kernel_rfl
theorem zt36 : cx.zt 36 = some z36 := by kernel_rfl
theorem zt37 : cx.zt 37 = some z37 := by kernel_rfl
theorem zt39 : cx.zt 39 = some z39 := by kernel_rfl
theorem zt40 : cx.zt 40 = some z40 := by kernel_rfl
theorem zt42 : cx.zt 42 = some z42 := by kernel_rfl
theorem zt43 : cx.zt 43 = some z43 := by kernel_rfl
theorem zt48 : cx.zt 48 = some z48 := by kernel_rfl
theorem zt49 : cx.zt 49 = some z49 := by kernel_rfl
theorem zt51 : cx.zt 51 = some z51 := by kernel_rfl
theorem zt57 : cx.zt 57 = some z57 := by kernel_rfl
theorem zt59 : cx.zt 59 = some z59 := by kernel_rfl
theorem zt62 : cx.zt 62 = some z62 := by kernel_rfl
theorem zt64 : cx.zt 64 = some z64 := by kernel_rfl
theorem zt66 : cx.zt 66 = some z66 := by kernel_rfl
theorem zt68 : cx.zt 68 = some z68 := by kernel_rfl
theorem zt69 : cx.zt 69 = some z69 := by kernel_rfl
theorem zt75 : cx.zt 75 = some z75 := by kernel_rfl
theorem zt80 : cx.zt 80 = some z80 := by kernel_rfl
theorem zt81 : cx.zt 81 = some z81 := by kernel_rfl
theorem zt85 : cx.zt 85 = some z85 := by kernel_rfl
theorem zt88 : cx.zt 88 = some z88 := by kernel_rfl
theorem zt90 : cx.zt 90 = some z90 := by kernel_rfl
theorem zt92 : cx.zt 92 = some z92 := by kernel_rfl
theorem zt93 : cx.zt 93 = some z93 := by kernel_rfl
theorem zt95 : cx.zt 95 = some z95 := by kernel_rfl
theorem zt96 : cx.zt 96 = some z96 := by kernel_rfl
theorem zt98 : cx.zt 98 = some z98 := by kernel_rfl
theorem zt108 : cx.zt 108 = some z108 := by kernel_rfl
theorem zt110 : cx.zt 110 = some z110 := by kernel_rfl
theorem zt115 : cx.zt 115 = some z115 := by kernel_rfl
theorem zt124 : cx.zt 124 = some z124 := by kernel_rfl
theorem zt125 : cx.zt 125 = some z125 := by kernel_rfl
theorem zt147 : cx.zt 147 = some z147 := by kernel_rfl
theorem zt172 : cx.zt 172 = some z172 := by kernel_rfl
theorem zt173 : cx.zt 173 = some z173 := by kernel_rfl
theorem zt184 : cx.zt 184 = some z184 := by kernel_rfl
theorem zt198 : cx.zt 198 = some z198 := by kernel_rfl
theorem zt199 : cx.zt 199 = some z199 := by kernel_rfl
theorem zt201 : cx.zt 201 = some z201 := by kernel_rfl
theorem zt203 : cx.zt 203 = some z203 := by kernel_rfl
theorem zt206 : cx.zt 206 = some z206 := by kernel_rfl
theorem zt209 : cx.zt 209 = some z209 := by kernel_rfl
theorem zt212 : cx.zt 212 = some z212 := by kernel_rfl
theorem zt215 : cx.zt 215 = some z215 := by kernel_rfl
theorem zt221 : cx.zt 221 = some z221 := by kernel_rfl
theorem zt228 : cx.zt 228 = some z228 := by kernel_rfl
theorem t2 : type_of% (sz2) ∧ type_of% (by2) ∧ type_of% (ag2) ∧ type_of% (sl2) ∧ type_of% (ar2) ∧ type_of% (pt2) ∧ type_of% (in2) ∧ type_of% (un2) ∧ type_of% (po2) ∧ type_of% (zt2) ∧ type_of% (@z2.eq_1) :=
  ⟨sz2, by2, ag2, sl2, ar2, pt2, in2, un2, po2, zt2, @z2.eq_1⟩
theorem t3 : type_of% (sz3) ∧ type_of% (by3) ∧ type_of% (ag3) ∧ type_of% (sl3) ∧ type_of% (ar3) ∧ type_of% (pt3) ∧ type_of% (in3) ∧ type_of% (un3) ∧ type_of% (po3) ∧ type_of% (zt3) ∧ type_of% (@z3.eq_1) :=
  ⟨sz3, by3, ag3, sl3, ar3, pt3, in3, un3, po3, zt3, @z3.eq_1⟩
theorem t4 : type_of% (sz4) ∧ type_of% (by4) ∧ type_of% (ag4) ∧ type_of% (sl4) ∧ type_of% (ar4) ∧ type_of% (pt4) ∧ type_of% (un4) ∧ type_of% (tb4) ∧ type_of% (po4) ∧ type_of% (zt4) ∧ type_of% (@z4.eq_1) :=
  ⟨sz4, by4, ag4, sl4, ar4, pt4, un4, tb4, po4, zt4, @z4.eq_1⟩
theorem t5 : type_of% (sz5) ∧ type_of% (by5) ∧ type_of% (ag5) ∧ type_of% (sl5) ∧ type_of% (ar5) ∧ type_of% (pt5) ∧ type_of% (in5) ∧ type_of% (un5) ∧ type_of% (po5) ∧ type_of% (zt5) ∧ type_of% (@z5.eq_1) :=
  ⟨sz5, by5, ag5, sl5, ar5, pt5, in5, un5, po5, zt5, @z5.eq_1⟩
theorem t22 : type_of% (sz22) ∧ type_of% (by22) ∧ type_of% (ag22) ∧ type_of% (sl22) ∧ type_of% (ar22) ∧ type_of% (pt22) ∧ type_of% (un22) ∧ type_of% (po22) ∧ type_of% (tq22) ∧ type_of% (zt22) ∧ type_of% (@z22.eq_1) :=
  ⟨sz22, by22, ag22, sl22, ar22, pt22, un22, po22, tq22, zt22, @z22.eq_1⟩
theorem t23 : type_of% (sz23) ∧ type_of% (by23) ∧ type_of% (ag23) ∧ type_of% (sl23) ∧ type_of% (ar23) ∧ type_of% (pt23) ∧ type_of% (un23) ∧ type_of% (po23) ∧ type_of% (tq23) ∧ type_of% (zt23) ∧ type_of% (@z23.eq_1) :=
  ⟨sz23, by23, ag23, sl23, ar23, pt23, un23, po23, tq23, zt23, @z23.eq_1⟩
theorem t25 : type_of% (sz25) ∧ type_of% (by25) ∧ type_of% (ag25) ∧ type_of% (sl25) ∧ type_of% (ar25) ∧ type_of% (pt25) ∧ type_of% (un25) ∧ type_of% (fl25_0) ∧ type_of% (fl25_1) ∧ type_of% (fs25) ∧ type_of% (po25) ∧ type_of% (tq25) ∧ type_of% (tc25) ∧ type_of% (zt25) ∧ type_of% (@z25.eq_1) :=
  ⟨sz25, by25, ag25, sl25, ar25, pt25, un25, fl25_0, fl25_1, fs25, po25, tq25, tc25, zt25, @z25.eq_1⟩
theorem t27 : type_of% (sz27) ∧ type_of% (by27) ∧ type_of% (ag27) ∧ type_of% (sl27) ∧ type_of% (ar27) ∧ type_of% (pt27) ∧ type_of% (un27) ∧ type_of% (fl27_0) ∧ type_of% (fl27_1) ∧ type_of% (fl27_2) ∧ type_of% (fl27_3) ∧ type_of% (fl27_4) ∧ type_of% (fl27_5) ∧ type_of% (fl27_6) ∧ type_of% (fs27) ∧ type_of% (po27) ∧ type_of% (tq27) ∧ type_of% (tc27) ∧ type_of% (zt27) ∧ type_of% (@z27.eq_1) :=
  ⟨sz27, by27, ag27, sl27, ar27, pt27, un27, fl27_0, fl27_1, fl27_2, fl27_3, fl27_4, fl27_5, fl27_6, fs27, po27, tq27, tc27, zt27, @z27.eq_1⟩
theorem t29 : type_of% (sz29) ∧ type_of% (by29) ∧ type_of% (ag29) ∧ type_of% (sl29) ∧ type_of% (ar29) ∧ type_of% (pt29) ∧ type_of% (un29) ∧ type_of% (fl29_0) ∧ type_of% (fl29_1) ∧ type_of% (fl29_2) ∧ type_of% (fl29_3) ∧ type_of% (fl29_4) ∧ type_of% (fs29) ∧ type_of% (po29) ∧ type_of% (tq29) ∧ type_of% (tc29) ∧ type_of% (zt29) ∧ type_of% (@z29.eq_1) :=
  ⟨sz29, by29, ag29, sl29, ar29, pt29, un29, fl29_0, fl29_1, fl29_2, fl29_3, fl29_4, fs29, po29, tq29, tc29, zt29, @z29.eq_1⟩
theorem t30 : type_of% (sz30) ∧ type_of% (by30) ∧ type_of% (ag30) ∧ type_of% (sl30) ∧ type_of% (ar30) ∧ type_of% (pt30) ∧ type_of% (un30) ∧ type_of% (po30) ∧ type_of% (zt30) ∧ type_of% (@z30.eq_1) :=
  ⟨sz30, by30, ag30, sl30, ar30, pt30, un30, po30, zt30, @z30.eq_1⟩
theorem t32 : type_of% (sz32) ∧ type_of% (by32) ∧ type_of% (ag32) ∧ type_of% (sl32) ∧ type_of% (ar32) ∧ type_of% (pt32) ∧ type_of% (un32) ∧ type_of% (fl32_0) ∧ type_of% (fl32_1) ∧ type_of% (fs32) ∧ type_of% (po32) ∧ type_of% (zt32) ∧ type_of% (@z32.eq_1) :=
  ⟨sz32, by32, ag32, sl32, ar32, pt32, un32, fl32_0, fl32_1, fs32, po32, zt32, @z32.eq_1⟩
theorem t34 : type_of% (sz34) ∧ type_of% (by34) ∧ type_of% (ag34) ∧ type_of% (sl34) ∧ type_of% (ar34) ∧ type_of% (pt34) ∧ type_of% (un34) ∧ type_of% (fl34_0) ∧ type_of% (fl34_1) ∧ type_of% (fs34) ∧ type_of% (po34) ∧ type_of% (zt34) ∧ type_of% (@z34.eq_1) :=
  ⟨sz34, by34, ag34, sl34, ar34, pt34, un34, fl34_0, fl34_1, fs34, po34, zt34, @z34.eq_1⟩
theorem t36 : type_of% (sz36) ∧ type_of% (by36) ∧ type_of% (ag36) ∧ type_of% (sl36) ∧ type_of% (ar36) ∧ type_of% (pt36) ∧ type_of% (un36) ∧ type_of% (po36) ∧ type_of% (zt36) ∧ type_of% (@z36.eq_1) :=
  ⟨sz36, by36, ag36, sl36, ar36, pt36, un36, po36, zt36, @z36.eq_1⟩
theorem t37 : type_of% (sz37) ∧ type_of% (by37) ∧ type_of% (ag37) ∧ type_of% (sl37) ∧ type_of% (ar37) ∧ type_of% (pt37) ∧ type_of% (un37) ∧ type_of% (po37) ∧ type_of% (zt37) ∧ type_of% (@z37.eq_1) :=
  ⟨sz37, by37, ag37, sl37, ar37, pt37, un37, po37, zt37, @z37.eq_1⟩
theorem t39 : type_of% (sz39) ∧ type_of% (by39) ∧ type_of% (ag39) ∧ type_of% (sl39) ∧ type_of% (ar39) ∧ type_of% (pt39) ∧ type_of% (un39) ∧ type_of% (fl39_0) ∧ type_of% (fl39_1) ∧ type_of% (fl39_2) ∧ type_of% (fl39_3) ∧ type_of% (fl39_4) ∧ type_of% (fl39_5) ∧ type_of% (fs39) ∧ type_of% (po39) ∧ type_of% (zt39) ∧ type_of% (@z39.eq_1) :=
  ⟨sz39, by39, ag39, sl39, ar39, pt39, un39, fl39_0, fl39_1, fl39_2, fl39_3, fl39_4, fl39_5, fs39, po39, zt39, @z39.eq_1⟩
theorem t40 : type_of% (sz40) ∧ type_of% (by40) ∧ type_of% (ag40) ∧ type_of% (sl40) ∧ type_of% (ar40) ∧ type_of% (pt40) ∧ type_of% (un40) ∧ type_of% (po40) ∧ type_of% (zt40) ∧ type_of% (@z40.eq_1) :=
  ⟨sz40, by40, ag40, sl40, ar40, pt40, un40, po40, zt40, @z40.eq_1⟩
theorem t42 : type_of% (sz42) ∧ type_of% (by42) ∧ type_of% (ag42) ∧ type_of% (sl42) ∧ type_of% (ar42) ∧ type_of% (pt42) ∧ type_of% (un42) ∧ type_of% (fl42_0) ∧ type_of% (fl42_1) ∧ type_of% (fl42_2) ∧ type_of% (fl42_3) ∧ type_of% (fs42) ∧ type_of% (po42) ∧ type_of% (zt42) ∧ type_of% (@z42.eq_1) :=
  ⟨sz42, by42, ag42, sl42, ar42, pt42, un42, fl42_0, fl42_1, fl42_2, fl42_3, fs42, po42, zt42, @z42.eq_1⟩
theorem t43 : type_of% (sz43) ∧ type_of% (by43) ∧ type_of% (ag43) ∧ type_of% (sl43) ∧ type_of% (ar43) ∧ type_of% (pt43) ∧ type_of% (in43) ∧ type_of% (un43) ∧ type_of% (po43) ∧ type_of% (zt43) ∧ type_of% (@z43.eq_1) :=
  ⟨sz43, by43, ag43, sl43, ar43, pt43, in43, un43, po43, zt43, @z43.eq_1⟩
theorem t48 : type_of% (sz48) ∧ type_of% (by48) ∧ type_of% (ag48) ∧ type_of% (sl48) ∧ type_of% (ar48) ∧ type_of% (pt48) ∧ type_of% (un48) ∧ type_of% (fl48_0) ∧ type_of% (fl48_1) ∧ type_of% (fl48_2) ∧ type_of% (fs48) ∧ type_of% (po48) ∧ type_of% (zt48) ∧ type_of% (@z48.eq_1) :=
  ⟨sz48, by48, ag48, sl48, ar48, pt48, un48, fl48_0, fl48_1, fl48_2, fs48, po48, zt48, @z48.eq_1⟩
theorem t49 : type_of% (sz49) ∧ type_of% (by49) ∧ type_of% (ag49) ∧ type_of% (sl49) ∧ type_of% (ar49) ∧ type_of% (pt49) ∧ type_of% (un49) ∧ type_of% (po49) ∧ type_of% (zt49) ∧ type_of% (@z49.eq_1) :=
  ⟨sz49, by49, ag49, sl49, ar49, pt49, un49, po49, zt49, @z49.eq_1⟩
theorem t51 : type_of% (sz51) ∧ type_of% (by51) ∧ type_of% (ag51) ∧ type_of% (sl51) ∧ type_of% (ar51) ∧ type_of% (pt51) ∧ type_of% (un51) ∧ type_of% (fl51_0) ∧ type_of% (fl51_1) ∧ type_of% (fs51) ∧ type_of% (po51) ∧ type_of% (zt51) ∧ type_of% (@z51.eq_1) :=
  ⟨sz51, by51, ag51, sl51, ar51, pt51, un51, fl51_0, fl51_1, fs51, po51, zt51, @z51.eq_1⟩
theorem t57 : type_of% (sz57) ∧ type_of% (by57) ∧ type_of% (ag57) ∧ type_of% (sl57) ∧ type_of% (ar57) ∧ type_of% (pt57) ∧ type_of% (un57) ∧ type_of% (po57) ∧ type_of% (zt57) ∧ type_of% (@z57.eq_1) :=
  ⟨sz57, by57, ag57, sl57, ar57, pt57, un57, po57, zt57, @z57.eq_1⟩
theorem t59 : type_of% (sz59) ∧ type_of% (by59) ∧ type_of% (ag59) ∧ type_of% (sl59) ∧ type_of% (ar59) ∧ type_of% (pt59) ∧ type_of% (un59) ∧ type_of% (po59) ∧ type_of% (zt59) ∧ type_of% (@z59.eq_1) :=
  ⟨sz59, by59, ag59, sl59, ar59, pt59, un59, po59, zt59, @z59.eq_1⟩
theorem t62 : type_of% (sz62) ∧ type_of% (by62) ∧ type_of% (ag62) ∧ type_of% (sl62) ∧ type_of% (ar62) ∧ type_of% (pt62) ∧ type_of% (un62) ∧ type_of% (po62) ∧ type_of% (tq62) ∧ type_of% (zt62) ∧ type_of% (@z62.eq_1) :=
  ⟨sz62, by62, ag62, sl62, ar62, pt62, un62, po62, tq62, zt62, @z62.eq_1⟩
theorem t64 : type_of% (sz64) ∧ type_of% (by64) ∧ type_of% (ag64) ∧ type_of% (sl64) ∧ type_of% (ar64) ∧ type_of% (pt64) ∧ type_of% (un64) ∧ type_of% (fl64_0) ∧ type_of% (fl64_1) ∧ type_of% (fl64_2) ∧ type_of% (fl64_3) ∧ type_of% (fs64) ∧ type_of% (po64) ∧ type_of% (tq64) ∧ type_of% (tc64) ∧ type_of% (zt64) ∧ type_of% (@z64.eq_1) :=
  ⟨sz64, by64, ag64, sl64, ar64, pt64, un64, fl64_0, fl64_1, fl64_2, fl64_3, fs64, po64, tq64, tc64, zt64, @z64.eq_1⟩
theorem t66 : type_of% (sz66) ∧ type_of% (by66) ∧ type_of% (ag66) ∧ type_of% (sl66) ∧ type_of% (ar66) ∧ type_of% (pt66) ∧ type_of% (un66) ∧ type_of% (fl66_0) ∧ type_of% (fl66_1) ∧ type_of% (fs66) ∧ type_of% (po66) ∧ type_of% (tq66) ∧ type_of% (tc66) ∧ type_of% (zt66) ∧ type_of% (@z66.eq_1) :=
  ⟨sz66, by66, ag66, sl66, ar66, pt66, un66, fl66_0, fl66_1, fs66, po66, tq66, tc66, zt66, @z66.eq_1⟩
theorem t68 : type_of% (sz68) ∧ type_of% (by68) ∧ type_of% (ag68) ∧ type_of% (sl68) ∧ type_of% (ar68) ∧ type_of% (pt68) ∧ type_of% (un68) ∧ type_of% (fl68_0) ∧ type_of% (fl68_1) ∧ type_of% (fl68_2) ∧ type_of% (fl68_3) ∧ type_of% (fl68_4) ∧ type_of% (fl68_5) ∧ type_of% (fl68_6) ∧ type_of% (fl68_7) ∧ type_of% (fl68_8) ∧ type_of% (fs68) ∧ type_of% (po68) ∧ type_of% (zt68) ∧ type_of% (@z68.eq_1) :=
  ⟨sz68, by68, ag68, sl68, ar68, pt68, un68, fl68_0, fl68_1, fl68_2, fl68_3, fl68_4, fl68_5, fl68_6, fl68_7, fl68_8, fs68, po68, zt68, @z68.eq_1⟩
theorem t69 : type_of% (sz69) ∧ type_of% (by69) ∧ type_of% (ag69) ∧ type_of% (sl69) ∧ type_of% (ar69) ∧ type_of% (pt69) ∧ type_of% (un69) ∧ type_of% (po69) ∧ type_of% (zt69) ∧ type_of% (@z69.eq_1) :=
  ⟨sz69, by69, ag69, sl69, ar69, pt69, un69, po69, zt69, @z69.eq_1⟩
theorem t75 : type_of% (sz75) ∧ type_of% (by75) ∧ type_of% (ag75) ∧ type_of% (sl75) ∧ type_of% (ar75) ∧ type_of% (pt75) ∧ type_of% (un75) ∧ type_of% (po75) ∧ type_of% (zt75) ∧ type_of% (@z75.eq_1) :=
  ⟨sz75, by75, ag75, sl75, ar75, pt75, un75, po75, zt75, @z75.eq_1⟩
theorem t80 : type_of% (sz80) ∧ type_of% (by80) ∧ type_of% (ag80) ∧ type_of% (sl80) ∧ type_of% (ar80) ∧ type_of% (pt80) ∧ type_of% (un80) ∧ type_of% (fl80_0) ∧ type_of% (fl80_1) ∧ type_of% (fl80_2) ∧ type_of% (fl80_3) ∧ type_of% (fs80) ∧ type_of% (po80) ∧ type_of% (zt80) ∧ type_of% (@z80.eq_1) :=
  ⟨sz80, by80, ag80, sl80, ar80, pt80, un80, fl80_0, fl80_1, fl80_2, fl80_3, fs80, po80, zt80, @z80.eq_1⟩
theorem t81 : type_of% (sz81) ∧ type_of% (by81) ∧ type_of% (ag81) ∧ type_of% (sl81) ∧ type_of% (ar81) ∧ type_of% (pt81) ∧ type_of% (un81) ∧ type_of% (po81) ∧ type_of% (zt81) ∧ type_of% (@z81.eq_1) :=
  ⟨sz81, by81, ag81, sl81, ar81, pt81, un81, po81, zt81, @z81.eq_1⟩
theorem t85 : type_of% (sz85) ∧ type_of% (by85) ∧ type_of% (ag85) ∧ type_of% (sl85) ∧ type_of% (ar85) ∧ type_of% (pt85) ∧ type_of% (un85) ∧ type_of% (po85) ∧ type_of% (zt85) ∧ type_of% (@z85.eq_1) :=
  ⟨sz85, by85, ag85, sl85, ar85, pt85, un85, po85, zt85, @z85.eq_1⟩
theorem t88 : type_of% (sz88) ∧ type_of% (by88) ∧ type_of% (ag88) ∧ type_of% (sl88) ∧ type_of% (ar88) ∧ type_of% (pt88) ∧ type_of% (un88) ∧ type_of% (po88) ∧ type_of% (zt88) ∧ type_of% (@z88.eq_1) :=
  ⟨sz88, by88, ag88, sl88, ar88, pt88, un88, po88, zt88, @z88.eq_1⟩
theorem t90 : type_of% (sz90) ∧ type_of% (by90) ∧ type_of% (ag90) ∧ type_of% (sl90) ∧ type_of% (ar90) ∧ type_of% (pt90) ∧ type_of% (un90) ∧ type_of% (fl90_0) ∧ type_of% (fl90_1) ∧ type_of% (fl90_2) ∧ type_of% (fl90_3) ∧ type_of% (fs90) ∧ type_of% (po90) ∧ type_of% (zt90) ∧ type_of% (@z90.eq_1) :=
  ⟨sz90, by90, ag90, sl90, ar90, pt90, un90, fl90_0, fl90_1, fl90_2, fl90_3, fs90, po90, zt90, @z90.eq_1⟩
theorem t92 : type_of% (sz92) ∧ type_of% (by92) ∧ type_of% (ag92) ∧ type_of% (sl92) ∧ type_of% (ar92) ∧ type_of% (pt92) ∧ type_of% (mp92) ∧ type_of% (un92) ∧ type_of% (po92) ∧ type_of% (zt92) ∧ type_of% (@z92.eq_1) :=
  ⟨sz92, by92, ag92, sl92, ar92, pt92, mp92, un92, po92, zt92, @z92.eq_1⟩
theorem t93 : type_of% (sz93) ∧ type_of% (by93) ∧ type_of% (ag93) ∧ type_of% (sl93) ∧ type_of% (ar93) ∧ type_of% (pt93) ∧ type_of% (un93) ∧ type_of% (po93) ∧ type_of% (zt93) ∧ type_of% (@z93.eq_1) :=
  ⟨sz93, by93, ag93, sl93, ar93, pt93, un93, po93, zt93, @z93.eq_1⟩
theorem t95 : type_of% (sz95) ∧ type_of% (by95) ∧ type_of% (ag95) ∧ type_of% (sl95) ∧ type_of% (ar95) ∧ type_of% (pt95) ∧ type_of% (un95) ∧ type_of% (fl95_0) ∧ type_of% (fs95) ∧ type_of% (po95) ∧ type_of% (zt95) ∧ type_of% (@z95.eq_1) :=
  ⟨sz95, by95, ag95, sl95, ar95, pt95, un95, fl95_0, fs95, po95, zt95, @z95.eq_1⟩
theorem t96 : type_of% (sz96) ∧ type_of% (by96) ∧ type_of% (ag96) ∧ type_of% (sl96) ∧ type_of% (ar96) ∧ type_of% (pt96) ∧ type_of% (un96) ∧ type_of% (po96) ∧ type_of% (zt96) ∧ type_of% (@z96.eq_1) :=
  ⟨sz96, by96, ag96, sl96, ar96, pt96, un96, po96, zt96, @z96.eq_1⟩
theorem t98 : type_of% (sz98) ∧ type_of% (by98) ∧ type_of% (ag98) ∧ type_of% (sl98) ∧ type_of% (ar98) ∧ type_of% (pt98) ∧ type_of% (un98) ∧ type_of% (fl98_0) ∧ type_of% (fl98_1) ∧ type_of% (fl98_2) ∧ type_of% (fl98_3) ∧ type_of% (fl98_4) ∧ type_of% (fl98_5) ∧ type_of% (fl98_6) ∧ type_of% (fl98_7) ∧ type_of% (fl98_8) ∧ type_of% (fs98) ∧ type_of% (po98) ∧ type_of% (zt98) ∧ type_of% (@z98.eq_1) :=
  ⟨sz98, by98, ag98, sl98, ar98, pt98, un98, fl98_0, fl98_1, fl98_2, fl98_3, fl98_4, fl98_5, fl98_6, fl98_7, fl98_8, fs98, po98, zt98, @z98.eq_1⟩
theorem t108 : type_of% (sz108) ∧ type_of% (by108) ∧ type_of% (ag108) ∧ type_of% (sl108) ∧ type_of% (ar108) ∧ type_of% (pt108) ∧ type_of% (un108) ∧ type_of% (po108) ∧ type_of% (zt108) ∧ type_of% (@z108.eq_1) :=
  ⟨sz108, by108, ag108, sl108, ar108, pt108, un108, po108, zt108, @z108.eq_1⟩
theorem t110 : type_of% (sz110) ∧ type_of% (by110) ∧ type_of% (ag110) ∧ type_of% (sl110) ∧ type_of% (ar110) ∧ type_of% (pt110) ∧ type_of% (un110) ∧ type_of% (fl110_0) ∧ type_of% (fl110_1) ∧ type_of% (fl110_2) ∧ type_of% (fl110_3) ∧ type_of% (fl110_4) ∧ type_of% (fl110_5) ∧ type_of% (fl110_6) ∧ type_of% (fs110) ∧ type_of% (po110) ∧ type_of% (tq110) ∧ type_of% (tc110) ∧ type_of% (zt110) ∧ type_of% (@z110.eq_1) :=
  ⟨sz110, by110, ag110, sl110, ar110, pt110, un110, fl110_0, fl110_1, fl110_2, fl110_3, fl110_4, fl110_5, fl110_6, fs110, po110, tq110, tc110, zt110, @z110.eq_1⟩
theorem t115 : type_of% (sz115) ∧ type_of% (by115) ∧ type_of% (ag115) ∧ type_of% (sl115) ∧ type_of% (ar115) ∧ type_of% (pt115) ∧ type_of% (un115) ∧ type_of% (fl115_0) ∧ type_of% (fl115_1) ∧ type_of% (fs115) ∧ type_of% (po115) ∧ type_of% (zt115) ∧ type_of% (@z115.eq_1) :=
  ⟨sz115, by115, ag115, sl115, ar115, pt115, un115, fl115_0, fl115_1, fs115, po115, zt115, @z115.eq_1⟩
theorem t124 : type_of% (sz124) ∧ type_of% (by124) ∧ type_of% (ag124) ∧ type_of% (sl124) ∧ type_of% (ar124) ∧ type_of% (pt124) ∧ type_of% (un124) ∧ type_of% (fl124_0) ∧ type_of% (fs124) ∧ type_of% (po124) ∧ type_of% (zt124) ∧ type_of% (@z124.eq_1) :=
  ⟨sz124, by124, ag124, sl124, ar124, pt124, un124, fl124_0, fs124, po124, zt124, @z124.eq_1⟩
theorem t125 : type_of% (sz125) ∧ type_of% (by125) ∧ type_of% (ag125) ∧ type_of% (sl125) ∧ type_of% (ar125) ∧ type_of% (pt125) ∧ type_of% (un125) ∧ type_of% (po125) ∧ type_of% (zt125) ∧ type_of% (@z125.eq_1) :=
  ⟨sz125, by125, ag125, sl125, ar125, pt125, un125, po125, zt125, @z125.eq_1⟩
theorem t147 : type_of% (sz147) ∧ type_of% (by147) ∧ type_of% (ag147) ∧ type_of% (sl147) ∧ type_of% (ar147) ∧ type_of% (pt147) ∧ type_of% (un147) ∧ type_of% (po147) ∧ type_of% (zt147) ∧ type_of% (@z147.eq_1) :=
  ⟨sz147, by147, ag147, sl147, ar147, pt147, un147, po147, zt147, @z147.eq_1⟩
theorem t172 : type_of% (sz172) ∧ type_of% (by172) ∧ type_of% (ag172) ∧ type_of% (sl172) ∧ type_of% (ar172) ∧ type_of% (pt172) ∧ type_of% (un172) ∧ type_of% (po172) ∧ type_of% (zt172) ∧ type_of% (@z172.eq_1) :=
  ⟨sz172, by172, ag172, sl172, ar172, pt172, un172, po172, zt172, @z172.eq_1⟩
theorem t173 : type_of% (sz173) ∧ type_of% (by173) ∧ type_of% (ag173) ∧ type_of% (sl173) ∧ type_of% (ar173) ∧ type_of% (pt173) ∧ type_of% (in173) ∧ type_of% (un173) ∧ type_of% (po173) ∧ type_of% (zt173) ∧ type_of% (@z173.eq_1) :=
  ⟨sz173, by173, ag173, sl173, ar173, pt173, in173, un173, po173, zt173, @z173.eq_1⟩
theorem t184 : type_of% (sz184) ∧ type_of% (by184) ∧ type_of% (ag184) ∧ type_of% (sl184) ∧ type_of% (ar184) ∧ type_of% (pt184) ∧ type_of% (un184) ∧ type_of% (po184) ∧ type_of% (zt184) ∧ type_of% (@z184.eq_1) :=
  ⟨sz184, by184, ag184, sl184, ar184, pt184, un184, po184, zt184, @z184.eq_1⟩
theorem t198 : type_of% (sz198) ∧ type_of% (by198) ∧ type_of% (ag198) ∧ type_of% (sl198) ∧ type_of% (ar198) ∧ type_of% (pt198) ∧ type_of% (in198) ∧ type_of% (un198) ∧ type_of% (po198) ∧ type_of% (zt198) ∧ type_of% (@z198.eq_1) :=
  ⟨sz198, by198, ag198, sl198, ar198, pt198, in198, un198, po198, zt198, @z198.eq_1⟩
theorem t199 : type_of% (sz199) ∧ type_of% (by199) ∧ type_of% (ag199) ∧ type_of% (sl199) ∧ type_of% (ar199) ∧ type_of% (pt199) ∧ type_of% (in199) ∧ type_of% (un199) ∧ type_of% (po199) ∧ type_of% (zt199) ∧ type_of% (@z199.eq_1) :=
  ⟨sz199, by199, ag199, sl199, ar199, pt199, in199, un199, po199, zt199, @z199.eq_1⟩
theorem t201 : type_of% (sz201) ∧ type_of% (by201) ∧ type_of% (ag201) ∧ type_of% (sl201) ∧ type_of% (ar201) ∧ type_of% (pt201) ∧ type_of% (un201) ∧ type_of% (po201) ∧ type_of% (tq201) ∧ type_of% (zt201) ∧ type_of% (@z201.eq_1) :=
  ⟨sz201, by201, ag201, sl201, ar201, pt201, un201, po201, tq201, zt201, @z201.eq_1⟩
theorem t203 : type_of% (sz203) ∧ type_of% (by203) ∧ type_of% (ag203) ∧ type_of% (sl203) ∧ type_of% (ar203) ∧ type_of% (pt203) ∧ type_of% (un203) ∧ type_of% (po203) ∧ type_of% (tq203) ∧ type_of% (zt203) ∧ type_of% (@z203.eq_1) :=
  ⟨sz203, by203, ag203, sl203, ar203, pt203, un203, po203, tq203, zt203, @z203.eq_1⟩
theorem t206 : type_of% (sz206) ∧ type_of% (by206) ∧ type_of% (ag206) ∧ type_of% (sl206) ∧ type_of% (ar206) ∧ type_of% (pt206) ∧ type_of% (un206) ∧ type_of% (po206) ∧ type_of% (zt206) ∧ type_of% (@z206.eq_1) :=
  ⟨sz206, by206, ag206, sl206, ar206, pt206, un206, po206, zt206, @z206.eq_1⟩
theorem t209 : type_of% (sz209) ∧ type_of% (by209) ∧ type_of% (ag209) ∧ type_of% (sl209) ∧ type_of% (ar209) ∧ type_of% (pt209) ∧ type_of% (un209) ∧ type_of% (po209) ∧ type_of% (zt209) ∧ type_of% (@z209.eq_1) :=
  ⟨sz209, by209, ag209, sl209, ar209, pt209, un209, po209, zt209, @z209.eq_1⟩
theorem t212 : type_of% (sz212) ∧ type_of% (by212) ∧ type_of% (ag212) ∧ type_of% (sl212) ∧ type_of% (ar212) ∧ type_of% (pt212) ∧ type_of% (un212) ∧ type_of% (po212) ∧ type_of% (zt212) ∧ type_of% (@z212.eq_1) :=
  ⟨sz212, by212, ag212, sl212, ar212, pt212, un212, po212, zt212, @z212.eq_1⟩
theorem t215 : type_of% (sz215) ∧ type_of% (by215) ∧ type_of% (ag215) ∧ type_of% (sl215) ∧ type_of% (ar215) ∧ type_of% (pt215) ∧ type_of% (un215) ∧ type_of% (po215) ∧ type_of% (zt215) ∧ type_of% (@z215.eq_1) :=
  ⟨sz215, by215, ag215, sl215, ar215, pt215, un215, po215, zt215, @z215.eq_1⟩
theorem t221 : type_of% (sz221) ∧ type_of% (by221) ∧ type_of% (ag221) ∧ type_of% (sl221) ∧ type_of% (ar221) ∧ type_of% (pt221) ∧ type_of% (un221) ∧ type_of% (po221) ∧ type_of% (zt221) ∧ type_of% (@z221.eq_1) :=
  ⟨sz221, by221, ag221, sl221, ar221, pt221, un221, po221, zt221, @z221.eq_1⟩
theorem t228 : type_of% (sz228) ∧ type_of% (by228) ∧ type_of% (ag228) ∧ type_of% (sl228) ∧ type_of% (ar228) ∧ type_of% (pt228) ∧ type_of% (un228) ∧ type_of% (fl228_0) ∧ type_of% (fl228_1) ∧ type_of% (fs228) ∧ type_of% (po228) ∧ type_of% (zt228) ∧ type_of% (@z228.eq_1) :=
  ⟨sz228, by228, ag228, sl228, ar228, pt228, un228, fl228_0, fl228_1, fs228, po228, zt228, @z228.eq_1⟩
theorem mo : cx.P.follows .mixedOrders = true := by kernel_rfl
end Go.Proofs.YtjcnhgmaabkelaaGreat.T
