/-
  The table of types of this seat, told lemma by lemma (written by gentypes.py out of the translation).
-/
import Derived.Test.YtdkcobnhcpgpaaaGreatProg
import Derived.Test.YtdkcobnhcpgpaaaGreatAL18
set_option linter.unusedSimpArgs false
set_option maxRecDepth 10000
namespace Go.Proofs.YtdkcobnhcpgpaaaGreat.T
open Go Go.AL
theorem sz2 : tsz Tryz.prog 2 = some 1 := by kernel_rfl
theorem by2 : tby Tryz.prog 2 = some 8 := by kernel_rfl
theorem ag2 : tagg Tryz.prog 2 = some false := by kernel_rfl
theorem sl2 : tsl Tryz.prog 2 = none := by kernel_rfl
theorem ar2 : tarr Tryz.prog 2 = none := by kernel_rfl
theorem pt2 : tptr Tryz.prog 2 = none := by kernel_rfl
theorem in2 : tint Tryz.prog 2 = some .i64 := by kernel_rfl
theorem un2 : (Tryz.prog.underlying 2).isSome = true := by kernel_rfl
theorem po2 : tpos Tryz.prog 2 = true := by kernel_rfl
def z2 : AV := .val (.int .i64 0)
theorem zo2 : ZeroOK Tryz.prog 2 z2 := ZeroOK.mk (.int .i64 0) (by kernel_rfl) (by kernel_rfl) (by kernel_rfl) (by kernel_rfl)
theorem sz3 : tsz Tryz.prog 3 = some 1 := by kernel_rfl
theorem by3 : tby Tryz.prog 3 = some 8 := by kernel_rfl
theorem ag3 : tagg Tryz.prog 3 = some false := by kernel_rfl
theorem sl3 : tsl Tryz.prog 3 = none := by kernel_rfl
theorem ar3 : tarr Tryz.prog 3 = none := by kernel_rfl
theorem pt3 : tptr Tryz.prog 3 = none := by kernel_rfl
theorem in3 : tint Tryz.prog 3 = some .i64 := by kernel_rfl
theorem un3 : (Tryz.prog.underlying 3).isSome = true := by kernel_rfl
theorem po3 : tpos Tryz.prog 3 = true := by kernel_rfl
def z3 : AV := .val (.int .i64 0)
theorem zo3 : ZeroOK Tryz.prog 3 z3 := ZeroOK.mk (.int .i64 0) (by kernel_rfl) (by kernel_rfl) (by kernel_rfl) (by kernel_rfl)
theorem sz4 : tsz Tryz.prog 4 = some 1 := by kernel_rfl
theorem by4 : tby Tryz.prog 4 = some 1 := by kernel_rfl
theorem ag4 : tagg Tryz.prog 4 = some false := by kernel_rfl
theorem sl4 : tsl Tryz.prog 4 = none := by kernel_rfl
theorem ar4 : tarr Tryz.prog 4 = none := by kernel_rfl
theorem pt4 : tptr Tryz.prog 4 = none := by kernel_rfl
theorem un4 : (Tryz.prog.underlying 4).isSome = true := by kernel_rfl
theorem tb4 : tbool Tryz.prog 4 = some () := by kernel_rfl
theorem po4 : tpos Tryz.prog 4 = true := by kernel_rfl
def z4 : AV := .val (.bool false)
theorem zo4 : ZeroOK Tryz.prog 4 z4 := ZeroOK.mk (.bool false) (by kernel_rfl) (by kernel_rfl) (by kernel_rfl) (by kernel_rfl)
theorem sz5 : tsz Tryz.prog 5 = some 1 := by kernel_rfl
theorem by5 : tby Tryz.prog 5 = some 1 := by kernel_rfl
theorem ag5 : tagg Tryz.prog 5 = some false := by kernel_rfl
theorem sl5 : tsl Tryz.prog 5 = none := by kernel_rfl
theorem ar5 : tarr Tryz.prog 5 = none := by kernel_rfl
theorem pt5 : tptr Tryz.prog 5 = none := by kernel_rfl
theorem in5 : tint Tryz.prog 5 = some .u8 := by kernel_rfl
theorem un5 : (Tryz.prog.underlying 5).isSome = true := by kernel_rfl
theorem po5 : tpos Tryz.prog 5 = true := by kernel_rfl
def z5 : AV := .val (.int .u8 0)
theorem zo5 : ZeroOK Tryz.prog 5 z5 := ZeroOK.mk (.int .u8 0) (by kernel_rfl) (by kernel_rfl) (by kernel_rfl) (by kernel_rfl)
theorem sz23 : tsz Tryz.prog 23 = some 32 := by kernel_rfl
theorem by23 : tby Tryz.prog 23 = some 32 := by kernel_rfl
theorem ag23 : tagg Tryz.prog 23 = some true := by kernel_rfl
theorem sl23 : tsl Tryz.prog 23 = none := by kernel_rfl
theorem ar23 : tarr Tryz.prog 23 = some (32, 5) := by kernel_rfl
theorem pt23 : tptr Tryz.prog 23 = none := by kernel_rfl
theorem un23 : (Tryz.prog.underlying 23).isSome = true := by kernel_rfl
theorem po23 : tpos Tryz.prog 23 = true := by kernel_rfl
theorem tq23 : teq Tryz.prog 23 = true := by kernel_rfl
def z23 : AV := .vec 1 (List.replicate 32 (.val (.int .u8 0)))
theorem zo23 : ZeroOK Tryz.prog 23 z23 := ZeroOK.mk (.agg #[.int .u8 0, .int .u8 0, .int .u8 0, .int .u8 0, .int .u8 0, .int .u8 0, .int .u8 0, .int .u8 0, .int .u8 0, .int .u8 0, .int .u8 0, .int .u8 0, .int .u8 0, .int .u8 0, .int .u8 0, .int .u8 0, .int .u8 0, .int .u8 0, .int .u8 0, .int .u8 0, .int .u8 0, .int .u8 0, .int .u8 0, .int .u8 0, .int .u8 0, .int .u8 0, .int .u8 0, .int .u8 0, .int .u8 0, .int .u8 0, .int .u8 0, .int .u8 0]) (by kernel_rfl) (by kernel_rfl) (by kernel_rfl) (by kernel_rfl)
theorem sz25 : tsz Tryz.prog 25 = some 33 := by kernel_rfl
theorem by25 : tby Tryz.prog 25 = some 40 := by kernel_rfl
theorem ag25 : tagg Tryz.prog 25 = some true := by kernel_rfl
theorem sl25 : tsl Tryz.prog 25 = none := by kernel_rfl
theorem ar25 : tarr Tryz.prog 25 = none := by kernel_rfl
theorem pt25 : tptr Tryz.prog 25 = none := by kernel_rfl
theorem un25 : (Tryz.prog.underlying 25).isSome = true := by kernel_rfl
theorem fl25_0 : tfld Tryz.prog 25 0 = some (0, 23) := by kernel_rfl
theorem fl25_1 : tfld Tryz.prog 25 1 = some (32, 3) := by kernel_rfl
theorem fs25 : tflds Tryz.prog 25 = true := by kernel_rfl
theorem po25 : tpos Tryz.prog 25 = true := by kernel_rfl
theorem tq25 : teq Tryz.prog 25 = true := by kernel_rfl
theorem tc25 : tcmp Tryz.prog 25 = some [(0, 23), (32, 3)] := by kernel_rfl
def z25 : AV := .agg 33 [.vec 1 (List.replicate 32 (.val (.int .u8 0))), .val (.int .i64 0)]
theorem zo25 : ZeroOK Tryz.prog 25 z25 := ZeroOK.mk (.agg #[.int .u8 0, .int .u8 0, .int .u8 0, .int .u8 0, .int .u8 0, .int .u8 0, .int .u8 0, .int .u8 0, .int .u8 0, .int .u8 0, .int .u8 0, .int .u8 0, .int .u8 0, .int .u8 0, .int .u8 0, .int .u8 0, .int .u8 0, .int .u8 0, .int .u8 0, .int .u8 0, .int .u8 0, .int .u8 0, .int .u8 0, .int .u8 0, .int .u8 0, .int .u8 0, .int .u8 0, .int .u8 0, .int .u8 0, .int .u8 0, .int .u8 0, .int .u8 0, .int .i64 0]) (by kernel_rfl) (by kernel_rfl) (by kernel_rfl) (by kernel_rfl)
theorem sz27 : tsz Tryz.prog 27 = some 39 := by kernel_rfl
theorem by27 : tby Tryz.prog 27 = some 88 := by kernel_rfl
theorem ag27 : tagg Tryz.prog 27 = some true := by kernel_rfl
theorem sl27 : tsl Tryz.prog 27 = none := by kernel_rfl
theorem ar27 : tarr Tryz.prog 27 = none := by kernel_rfl
theorem pt27 : tptr Tryz.prog 27 = none := by kernel_rfl
theorem un27 : (Tryz.prog.underlying 27).isSome = true := by kernel_rfl
theorem fl27_0 : tfld Tryz.prog 27 0 = some (0, 3) := by kernel_rfl
theorem fl27_1 : tfld Tryz.prog 27 1 = some (1, 3) := by kernel_rfl
theorem fl27_2 : tfld Tryz.prog 27 2 = some (2, 3) := by kernel_rfl
theorem fl27_3 : tfld Tryz.prog 27 3 = some (3, 25) := by kernel_rfl
theorem fl27_4 : tfld Tryz.prog 27 4 = some (36, 2) := by kernel_rfl
theorem fl27_5 : tfld Tryz.prog 27 5 = some (37, 3) := by kernel_rfl
theorem fl27_6 : tfld Tryz.prog 27 6 = some (38, 3) := by kernel_rfl
theorem fs27 : tflds Tryz.prog 27 = true := by kernel_rfl
theorem po27 : tpos Tryz.prog 27 = true := by kernel_rfl
theorem tq27 : teq Tryz.prog 27 = true := by kernel_rfl
theorem tc27 : tcmp Tryz.prog 27 = some [(0, 3), (1, 3), (2, 3), (3, 25), (36, 2), (37, 3), (38, 3)] := by kernel_rfl
def z27 : AV := .agg 39 [.val (.int .i64 0), .val (.int .i64 0), .val (.int .i64 0), .agg 33 [.vec 1 (List.replicate 32 (.val (.int .u8 0))), .val (.int .i64 0)], .val (.int .i64 0), .val (.int .i64 0), .val (.int .i64 0)]
theorem zo27 : ZeroOK Tryz.prog 27 z27 := ZeroOK.mk (.agg #[.int .i64 0, .int .i64 0, .int .i64 0, .int .u8 0, .int .u8 0, .int .u8 0, .int .u8 0, .int .u8 0, .int .u8 0, .int .u8 0, .int .u8 0, .int .u8 0, .int .u8 0, .int .u8 0, .int .u8 0, .int .u8 0, .int .u8 0, .int .u8 0, .int .u8 0, .int .u8 0, .int .u8 0, .int .u8 0, .int .u8 0, .int .u8 0, .int .u8 0, .int .u8 0, .int .u8 0, .int .u8 0, .int .u8 0, .int .u8 0, .int .u8 0, .int .u8 0, .int .u8 0, .int .u8 0, .int .u8 0, .int .i64 0, .int .i64 0, .int .i64 0, .int .i64 0]) (by kernel_rfl) (by kernel_rfl) (by kernel_rfl) (by kernel_rfl)
theorem sz29 : tsz Tryz.prog 29 = some 67 := by kernel_rfl
theorem by29 : tby Tryz.prog 29 = some 88 := by kernel_rfl
theorem ag29 : tagg Tryz.prog 29 = some true := by kernel_rfl
theorem sl29 : tsl Tryz.prog 29 = none := by kernel_rfl
theorem ar29 : tarr Tryz.prog 29 = none := by kernel_rfl
theorem pt29 : tptr Tryz.prog 29 = none := by kernel_rfl
theorem un29 : (Tryz.prog.underlying 29).isSome = true := by kernel_rfl
theorem fl29_0 : tfld Tryz.prog 29 0 = some (0, 3) := by kernel_rfl
theorem fl29_1 : tfld Tryz.prog 29 1 = some (1, 3) := by kernel_rfl
theorem fl29_2 : tfld Tryz.prog 29 2 = some (2, 3) := by kernel_rfl
theorem fl29_3 : tfld Tryz.prog 29 3 = some (3, 23) := by kernel_rfl
theorem fl29_4 : tfld Tryz.prog 29 4 = some (35, 23) := by kernel_rfl
theorem fs29 : tflds Tryz.prog 29 = true := by kernel_rfl
theorem po29 : tpos Tryz.prog 29 = true := by kernel_rfl
theorem tq29 : teq Tryz.prog 29 = true := by kernel_rfl
theorem tc29 : tcmp Tryz.prog 29 = some [(0, 3), (1, 3), (2, 3), (3, 23), (35, 23)] := by kernel_rfl
def z29 : AV := .agg 67 [.val (.int .i64 0), .val (.int .i64 0), .val (.int .i64 0), .vec 1 (List.replicate 32 (.val (.int .u8 0))), .vec 1 (List.replicate 32 (.val (.int .u8 0)))]
theorem zo29 : ZeroOK Tryz.prog 29 z29 := ZeroOK.mk (.agg #[.int .i64 0, .int .i64 0, .int .i64 0, .int .u8 0, .int .u8 0, .int .u8 0, .int .u8 0, .int .u8 0, .int .u8 0, .int .u8 0, .int .u8 0, .int .u8 0, .int .u8 0, .int .u8 0, .int .u8 0, .int .u8 0, .int .u8 0, .int .u8 0, .int .u8 0, .int .u8 0, .int .u8 0, .int .u8 0, .int .u8 0, .int .u8 0, .int .u8 0, .int .u8 0, .int .u8 0, .int .u8 0, .int .u8 0, .int .u8 0, .int .u8 0, .int .u8 0, .int .u8 0, .int .u8 0, .int .u8 0, .int .u8 0, .int .u8 0, .int .u8 0, .int .u8 0, .int .u8 0, .int .u8 0, .int .u8 0, .int .u8 0, .int .u8 0, .int .u8 0, .int .u8 0, .int .u8 0, .int .u8 0, .int .u8 0, .int .u8 0, .int .u8 0, .int .u8 0, .int .u8 0, .int .u8 0, .int .u8 0, .int .u8 0, .int .u8 0, .int .u8 0, .int .u8 0, .int .u8 0, .int .u8 0, .int .u8 0, .int .u8 0, .int .u8 0, .int .u8 0, .int .u8 0, .int .u8 0]) (by kernel_rfl) (by kernel_rfl) (by kernel_rfl) (by kernel_rfl)
theorem sz30 : tsz Tryz.prog 30 = some 1 := by kernel_rfl
theorem by30 : tby Tryz.prog 30 = some 24 := by kernel_rfl
theorem ag30 : tagg Tryz.prog 30 = some false := by kernel_rfl
theorem sl30 : tsl Tryz.prog 30 = some 5 := by kernel_rfl
theorem ar30 : tarr Tryz.prog 30 = none := by kernel_rfl
theorem pt30 : tptr Tryz.prog 30 = none := by kernel_rfl
theorem un30 : (Tryz.prog.underlying 30).isSome = true := by kernel_rfl
theorem po30 : tpos Tryz.prog 30 = true := by kernel_rfl
def z30 : AV := .sl 1 [] 1
theorem zo30 : ZeroOK Tryz.prog 30 z30 := ZeroOK.mk (.slice none 0 0) (by kernel_rfl) (by kernel_rfl) (by kernel_rfl) (by kernel_rfl)
theorem sz32 : tsz Tryz.prog 32 = some 68 := by kernel_rfl
theorem by32 : tby Tryz.prog 32 = some 112 := by kernel_rfl
theorem ag32 : tagg Tryz.prog 32 = some true := by kernel_rfl
theorem sl32 : tsl Tryz.prog 32 = none := by kernel_rfl
theorem ar32 : tarr Tryz.prog 32 = none := by kernel_rfl
theorem pt32 : tptr Tryz.prog 32 = none := by kernel_rfl
theorem un32 : (Tryz.prog.underlying 32).isSome = true := by kernel_rfl
theorem fl32_0 : tfld Tryz.prog 32 0 = some (0, 29) := by kernel_rfl
theorem fl32_1 : tfld Tryz.prog 32 1 = some (67, 30) := by kernel_rfl
theorem fs32 : tflds Tryz.prog 32 = true := by kernel_rfl
theorem po32 : tpos Tryz.prog 32 = true := by kernel_rfl
def z32 : AV := .agg 68 [.agg 67 [.val (.int .i64 0), .val (.int .i64 0), .val (.int .i64 0), .vec 1 (List.replicate 32 (.val (.int .u8 0))), .vec 1 (List.replicate 32 (.val (.int .u8 0)))], .sl 1 [] 1]
theorem zo32 : ZeroOK Tryz.prog 32 z32 := ZeroOK.mk (.agg #[.int .i64 0, .int .i64 0, .int .i64 0, .int .u8 0, .int .u8 0, .int .u8 0, .int .u8 0, .int .u8 0, .int .u8 0, .int .u8 0, .int .u8 0, .int .u8 0, .int .u8 0, .int .u8 0, .int .u8 0, .int .u8 0, .int .u8 0, .int .u8 0, .int .u8 0, .int .u8 0, .int .u8 0, .int .u8 0, .int .u8 0, .int .u8 0, .int .u8 0, .int .u8 0, .int .u8 0, .int .u8 0, .int .u8 0, .int .u8 0, .int .u8 0, .int .u8 0, .int .u8 0, .int .u8 0, .int .u8 0, .int .u8 0, .int .u8 0, .int .u8 0, .int .u8 0, .int .u8 0, .int .u8 0, .int .u8 0, .int .u8 0, .int .u8 0, .int .u8 0, .int .u8 0, .int .u8 0, .int .u8 0, .int .u8 0, .int .u8 0, .int .u8 0, .int .u8 0, .int .u8 0, .int .u8 0, .int .u8 0, .int .u8 0, .int .u8 0, .int .u8 0, .int .u8 0, .int .u8 0, .int .u8 0, .int .u8 0, .int .u8 0, .int .u8 0, .int .u8 0, .int .u8 0, .int .u8 0, .slice none 0 0]) (by kernel_rfl) (by kernel_rfl) (by kernel_rfl) (by kernel_rfl)
theorem sz36 : tsz Tryz.prog 36 = some 1 := by kernel_rfl
theorem by36 : tby Tryz.prog 36 = some 24 := by kernel_rfl
theorem ag36 : tagg Tryz.prog 36 = some false := by kernel_rfl
theorem sl36 : tsl Tryz.prog 36 = some 48 := by kernel_rfl
theorem ar36 : tarr Tryz.prog 36 = none := by kernel_rfl
theorem pt36 : tptr Tryz.prog 36 = none := by kernel_rfl
theorem un36 : (Tryz.prog.underlying 36).isSome = true := by kernel_rfl
theorem po36 : tpos Tryz.prog 36 = true := by kernel_rfl
def z36 : AV := .sl 35 [] 1
theorem zo36 : ZeroOK Tryz.prog 36 z36 := ZeroOK.mk (.slice none 0 0) (by kernel_rfl) (by kernel_rfl) (by kernel_rfl) (by kernel_rfl)
theorem sz37 : tsz Tryz.prog 37 = some 1 := by kernel_rfl
theorem by37 : tby Tryz.prog 37 = some 24 := by kernel_rfl
theorem ag37 : tagg Tryz.prog 37 = some false := by kernel_rfl
theorem sl37 : tsl Tryz.prog 37 = some 51 := by kernel_rfl
theorem ar37 : tarr Tryz.prog 37 = none := by kernel_rfl
theorem pt37 : tptr Tryz.prog 37 = none := by kernel_rfl
theorem un37 : (Tryz.prog.underlying 37).isSome = true := by kernel_rfl
theorem po37 : tpos Tryz.prog 37 = true := by kernel_rfl
def z37 : AV := .sl 2 [] 1
theorem zo37 : ZeroOK Tryz.prog 37 z37 := ZeroOK.mk (.slice none 0 0) (by kernel_rfl) (by kernel_rfl) (by kernel_rfl) (by kernel_rfl)
theorem sz39 : tsz Tryz.prog 39 = some 37 := by kernel_rfl
theorem by39 : tby Tryz.prog 39 = some 88 := by kernel_rfl
theorem ag39 : tagg Tryz.prog 39 = some true := by kernel_rfl
theorem sl39 : tsl Tryz.prog 39 = none := by kernel_rfl
theorem ar39 : tarr Tryz.prog 39 = none := by kernel_rfl
theorem pt39 : tptr Tryz.prog 39 = none := by kernel_rfl
theorem un39 : (Tryz.prog.underlying 39).isSome = true := by kernel_rfl
theorem fl39_0 : tfld Tryz.prog 39 0 = some (0, 3) := by kernel_rfl
theorem fl39_1 : tfld Tryz.prog 39 1 = some (1, 3) := by kernel_rfl
theorem fl39_2 : tfld Tryz.prog 39 2 = some (2, 3) := by kernel_rfl
theorem fl39_3 : tfld Tryz.prog 39 3 = some (3, 2) := by kernel_rfl
theorem fl39_4 : tfld Tryz.prog 39 4 = some (4, 23) := by kernel_rfl
theorem fl39_5 : tfld Tryz.prog 39 5 = some (36, 30) := by kernel_rfl
theorem fs39 : tflds Tryz.prog 39 = true := by kernel_rfl
theorem po39 : tpos Tryz.prog 39 = true := by kernel_rfl
def z39 : AV := .agg 37 [.val (.int .i64 0), .val (.int .i64 0), .val (.int .i64 0), .val (.int .i64 0), .vec 1 (List.replicate 32 (.val (.int .u8 0))), .sl 1 [] 1]
theorem zo39 : ZeroOK Tryz.prog 39 z39 := ZeroOK.mk (.agg #[.int .i64 0, .int .i64 0, .int .i64 0, .int .i64 0, .int .u8 0, .int .u8 0, .int .u8 0, .int .u8 0, .int .u8 0, .int .u8 0, .int .u8 0, .int .u8 0, .int .u8 0, .int .u8 0, .int .u8 0, .int .u8 0, .int .u8 0, .int .u8 0, .int .u8 0, .int .u8 0, .int .u8 0, .int .u8 0, .int .u8 0, .int .u8 0, .int .u8 0, .int .u8 0, .int .u8 0, .int .u8 0, .int .u8 0, .int .u8 0, .int .u8 0, .int .u8 0, .int .u8 0, .int .u8 0, .int .u8 0, .int .u8 0, .slice none 0 0]) (by kernel_rfl) (by kernel_rfl) (by kernel_rfl) (by kernel_rfl)
theorem sz40 : tsz Tryz.prog 40 = some 1 := by kernel_rfl
theorem by40 : tby Tryz.prog 40 = some 24 := by kernel_rfl
theorem ag40 : tagg Tryz.prog 40 = some false := by kernel_rfl
theorem sl40 : tsl Tryz.prog 40 = some 61 := by kernel_rfl
theorem ar40 : tarr Tryz.prog 40 = none := by kernel_rfl
theorem pt40 : tptr Tryz.prog 40 = none := by kernel_rfl
theorem un40 : (Tryz.prog.underlying 40).isSome = true := by kernel_rfl
theorem po40 : tpos Tryz.prog 40 = true := by kernel_rfl
def z40 : AV := .sl 33 [] 1
theorem zo40 : ZeroOK Tryz.prog 40 z40 := ZeroOK.mk (.slice none 0 0) (by kernel_rfl) (by kernel_rfl) (by kernel_rfl) (by kernel_rfl)
theorem sz42 : tsz Tryz.prog 42 = some 40 := by kernel_rfl
theorem by42 : tby Tryz.prog 42 = some 160 := by kernel_rfl
theorem ag42 : tagg Tryz.prog 42 = some true := by kernel_rfl
theorem sl42 : tsl Tryz.prog 42 = none := by kernel_rfl
theorem ar42 : tarr Tryz.prog 42 = none := by kernel_rfl
theorem pt42 : tptr Tryz.prog 42 = none := by kernel_rfl
theorem un42 : (Tryz.prog.underlying 42).isSome = true := by kernel_rfl
theorem fl42_0 : tfld Tryz.prog 42 0 = some (0, 36) := by kernel_rfl
theorem fl42_1 : tfld Tryz.prog 42 1 = some (1, 37) := by kernel_rfl
theorem fl42_2 : tfld Tryz.prog 42 2 = some (2, 39) := by kernel_rfl
theorem fl42_3 : tfld Tryz.prog 42 3 = some (39, 40) := by kernel_rfl
theorem fs42 : tflds Tryz.prog 42 = true := by kernel_rfl
theorem po42 : tpos Tryz.prog 42 = true := by kernel_rfl
def z42 : AV := .agg 40 [.sl 35 [] 1, .sl 2 [] 1, .agg 37 [.val (.int .i64 0), .val (.int .i64 0), .val (.int .i64 0), .val (.int .i64 0), .vec 1 (List.replicate 32 (.val (.int .u8 0))), .sl 1 [] 1], .sl 33 [] 1]
theorem zo42 : ZeroOK Tryz.prog 42 z42 := ZeroOK.mk (.agg #[.slice none 0 0, .slice none 0 0, .int .i64 0, .int .i64 0, .int .i64 0, .int .i64 0, .int .u8 0, .int .u8 0, .int .u8 0, .int .u8 0, .int .u8 0, .int .u8 0, .int .u8 0, .int .u8 0, .int .u8 0, .int .u8 0, .int .u8 0, .int .u8 0, .int .u8 0, .int .u8 0, .int .u8 0, .int .u8 0, .int .u8 0, .int .u8 0, .int .u8 0, .int .u8 0, .int .u8 0, .int .u8 0, .int .u8 0, .int .u8 0, .int .u8 0, .int .u8 0, .int .u8 0, .int .u8 0, .int .u8 0, .int .u8 0, .int .u8 0, .int .u8 0, .slice none 0 0, .slice none 0 0]) (by kernel_rfl) (by kernel_rfl) (by kernel_rfl) (by kernel_rfl)
theorem sz43 : tsz Tryz.prog 43 = some 1 := by kernel_rfl
theorem by43 : tby Tryz.prog 43 = some 8 := by kernel_rfl
theorem ag43 : tagg Tryz.prog 43 = some false := by kernel_rfl
theorem sl43 : tsl Tryz.prog 43 = none := by kernel_rfl
theorem ar43 : tarr Tryz.prog 43 = none := by kernel_rfl
theorem pt43 : tptr Tryz.prog 43 = none := by kernel_rfl
theorem in43 : tint Tryz.prog 43 = some .i64 := by kernel_rfl
theorem un43 : (Tryz.prog.underlying 43).isSome = true := by kernel_rfl
theorem po43 : tpos Tryz.prog 43 = true := by kernel_rfl
def z43 : AV := .val (.int .i64 0)
theorem zo43 : ZeroOK Tryz.prog 43 z43 := ZeroOK.mk (.int .i64 0) (by kernel_rfl) (by kernel_rfl) (by kernel_rfl) (by kernel_rfl)
theorem sz48 : tsz Tryz.prog 48 = some 35 := by kernel_rfl
theorem by48 : tby Tryz.prog 48 = some 72 := by kernel_rfl
theorem ag48 : tagg Tryz.prog 48 = some true := by kernel_rfl
theorem sl48 : tsl Tryz.prog 48 = none := by kernel_rfl
theorem ar48 : tarr Tryz.prog 48 = none := by kernel_rfl
theorem pt48 : tptr Tryz.prog 48 = none := by kernel_rfl
theorem un48 : (Tryz.prog.underlying 48).isSome = true := by kernel_rfl
theorem fl48_0 : tfld Tryz.prog 48 0 = some (0, 25) := by kernel_rfl
theorem fl48_1 : tfld Tryz.prog 48 1 = some (33, 3) := by kernel_rfl
theorem fl48_2 : tfld Tryz.prog 48 2 = some (34, 30) := by kernel_rfl
theorem fs48 : tflds Tryz.prog 48 = true := by kernel_rfl
theorem po48 : tpos Tryz.prog 48 = true := by kernel_rfl
def z48 : AV := .agg 35 [.agg 33 [.vec 1 (List.replicate 32 (.val (.int .u8 0))), .val (.int .i64 0)], .val (.int .i64 0), .sl 1 [] 1]
theorem zo48 : ZeroOK Tryz.prog 48 z48 := ZeroOK.mk (.agg #[.int .u8 0, .int .u8 0, .int .u8 0, .int .u8 0, .int .u8 0, .int .u8 0, .int .u8 0, .int .u8 0, .int .u8 0, .int .u8 0, .int .u8 0, .int .u8 0, .int .u8 0, .int .u8 0, .int .u8 0, .int .u8 0, .int .u8 0, .int .u8 0, .int .u8 0, .int .u8 0, .int .u8 0, .int .u8 0, .int .u8 0, .int .u8 0, .int .u8 0, .int .u8 0, .int .u8 0, .int .u8 0, .int .u8 0, .int .u8 0, .int .u8 0, .int .u8 0, .int .i64 0, .int .i64 0, .slice none 0 0]) (by kernel_rfl) (by kernel_rfl) (by kernel_rfl) (by kernel_rfl)
theorem sz49 : tsz Tryz.prog 49 = some 1 := by kernel_rfl
theorem by49 : tby Tryz.prog 49 = some 24 := by kernel_rfl
theorem ag49 : tagg Tryz.prog 49 = some false := by kernel_rfl
theorem sl49 : tsl Tryz.prog 49 = some 142 := by kernel_rfl
theorem ar49 : tarr Tryz.prog 49 = none := by kernel_rfl
theorem pt49 : tptr Tryz.prog 49 = none := by kernel_rfl
theorem un49 : (Tryz.prog.underlying 49).isSome = true := by kernel_rfl
theorem po49 : tpos Tryz.prog 49 = true := by kernel_rfl
def z49 : AV := .sl 35 [] 1
theorem zo49 : ZeroOK Tryz.prog 49 z49 := ZeroOK.mk (.slice none 0 0) (by kernel_rfl) (by kernel_rfl) (by kernel_rfl) (by kernel_rfl)
theorem sz51 : tsz Tryz.prog 51 = some 2 := by kernel_rfl
theorem by51 : tby Tryz.prog 51 = some 32 := by kernel_rfl
theorem ag51 : tagg Tryz.prog 51 = some true := by kernel_rfl
theorem sl51 : tsl Tryz.prog 51 = none := by kernel_rfl
theorem ar51 : tarr Tryz.prog 51 = none := by kernel_rfl
theorem pt51 : tptr Tryz.prog 51 = none := by kernel_rfl
theorem un51 : (Tryz.prog.underlying 51).isSome = true := by kernel_rfl
theorem fl51_0 : tfld Tryz.prog 51 0 = some (0, 2) := by kernel_rfl
theorem fl51_1 : tfld Tryz.prog 51 1 = some (1, 49) := by kernel_rfl
theorem fs51 : tflds Tryz.prog 51 = true := by kernel_rfl
theorem po51 : tpos Tryz.prog 51 = true := by kernel_rfl
def z51 : AV := .agg 2 [.val (.int .i64 0), .sl 35 [] 1]
theorem zo51 : ZeroOK Tryz.prog 51 z51 := ZeroOK.mk (.agg #[.int .i64 0, .slice none 0 0]) (by kernel_rfl) (by kernel_rfl) (by kernel_rfl) (by kernel_rfl)
theorem sz57 : tsz Tryz.prog 57 = some 64 := by kernel_rfl
theorem by57 : tby Tryz.prog 57 = some 64 := by kernel_rfl
theorem ag57 : tagg Tryz.prog 57 = some true := by kernel_rfl
theorem sl57 : tsl Tryz.prog 57 = none := by kernel_rfl
theorem ar57 : tarr Tryz.prog 57 = some (2, 23) := by kernel_rfl
theorem pt57 : tptr Tryz.prog 57 = none := by kernel_rfl
theorem un57 : (Tryz.prog.underlying 57).isSome = true := by kernel_rfl
theorem po57 : tpos Tryz.prog 57 = true := by kernel_rfl
theorem tq57 : teq Tryz.prog 57 = true := by kernel_rfl
def z57 : AV := .vec 32 (List.replicate 2 (.vec 1 (List.replicate 32 (.val (.int .u8 0)))))
theorem zo57 : ZeroOK Tryz.prog 57 z57 := ZeroOK.mk (.agg #[.int .u8 0, .int .u8 0, .int .u8 0, .int .u8 0, .int .u8 0, .int .u8 0, .int .u8 0, .int .u8 0, .int .u8 0, .int .u8 0, .int .u8 0, .int .u8 0, .int .u8 0, .int .u8 0, .int .u8 0, .int .u8 0, .int .u8 0, .int .u8 0, .int .u8 0, .int .u8 0, .int .u8 0, .int .u8 0, .int .u8 0, .int .u8 0, .int .u8 0, .int .u8 0, .int .u8 0, .int .u8 0, .int .u8 0, .int .u8 0, .int .u8 0, .int .u8 0, .int .u8 0, .int .u8 0, .int .u8 0, .int .u8 0, .int .u8 0, .int .u8 0, .int .u8 0, .int .u8 0, .int .u8 0, .int .u8 0, .int .u8 0, .int .u8 0, .int .u8 0, .int .u8 0, .int .u8 0, .int .u8 0, .int .u8 0, .int .u8 0, .int .u8 0, .int .u8 0, .int .u8 0, .int .u8 0, .int .u8 0, .int .u8 0, .int .u8 0, .int .u8 0, .int .u8 0, .int .u8 0, .int .u8 0, .int .u8 0, .int .u8 0, .int .u8 0]) (by kernel_rfl) (by kernel_rfl) (by kernel_rfl) (by kernel_rfl)
theorem sz59 : tsz Tryz.prog 59 = some 67 := by kernel_rfl
theorem by59 : tby Tryz.prog 59 = some 88 := by kernel_rfl
theorem ag59 : tagg Tryz.prog 59 = some true := by kernel_rfl
theorem sl59 : tsl Tryz.prog 59 = none := by kernel_rfl
theorem ar59 : tarr Tryz.prog 59 = none := by kernel_rfl
theorem pt59 : tptr Tryz.prog 59 = none := by kernel_rfl
theorem un59 : (Tryz.prog.underlying 59).isSome = true := by kernel_rfl
theorem fl59_0 : tfld Tryz.prog 59 0 = some (0, 3) := by kernel_rfl
theorem fl59_1 : tfld Tryz.prog 59 1 = some (1, 2) := by kernel_rfl
theorem fl59_2 : tfld Tryz.prog 59 2 = some (2, 2) := by kernel_rfl
theorem fl59_3 : tfld Tryz.prog 59 3 = some (3, 57) := by kernel_rfl
theorem fs59 : tflds Tryz.prog 59 = true := by kernel_rfl
theorem po59 : tpos Tryz.prog 59 = true := by kernel_rfl
theorem tq59 : teq Tryz.prog 59 = true := by kernel_rfl
theorem tc59 : tcmp Tryz.prog 59 = some [(0, 3), (1, 2), (2, 2), (3, 57)] := by kernel_rfl
def z59 : AV := .agg 67 [.val (.int .i64 0), .val (.int .i64 0), .val (.int .i64 0), .vec 32 (List.replicate 2 (.vec 1 (List.replicate 32 (.val (.int .u8 0)))))]
theorem zo59 : ZeroOK Tryz.prog 59 z59 := ZeroOK.mk (.agg #[.int .i64 0, .int .i64 0, .int .i64 0, .int .u8 0, .int .u8 0, .int .u8 0, .int .u8 0, .int .u8 0, .int .u8 0, .int .u8 0, .int .u8 0, .int .u8 0, .int .u8 0, .int .u8 0, .int .u8 0, .int .u8 0, .int .u8 0, .int .u8 0, .int .u8 0, .int .u8 0, .int .u8 0, .int .u8 0, .int .u8 0, .int .u8 0, .int .u8 0, .int .u8 0, .int .u8 0, .int .u8 0, .int .u8 0, .int .u8 0, .int .u8 0, .int .u8 0, .int .u8 0, .int .u8 0, .int .u8 0, .int .u8 0, .int .u8 0, .int .u8 0, .int .u8 0, .int .u8 0, .int .u8 0, .int .u8 0, .int .u8 0, .int .u8 0, .int .u8 0, .int .u8 0, .int .u8 0, .int .u8 0, .int .u8 0, .int .u8 0, .int .u8 0, .int .u8 0, .int .u8 0, .int .u8 0, .int .u8 0, .int .u8 0, .int .u8 0, .int .u8 0, .int .u8 0, .int .u8 0, .int .u8 0, .int .u8 0, .int .u8 0, .int .u8 0, .int .u8 0, .int .u8 0, .int .u8 0]) (by kernel_rfl) (by kernel_rfl) (by kernel_rfl) (by kernel_rfl)
theorem sz61 : tsz Tryz.prog 61 = some 33 := by kernel_rfl
theorem by61 : tby Tryz.prog 61 = some 40 := by kernel_rfl
theorem ag61 : tagg Tryz.prog 61 = some true := by kernel_rfl
theorem sl61 : tsl Tryz.prog 61 = none := by kernel_rfl
theorem ar61 : tarr Tryz.prog 61 = none := by kernel_rfl
theorem pt61 : tptr Tryz.prog 61 = none := by kernel_rfl
theorem un61 : (Tryz.prog.underlying 61).isSome = true := by kernel_rfl
theorem fl61_0 : tfld Tryz.prog 61 0 = some (0, 3) := by kernel_rfl
theorem fl61_1 : tfld Tryz.prog 61 1 = some (1, 23) := by kernel_rfl
theorem fs61 : tflds Tryz.prog 61 = true := by kernel_rfl
theorem po61 : tpos Tryz.prog 61 = true := by kernel_rfl
theorem tq61 : teq Tryz.prog 61 = true := by kernel_rfl
theorem tc61 : tcmp Tryz.prog 61 = some [(0, 3), (1, 23)] := by kernel_rfl
def z61 : AV := .agg 33 [.val (.int .i64 0), .vec 1 (List.replicate 32 (.val (.int .u8 0)))]
theorem zo61 : ZeroOK Tryz.prog 61 z61 := ZeroOK.mk (.agg #[.int .i64 0, .int .u8 0, .int .u8 0, .int .u8 0, .int .u8 0, .int .u8 0, .int .u8 0, .int .u8 0, .int .u8 0, .int .u8 0, .int .u8 0, .int .u8 0, .int .u8 0, .int .u8 0, .int .u8 0, .int .u8 0, .int .u8 0, .int .u8 0, .int .u8 0, .int .u8 0, .int .u8 0, .int .u8 0, .int .u8 0, .int .u8 0, .int .u8 0, .int .u8 0, .int .u8 0, .int .u8 0, .int .u8 0, .int .u8 0, .int .u8 0, .int .u8 0, .int .u8 0]) (by kernel_rfl) (by kernel_rfl) (by kernel_rfl) (by kernel_rfl)
theorem sz63 : tsz Tryz.prog 63 = some 35 := by kernel_rfl
theorem by63 : tby Tryz.prog 63 = some 72 := by kernel_rfl
theorem ag63 : tagg Tryz.prog 63 = some true := by kernel_rfl
theorem sl63 : tsl Tryz.prog 63 = none := by kernel_rfl
theorem ar63 : tarr Tryz.prog 63 = none := by kernel_rfl
theorem pt63 : tptr Tryz.prog 63 = none := by kernel_rfl
theorem un63 : (Tryz.prog.underlying 63).isSome = true := by kernel_rfl
theorem fl63_0 : tfld Tryz.prog 63 0 = some (0, 3) := by kernel_rfl
theorem fl63_1 : tfld Tryz.prog 63 1 = some (1, 3) := by kernel_rfl
theorem fl63_2 : tfld Tryz.prog 63 2 = some (2, 23) := by kernel_rfl
theorem fl63_3 : tfld Tryz.prog 63 3 = some (34, 30) := by kernel_rfl
theorem fs63 : tflds Tryz.prog 63 = true := by kernel_rfl
theorem po63 : tpos Tryz.prog 63 = true := by kernel_rfl
def z63 : AV := .agg 35 [.val (.int .i64 0), .val (.int .i64 0), .vec 1 (List.replicate 32 (.val (.int .u8 0))), .sl 1 [] 1]
theorem zo63 : ZeroOK Tryz.prog 63 z63 := ZeroOK.mk (.agg #[.int .i64 0, .int .i64 0, .int .u8 0, .int .u8 0, .int .u8 0, .int .u8 0, .int .u8 0, .int .u8 0, .int .u8 0, .int .u8 0, .int .u8 0, .int .u8 0, .int .u8 0, .int .u8 0, .int .u8 0, .int .u8 0, .int .u8 0, .int .u8 0, .int .u8 0, .int .u8 0, .int .u8 0, .int .u8 0, .int .u8 0, .int .u8 0, .int .u8 0, .int .u8 0, .int .u8 0, .int .u8 0, .int .u8 0, .int .u8 0, .int .u8 0, .int .u8 0, .int .u8 0, .int .u8 0, .slice none 0 0]) (by kernel_rfl) (by kernel_rfl) (by kernel_rfl) (by kernel_rfl)
theorem sz65 : tsz Tryz.prog 65 = some 239 := by kernel_rfl
theorem by65 : tby Tryz.prog 65 = some 376 := by kernel_rfl
theorem ag65 : tagg Tryz.prog 65 = some true := by kernel_rfl
theorem sl65 : tsl Tryz.prog 65 = none := by kernel_rfl
theorem ar65 : tarr Tryz.prog 65 = none := by kernel_rfl
theorem pt65 : tptr Tryz.prog 65 = none := by kernel_rfl
theorem un65 : (Tryz.prog.underlying 65).isSome = true := by kernel_rfl
theorem fl65_0 : tfld Tryz.prog 65 0 = some (0, 3) := by kernel_rfl
theorem fl65_1 : tfld Tryz.prog 65 1 = some (1, 3) := by kernel_rfl
theorem fl65_2 : tfld Tryz.prog 65 2 = some (2, 3) := by kernel_rfl
theorem fl65_3 : tfld Tryz.prog 65 3 = some (3, 59) := by kernel_rfl
theorem fl65_4 : tfld Tryz.prog 65 4 = some (70, 61) := by kernel_rfl
theorem fl65_5 : tfld Tryz.prog 65 5 = some (103, 3) := by kernel_rfl
theorem fl65_6 : tfld Tryz.prog 65 6 = some (104, 23) := by kernel_rfl
theorem fl65_7 : tfld Tryz.prog 65 7 = some (136, 63) := by kernel_rfl
theorem fl65_8 : tfld Tryz.prog 65 8 = some (171, 32) := by kernel_rfl
theorem fs65 : tflds Tryz.prog 65 = true := by kernel_rfl
theorem po65 : tpos Tryz.prog 65 = true := by kernel_rfl
def z65 : AV := .agg 239 [.val (.int .i64 0), .val (.int .i64 0), .val (.int .i64 0), .agg 67 [.val (.int .i64 0), .val (.int .i64 0), .val (.int .i64 0), .vec 32 (List.replicate 2 (.vec 1 (List.replicate 32 (.val (.int .u8 0)))))], .agg 33 [.val (.int .i64 0), .vec 1 (List.replicate 32 (.val (.int .u8 0)))], .val (.int .i64 0), .vec 1 (List.replicate 32 (.val (.int .u8 0))), .agg 35 [.val (.int .i64 0), .val (.int .i64 0), .vec 1 (List.replicate 32 (.val (.int .u8 0))), .sl 1 [] 1], .agg 68 [.agg 67 [.val (.int .i64 0), .val (.int .i64 0), .val (.int .i64 0), .vec 1 (List.replicate 32 (.val (.int .u8 0))), .vec 1 (List.replicate 32 (.val (.int .u8 0)))], .sl 1 [] 1]]
theorem zo65 : ZeroOK Tryz.prog 65 z65 := ZeroOK.mk (.agg #[.int .i64 0, .int .i64 0, .int .i64 0, .int .i64 0, .int .i64 0, .int .i64 0, .int .u8 0, .int .u8 0, .int .u8 0, .int .u8 0, .int .u8 0, .int .u8 0, .int .u8 0, .int .u8 0, .int .u8 0, .int .u8 0, .int .u8 0, .int .u8 0, .int .u8 0, .int .u8 0, .int .u8 0, .int .u8 0, .int .u8 0, .int .u8 0, .int .u8 0, .int .u8 0, .int .u8 0, .int .u8 0, .int .u8 0, .int .u8 0, .int .u8 0, .int .u8 0, .int .u8 0, .int .u8 0, .int .u8 0, .int .u8 0, .int .u8 0, .int .u8 0, .int .u8 0, .int .u8 0, .int .u8 0, .int .u8 0, .int .u8 0, .int .u8 0, .int .u8 0, .int .u8 0, .int .u8 0, .int .u8 0, .int .u8 0, .int .u8 0, .int .u8 0, .int .u8 0, .int .u8 0, .int .u8 0, .int .u8 0, .int .u8 0, .int .u8 0, .int .u8 0, .int .u8 0, .int .u8 0, .int .u8 0, .int .u8 0, .int .u8 0, .int .u8 0, .int .u8 0, .int .u8 0, .int .u8 0, .int .u8 0, .int .u8 0, .int .u8 0, .int .i64 0, .int .u8 0, .int .u8 0, .int .u8 0, .int .u8 0, .int .u8 0, .int .u8 0, .int .u8 0, .int .u8 0, .int .u8 0, .int .u8 0, .int .u8 0, .int .u8 0, .int .u8 0, .int .u8 0, .int .u8 0, .int .u8 0, .int .u8 0, .int .u8 0, .int .u8 0, .int .u8 0, .int .u8 0, .int .u8 0, .int .u8 0, .int .u8 0, .int .u8 0, .int .u8 0, .int .u8 0, .int .u8 0, .int .u8 0, .int .u8 0, .int .u8 0, .int .u8 0, .int .i64 0, .int .u8 0, .int .u8 0, .int .u8 0, .int .u8 0, .int .u8 0, .int .u8 0, .int .u8 0, .int .u8 0, .int .u8 0, .int .u8 0, .int .u8 0, .int .u8 0, .int .u8 0, .int .u8 0, .int .u8 0, .int .u8 0, .int .u8 0, .int .u8 0, .int .u8 0, .int .u8 0, .int .u8 0, .int .u8 0, .int .u8 0, .int .u8 0, .int .u8 0, .int .u8 0, .int .u8 0, .int .u8 0, .int .u8 0, .int .u8 0, .int .u8 0, .int .u8 0, .int .i64 0, .int .i64 0, .int .u8 0, .int .u8 0, .int .u8 0, .int .u8 0, .int .u8 0, .int .u8 0, .int .u8 0, .int .u8 0, .int .u8 0, .int .u8 0, .int .u8 0, .int .u8 0, .int .u8 0, .int .u8 0, .int .u8 0, .int .u8 0, .int .u8 0, .int .u8 0, .int .u8 0, .int .u8 0, .int .u8 0, .int .u8 0, .int .u8 0, .int .u8 0, .int .u8 0, .int .u8 0, .int .u8 0, .int .u8 0, .int .u8 0, .int .u8 0, .int .u8 0, .int .u8 0, .slice none 0 0, .int .i64 0, .int .i64 0, .int .i64 0, .int .u8 0, .int .u8 0, .int .u8 0, .int .u8 0, .int .u8 0, .int .u8 0, .int .u8 0, .int .u8 0, .int .u8 0, .int .u8 0, .int .u8 0, .int .u8 0, .int .u8 0, .int .u8 0, .int .u8 0, .int .u8 0, .int .u8 0, .int .u8 0, .int .u8 0, .int .u8 0, .int .u8 0, .int .u8 0, .int .u8 0, .int .u8 0, .int .u8 0, .int .u8 0, .int .u8 0, .int .u8 0, .int .u8 0, .int .u8 0, .int .u8 0, .int .u8 0, .int .u8 0, .int .u8 0, .int .u8 0, .int .u8 0, .int .u8 0, .int .u8 0, .int .u8 0, .int .u8 0, .int .u8 0, .int .u8 0, .int .u8 0, .int .u8 0, .int .u8 0, .int .u8 0, .int .u8 0, .int .u8 0, .int .u8 0, .int .u8 0, .int .u8 0, .int .u8 0, .int .u8 0, .int .u8 0, .int .u8 0, .int .u8 0, .int .u8 0, .int .u8 0, .int .u8 0, .int .u8 0, .int .u8 0, .int .u8 0, .int .u8 0, .int .u8 0, .slice none 0 0]) (by kernel_rfl) (by kernel_rfl) (by kernel_rfl) (by kernel_rfl)
theorem sz66 : tsz Tryz.prog 66 = some 1 := by kernel_rfl
theorem by66 : tby Tryz.prog 66 = some 8 := by kernel_rfl
theorem ag66 : tagg Tryz.prog 66 = some false := by kernel_rfl
theorem sl66 : tsl Tryz.prog 66 = none := by kernel_rfl
theorem ar66 : tarr Tryz.prog 66 = none := by kernel_rfl
theorem pt66 : tptr Tryz.prog 66 = some 156 := by kernel_rfl
theorem un66 : (Tryz.prog.underlying 66).isSome = true := by kernel_rfl
theorem po66 : tpos Tryz.prog 66 = true := by kernel_rfl
def z66 : AV := .val (.pointer none)
theorem zo66 : ZeroOK Tryz.prog 66 z66 := ZeroOK.mk (.pointer none) (by kernel_rfl) (by kernel_rfl) (by kernel_rfl) (by kernel_rfl)
theorem sz69 : tsz Tryz.prog 69 = some 1 := by kernel_rfl
theorem by69 : tby Tryz.prog 69 = some 24 := by kernel_rfl
theorem ag69 : tagg Tryz.prog 69 = some false := by kernel_rfl
theorem sl69 : tsl Tryz.prog 69 = some 65 := by kernel_rfl
theorem ar69 : tarr Tryz.prog 69 = none := by kernel_rfl
theorem pt69 : tptr Tryz.prog 69 = none := by kernel_rfl
theorem un69 : (Tryz.prog.underlying 69).isSome = true := by kernel_rfl
theorem po69 : tpos Tryz.prog 69 = true := by kernel_rfl
def z69 : AV := .sl 239 [] 1
theorem zo69 : ZeroOK Tryz.prog 69 z69 := ZeroOK.mk (.slice none 0 0) (by kernel_rfl) (by kernel_rfl) (by kernel_rfl) (by kernel_rfl)
theorem sz74 : tsz Tryz.prog 74 = some 1 := by kernel_rfl
theorem by74 : tby Tryz.prog 74 = some 24 := by kernel_rfl
theorem ag74 : tagg Tryz.prog 74 = some false := by kernel_rfl
theorem sl74 : tsl Tryz.prog 74 = some 42 := by kernel_rfl
theorem ar74 : tarr Tryz.prog 74 = none := by kernel_rfl
theorem pt74 : tptr Tryz.prog 74 = none := by kernel_rfl
theorem un74 : (Tryz.prog.underlying 74).isSome = true := by kernel_rfl
theorem po74 : tpos Tryz.prog 74 = true := by kernel_rfl
def z74 : AV := .sl 40 [] 1
theorem zo74 : ZeroOK Tryz.prog 74 z74 := ZeroOK.mk (.slice none 0 0) (by kernel_rfl) (by kernel_rfl) (by kernel_rfl) (by kernel_rfl)
theorem sz77 : tsz Tryz.prog 77 = some 1 := by kernel_rfl
theorem by77 : tby Tryz.prog 77 = some 24 := by kernel_rfl
theorem ag77 : tagg Tryz.prog 77 = some false := by kernel_rfl
theorem sl77 : tsl Tryz.prog 77 = some 63 := by kernel_rfl
theorem ar77 : tarr Tryz.prog 77 = none := by kernel_rfl
theorem pt77 : tptr Tryz.prog 77 = none := by kernel_rfl
theorem un77 : (Tryz.prog.underlying 77).isSome = true := by kernel_rfl
theorem po77 : tpos Tryz.prog 77 = true := by kernel_rfl
def z77 : AV := .sl 35 [] 1
theorem zo77 : ZeroOK Tryz.prog 77 z77 := ZeroOK.mk (.slice none 0 0) (by kernel_rfl) (by kernel_rfl) (by kernel_rfl) (by kernel_rfl)
theorem sz79 : tsz Tryz.prog 79 = some 1 := by kernel_rfl
theorem by79 : tby Tryz.prog 79 = some 24 := by kernel_rfl
theorem ag79 : tagg Tryz.prog 79 = some false := by kernel_rfl
theorem sl79 : tsl Tryz.prog 79 = some 32 := by kernel_rfl
theorem ar79 : tarr Tryz.prog 79 = none := by kernel_rfl
theorem pt79 : tptr Tryz.prog 79 = none := by kernel_rfl
theorem un79 : (Tryz.prog.underlying 79).isSome = true := by kernel_rfl
theorem po79 : tpos Tryz.prog 79 = true := by kernel_rfl
def z79 : AV := .sl 68 [] 1
theorem zo79 : ZeroOK Tryz.prog 79 z79 := ZeroOK.mk (.slice none 0 0) (by kernel_rfl) (by kernel_rfl) (by kernel_rfl) (by kernel_rfl)
theorem sz99 : tsz Tryz.prog 99 = some 1 := by kernel_rfl
theorem by99 : tby Tryz.prog 99 = some 24 := by kernel_rfl
theorem ag99 : tagg Tryz.prog 99 = some false := by kernel_rfl
theorem sl99 : tsl Tryz.prog 99 = some 23 := by kernel_rfl
theorem ar99 : tarr Tryz.prog 99 = none := by kernel_rfl
theorem pt99 : tptr Tryz.prog 99 = none := by kernel_rfl
theorem un99 : (Tryz.prog.underlying 99).isSome = true := by kernel_rfl
theorem po99 : tpos Tryz.prog 99 = true := by kernel_rfl
def z99 : AV := .sl 32 [] 1
theorem zo99 : ZeroOK Tryz.prog 99 z99 := ZeroOK.mk (.slice none 0 0) (by kernel_rfl) (by kernel_rfl) (by kernel_rfl) (by kernel_rfl)
theorem sz108 : tsz Tryz.prog 108 = some 1 := by kernel_rfl
theorem by108 : tby Tryz.prog 108 = some 8 := by kernel_rfl
theorem ag108 : tagg Tryz.prog 108 = some false := by kernel_rfl
theorem sl108 : tsl Tryz.prog 108 = none := by kernel_rfl
theorem ar108 : tarr Tryz.prog 108 = none := by kernel_rfl
theorem pt108 : tptr Tryz.prog 108 = some 153 := by kernel_rfl
theorem un108 : (Tryz.prog.underlying 108).isSome = true := by kernel_rfl
theorem po108 : tpos Tryz.prog 108 = true := by kernel_rfl
def z108 : AV := .val (.pointer none)
theorem zo108 : ZeroOK Tryz.prog 108 z108 := ZeroOK.mk (.pointer none) (by kernel_rfl) (by kernel_rfl) (by kernel_rfl) (by kernel_rfl)
theorem sz117 : tsz Tryz.prog 117 = some 34 := by kernel_rfl
theorem by117 : tby Tryz.prog 117 = some 48 := by kernel_rfl
theorem ag117 : tagg Tryz.prog 117 = some true := by kernel_rfl
theorem sl117 : tsl Tryz.prog 117 = none := by kernel_rfl
theorem ar117 : tarr Tryz.prog 117 = none := by kernel_rfl
theorem pt117 : tptr Tryz.prog 117 = none := by kernel_rfl
theorem un117 : (Tryz.prog.underlying 117).isSome = true := by kernel_rfl
theorem fl117_0 : tfld Tryz.prog 117 0 = some (0, 23) := by kernel_rfl
theorem fl117_1 : tfld Tryz.prog 117 1 = some (32, 3) := by kernel_rfl
theorem fl117_2 : tfld Tryz.prog 117 2 = some (33, 3) := by kernel_rfl
theorem fs117 : tflds Tryz.prog 117 = true := by kernel_rfl
theorem po117 : tpos Tryz.prog 117 = true := by kernel_rfl
theorem tq117 : teq Tryz.prog 117 = true := by kernel_rfl
theorem tc117 : tcmp Tryz.prog 117 = some [(0, 23), (32, 3), (33, 3)] := by kernel_rfl
def z117 : AV := .agg 34 [.vec 1 (List.replicate 32 (.val (.int .u8 0))), .val (.int .i64 0), .val (.int .i64 0)]
theorem zo117 : ZeroOK Tryz.prog 117 z117 := ZeroOK.mk (.agg #[.int .u8 0, .int .u8 0, .int .u8 0, .int .u8 0, .int .u8 0, .int .u8 0, .int .u8 0, .int .u8 0, .int .u8 0, .int .u8 0, .int .u8 0, .int .u8 0, .int .u8 0, .int .u8 0, .int .u8 0, .int .u8 0, .int .u8 0, .int .u8 0, .int .u8 0, .int .u8 0, .int .u8 0, .int .u8 0, .int .u8 0, .int .u8 0, .int .u8 0, .int .u8 0, .int .u8 0, .int .u8 0, .int .u8 0, .int .u8 0, .int .u8 0, .int .u8 0, .int .i64 0, .int .i64 0]) (by kernel_rfl) (by kernel_rfl) (by kernel_rfl) (by kernel_rfl)
theorem sz121 : tsz Tryz.prog 121 = some 41 := by kernel_rfl
theorem by121 : tby Tryz.prog 121 = some 168 := by kernel_rfl
theorem ag121 : tagg Tryz.prog 121 = some true := by kernel_rfl
theorem sl121 : tsl Tryz.prog 121 = none := by kernel_rfl
theorem ar121 : tarr Tryz.prog 121 = none := by kernel_rfl
theorem pt121 : tptr Tryz.prog 121 = none := by kernel_rfl
theorem un121 : (Tryz.prog.underlying 121).isSome = true := by kernel_rfl
theorem fl121_0 : tfld Tryz.prog 121 0 = some (0, 42) := by kernel_rfl
theorem fl121_1 : tfld Tryz.prog 121 1 = some (40, 3) := by kernel_rfl
theorem fs121 : tflds Tryz.prog 121 = true := by kernel_rfl
theorem po121 : tpos Tryz.prog 121 = true := by kernel_rfl
def z121 : AV := .agg 41 [.agg 40 [.sl 35 [] 1, .sl 2 [] 1, .agg 37 [.val (.int .i64 0), .val (.int .i64 0), .val (.int .i64 0), .val (.int .i64 0), .vec 1 (List.replicate 32 (.val (.int .u8 0))), .sl 1 [] 1], .sl 33 [] 1], .val (.int .i64 0)]
theorem zo121 : ZeroOK Tryz.prog 121 z121 := ZeroOK.mk (.agg #[.slice none 0 0, .slice none 0 0, .int .i64 0, .int .i64 0, .int .i64 0, .int .i64 0, .int .u8 0, .int .u8 0, .int .u8 0, .int .u8 0, .int .u8 0, .int .u8 0, .int .u8 0, .int .u8 0, .int .u8 0, .int .u8 0, .int .u8 0, .int .u8 0, .int .u8 0, .int .u8 0, .int .u8 0, .int .u8 0, .int .u8 0, .int .u8 0, .int .u8 0, .int .u8 0, .int .u8 0, .int .u8 0, .int .u8 0, .int .u8 0, .int .u8 0, .int .u8 0, .int .u8 0, .int .u8 0, .int .u8 0, .int .u8 0, .int .u8 0, .int .u8 0, .slice none 0 0, .slice none 0 0, .int .i64 0]) (by kernel_rfl) (by kernel_rfl) (by kernel_rfl) (by kernel_rfl)
theorem sz133 : tsz Tryz.prog 133 = some 1 := by kernel_rfl
theorem by133 : tby Tryz.prog 133 = some 24 := by kernel_rfl
theorem ag133 : tagg Tryz.prog 133 = some false := by kernel_rfl
theorem sl133 : tsl Tryz.prog 133 = some 3 := by kernel_rfl
theorem ar133 : tarr Tryz.prog 133 = none := by kernel_rfl
theorem pt133 : tptr Tryz.prog 133 = none := by kernel_rfl
theorem un133 : (Tryz.prog.underlying 133).isSome = true := by kernel_rfl
theorem po133 : tpos Tryz.prog 133 = true := by kernel_rfl
def z133 : AV := .sl 1 [] 1
theorem zo133 : ZeroOK Tryz.prog 133 z133 := ZeroOK.mk (.slice none 0 0) (by kernel_rfl) (by kernel_rfl) (by kernel_rfl) (by kernel_rfl)
theorem sz142 : tsz Tryz.prog 142 = some 35 := by kernel_rfl
theorem by142 : tby Tryz.prog 142 = some 72 := by kernel_rfl
theorem ag142 : tagg Tryz.prog 142 = some true := by kernel_rfl
theorem sl142 : tsl Tryz.prog 142 = none := by kernel_rfl
theorem ar142 : tarr Tryz.prog 142 = none := by kernel_rfl
theorem pt142 : tptr Tryz.prog 142 = none := by kernel_rfl
theorem un142 : (Tryz.prog.underlying 142).isSome = true := by kernel_rfl
theorem fl142_0 : tfld Tryz.prog 142 0 = some (0, 133) := by kernel_rfl
theorem fl142_1 : tfld Tryz.prog 142 1 = some (1, 23) := by kernel_rfl
theorem fl142_2 : tfld Tryz.prog 142 2 = some (33, 3) := by kernel_rfl
theorem fl142_3 : tfld Tryz.prog 142 3 = some (34, 3) := by kernel_rfl
theorem fs142 : tflds Tryz.prog 142 = true := by kernel_rfl
theorem po142 : tpos Tryz.prog 142 = true := by kernel_rfl
def z142 : AV := .agg 35 [.sl 1 [] 1, .vec 1 (List.replicate 32 (.val (.int .u8 0))), .val (.int .i64 0), .val (.int .i64 0)]
theorem zo142 : ZeroOK Tryz.prog 142 z142 := ZeroOK.mk (.agg #[.slice none 0 0, .int .u8 0, .int .u8 0, .int .u8 0, .int .u8 0, .int .u8 0, .int .u8 0, .int .u8 0, .int .u8 0, .int .u8 0, .int .u8 0, .int .u8 0, .int .u8 0, .int .u8 0, .int .u8 0, .int .u8 0, .int .u8 0, .int .u8 0, .int .u8 0, .int .u8 0, .int .u8 0, .int .u8 0, .int .u8 0, .int .u8 0, .int .u8 0, .int .u8 0, .int .u8 0, .int .u8 0, .int .u8 0, .int .u8 0, .int .u8 0, .int .u8 0, .int .u8 0, .int .i64 0, .int .i64 0]) (by kernel_rfl) (by kernel_rfl) (by kernel_rfl) (by kernel_rfl)
theorem sz145 : tsz Tryz.prog 145 = some 74 := by kernel_rfl
theorem by145 : tby Tryz.prog 145 = some 144 := by kernel_rfl
theorem ag145 : tagg Tryz.prog 145 = some true := by kernel_rfl
theorem sl145 : tsl Tryz.prog 145 = none := by kernel_rfl
theorem ar145 : tarr Tryz.prog 145 = none := by kernel_rfl
theorem pt145 : tptr Tryz.prog 145 = none := by kernel_rfl
theorem un145 : (Tryz.prog.underlying 145).isSome = true := by kernel_rfl
theorem fl145_0 : tfld Tryz.prog 145 0 = some (0, 27) := by kernel_rfl
theorem fl145_1 : tfld Tryz.prog 145 1 = some (39, 2) := by kernel_rfl
theorem fl145_2 : tfld Tryz.prog 145 2 = some (40, 4) := by kernel_rfl
theorem fl145_3 : tfld Tryz.prog 145 3 = some (41, 3) := by kernel_rfl
theorem fl145_4 : tfld Tryz.prog 145 4 = some (42, 23) := by kernel_rfl
theorem fs145 : tflds Tryz.prog 145 = true := by kernel_rfl
theorem po145 : tpos Tryz.prog 145 = true := by kernel_rfl
theorem tq145 : teq Tryz.prog 145 = true := by kernel_rfl
theorem tc145 : tcmp Tryz.prog 145 = some [(0, 27), (39, 2), (40, 4), (41, 3), (42, 23)] := by kernel_rfl
def z145 : AV := .agg 74 [.agg 39 [.val (.int .i64 0), .val (.int .i64 0), .val (.int .i64 0), .agg 33 [.vec 1 (List.replicate 32 (.val (.int .u8 0))), .val (.int .i64 0)], .val (.int .i64 0), .val (.int .i64 0), .val (.int .i64 0)], .val (.int .i64 0), .val (.bool false), .val (.int .i64 0), .vec 1 (List.replicate 32 (.val (.int .u8 0)))]
theorem zo145 : ZeroOK Tryz.prog 145 z145 := ZeroOK.mk (.agg #[.int .i64 0, .int .i64 0, .int .i64 0, .int .u8 0, .int .u8 0, .int .u8 0, .int .u8 0, .int .u8 0, .int .u8 0, .int .u8 0, .int .u8 0, .int .u8 0, .int .u8 0, .int .u8 0, .int .u8 0, .int .u8 0, .int .u8 0, .int .u8 0, .int .u8 0, .int .u8 0, .int .u8 0, .int .u8 0, .int .u8 0, .int .u8 0, .int .u8 0, .int .u8 0, .int .u8 0, .int .u8 0, .int .u8 0, .int .u8 0, .int .u8 0, .int .u8 0, .int .u8 0, .int .u8 0, .int .u8 0, .int .i64 0, .int .i64 0, .int .i64 0, .int .i64 0, .int .i64 0, .bool false, .int .i64 0, .int .u8 0, .int .u8 0, .int .u8 0, .int .u8 0, .int .u8 0, .int .u8 0, .int .u8 0, .int .u8 0, .int .u8 0, .int .u8 0, .int .u8 0, .int .u8 0, .int .u8 0, .int .u8 0, .int .u8 0, .int .u8 0, .int .u8 0, .int .u8 0, .int .u8 0, .int .u8 0, .int .u8 0, .int .u8 0, .int .u8 0, .int .u8 0, .int .u8 0, .int .u8 0, .int .u8 0, .int .u8 0, .int .u8 0, .int .u8 0, .int .u8 0, .int .u8 0]) (by kernel_rfl) (by kernel_rfl) (by kernel_rfl) (by kernel_rfl)
theorem sz148 : tsz Tryz.prog 148 = some 1 := by kernel_rfl
theorem by148 : tby Tryz.prog 148 = some 8 := by kernel_rfl
theorem ag148 : tagg Tryz.prog 148 = some false := by kernel_rfl
theorem sl148 : tsl Tryz.prog 148 = none := by kernel_rfl
theorem ar148 : tarr Tryz.prog 148 = none := by kernel_rfl
theorem pt148 : tptr Tryz.prog 148 = some 308 := by kernel_rfl
theorem un148 : (Tryz.prog.underlying 148).isSome = true := by kernel_rfl
theorem po148 : tpos Tryz.prog 148 = true := by kernel_rfl
def z148 : AV := .val (.pointer none)
theorem zo148 : ZeroOK Tryz.prog 148 z148 := ZeroOK.mk (.pointer none) (by kernel_rfl) (by kernel_rfl) (by kernel_rfl) (by kernel_rfl)
theorem sz149 : tsz Tryz.prog 149 = some 1 := by kernel_rfl
theorem by149 : tby Tryz.prog 149 = some 8 := by kernel_rfl
theorem ag149 : tagg Tryz.prog 149 = some false := by kernel_rfl
theorem sl149 : tsl Tryz.prog 149 = none := by kernel_rfl
theorem ar149 : tarr Tryz.prog 149 = none := by kernel_rfl
theorem pt149 : tptr Tryz.prog 149 = some 230 := by kernel_rfl
theorem un149 : (Tryz.prog.underlying 149).isSome = true := by kernel_rfl
theorem po149 : tpos Tryz.prog 149 = true := by kernel_rfl
def z149 : AV := .val (.pointer none)
theorem zo149 : ZeroOK Tryz.prog 149 z149 := ZeroOK.mk (.pointer none) (by kernel_rfl) (by kernel_rfl) (by kernel_rfl) (by kernel_rfl)
theorem sz150 : tsz Tryz.prog 150 = some 1 := by kernel_rfl
theorem by150 : tby Tryz.prog 150 = some 8 := by kernel_rfl
theorem ag150 : tagg Tryz.prog 150 = some false := by kernel_rfl
theorem sl150 : tsl Tryz.prog 150 = none := by kernel_rfl
theorem ar150 : tarr Tryz.prog 150 = none := by kernel_rfl
theorem pt150 : tptr Tryz.prog 150 = none := by kernel_rfl
theorem un150 : (Tryz.prog.underlying 150).isSome = true := by kernel_rfl
theorem po150 : tpos Tryz.prog 150 = true := by kernel_rfl
def z150 : AV := .val (.map none)
theorem zo150 : ZeroOK Tryz.prog 150 z150 := ZeroOK.mk (.map none) (by kernel_rfl) (by kernel_rfl) (by kernel_rfl) (by kernel_rfl)
theorem sz151 : tsz Tryz.prog 151 = some 1 := by kernel_rfl
theorem by151 : tby Tryz.prog 151 = some 8 := by kernel_rfl
theorem ag151 : tagg Tryz.prog 151 = some false := by kernel_rfl
theorem sl151 : tsl Tryz.prog 151 = none := by kernel_rfl
theorem ar151 : tarr Tryz.prog 151 = none := by kernel_rfl
theorem pt151 : tptr Tryz.prog 151 = none := by kernel_rfl
theorem un151 : (Tryz.prog.underlying 151).isSome = true := by kernel_rfl
theorem po151 : tpos Tryz.prog 151 = true := by kernel_rfl
def z151 : AV := .val (.map none)
theorem zo151 : ZeroOK Tryz.prog 151 z151 := ZeroOK.mk (.map none) (by kernel_rfl) (by kernel_rfl) (by kernel_rfl) (by kernel_rfl)
theorem sz153 : tsz Tryz.prog 153 = some 6 := by kernel_rfl
theorem by153 : tby Tryz.prog 153 = some 64 := by kernel_rfl
theorem ag153 : tagg Tryz.prog 153 = some true := by kernel_rfl
theorem sl153 : tsl Tryz.prog 153 = none := by kernel_rfl
theorem ar153 : tarr Tryz.prog 153 = none := by kernel_rfl
theorem pt153 : tptr Tryz.prog 153 = none := by kernel_rfl
theorem un153 : (Tryz.prog.underlying 153).isSome = true := by kernel_rfl
theorem fl153_0 : tfld Tryz.prog 153 0 = some (0, 148) := by kernel_rfl
theorem fl153_1 : tfld Tryz.prog 153 1 = some (1, 149) := by kernel_rfl
theorem fl153_2 : tfld Tryz.prog 153 2 = some (2, 150) := by kernel_rfl
theorem fl153_3 : tfld Tryz.prog 153 3 = some (3, 151) := by kernel_rfl
theorem fl153_4 : tfld Tryz.prog 153 4 = some (4, 99) := by kernel_rfl
theorem fl153_5 : tfld Tryz.prog 153 5 = some (5, 2) := by kernel_rfl
theorem fs153 : tflds Tryz.prog 153 = true := by kernel_rfl
theorem po153 : tpos Tryz.prog 153 = true := by kernel_rfl
def z153 : AV := .agg 6 [.val (.pointer none), .val (.pointer none), .val (.map none), .val (.map none), .sl 32 [] 1, .val (.int .i64 0)]
theorem zo153 : ZeroOK Tryz.prog 153 z153 := ZeroOK.mk (.agg #[.pointer none, .pointer none, .map none, .map none, .slice none 0 0, .int .i64 0]) (by kernel_rfl) (by kernel_rfl) (by kernel_rfl) (by kernel_rfl)
theorem sz154 : tsz Tryz.prog 154 = some 1 := by kernel_rfl
theorem by154 : tby Tryz.prog 154 = some 8 := by kernel_rfl
theorem ag154 : tagg Tryz.prog 154 = some false := by kernel_rfl
theorem sl154 : tsl Tryz.prog 154 = none := by kernel_rfl
theorem ar154 : tarr Tryz.prog 154 = none := by kernel_rfl
theorem pt154 : tptr Tryz.prog 154 = some 234 := by kernel_rfl
theorem un154 : (Tryz.prog.underlying 154).isSome = true := by kernel_rfl
theorem po154 : tpos Tryz.prog 154 = true := by kernel_rfl
def z154 : AV := .val (.pointer none)
theorem zo154 : ZeroOK Tryz.prog 154 z154 := ZeroOK.mk (.pointer none) (by kernel_rfl) (by kernel_rfl) (by kernel_rfl) (by kernel_rfl)
theorem sz156 : tsz Tryz.prog 156 = some 4 := by kernel_rfl
theorem by156 : tby Tryz.prog 156 = some 64 := by kernel_rfl
theorem ag156 : tagg Tryz.prog 156 = some true := by kernel_rfl
theorem sl156 : tsl Tryz.prog 156 = none := by kernel_rfl
theorem ar156 : tarr Tryz.prog 156 = none := by kernel_rfl
theorem pt156 : tptr Tryz.prog 156 = none := by kernel_rfl
theorem un156 : (Tryz.prog.underlying 156).isSome = true := by kernel_rfl
theorem fl156_0 : tfld Tryz.prog 156 0 = some (0, 3) := by kernel_rfl
theorem fl156_1 : tfld Tryz.prog 156 1 = some (1, 154) := by kernel_rfl
theorem fl156_2 : tfld Tryz.prog 156 2 = some (2, 77) := by kernel_rfl
theorem fl156_3 : tfld Tryz.prog 156 3 = some (3, 79) := by kernel_rfl
theorem fs156 : tflds Tryz.prog 156 = true := by kernel_rfl
theorem po156 : tpos Tryz.prog 156 = true := by kernel_rfl
def z156 : AV := .agg 4 [.val (.int .i64 0), .val (.pointer none), .sl 35 [] 1, .sl 68 [] 1]
theorem zo156 : ZeroOK Tryz.prog 156 z156 := ZeroOK.mk (.agg #[.int .i64 0, .pointer none, .slice none 0 0, .slice none 0 0]) (by kernel_rfl) (by kernel_rfl) (by kernel_rfl) (by kernel_rfl)
theorem sz210 : tsz Tryz.prog 210 = some 1 := by kernel_rfl
theorem by210 : tby Tryz.prog 210 = some 24 := by kernel_rfl
theorem ag210 : tagg Tryz.prog 210 = some true := by kernel_rfl
theorem sl210 : tsl Tryz.prog 210 = none := by kernel_rfl
theorem ar210 : tarr Tryz.prog 210 = none := by kernel_rfl
theorem pt210 : tptr Tryz.prog 210 = none := by kernel_rfl
theorem un210 : (Tryz.prog.underlying 210).isSome = true := by kernel_rfl
theorem fl210_0 : tfld Tryz.prog 210 0 = some (0, 30) := by kernel_rfl
theorem fs210 : tflds Tryz.prog 210 = true := by kernel_rfl
theorem po210 : tpos Tryz.prog 210 = true := by kernel_rfl
def z210 : AV := .agg 1 [.sl 1 [] 1]
theorem zo210 : ZeroOK Tryz.prog 210 z210 := ZeroOK.mk (.agg #[.slice none 0 0]) (by kernel_rfl) (by kernel_rfl) (by kernel_rfl) (by kernel_rfl)
theorem sz211 : tsz Tryz.prog 211 = some 1 := by kernel_rfl
theorem by211 : tby Tryz.prog 211 = some 8 := by kernel_rfl
theorem ag211 : tagg Tryz.prog 211 = some false := by kernel_rfl
theorem sl211 : tsl Tryz.prog 211 = none := by kernel_rfl
theorem ar211 : tarr Tryz.prog 211 = none := by kernel_rfl
theorem pt211 : tptr Tryz.prog 211 = some 210 := by kernel_rfl
theorem un211 : (Tryz.prog.underlying 211).isSome = true := by kernel_rfl
theorem po211 : tpos Tryz.prog 211 = true := by kernel_rfl
def z211 : AV := .val (.pointer none)
theorem zo211 : ZeroOK Tryz.prog 211 z211 := ZeroOK.mk (.pointer none) (by kernel_rfl) (by kernel_rfl) (by kernel_rfl) (by kernel_rfl)
theorem sz234 : tsz Tryz.prog 234 = some 34 := by kernel_rfl
theorem by234 : tby Tryz.prog 234 = some 64 := by kernel_rfl
theorem ag234 : tagg Tryz.prog 234 = some true := by kernel_rfl
theorem sl234 : tsl Tryz.prog 234 = none := by kernel_rfl
theorem ar234 : tarr Tryz.prog 234 = none := by kernel_rfl
theorem pt234 : tptr Tryz.prog 234 = none := by kernel_rfl
theorem un234 : (Tryz.prog.underlying 234).isSome = true := by kernel_rfl
theorem fl234_0 : tfld Tryz.prog 234 0 = some (0, 23) := by kernel_rfl
theorem fl234_1 : tfld Tryz.prog 234 1 = some (32, 99) := by kernel_rfl
theorem fl234_2 : tfld Tryz.prog 234 2 = some (33, 3) := by kernel_rfl
theorem fs234 : tflds Tryz.prog 234 = true := by kernel_rfl
theorem po234 : tpos Tryz.prog 234 = true := by kernel_rfl
def z234 : AV := .agg 34 [.vec 1 (List.replicate 32 (.val (.int .u8 0))), .sl 32 [] 1, .val (.int .i64 0)]
theorem zo234 : ZeroOK Tryz.prog 234 z234 := ZeroOK.mk (.agg #[.int .u8 0, .int .u8 0, .int .u8 0, .int .u8 0, .int .u8 0, .int .u8 0, .int .u8 0, .int .u8 0, .int .u8 0, .int .u8 0, .int .u8 0, .int .u8 0, .int .u8 0, .int .u8 0, .int .u8 0, .int .u8 0, .int .u8 0, .int .u8 0, .int .u8 0, .int .u8 0, .int .u8 0, .int .u8 0, .int .u8 0, .int .u8 0, .int .u8 0, .int .u8 0, .int .u8 0, .int .u8 0, .int .u8 0, .int .u8 0, .int .u8 0, .int .u8 0, .slice none 0 0, .int .i64 0]) (by kernel_rfl) (by kernel_rfl) (by kernel_rfl) (by kernel_rfl)
theorem sz284 : tsz Tryz.prog 284 = some 1 := by kernel_rfl
theorem by284 : tby Tryz.prog 284 = some 24 := by kernel_rfl
theorem ag284 : tagg Tryz.prog 284 = some false := by kernel_rfl
theorem sl284 : tsl Tryz.prog 284 = some 30 := by kernel_rfl
theorem ar284 : tarr Tryz.prog 284 = none := by kernel_rfl
theorem pt284 : tptr Tryz.prog 284 = none := by kernel_rfl
theorem un284 : (Tryz.prog.underlying 284).isSome = true := by kernel_rfl
theorem po284 : tpos Tryz.prog 284 = true := by kernel_rfl
def z284 : AV := .sl 1 [] 1
theorem zo284 : ZeroOK Tryz.prog 284 z284 := ZeroOK.mk (.slice none 0 0) (by kernel_rfl) (by kernel_rfl) (by kernel_rfl) (by kernel_rfl)
theorem sz285 : tsz Tryz.prog 285 = some 1 := by kernel_rfl
theorem by285 : tby Tryz.prog 285 = some 8 := by kernel_rfl
theorem ag285 : tagg Tryz.prog 285 = some false := by kernel_rfl
theorem sl285 : tsl Tryz.prog 285 = none := by kernel_rfl
theorem ar285 : tarr Tryz.prog 285 = none := by kernel_rfl
theorem pt285 : tptr Tryz.prog 285 = none := by kernel_rfl
theorem in285 : tint Tryz.prog 285 = some .u64 := by kernel_rfl
theorem un285 : (Tryz.prog.underlying 285).isSome = true := by kernel_rfl
theorem po285 : tpos Tryz.prog 285 = true := by kernel_rfl
def z285 : AV := .val (.int .u64 0)
theorem zo285 : ZeroOK Tryz.prog 285 z285 := ZeroOK.mk (.int .u64 0) (by kernel_rfl) (by kernel_rfl) (by kernel_rfl) (by kernel_rfl)
theorem sz296 : tsz Tryz.prog 296 = some 1 := by kernel_rfl
theorem by296 : tby Tryz.prog 296 = some 8 := by kernel_rfl
theorem ag296 : tagg Tryz.prog 296 = some false := by kernel_rfl
theorem sl296 : tsl Tryz.prog 296 = none := by kernel_rfl
theorem ar296 : tarr Tryz.prog 296 = none := by kernel_rfl
theorem pt296 : tptr Tryz.prog 296 = some 344 := by kernel_rfl
theorem un296 : (Tryz.prog.underlying 296).isSome = true := by kernel_rfl
theorem po296 : tpos Tryz.prog 296 = true := by kernel_rfl
def z296 : AV := .val (.pointer none)
theorem zo296 : ZeroOK Tryz.prog 296 z296 := ZeroOK.mk (.pointer none) (by kernel_rfl) (by kernel_rfl) (by kernel_rfl) (by kernel_rfl)
theorem sz332 : tsz Tryz.prog 332 = some 1 := by kernel_rfl
theorem by332 : tby Tryz.prog 332 = some 8 := by kernel_rfl
theorem ag332 : tagg Tryz.prog 332 = some false := by kernel_rfl
theorem sl332 : tsl Tryz.prog 332 = none := by kernel_rfl
theorem ar332 : tarr Tryz.prog 332 = none := by kernel_rfl
theorem pt332 : tptr Tryz.prog 332 = none := by kernel_rfl
theorem in332 : tint Tryz.prog 332 = some .u64 := by kernel_rfl
theorem un332 : (Tryz.prog.underlying 332).isSome = true := by kernel_rfl
theorem po332 : tpos Tryz.prog 332 = true := by kernel_rfl
def z332 : AV := .val (.int .u64 0)
theorem zo332 : ZeroOK Tryz.prog 332 z332 := ZeroOK.mk (.int .u64 0) (by kernel_rfl) (by kernel_rfl) (by kernel_rfl) (by kernel_rfl)
theorem sz333 : tsz Tryz.prog 333 = some 1 := by kernel_rfl
theorem by333 : tby Tryz.prog 333 = some 4 := by kernel_rfl
theorem ag333 : tagg Tryz.prog 333 = some false := by kernel_rfl
theorem sl333 : tsl Tryz.prog 333 = none := by kernel_rfl
theorem ar333 : tarr Tryz.prog 333 = none := by kernel_rfl
theorem pt333 : tptr Tryz.prog 333 = none := by kernel_rfl
theorem in333 : tint Tryz.prog 333 = some .u32 := by kernel_rfl
theorem un333 : (Tryz.prog.underlying 333).isSome = true := by kernel_rfl
theorem po333 : tpos Tryz.prog 333 = true := by kernel_rfl
def z333 : AV := .val (.int .u32 0)
theorem zo333 : ZeroOK Tryz.prog 333 z333 := ZeroOK.mk (.int .u32 0) (by kernel_rfl) (by kernel_rfl) (by kernel_rfl) (by kernel_rfl)
theorem sz335 : tsz Tryz.prog 335 = some 8 := by kernel_rfl
theorem by335 : tby Tryz.prog 335 = some 32 := by kernel_rfl
theorem ag335 : tagg Tryz.prog 335 = some true := by kernel_rfl
theorem sl335 : tsl Tryz.prog 335 = none := by kernel_rfl
theorem ar335 : tarr Tryz.prog 335 = some (8, 333) := by kernel_rfl
theorem pt335 : tptr Tryz.prog 335 = none := by kernel_rfl
theorem un335 : (Tryz.prog.underlying 335).isSome = true := by kernel_rfl
theorem po335 : tpos Tryz.prog 335 = true := by kernel_rfl
theorem tq335 : teq Tryz.prog 335 = true := by kernel_rfl
def z335 : AV := .vec 1 (List.replicate 8 (.val (.int .u32 0)))
theorem zo335 : ZeroOK Tryz.prog 335 z335 := ZeroOK.mk (.agg #[.int .u32 0, .int .u32 0, .int .u32 0, .int .u32 0, .int .u32 0, .int .u32 0, .int .u32 0, .int .u32 0]) (by kernel_rfl) (by kernel_rfl) (by kernel_rfl) (by kernel_rfl)
theorem sz337 : tsz Tryz.prog 337 = some 64 := by kernel_rfl
theorem by337 : tby Tryz.prog 337 = some 256 := by kernel_rfl
theorem ag337 : tagg Tryz.prog 337 = some true := by kernel_rfl
theorem sl337 : tsl Tryz.prog 337 = none := by kernel_rfl
theorem ar337 : tarr Tryz.prog 337 = some (64, 333) := by kernel_rfl
theorem pt337 : tptr Tryz.prog 337 = none := by kernel_rfl
theorem un337 : (Tryz.prog.underlying 337).isSome = true := by kernel_rfl
theorem po337 : tpos Tryz.prog 337 = true := by kernel_rfl
theorem tq337 : teq Tryz.prog 337 = true := by kernel_rfl
def z337 : AV := .vec 1 (List.replicate 64 (.val (.int .u32 0)))
theorem zo337 : ZeroOK Tryz.prog 337 z337 := ZeroOK.mk (.agg #[.int .u32 0, .int .u32 0, .int .u32 0, .int .u32 0, .int .u32 0, .int .u32 0, .int .u32 0, .int .u32 0, .int .u32 0, .int .u32 0, .int .u32 0, .int .u32 0, .int .u32 0, .int .u32 0, .int .u32 0, .int .u32 0, .int .u32 0, .int .u32 0, .int .u32 0, .int .u32 0, .int .u32 0, .int .u32 0, .int .u32 0, .int .u32 0, .int .u32 0, .int .u32 0, .int .u32 0, .int .u32 0, .int .u32 0, .int .u32 0, .int .u32 0, .int .u32 0, .int .u32 0, .int .u32 0, .int .u32 0, .int .u32 0, .int .u32 0, .int .u32 0, .int .u32 0, .int .u32 0, .int .u32 0, .int .u32 0, .int .u32 0, .int .u32 0, .int .u32 0, .int .u32 0, .int .u32 0, .int .u32 0, .int .u32 0, .int .u32 0, .int .u32 0, .int .u32 0, .int .u32 0, .int .u32 0, .int .u32 0, .int .u32 0, .int .u32 0, .int .u32 0, .int .u32 0, .int .u32 0, .int .u32 0, .int .u32 0, .int .u32 0, .int .u32 0]) (by kernel_rfl) (by kernel_rfl) (by kernel_rfl) (by kernel_rfl)
theorem sz340 : tsz Tryz.prog 340 = some 1 := by kernel_rfl
theorem by340 : tby Tryz.prog 340 = some 8 := by kernel_rfl
theorem ag340 : tagg Tryz.prog 340 = some false := by kernel_rfl
theorem sl340 : tsl Tryz.prog 340 = none := by kernel_rfl
theorem ar340 : tarr Tryz.prog 340 = none := by kernel_rfl
theorem pt340 : tptr Tryz.prog 340 = some 337 := by kernel_rfl
theorem un340 : (Tryz.prog.underlying 340).isSome = true := by kernel_rfl
theorem po340 : tpos Tryz.prog 340 = true := by kernel_rfl
def z340 : AV := .val (.pointer none)
theorem zo340 : ZeroOK Tryz.prog 340 z340 := ZeroOK.mk (.pointer none) (by kernel_rfl) (by kernel_rfl) (by kernel_rfl) (by kernel_rfl)
theorem sz344 : tsz Tryz.prog 344 = some 2 := by kernel_rfl
theorem by344 : tby Tryz.prog 344 = some 32 := by kernel_rfl
theorem ag344 : tagg Tryz.prog 344 = some true := by kernel_rfl
theorem sl344 : tsl Tryz.prog 344 = none := by kernel_rfl
theorem ar344 : tarr Tryz.prog 344 = none := by kernel_rfl
theorem pt344 : tptr Tryz.prog 344 = none := by kernel_rfl
theorem un344 : (Tryz.prog.underlying 344).isSome = true := by kernel_rfl
theorem fl344_0 : tfld Tryz.prog 344 0 = some (0, 30) := by kernel_rfl
theorem fl344_1 : tfld Tryz.prog 344 1 = some (1, 43) := by kernel_rfl
theorem fs344 : tflds Tryz.prog 344 = true := by kernel_rfl
theorem po344 : tpos Tryz.prog 344 = true := by kernel_rfl
def z344 : AV := .agg 2 [.sl 1 [] 1, .val (.int .i64 0)]
theorem zo344 : ZeroOK Tryz.prog 344 z344 := ZeroOK.mk (.agg #[.slice none 0 0, .int .i64 0]) (by kernel_rfl) (by kernel_rfl) (by kernel_rfl) (by kernel_rfl)
theorem sz364 : tsz Tryz.prog 364 = some 1 := by kernel_rfl
theorem by364 : tby Tryz.prog 364 = some 8 := by kernel_rfl
theorem ag364 : tagg Tryz.prog 364 = some false := by kernel_rfl
theorem sl364 : tsl Tryz.prog 364 = none := by kernel_rfl
theorem ar364 : tarr Tryz.prog 364 = none := by kernel_rfl
theorem pt364 : tptr Tryz.prog 364 = some 335 := by kernel_rfl
theorem un364 : (Tryz.prog.underlying 364).isSome = true := by kernel_rfl
theorem po364 : tpos Tryz.prog 364 = true := by kernel_rfl
def z364 : AV := .val (.pointer none)
theorem zo364 : ZeroOK Tryz.prog 364 z364 := ZeroOK.mk (.pointer none) (by kernel_rfl) (by kernel_rfl) (by kernel_rfl) (by kernel_rfl)
theorem sz367 : tsz Tryz.prog 367 = some 1 := by kernel_rfl
theorem by367 : tby Tryz.prog 367 = some 24 := by kernel_rfl
theorem ag367 : tagg Tryz.prog 367 = some false := by kernel_rfl
theorem sl367 : tsl Tryz.prog 367 = some 333 := by kernel_rfl
theorem ar367 : tarr Tryz.prog 367 = none := by kernel_rfl
theorem pt367 : tptr Tryz.prog 367 = none := by kernel_rfl
theorem un367 : (Tryz.prog.underlying 367).isSome = true := by kernel_rfl
theorem po367 : tpos Tryz.prog 367 = true := by kernel_rfl
def z367 : AV := .sl 1 [] 1
theorem zo367 : ZeroOK Tryz.prog 367 z367 := ZeroOK.mk (.slice none 0 0) (by kernel_rfl) (by kernel_rfl) (by kernel_rfl) (by kernel_rfl)
def zl : List (Nat × AV) := [(2, z2), (3, z3), (4, z4), (5, z5), (23, z23), (25, z25), (27, z27), (29, z29), (30, z30), (32, z32), (36, z36), (37, z37), (39, z39), (40, z40), (42, z42), (43, z43), (48, z48), (49, z49), (51, z51), (57, z57), (59, z59), (61, z61), (63, z63), (65, z65), (66, z66), (69, z69), (74, z74), (77, z77), (79, z79), (99, z99), (108, z108), (117, z117), (121, z121), (133, z133), (142, z142), (145, z145), (148, z148), (149, z149), (150, z150), (151, z151), (153, z153), (154, z154), (156, z156), (210, z210), (211, z211), (234, z234), (284, z284), (285, z285), (296, z296), (332, z332), (333, z333), (335, z335), (337, z337), (340, z340), (344, z344), (364, z364), (367, z367)]
theorem zl_ok : zAll Tryz.prog zl := ⟨zo2, zo3, zo4, zo5, zo23, zo25, zo27, zo29, zo30, zo32, zo36, zo37, zo39, zo40, zo42, zo43, zo48, zo49, zo51, zo57, zo59, zo61, zo63, zo65, zo66, zo69, zo74, zo77, zo79, zo99, zo108, zo117, zo121, zo133, zo142, zo145, zo148, zo149, zo150, zo151, zo153, zo154, zo156, zo210, zo211, zo234, zo284, zo285, zo296, zo332, zo333, zo335, zo337, zo340, zo344, zo364, zo367, trivial⟩
/-- the program, its zero values -/
noncomputable def cx : Cx := ⟨Tryz.prog, zLook zl, zLook_ok zl_ok⟩
theorem cxP : cx.P = Tryz.prog := rfl
theorem zt2 : cx.zt 2 = some z2 := by kernel_rfl
theorem zt3 : cx.zt 3 = some z3 := by kernel_rfl
theorem zt4 : cx.zt 4 = some z4 := by kernel_rfl
theorem zt5 : cx.zt 5 = some z5 := by kernel_rfl
theorem zt23 : cx.zt 23 = some z23 := by kernel_rfl
theorem zt25 : cx.zt 25 = some z25 := by kernel_rfl
theorem zt27 : cx.zt 27 = some z27 := by kernel_rfl
theorem zt29 : cx.zt 29 = some z29 := by kernel_rfl
theorem zt30 : cx.zt 30 = some z30 := by kernel_rfl
theorem zt32 : cx.zt 32 = some z32 := by kernel_rfl
theorem zt36 : cx.zt 36 = some z36 := by kernel_rfl
theorem zt37 : cx.zt 37 = some z37 := by kernel_rfl
theorem zt39 : cx.zt 39 = some z39 := by kernel_rfl
theorem zt40 : cx.zt 40 = some z40 := by kernel_rfl
theorem zt42 : cx.zt 42 = some z42 := by kernel_rfl
theorem zt43 : cx.zt 43 = some z43 := by kernel_rfl
theorem zt48 : cx.zt 48 = some z48 := by kernel_rfl
theorem zt49 : cx.zt 49 = some z49 := by kernel_rfl
theorem zt51 : cx.zt 51 = some z51 := by kernel_rfl
theorem zt57 : cx.zt 57 = some z57 := by kernel_rfl
theorem zt59 : cx.zt 59 = some z59 := by kernel_rfl
theorem zt61 : cx.zt 61 = some z61 := by kernel_rfl
theorem zt63 : cx.zt 63 = some z63 := by kernel_rfl
theorem zt65 : cx.zt 65 = some z65 := by kernel_rfl
theorem zt66 : cx.zt 66 = some z66 := by kernel_rfl
theorem zt69 : cx.zt 69 = some z69 := by kernel_rfl
theorem zt74 : cx.zt 74 = some z74 := by kernel_rfl
theorem zt77 : cx.zt 77 = some z77 := by kernel_rfl
theorem zt79 : cx.zt 79 = some z79 := by kernel_rfl
theorem zt99 : cx.zt 99 = some z99 := by kernel_rfl
theorem zt108 : cx.zt 108 = some z108 := by kernel_rfl
theorem zt117 : cx.zt 117 = some z117 := by kernel_rfl
theorem zt121 : cx.zt 121 = some z121 := by kernel_rfl
theorem zt133 : cx.zt 133 = some z133 := by kernel_rfl
theorem zt142 : cx.zt 142 = some z142 := by kernel_rfl
theorem zt145 : cx.zt 145 = some z145 := by kernel_rfl
theorem zt148 : cx.zt 148 = some z148 := by kernel_rfl
theorem zt149 : cx.zt 149 = some z149 := by kernel_rfl
theorem zt150 : cx.zt 150 = some z150 := by kernel_rfl
theorem zt151 : cx.zt 151 = some z151 := by kernel_rfl
theorem zt153 : cx.zt 153 = some z153 := by kernel_rfl
theorem zt154 : cx.zt 154 = some z154 := by kernel_rfl
theorem zt156 : cx.zt 156 = some z156 := by kernel_rfl
theorem zt210 : cx.zt 210 = some z210 := by kernel_rfl
theorem zt211 : cx.zt 211 = some z211 := by kernel_rfl
theorem zt234 : cx.zt 234 = some z234 := by kernel_rfl
theorem zt284 : cx.zt 284 = some z284 := by kernel_rfl
theorem zt285 : cx.zt 285 = some z285 := by kernel_rfl
theorem zt296 : cx.zt 296 = some z296 := by kernel_rfl
theorem zt332 : cx.zt 332 = some z332 := by kernel_rfl
theorem zt333 : cx.zt 333 = some z333 := by kernel_rfl
theorem zt335 : cx.zt 335 = some z335 := by kernel_rfl
theorem zt337 : cx.zt 337 = some z337 := by kernel_rfl
theorem zt340 : cx.zt 340 = some z340 := by kernel_rfl
theorem zt344 : cx.zt 344 = some z344 := by kernel_rfl
theorem zt364 : cx.zt 364 = some z364 := by kernel_rfl
theorem zt367 : cx.zt 367 = some z367 := by kernel_rfl
theorem t2 : type_of% (sz2) ∧ type_of% (by2) ∧ type_of% (ag2) ∧ type_of% (sl2) ∧ type_of% (ar2) ∧ type_of% (pt2) ∧ type_of% (in2) ∧ type_of% (un2) ∧ type_of% (po2) ∧ type_of% (zt2) ∧ type_of% (@z2.eq_1) :=
  ⟨sz2, by2, ag2, sl2, ar2, pt2, in2, un2, po2, zt2, @z2.eq_1⟩
theorem t3 : type_of% (sz3) ∧ type_of% (by3) ∧ type_of% (ag3) ∧ type_of% (sl3) ∧ type_of% (ar3) ∧ type_of% (pt3) ∧ type_of% (in3) ∧ type_of% (un3) ∧ type_of% (po3) ∧ type_of% (zt3) ∧ type_of% (@z3.eq_1) :=
  ⟨sz3, by3, ag3, sl3, ar3, pt3, in3, un3, po3, zt3, @z3.eq_1⟩
theorem t4 : type_of% (sz4) ∧ type_of% (by4) ∧ type_of% (ag4) ∧ type_of% (sl4) ∧ type_of% (ar4) ∧ type_of% (pt4) ∧ type_of% (un4) ∧ type_of% (tb4) ∧ type_of% (po4) ∧ type_of% (zt4) ∧ type_of% (@z4.eq_1) :=
  ⟨sz4, by4, ag4, sl4, ar4, pt4, un4, tb4, po4, zt4, @z4.eq_1⟩
theorem t5 : type_of% (sz5) ∧ type_of% (by5) ∧ type_of% (ag5) ∧ type_of% (sl5) ∧ type_of% (ar5) ∧ type_of% (pt5) ∧ type_of% (in5) ∧ type_of% (un5) ∧ type_of% (po5) ∧ type_of% (zt5) ∧ type_of% (@z5.eq_1) :=
  ⟨sz5, by5, ag5, sl5, ar5, pt5, in5, un5, po5, zt5, @z5.eq_1⟩
theorem t23 : type_of% (sz23) ∧ type_of% (by23) ∧ type_of% (ag23) ∧ type_of% (sl23) ∧ type_of% (ar23) ∧ type_of% (pt23) ∧ type_of% (un23) ∧ type_of% (po23) ∧ type_of% (tq23) ∧ type_of% (zt23) ∧ type_of% (@z23.eq_1) :=
  ⟨sz23, by23, ag23, sl23, ar23, pt23, un23, po23, tq23, zt23, @z23.eq_1⟩
theorem t25 : type_of% (sz25) ∧ type_of% (by25) ∧ type_of% (ag25) ∧ type_of% (sl25) ∧ type_of% (ar25) ∧ type_of% (pt25) ∧ type_of% (un25) ∧ type_of% (fl25_0) ∧ type_of% (fl25_1) ∧ type_of% (fs25) ∧ type_of% (po25) ∧ type_of% (tq25) ∧ type_of% (tc25) ∧ type_of% (zt25) ∧ type_of% (@z25.eq_1) :=
  ⟨sz25, by25, ag25, sl25, ar25, pt25, un25, fl25_0, fl25_1, fs25, po25, tq25, tc25, zt25, @z25.eq_1⟩
theorem t27 : type_of% (sz27) ∧ type_of% (by27) ∧ type_of% (ag27) ∧ type_of% (sl27) ∧ type_of% (ar27) ∧ type_of% (pt27) ∧ type_of% (un27) ∧ type_of% (fl27_0) ∧ type_of% (fl27_1) ∧ type_of% (fl27_2) ∧ type_of% (fl27_3) ∧ type_of% (fl27_4) ∧ type_of% (fl27_5) ∧ type_of% (fl27_6) ∧ type_of% (fs27) ∧ type_of% (po27) ∧ type_of% (tq27) ∧ type_of% (tc27) ∧ type_of% (zt27) ∧ type_of% (@z27.eq_1) :=
  ⟨sz27, by27, ag27, sl27, ar27, pt27, un27, fl27_0, fl27_1, fl27_2, fl27_3, fl27_4, fl27_5, fl27_6, fs27, po27, tq27, tc27, zt27, @z27.eq_1⟩
theorem t29 : type_of% (sz29) ∧ type_of% (by29) ∧ type_of% (ag29) ∧ type_of% (sl29) ∧ type_of% (ar29) ∧ type_of% (pt29) ∧ type_of% (un29) ∧ type_of% (fl29_0) ∧ type_of% (fl29_1) ∧ type_of% (fl29_2) ∧ type_of% (fl29_3) ∧ type_of% (fl29_4) ∧ type_of% (fs29) ∧ type_of% (po29) ∧ type_of% (tq29) ∧ type_of% (tc29) ∧ type_of% (zt29) ∧ type_of% (@z29.eq_1) :=
  ⟨sz29, by29, ag29, sl29, ar29, pt29, un29, fl29_0, fl29_1, fl29_2, fl29_3, fl29_4, fs29, po29, tq29, tc29, zt29, @z29.eq_1⟩
theorem t30 : type_of% (sz30) ∧ type_of% (by30) ∧ type_of% (ag30) ∧ type_of% (sl30) ∧ type_of% (ar30) ∧ type_of% (pt30) ∧ type_of% (un30) ∧ type_of% (po30) ∧ type_of% (zt30) ∧ type_of% (@z30.eq_1) :=
  ⟨sz30, by30, ag30, sl30, ar30, pt30, un30, po30, zt30, @z30.eq_1⟩
theorem t32 : type_of% (sz32) ∧ type_of% (by32) ∧ type_of% (ag32) ∧ type_of% (sl32) ∧ type_of% (ar32) ∧ type_of% (pt32) ∧ type_of% (un32) ∧ type_of% (fl32_0) ∧ type_of% (fl32_1) ∧ type_of% (fs32) ∧ type_of% (po32) ∧ type_of% (zt32) ∧ type_of% (@z32.eq_1) :=
  ⟨sz32, by32, ag32, sl32, ar32, pt32, un32, fl32_0, fl32_1, fs32, po32, zt32, @z32.eq_1⟩
theorem t36 : type_of% (sz36) ∧ type_of% (by36) ∧ type_of% (ag36) ∧ type_of% (sl36) ∧ type_of% (ar36) ∧ type_of% (pt36) ∧ type_of% (un36) ∧ type_of% (po36) ∧ type_of% (zt36) ∧ type_of% (@z36.eq_1) :=
  ⟨sz36, by36, ag36, sl36, ar36, pt36, un36, po36, zt36, @z36.eq_1⟩
theorem t37 : type_of% (sz37) ∧ type_of% (by37) ∧ type_of% (ag37) ∧ type_of% (sl37) ∧ type_of% (ar37) ∧ type_of% (pt37) ∧ type_of% (un37) ∧ type_of% (po37) ∧ type_of% (zt37) ∧ type_of% (@z37.eq_1) :=
  ⟨sz37, by37, ag37, sl37, ar37, pt37, un37, po37, zt37, @z37.eq_1⟩
theorem t39 : type_of% (sz39) ∧ type_of% (by39) ∧ type_of% (ag39) ∧ type_of% (sl39) ∧ type_of% (ar39) ∧ type_of% (pt39) ∧ type_of% (un39) ∧ type_of% (fl39_0) ∧ type_of% (fl39_1) ∧ type_of% (fl39_2) ∧ type_of% (fl39_3) ∧ type_of% (fl39_4) ∧ type_of% (fl39_5) ∧ type_of% (fs39) ∧ type_of% (po39) ∧ type_of% (zt39) ∧ type_of% (@z39.eq_1) :=
  ⟨sz39, by39, ag39, sl39, ar39, pt39, un39, fl39_0, fl39_1, fl39_2, fl39_3, fl39_4, fl39_5, fs39, po39, zt39, @z39.eq_1⟩
theorem t40 : type_of% (sz40) ∧ type_of% (by40) ∧ type_of% (ag40) ∧ type_of% (sl40) ∧ type_of% (ar40) ∧ type_of% (pt40) ∧ type_of% (un40) ∧ type_of% (po40) ∧ type_of% (zt40) ∧ type_of% (@z40.eq_1) :=
  ⟨sz40, by40, ag40, sl40, ar40, pt40, un40, po40, zt40, @z40.eq_1⟩
theorem t42 : type_of% (sz42) ∧ type_of% (by42) ∧ type_of% (ag42) ∧ type_of% (sl42) ∧ type_of% (ar42) ∧ type_of% (pt42) ∧ type_of% (un42) ∧ type_of% (fl42_0) ∧ type_of% (fl42_1) ∧ type_of% (fl42_2) ∧ type_of% (fl42_3) ∧ type_of% (fs42) ∧ type_of% (po42) ∧ type_of% (zt42) ∧ type_of% (@z42.eq_1) :=
  ⟨sz42, by42, ag42, sl42, ar42, pt42, un42, fl42_0, fl42_1, fl42_2, fl42_3, fs42, po42, zt42, @z42.eq_1⟩
theorem t43 : type_of% (sz43) ∧ type_of% (by43) ∧ type_of% (ag43) ∧ type_of% (sl43) ∧ type_of% (ar43) ∧ type_of% (pt43) ∧ type_of% (in43) ∧ type_of% (un43) ∧ type_of% (po43) ∧ type_of% (zt43) ∧ type_of% (@z43.eq_1) :=
  ⟨sz43, by43, ag43, sl43, ar43, pt43, in43, un43, po43, zt43, @z43.eq_1⟩
theorem t48 : type_of% (sz48) ∧ type_of% (by48) ∧ type_of% (ag48) ∧ type_of% (sl48) ∧ type_of% (ar48) ∧ type_of% (pt48) ∧ type_of% (un48) ∧ type_of% (fl48_0) ∧ type_of% (fl48_1) ∧ type_of% (fl48_2) ∧ type_of% (fs48) ∧ type_of% (po48) ∧ type_of% (zt48) ∧ type_of% (@z48.eq_1) :=
  ⟨sz48, by48, ag48, sl48, ar48, pt48, un48, fl48_0, fl48_1, fl48_2, fs48, po48, zt48, @z48.eq_1⟩
theorem t49 : type_of% (sz49) ∧ type_of% (by49) ∧ type_of% (ag49) ∧ type_of% (sl49) ∧ type_of% (ar49) ∧ type_of% (pt49) ∧ type_of% (un49) ∧ type_of% (po49) ∧ type_of% (zt49) ∧ type_of% (@z49.eq_1) :=
  ⟨sz49, by49, ag49, sl49, ar49, pt49, un49, po49, zt49, @z49.eq_1⟩
theorem t51 : type_of% (sz51) ∧ type_of% (by51) ∧ type_of% (ag51) ∧ type_of% (sl51) ∧ type_of% (ar51) ∧ type_of% (pt51) ∧ type_of% (un51) ∧ type_of% (fl51_0) ∧ type_of% (fl51_1) ∧ type_of% (fs51) ∧ type_of% (po51) ∧ type_of% (zt51) ∧ type_of% (@z51.eq_1) :=
  ⟨sz51, by51, ag51, sl51, ar51, pt51, un51, fl51_0, fl51_1, fs51, po51, zt51, @z51.eq_1⟩
theorem t57 : type_of% (sz57) ∧ type_of% (by57) ∧ type_of% (ag57) ∧ type_of% (sl57) ∧ type_of% (ar57) ∧ type_of% (pt57) ∧ type_of% (un57) ∧ type_of% (po57) ∧ type_of% (tq57) ∧ type_of% (zt57) ∧ type_of% (@z57.eq_1) :=
  ⟨sz57, by57, ag57, sl57, ar57, pt57, un57, po57, tq57, zt57, @z57.eq_1⟩
theorem t59 : type_of% (sz59) ∧ type_of% (by59) ∧ type_of% (ag59) ∧ type_of% (sl59) ∧ type_of% (ar59) ∧ type_of% (pt59) ∧ type_of% (un59) ∧ type_of% (fl59_0) ∧ type_of% (fl59_1) ∧ type_of% (fl59_2) ∧ type_of% (fl59_3) ∧ type_of% (fs59) ∧ type_of% (po59) ∧ type_of% (tq59) ∧ type_of% (tc59) ∧ type_of% (zt59) ∧ type_of% (@z59.eq_1) :=
  ⟨sz59, by59, ag59, sl59, ar59, pt59, un59, fl59_0, fl59_1, fl59_2, fl59_3, fs59, po59, tq59, tc59, zt59, @z59.eq_1⟩
theorem t61 : type_of% (sz61) ∧ type_of% (by61) ∧ type_of% (ag61) ∧ type_of% (sl61) ∧ type_of% (ar61) ∧ type_of% (pt61) ∧ type_of% (un61) ∧ type_of% (fl61_0) ∧ type_of% (fl61_1) ∧ type_of% (fs61) ∧ type_of% (po61) ∧ type_of% (tq61) ∧ type_of% (tc61) ∧ type_of% (zt61) ∧ type_of% (@z61.eq_1) :=
  ⟨sz61, by61, ag61, sl61, ar61, pt61, un61, fl61_0, fl61_1, fs61, po61, tq61, tc61, zt61, @z61.eq_1⟩
theorem t63 : type_of% (sz63) ∧ type_of% (by63) ∧ type_of% (ag63) ∧ type_of% (sl63) ∧ type_of% (ar63) ∧ type_of% (pt63) ∧ type_of% (un63) ∧ type_of% (fl63_0) ∧ type_of% (fl63_1) ∧ type_of% (fl63_2) ∧ type_of% (fl63_3) ∧ type_of% (fs63) ∧ type_of% (po63) ∧ type_of% (zt63) ∧ type_of% (@z63.eq_1) :=
  ⟨sz63, by63, ag63, sl63, ar63, pt63, un63, fl63_0, fl63_1, fl63_2, fl63_3, fs63, po63, zt63, @z63.eq_1⟩
theorem t65 : type_of% (sz65) ∧ type_of% (by65) ∧ type_of% (ag65) ∧ type_of% (sl65) ∧ type_of% (ar65) ∧ type_of% (pt65) ∧ type_of% (un65) ∧ type_of% (fl65_0) ∧ type_of% (fl65_1) ∧ type_of% (fl65_2) ∧ type_of% (fl65_3) ∧ type_of% (fl65_4) ∧ type_of% (fl65_5) ∧ type_of% (fl65_6) ∧ type_of% (fl65_7) ∧ type_of% (fl65_8) ∧ type_of% (fs65) ∧ type_of% (po65) ∧ type_of% (zt65) ∧ type_of% (@z65.eq_1) :=
  ⟨sz65, by65, ag65, sl65, ar65, pt65, un65, fl65_0, fl65_1, fl65_2, fl65_3, fl65_4, fl65_5, fl65_6, fl65_7, fl65_8, fs65, po65, zt65, @z65.eq_1⟩
theorem t66 : type_of% (sz66) ∧ type_of% (by66) ∧ type_of% (ag66) ∧ type_of% (sl66) ∧ type_of% (ar66) ∧ type_of% (pt66) ∧ type_of% (un66) ∧ type_of% (po66) ∧ type_of% (zt66) ∧ type_of% (@z66.eq_1) :=
  ⟨sz66, by66, ag66, sl66, ar66, pt66, un66, po66, zt66, @z66.eq_1⟩
theorem t69 : type_of% (sz69) ∧ type_of% (by69) ∧ type_of% (ag69) ∧ type_of% (sl69) ∧ type_of% (ar69) ∧ type_of% (pt69) ∧ type_of% (un69) ∧ type_of% (po69) ∧ type_of% (zt69) ∧ type_of% (@z69.eq_1) :=
  ⟨sz69, by69, ag69, sl69, ar69, pt69, un69, po69, zt69, @z69.eq_1⟩
theorem t74 : type_of% (sz74) ∧ type_of% (by74) ∧ type_of% (ag74) ∧ type_of% (sl74) ∧ type_of% (ar74) ∧ type_of% (pt74) ∧ type_of% (un74) ∧ type_of% (po74) ∧ type_of% (zt74) ∧ type_of% (@z74.eq_1) :=
  ⟨sz74, by74, ag74, sl74, ar74, pt74, un74, po74, zt74, @z74.eq_1⟩
theorem t77 : type_of% (sz77) ∧ type_of% (by77) ∧ type_of% (ag77) ∧ type_of% (sl77) ∧ type_of% (ar77) ∧ type_of% (pt77) ∧ type_of% (un77) ∧ type_of% (po77) ∧ type_of% (zt77) ∧ type_of% (@z77.eq_1) :=
  ⟨sz77, by77, ag77, sl77, ar77, pt77, un77, po77, zt77, @z77.eq_1⟩
theorem t79 : type_of% (sz79) ∧ type_of% (by79) ∧ type_of% (ag79) ∧ type_of% (sl79) ∧ type_of% (ar79) ∧ type_of% (pt79) ∧ type_of% (un79) ∧ type_of% (po79) ∧ type_of% (zt79) ∧ type_of% (@z79.eq_1) :=
  ⟨sz79, by79, ag79, sl79, ar79, pt79, un79, po79, zt79, @z79.eq_1⟩
theorem t99 : type_of% (sz99) ∧ type_of% (by99) ∧ type_of% (ag99) ∧ type_of% (sl99) ∧ type_of% (ar99) ∧ type_of% (pt99) ∧ type_of% (un99) ∧ type_of% (po99) ∧ type_of% (zt99) ∧ type_of% (@z99.eq_1) :=
  ⟨sz99, by99, ag99, sl99, ar99, pt99, un99, po99, zt99, @z99.eq_1⟩
theorem t108 : type_of% (sz108) ∧ type_of% (by108) ∧ type_of% (ag108) ∧ type_of% (sl108) ∧ type_of% (ar108) ∧ type_of% (pt108) ∧ type_of% (un108) ∧ type_of% (po108) ∧ type_of% (zt108) ∧ type_of% (@z108.eq_1) :=
  ⟨sz108, by108, ag108, sl108, ar108, pt108, un108, po108, zt108, @z108.eq_1⟩
theorem t117 : type_of% (sz117) ∧ type_of% (by117) ∧ type_of% (ag117) ∧ type_of% (sl117) ∧ type_of% (ar117) ∧ type_of% (pt117) ∧ type_of% (un117) ∧ type_of% (fl117_0) ∧ type_of% (fl117_1) ∧ type_of% (fl117_2) ∧ type_of% (fs117) ∧ type_of% (po117) ∧ type_of% (tq117) ∧ type_of% (tc117) ∧ type_of% (zt117) ∧ type_of% (@z117.eq_1) :=
  ⟨sz117, by117, ag117, sl117, ar117, pt117, un117, fl117_0, fl117_1, fl117_2, fs117, po117, tq117, tc117, zt117, @z117.eq_1⟩
theorem t121 : type_of% (sz121) ∧ type_of% (by121) ∧ type_of% (ag121) ∧ type_of% (sl121) ∧ type_of% (ar121) ∧ type_of% (pt121) ∧ type_of% (un121) ∧ type_of% (fl121_0) ∧ type_of% (fl121_1) ∧ type_of% (fs121) ∧ type_of% (po121) ∧ type_of% (zt121) ∧ type_of% (@z121.eq_1) :=
  ⟨sz121, by121, ag121, sl121, ar121, pt121, un121, fl121_0, fl121_1, fs121, po121, zt121, @z121.eq_1⟩
theorem t133 : type_of% (sz133) ∧ type_of% (by133) ∧ type_of% (ag133) ∧ type_of% (sl133) ∧ type_of% (ar133) ∧ type_of% (pt133) ∧ type_of% (un133) ∧ type_of% (po133) ∧ type_of% (zt133) ∧ type_of% (@z133.eq_1) :=
  ⟨sz133, by133, ag133, sl133, ar133, pt133, un133, po133, zt133, @z133.eq_1⟩
theorem t142 : type_of% (sz142) ∧ type_of% (by142) ∧ type_of% (ag142) ∧ type_of% (sl142) ∧ type_of% (ar142) ∧ type_of% (pt142) ∧ type_of% (un142) ∧ type_of% (fl142_0) ∧ type_of% (fl142_1) ∧ type_of% (fl142_2) ∧ type_of% (fl142_3) ∧ type_of% (fs142) ∧ type_of% (po142) ∧ type_of% (zt142) ∧ type_of% (@z142.eq_1) :=
  ⟨sz142, by142, ag142, sl142, ar142, pt142, un142, fl142_0, fl142_1, fl142_2, fl142_3, fs142, po142, zt142, @z142.eq_1⟩
theorem t145 : type_of% (sz145) ∧ type_of% (by145) ∧ type_of% (ag145) ∧ type_of% (sl145) ∧ type_of% (ar145) ∧ type_of% (pt145) ∧ type_of% (un145) ∧ type_of% (fl145_0) ∧ type_of% (fl145_1) ∧ type_of% (fl145_2) ∧ type_of% (fl145_3) ∧ type_of% (fl145_4) ∧ type_of% (fs145) ∧ type_of% (po145) ∧ type_of% (tq145) ∧ type_of% (tc145) ∧ type_of% (zt145) ∧ type_of% (@z145.eq_1) :=
  ⟨sz145, by145, ag145, sl145, ar145, pt145, un145, fl145_0, fl145_1, fl145_2, fl145_3, fl145_4, fs145, po145, tq145, tc145, zt145, @z145.eq_1⟩
theorem t148 : type_of% (sz148) ∧ type_of% (by148) ∧ type_of% (ag148) ∧ type_of% (sl148) ∧ type_of% (ar148) ∧ type_of% (pt148) ∧ type_of% (un148) ∧ type_of% (po148) ∧ type_of% (zt148) ∧ type_of% (@z148.eq_1) :=
  ⟨sz148, by148, ag148, sl148, ar148, pt148, un148, po148, zt148, @z148.eq_1⟩
theorem t149 : type_of% (sz149) ∧ type_of% (by149) ∧ type_of% (ag149) ∧ type_of% (sl149) ∧ type_of% (ar149) ∧ type_of% (pt149) ∧ type_of% (un149) ∧ type_of% (po149) ∧ type_of% (zt149) ∧ type_of% (@z149.eq_1) :=
  ⟨sz149, by149, ag149, sl149, ar149, pt149, un149, po149, zt149, @z149.eq_1⟩
theorem t150 : type_of% (sz150) ∧ type_of% (by150) ∧ type_of% (ag150) ∧ type_of% (sl150) ∧ type_of% (ar150) ∧ type_of% (pt150) ∧ type_of% (un150) ∧ type_of% (po150) ∧ type_of% (zt150) ∧ type_of% (@z150.eq_1) :=
  ⟨sz150, by150, ag150, sl150, ar150, pt150, un150, po150, zt150, @z150.eq_1⟩
theorem t151 : type_of% (sz151) ∧ type_of% (by151) ∧ type_of% (ag151) ∧ type_of% (sl151) ∧ type_of% (ar151) ∧ type_of% (pt151) ∧ type_of% (un151) ∧ type_of% (po151) ∧ type_of% (zt151) ∧ type_of% (@z151.eq_1) :=
  ⟨sz151, by151, ag151, sl151, ar151, pt151, un151, po151, zt151, @z151.eq_1⟩
theorem t153 : type_of% (sz153) ∧ type_of% (by153) ∧ type_of% (ag153) ∧ type_of% (sl153) ∧ type_of% (ar153) ∧ type_of% (pt153) ∧ type_of% (un153) ∧ type_of% (fl153_0) ∧ type_of% (fl153_1) ∧ type_of% (fl153_2) ∧ type_of% (fl153_3) ∧ type_of% (fl153_4) ∧ type_of% (fl153_5) ∧ type_of% (fs153) ∧ type_of% (po153) ∧ type_of% (zt153) ∧ type_of% (@z153.eq_1) :=
  ⟨sz153, by153, ag153, sl153, ar153, pt153, un153, fl153_0, fl153_1, fl153_2, fl153_3, fl153_4, fl153_5, fs153, po153, zt153, @z153.eq_1⟩
theorem t154 : type_of% (sz154) ∧ type_of% (by154) ∧ type_of% (ag154) ∧ type_of% (sl154) ∧ type_of% (ar154) ∧ type_of% (pt154) ∧ type_of% (un154) ∧ type_of% (po154) ∧ type_of% (zt154) ∧ type_of% (@z154.eq_1) :=
  ⟨sz154, by154, ag154, sl154, ar154, pt154, un154, po154, zt154, @z154.eq_1⟩
theorem t156 : type_of% (sz156) ∧ type_of% (by156) ∧ type_of% (ag156) ∧ type_of% (sl156) ∧ type_of% (ar156) ∧ type_of% (pt156) ∧ type_of% (un156) ∧ type_of% (fl156_0) ∧ type_of% (fl156_1) ∧ type_of% (fl156_2) ∧ type_of% (fl156_3) ∧ type_of% (fs156) ∧ type_of% (po156) ∧ type_of% (zt156) ∧ type_of% (@z156.eq_1) :=
  ⟨sz156, by156, ag156, sl156, ar156, pt156, un156, fl156_0, fl156_1, fl156_2, fl156_3, fs156, po156, zt156, @z156.eq_1⟩
theorem t210 : type_of% (sz210) ∧ type_of% (by210) ∧ type_of% (ag210) ∧ type_of% (sl210) ∧ type_of% (ar210) ∧ type_of% (pt210) ∧ type_of% (un210) ∧ type_of% (fl210_0) ∧ type_of% (fs210) ∧ type_of% (po210) ∧ type_of% (zt210) ∧ type_of% (@z210.eq_1) :=
  ⟨sz210, by210, ag210, sl210, ar210, pt210, un210, fl210_0, fs210, po210, zt210, @z210.eq_1⟩
theorem t211 : type_of% (sz211) ∧ type_of% (by211) ∧ type_of% (ag211) ∧ type_of% (sl211) ∧ type_of% (ar211) ∧ type_of% (pt211) ∧ type_of% (un211) ∧ type_of% (po211) ∧ type_of% (zt211) ∧ type_of% (@z211.eq_1) :=
  ⟨sz211, by211, ag211, sl211, ar211, pt211, un211, po211, zt211, @z211.eq_1⟩
theorem t234 : type_of% (sz234) ∧ type_of% (by234) ∧ type_of% (ag234) ∧ type_of% (sl234) ∧ type_of% (ar234) ∧ type_of% (pt234) ∧ type_of% (un234) ∧ type_of% (fl234_0) ∧ type_of% (fl234_1) ∧ type_of% (fl234_2) ∧ type_of% (fs234) ∧ type_of% (po234) ∧ type_of% (zt234) ∧ type_of% (@z234.eq_1) :=
  ⟨sz234, by234, ag234, sl234, ar234, pt234, un234, fl234_0, fl234_1, fl234_2, fs234, po234, zt234, @z234.eq_1⟩
theorem t284 : type_of% (sz284) ∧ type_of% (by284) ∧ type_of% (ag284) ∧ type_of% (sl284) ∧ type_of% (ar284) ∧ type_of% (pt284) ∧ type_of% (un284) ∧ type_of% (po284) ∧ type_of% (zt284) ∧ type_of% (@z284.eq_1) :=
  ⟨sz284, by284, ag284, sl284, ar284, pt284, un284, po284, zt284, @z284.eq_1⟩
theorem t285 : type_of% (sz285) ∧ type_of% (by285) ∧ type_of% (ag285) ∧ type_of% (sl285) ∧ type_of% (ar285) ∧ type_of% (pt285) ∧ type_of% (in285) ∧ type_of% (un285) ∧ type_of% (po285) ∧ type_of% (zt285) ∧ type_of% (@z285.eq_1) :=
  ⟨sz285, by285, ag285, sl285, ar285, pt285, in285, un285, po285, zt285, @z285.eq_1⟩
theorem t296 : type_of% (sz296) ∧ type_of% (by296) ∧ type_of% (ag296) ∧ type_of% (sl296) ∧ type_of% (ar296) ∧ type_of% (pt296) ∧ type_of% (un296) ∧ type_of% (po296) ∧ type_of% (zt296) ∧ type_of% (@z296.eq_1) :=
  ⟨sz296, by296, ag296, sl296, ar296, pt296, un296, po296, zt296, @z296.eq_1⟩
theorem t332 : type_of% (sz332) ∧ type_of% (by332) ∧ type_of% (ag332) ∧ type_of% (sl332) ∧ type_of% (ar332) ∧ type_of% (pt332) ∧ type_of% (in332) ∧ type_of% (un332) ∧ type_of% (po332) ∧ type_of% (zt332) ∧ type_of% (@z332.eq_1) :=
  ⟨sz332, by332, ag332, sl332, ar332, pt332, in332, un332, po332, zt332, @z332.eq_1⟩
theorem t333 : type_of% (sz333) ∧ type_of% (by333) ∧ type_of% (ag333) ∧ type_of% (sl333) ∧ type_of% (ar333) ∧ type_of% (pt333) ∧ type_of% (in333) ∧ type_of% (un333) ∧ type_of% (po333) ∧ type_of% (zt333) ∧ type_of% (@z333.eq_1) :=
  ⟨sz333, by333, ag333, sl333, ar333, pt333, in333, un333, po333, zt333, @z333.eq_1⟩
theorem t335 : type_of% (sz335) ∧ type_of% (by335) ∧ type_of% (ag335) ∧ type_of% (sl335) ∧ type_of% (ar335) ∧ type_of% (pt335) ∧ type_of% (un335) ∧ type_of% (po335) ∧ type_of% (tq335) ∧ type_of% (zt335) ∧ type_of% (@z335.eq_1) :=
  ⟨sz335, by335, ag335, sl335, ar335, pt335, un335, po335, tq335, zt335, @z335.eq_1⟩
theorem t337 : type_of% (sz337) ∧ type_of% (by337) ∧ type_of% (ag337) ∧ type_of% (sl337) ∧ type_of% (ar337) ∧ type_of% (pt337) ∧ type_of% (un337) ∧ type_of% (po337) ∧ type_of% (tq337) ∧ type_of% (zt337) ∧ type_of% (@z337.eq_1) :=
  ⟨sz337, by337, ag337, sl337, ar337, pt337, un337, po337, tq337, zt337, @z337.eq_1⟩
theorem t340 : type_of% (sz340) ∧ type_of% (by340) ∧ type_of% (ag340) ∧ type_of% (sl340) ∧ type_of% (ar340) ∧ type_of% (pt340) ∧ type_of% (un340) ∧ type_of% (po340) ∧ type_of% (zt340) ∧ type_of% (@z340.eq_1) :=
  ⟨sz340, by340, ag340, sl340, ar340, pt340, un340, po340, zt340, @z340.eq_1⟩
theorem t344 : type_of% (sz344) ∧ type_of% (by344) ∧ type_of% (ag344) ∧ type_of% (sl344) ∧ type_of% (ar344) ∧ type_of% (pt344) ∧ type_of% (un344) ∧ type_of% (fl344_0) ∧ type_of% (fl344_1) ∧ type_of% (fs344) ∧ type_of% (po344) ∧ type_of% (zt344) ∧ type_of% (@z344.eq_1) :=
  ⟨sz344, by344, ag344, sl344, ar344, pt344, un344, fl344_0, fl344_1, fs344, po344, zt344, @z344.eq_1⟩
theorem t364 : type_of% (sz364) ∧ type_of% (by364) ∧ type_of% (ag364) ∧ type_of% (sl364) ∧ type_of% (ar364) ∧ type_of% (pt364) ∧ type_of% (un364) ∧ type_of% (po364) ∧ type_of% (zt364) ∧ type_of% (@z364.eq_1) :=
  ⟨sz364, by364, ag364, sl364, ar364, pt364, un364, po364, zt364, @z364.eq_1⟩
theorem t367 : type_of% (sz367) ∧ type_of% (by367) ∧ type_of% (ag367) ∧ type_of% (sl367) ∧ type_of% (ar367) ∧ type_of% (pt367) ∧ type_of% (un367) ∧ type_of% (po367) ∧ type_of% (zt367) ∧ type_of% (@z367.eq_1) :=
  ⟨sz367, by367, ag367, sl367, ar367, pt367, un367, po367, zt367, @z367.eq_1⟩
theorem mo : cx.P.follows .mixedOrders = true := by kernel_rfl
end Go.Proofs.YtdkcobnhcpgpaaaGreat.T
