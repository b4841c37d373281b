/-
  The table of types of this seat, told lemma by lemma (written by gentypes.py out of the translation).
-/
import Derived.Test.YtnmnfhicgopdnaaGreatProg
import Derived.Test.YtnmnfhicgopdnaaGreatAL18
set_option linter.unusedSimpArgs false
set_option maxRecDepth 10000
namespace Go.Proofs.YtnmnfhicgopdnaaGreat.T
open Go Go.AL
theorem sz2 : tsz Tryz.prog 2 = some 1 := by kernel_rfl
theorem by2 : tby Tryz.prog 2 = some 8 := by kernel_rfl
theorem ag2 : tagg Tryz.prog 2 = some false := by kernel_rfl
theorem sl2 : tsl Tryz.prog 2 = none := by kernel_rfl
theorem ar2 : tarr Tryz.prog 2 = none := by kernel_rfl
theorem pt2 : tptr Tryz.prog 2 = none := by kernel_rfl
theorem in2 : tint Tryz.prog 2 = some .i64 := by kernel_rfl
theorem un2 : (Tryz.prog.underlying 2).isSome = true := by kernel_rfl
theorem po2 : tpos Tryz.prog 2 = true := by kernel_rfl
def z2 : AV := .val (.int .i64 0)
theorem zo2 : ZeroOK Tryz.prog 2 z2 := ZeroOK.mk (.int .i64 0) (by kernel_rfl) (by kernel_rfl) (by kernel_rfl) (by kernel_rfl)
theorem sz3 : tsz Tryz.prog 3 = some 1 := by kernel_rfl
theorem by3 : tby Tryz.prog 3 = some 8 := by kernel_rfl
theorem ag3 : tagg Tryz.prog 3 = some false := by kernel_rfl
theorem sl3 : tsl Tryz.prog 3 = none := by kernel_rfl
theorem ar3 : tarr Tryz.prog 3 = none := by kernel_rfl
theorem pt3 : tptr Tryz.prog 3 = none := by kernel_rfl
theorem in3 : tint Tryz.prog 3 = some .i64 := by kernel_rfl
theorem un3 : (Tryz.prog.underlying 3).isSome = true := by kernel_rfl
theorem po3 : tpos Tryz.prog 3 = true := by kernel_rfl
def z3 : AV := .val (.int .i64 0)
theorem zo3 : ZeroOK Tryz.prog 3 z3 := ZeroOK.mk (.int .i64 0) (by kernel_rfl) (by kernel_rfl) (by kernel_rfl) (by kernel_rfl)
theorem sz4 : tsz Tryz.prog 4 = some 1 := by kernel_rfl
theorem by4 : tby Tryz.prog 4 = some 1 := by kernel_rfl
theorem ag4 : tagg Tryz.prog 4 = some false := by kernel_rfl
theorem sl4 : tsl Tryz.prog 4 = none := by kernel_rfl
theorem ar4 : tarr Tryz.prog 4 = none := by kernel_rfl
theorem pt4 : tptr Tryz.prog 4 = none := by kernel_rfl
theorem un4 : (Tryz.prog.underlying 4).isSome = true := by kernel_rfl
theorem tb4 : tbool Tryz.prog 4 = some () := by kernel_rfl
theorem po4 : tpos Tryz.prog 4 = true := by kernel_rfl
def z4 : AV := .val (.bool false)
theorem zo4 : ZeroOK Tryz.prog 4 z4 := ZeroOK.mk (.bool false) (by kernel_rfl) (by kernel_rfl) (by kernel_rfl) (by kernel_rfl)
theorem sz5 : tsz Tryz.prog 5 = some 1 := by kernel_rfl
theorem by5 : tby Tryz.prog 5 = some 1 := by kernel_rfl
theorem ag5 : tagg Tryz.prog 5 = some false := by kernel_rfl
theorem sl5 : tsl Tryz.prog 5 = none := by kernel_rfl
theorem ar5 : tarr Tryz.prog 5 = none := by kernel_rfl
theorem pt5 : tptr Tryz.prog 5 = none := by kernel_rfl
theorem in5 : tint Tryz.prog 5 = some .u8 := by kernel_rfl
theorem un5 : (Tryz.prog.underlying 5).isSome = true := by kernel_rfl
theorem po5 : tpos Tryz.prog 5 = true := by kernel_rfl
def z5 : AV := .val (.int .u8 0)
theorem zo5 : ZeroOK Tryz.prog 5 z5 := ZeroOK.mk (.int .u8 0) (by kernel_rfl) (by kernel_rfl) (by kernel_rfl) (by kernel_rfl)
theorem sz22 : tsz Tryz.prog 22 = some 1 := by kernel_rfl
theorem by22 : tby Tryz.prog 22 = some 8 := by kernel_rfl
theorem ag22 : tagg Tryz.prog 22 = some false := by kernel_rfl
theorem sl22 : tsl Tryz.prog 22 = none := by kernel_rfl
theorem ar22 : tarr Tryz.prog 22 = none := by kernel_rfl
theorem pt22 : tptr Tryz.prog 22 = some 57 := by kernel_rfl
theorem un22 : (Tryz.prog.underlying 22).isSome = true := by kernel_rfl
theorem po22 : tpos Tryz.prog 22 = true := by kernel_rfl
def z22 : AV := .val (.pointer none)
theorem zo22 : ZeroOK Tryz.prog 22 z22 := ZeroOK.mk (.pointer none) (by kernel_rfl) (by kernel_rfl) (by kernel_rfl) (by kernel_rfl)
theorem sz23 : tsz Tryz.prog 23 = some 1 := by kernel_rfl
theorem by23 : tby Tryz.prog 23 = some 24 := by kernel_rfl
theorem ag23 : tagg Tryz.prog 23 = some false := by kernel_rfl
theorem sl23 : tsl Tryz.prog 23 = some 29 := by kernel_rfl
theorem ar23 : tarr Tryz.prog 23 = none := by kernel_rfl
theorem pt23 : tptr Tryz.prog 23 = none := by kernel_rfl
theorem un23 : (Tryz.prog.underlying 23).isSome = true := by kernel_rfl
theorem po23 : tpos Tryz.prog 23 = true := by kernel_rfl
def z23 : AV := .sl 32 [] 1
theorem zo23 : ZeroOK Tryz.prog 23 z23 := ZeroOK.mk (.slice none 0 0) (by kernel_rfl) (by kernel_rfl) (by kernel_rfl) (by kernel_rfl)
theorem sz24 : tsz Tryz.prog 24 = some 1 := by kernel_rfl
theorem by24 : tby Tryz.prog 24 = some 8 := by kernel_rfl
theorem ag24 : tagg Tryz.prog 24 = some false := by kernel_rfl
theorem sl24 : tsl Tryz.prog 24 = none := by kernel_rfl
theorem ar24 : tarr Tryz.prog 24 = none := by kernel_rfl
theorem pt24 : tptr Tryz.prog 24 = none := by kernel_rfl
theorem in24 : tint Tryz.prog 24 = some .i64 := by kernel_rfl
theorem un24 : (Tryz.prog.underlying 24).isSome = true := by kernel_rfl
theorem po24 : tpos Tryz.prog 24 = true := by kernel_rfl
def z24 : AV := .val (.int .i64 0)
theorem zo24 : ZeroOK Tryz.prog 24 z24 := ZeroOK.mk (.int .i64 0) (by kernel_rfl) (by kernel_rfl) (by kernel_rfl) (by kernel_rfl)
theorem sz29 : tsz Tryz.prog 29 = some 32 := by kernel_rfl
theorem by29 : tby Tryz.prog 29 = some 32 := by kernel_rfl
theorem ag29 : tagg Tryz.prog 29 = some true := by kernel_rfl
theorem sl29 : tsl Tryz.prog 29 = none := by kernel_rfl
theorem ar29 : tarr Tryz.prog 29 = some (32, 5) := by kernel_rfl
theorem pt29 : tptr Tryz.prog 29 = none := by kernel_rfl
theorem un29 : (Tryz.prog.underlying 29).isSome = true := by kernel_rfl
theorem po29 : tpos Tryz.prog 29 = true := by kernel_rfl
theorem tq29 : teq Tryz.prog 29 = true := by kernel_rfl
def z29 : AV := .vec 1 (List.replicate 32 (.val (.int .u8 0)))
theorem zo29 : ZeroOK Tryz.prog 29 z29 := ZeroOK.mk (.agg #[.int .u8 0, .int .u8 0, .int .u8 0, .int .u8 0, .int .u8 0, .int .u8 0, .int .u8 0, .int .u8 0, .int .u8 0, .int .u8 0, .int .u8 0, .int .u8 0, .int .u8 0, .int .u8 0, .int .u8 0, .int .u8 0, .int .u8 0, .int .u8 0, .int .u8 0, .int .u8 0, .int .u8 0, .int .u8 0, .int .u8 0, .int .u8 0, .int .u8 0, .int .u8 0, .int .u8 0, .int .u8 0, .int .u8 0, .int .u8 0, .int .u8 0, .int .u8 0]) (by kernel_rfl) (by kernel_rfl) (by kernel_rfl) (by kernel_rfl)
theorem sz31 : tsz Tryz.prog 31 = some 33 := by kernel_rfl
theorem by31 : tby Tryz.prog 31 = some 40 := by kernel_rfl
theorem ag31 : tagg Tryz.prog 31 = some true := by kernel_rfl
theorem sl31 : tsl Tryz.prog 31 = none := by kernel_rfl
theorem ar31 : tarr Tryz.prog 31 = none := by kernel_rfl
theorem pt31 : tptr Tryz.prog 31 = none := by kernel_rfl
theorem un31 : (Tryz.prog.underlying 31).isSome = true := by kernel_rfl
theorem fl31_0 : tfld Tryz.prog 31 0 = some (0, 29) := by kernel_rfl
theorem fl31_1 : tfld Tryz.prog 31 1 = some (32, 3) := by kernel_rfl
theorem fs31 : tflds Tryz.prog 31 = true := by kernel_rfl
theorem po31 : tpos Tryz.prog 31 = true := by kernel_rfl
theorem tq31 : teq Tryz.prog 31 = true := by kernel_rfl
theorem tc31 : tcmp Tryz.prog 31 = some [(0, 29), (32, 3)] := by kernel_rfl
def z31 : AV := .agg 33 [.vec 1 (List.replicate 32 (.val (.int .u8 0))), .val (.int .i64 0)]
theorem zo31 : ZeroOK Tryz.prog 31 z31 := ZeroOK.mk (.agg #[.int .u8 0, .int .u8 0, .int .u8 0, .int .u8 0, .int .u8 0, .int .u8 0, .int .u8 0, .int .u8 0, .int .u8 0, .int .u8 0, .int .u8 0, .int .u8 0, .int .u8 0, .int .u8 0, .int .u8 0, .int .u8 0, .int .u8 0, .int .u8 0, .int .u8 0, .int .u8 0, .int .u8 0, .int .u8 0, .int .u8 0, .int .u8 0, .int .u8 0, .int .u8 0, .int .u8 0, .int .u8 0, .int .u8 0, .int .u8 0, .int .u8 0, .int .u8 0, .int .i64 0]) (by kernel_rfl) (by kernel_rfl) (by kernel_rfl) (by kernel_rfl)
theorem sz32 : tsz Tryz.prog 32 = some 1 := by kernel_rfl
theorem by32 : tby Tryz.prog 32 = some 24 := by kernel_rfl
theorem ag32 : tagg Tryz.prog 32 = some false := by kernel_rfl
theorem sl32 : tsl Tryz.prog 32 = some 5 := by kernel_rfl
theorem ar32 : tarr Tryz.prog 32 = none := by kernel_rfl
theorem pt32 : tptr Tryz.prog 32 = none := by kernel_rfl
theorem un32 : (Tryz.prog.underlying 32).isSome = true := by kernel_rfl
theorem po32 : tpos Tryz.prog 32 = true := by kernel_rfl
def z32 : AV := .sl 1 [] 1
theorem zo32 : ZeroOK Tryz.prog 32 z32 := ZeroOK.mk (.slice none 0 0) (by kernel_rfl) (by kernel_rfl) (by kernel_rfl) (by kernel_rfl)
theorem sz34 : tsz Tryz.prog 34 = some 35 := by kernel_rfl
theorem by34 : tby Tryz.prog 34 = some 72 := by kernel_rfl
theorem ag34 : tagg Tryz.prog 34 = some true := by kernel_rfl
theorem sl34 : tsl Tryz.prog 34 = none := by kernel_rfl
theorem ar34 : tarr Tryz.prog 34 = none := by kernel_rfl
theorem pt34 : tptr Tryz.prog 34 = none := by kernel_rfl
theorem un34 : (Tryz.prog.underlying 34).isSome = true := by kernel_rfl
theorem fl34_0 : tfld Tryz.prog 34 0 = some (0, 31) := by kernel_rfl
theorem fl34_1 : tfld Tryz.prog 34 1 = some (33, 3) := by kernel_rfl
theorem fl34_2 : tfld Tryz.prog 34 2 = some (34, 32) := by kernel_rfl
theorem fs34 : tflds Tryz.prog 34 = true := by kernel_rfl
theorem po34 : tpos Tryz.prog 34 = true := by kernel_rfl
def z34 : AV := .agg 35 [.agg 33 [.vec 1 (List.replicate 32 (.val (.int .u8 0))), .val (.int .i64 0)], .val (.int .i64 0), .sl 1 [] 1]
theorem zo34 : ZeroOK Tryz.prog 34 z34 := ZeroOK.mk (.agg #[.int .u8 0, .int .u8 0, .int .u8 0, .int .u8 0, .int .u8 0, .int .u8 0, .int .u8 0, .int .u8 0, .int .u8 0, .int .u8 0, .int .u8 0, .int .u8 0, .int .u8 0, .int .u8 0, .int .u8 0, .int .u8 0, .int .u8 0, .int .u8 0, .int .u8 0, .int .u8 0, .int .u8 0, .int .u8 0, .int .u8 0, .int .u8 0, .int .u8 0, .int .u8 0, .int .u8 0, .int .u8 0, .int .u8 0, .int .u8 0, .int .u8 0, .int .u8 0, .int .i64 0, .int .i64 0, .slice none 0 0]) (by kernel_rfl) (by kernel_rfl) (by kernel_rfl) (by kernel_rfl)
theorem sz35 : tsz Tryz.prog 35 = some 1 := by kernel_rfl
theorem by35 : tby Tryz.prog 35 = some 24 := by kernel_rfl
theorem ag35 : tagg Tryz.prog 35 = some false := by kernel_rfl
theorem sl35 : tsl Tryz.prog 35 = some 34 := by kernel_rfl
theorem ar35 : tarr Tryz.prog 35 = none := by kernel_rfl
theorem pt35 : tptr Tryz.prog 35 = none := by kernel_rfl
theorem un35 : (Tryz.prog.underlying 35).isSome = true := by kernel_rfl
theorem po35 : tpos Tryz.prog 35 = true := by kernel_rfl
def z35 : AV := .sl 35 [] 1
theorem zo35 : ZeroOK Tryz.prog 35 z35 := ZeroOK.mk (.slice none 0 0) (by kernel_rfl) (by kernel_rfl) (by kernel_rfl) (by kernel_rfl)
theorem sz36 : tsz Tryz.prog 36 = some 1 := by kernel_rfl
theorem by36 : tby Tryz.prog 36 = some 24 := by kernel_rfl
theorem ag36 : tagg Tryz.prog 36 = some false := by kernel_rfl
theorem sl36 : tsl Tryz.prog 36 = some 99 := by kernel_rfl
theorem ar36 : tarr Tryz.prog 36 = none := by kernel_rfl
theorem pt36 : tptr Tryz.prog 36 = none := by kernel_rfl
theorem un36 : (Tryz.prog.underlying 36).isSome = true := by kernel_rfl
theorem po36 : tpos Tryz.prog 36 = true := by kernel_rfl
def z36 : AV := .sl 2 [] 1
theorem zo36 : ZeroOK Tryz.prog 36 z36 := ZeroOK.mk (.slice none 0 0) (by kernel_rfl) (by kernel_rfl) (by kernel_rfl) (by kernel_rfl)
theorem sz38 : tsz Tryz.prog 38 = some 37 := by kernel_rfl
theorem by38 : tby Tryz.prog 38 = some 88 := by kernel_rfl
theorem ag38 : tagg Tryz.prog 38 = some true := by kernel_rfl
theorem sl38 : tsl Tryz.prog 38 = none := by kernel_rfl
theorem ar38 : tarr Tryz.prog 38 = none := by kernel_rfl
theorem pt38 : tptr Tryz.prog 38 = none := by kernel_rfl
theorem un38 : (Tryz.prog.underlying 38).isSome = true := by kernel_rfl
theorem fl38_0 : tfld Tryz.prog 38 0 = some (0, 3) := by kernel_rfl
theorem fl38_1 : tfld Tryz.prog 38 1 = some (1, 3) := by kernel_rfl
theorem fl38_2 : tfld Tryz.prog 38 2 = some (2, 3) := by kernel_rfl
theorem fl38_3 : tfld Tryz.prog 38 3 = some (3, 2) := by kernel_rfl
theorem fl38_4 : tfld Tryz.prog 38 4 = some (4, 29) := by kernel_rfl
theorem fl38_5 : tfld Tryz.prog 38 5 = some (36, 32) := by kernel_rfl
theorem fs38 : tflds Tryz.prog 38 = true := by kernel_rfl
theorem po38 : tpos Tryz.prog 38 = true := by kernel_rfl
def z38 : AV := .agg 37 [.val (.int .i64 0), .val (.int .i64 0), .val (.int .i64 0), .val (.int .i64 0), .vec 1 (List.replicate 32 (.val (.int .u8 0))), .sl 1 [] 1]
theorem zo38 : ZeroOK Tryz.prog 38 z38 := ZeroOK.mk (.agg #[.int .i64 0, .int .i64 0, .int .i64 0, .int .i64 0, .int .u8 0, .int .u8 0, .int .u8 0, .int .u8 0, .int .u8 0, .int .u8 0, .int .u8 0, .int .u8 0, .int .u8 0, .int .u8 0, .int .u8 0, .int .u8 0, .int .u8 0, .int .u8 0, .int .u8 0, .int .u8 0, .int .u8 0, .int .u8 0, .int .u8 0, .int .u8 0, .int .u8 0, .int .u8 0, .int .u8 0, .int .u8 0, .int .u8 0, .int .u8 0, .int .u8 0, .int .u8 0, .int .u8 0, .int .u8 0, .int .u8 0, .int .u8 0, .slice none 0 0]) (by kernel_rfl) (by kernel_rfl) (by kernel_rfl) (by kernel_rfl)
theorem sz39 : tsz Tryz.prog 39 = some 1 := by kernel_rfl
theorem by39 : tby Tryz.prog 39 = some 24 := by kernel_rfl
theorem ag39 : tagg Tryz.prog 39 = some false := by kernel_rfl
theorem sl39 : tsl Tryz.prog 39 = some 95 := by kernel_rfl
theorem ar39 : tarr Tryz.prog 39 = none := by kernel_rfl
theorem pt39 : tptr Tryz.prog 39 = none := by kernel_rfl
theorem un39 : (Tryz.prog.underlying 39).isSome = true := by kernel_rfl
theorem po39 : tpos Tryz.prog 39 = true := by kernel_rfl
def z39 : AV := .sl 33 [] 1
theorem zo39 : ZeroOK Tryz.prog 39 z39 := ZeroOK.mk (.slice none 0 0) (by kernel_rfl) (by kernel_rfl) (by kernel_rfl) (by kernel_rfl)
theorem sz41 : tsz Tryz.prog 41 = some 40 := by kernel_rfl
theorem by41 : tby Tryz.prog 41 = some 160 := by kernel_rfl
theorem ag41 : tagg Tryz.prog 41 = some true := by kernel_rfl
theorem sl41 : tsl Tryz.prog 41 = none := by kernel_rfl
theorem ar41 : tarr Tryz.prog 41 = none := by kernel_rfl
theorem pt41 : tptr Tryz.prog 41 = none := by kernel_rfl
theorem un41 : (Tryz.prog.underlying 41).isSome = true := by kernel_rfl
theorem fl41_0 : tfld Tryz.prog 41 0 = some (0, 35) := by kernel_rfl
theorem fl41_1 : tfld Tryz.prog 41 1 = some (1, 36) := by kernel_rfl
theorem fl41_2 : tfld Tryz.prog 41 2 = some (2, 38) := by kernel_rfl
theorem fl41_3 : tfld Tryz.prog 41 3 = some (39, 39) := by kernel_rfl
theorem fs41 : tflds Tryz.prog 41 = true := by kernel_rfl
theorem po41 : tpos Tryz.prog 41 = true := by kernel_rfl
def z41 : AV := .agg 40 [.sl 35 [] 1, .sl 2 [] 1, .agg 37 [.val (.int .i64 0), .val (.int .i64 0), .val (.int .i64 0), .val (.int .i64 0), .vec 1 (List.replicate 32 (.val (.int .u8 0))), .sl 1 [] 1], .sl 33 [] 1]
theorem zo41 : ZeroOK Tryz.prog 41 z41 := ZeroOK.mk (.agg #[.slice none 0 0, .slice none 0 0, .int .i64 0, .int .i64 0, .int .i64 0, .int .i64 0, .int .u8 0, .int .u8 0, .int .u8 0, .int .u8 0, .int .u8 0, .int .u8 0, .int .u8 0, .int .u8 0, .int .u8 0, .int .u8 0, .int .u8 0, .int .u8 0, .int .u8 0, .int .u8 0, .int .u8 0, .int .u8 0, .int .u8 0, .int .u8 0, .int .u8 0, .int .u8 0, .int .u8 0, .int .u8 0, .int .u8 0, .int .u8 0, .int .u8 0, .int .u8 0, .int .u8 0, .int .u8 0, .int .u8 0, .int .u8 0, .int .u8 0, .int .u8 0, .slice none 0 0, .slice none 0 0]) (by kernel_rfl) (by kernel_rfl) (by kernel_rfl) (by kernel_rfl)
theorem sz43 : tsz Tryz.prog 43 = some 1 := by kernel_rfl
theorem by43 : tby Tryz.prog 43 = some 24 := by kernel_rfl
theorem ag43 : tagg Tryz.prog 43 = some false := by kernel_rfl
theorem sl43 : tsl Tryz.prog 43 = some 55 := by kernel_rfl
theorem ar43 : tarr Tryz.prog 43 = none := by kernel_rfl
theorem pt43 : tptr Tryz.prog 43 = none := by kernel_rfl
theorem un43 : (Tryz.prog.underlying 43).isSome = true := by kernel_rfl
theorem po43 : tpos Tryz.prog 43 = true := by kernel_rfl
def z43 : AV := .sl 41 [] 1
theorem zo43 : ZeroOK Tryz.prog 43 z43 := ZeroOK.mk (.slice none 0 0) (by kernel_rfl) (by kernel_rfl) (by kernel_rfl) (by kernel_rfl)
theorem sz45 : tsz Tryz.prog 45 = some 1 := by kernel_rfl
theorem by45 : tby Tryz.prog 45 = some 24 := by kernel_rfl
theorem ag45 : tagg Tryz.prog 45 = some false := by kernel_rfl
theorem sl45 : tsl Tryz.prog 45 = some 41 := by kernel_rfl
theorem ar45 : tarr Tryz.prog 45 = none := by kernel_rfl
theorem pt45 : tptr Tryz.prog 45 = none := by kernel_rfl
theorem un45 : (Tryz.prog.underlying 45).isSome = true := by kernel_rfl
theorem po45 : tpos Tryz.prog 45 = true := by kernel_rfl
def z45 : AV := .sl 40 [] 1
theorem zo45 : ZeroOK Tryz.prog 45 z45 := ZeroOK.mk (.slice none 0 0) (by kernel_rfl) (by kernel_rfl) (by kernel_rfl) (by kernel_rfl)
theorem sz50 : tsz Tryz.prog 50 = some 1 := by kernel_rfl
theorem by50 : tby Tryz.prog 50 = some 8 := by kernel_rfl
theorem ag50 : tagg Tryz.prog 50 = some false := by kernel_rfl
theorem sl50 : tsl Tryz.prog 50 = none := by kernel_rfl
theorem ar50 : tarr Tryz.prog 50 = none := by kernel_rfl
theorem pt50 : tptr Tryz.prog 50 = some 70 := by kernel_rfl
theorem un50 : (Tryz.prog.underlying 50).isSome = true := by kernel_rfl
theorem po50 : tpos Tryz.prog 50 = true := by kernel_rfl
def z50 : AV := .val (.pointer none)
theorem zo50 : ZeroOK Tryz.prog 50 z50 := ZeroOK.mk (.pointer none) (by kernel_rfl) (by kernel_rfl) (by kernel_rfl) (by kernel_rfl)
theorem sz51 : tsz Tryz.prog 51 = some 1 := by kernel_rfl
theorem by51 : tby Tryz.prog 51 = some 24 := by kernel_rfl
theorem ag51 : tagg Tryz.prog 51 = some false := by kernel_rfl
theorem sl51 : tsl Tryz.prog 51 = some 3 := by kernel_rfl
theorem ar51 : tarr Tryz.prog 51 = none := by kernel_rfl
theorem pt51 : tptr Tryz.prog 51 = none := by kernel_rfl
theorem un51 : (Tryz.prog.underlying 51).isSome = true := by kernel_rfl
theorem po51 : tpos Tryz.prog 51 = true := by kernel_rfl
def z51 : AV := .sl 1 [] 1
theorem zo51 : ZeroOK Tryz.prog 51 z51 := ZeroOK.mk (.slice none 0 0) (by kernel_rfl) (by kernel_rfl) (by kernel_rfl) (by kernel_rfl)
theorem sz55 : tsz Tryz.prog 55 = some 41 := by kernel_rfl
theorem by55 : tby Tryz.prog 55 = some 168 := by kernel_rfl
theorem ag55 : tagg Tryz.prog 55 = some true := by kernel_rfl
theorem sl55 : tsl Tryz.prog 55 = none := by kernel_rfl
theorem ar55 : tarr Tryz.prog 55 = none := by kernel_rfl
theorem pt55 : tptr Tryz.prog 55 = none := by kernel_rfl
theorem un55 : (Tryz.prog.underlying 55).isSome = true := by kernel_rfl
theorem fl55_0 : tfld Tryz.prog 55 0 = some (0, 41) := by kernel_rfl
theorem fl55_1 : tfld Tryz.prog 55 1 = some (40, 3) := by kernel_rfl
theorem fs55 : tflds Tryz.prog 55 = true := by kernel_rfl
theorem po55 : tpos Tryz.prog 55 = true := by kernel_rfl
def z55 : AV := .agg 41 [.agg 40 [.sl 35 [] 1, .sl 2 [] 1, .agg 37 [.val (.int .i64 0), .val (.int .i64 0), .val (.int .i64 0), .val (.int .i64 0), .vec 1 (List.replicate 32 (.val (.int .u8 0))), .sl 1 [] 1], .sl 33 [] 1], .val (.int .i64 0)]
theorem zo55 : ZeroOK Tryz.prog 55 z55 := ZeroOK.mk (.agg #[.slice none 0 0, .slice none 0 0, .int .i64 0, .int .i64 0, .int .i64 0, .int .i64 0, .int .u8 0, .int .u8 0, .int .u8 0, .int .u8 0, .int .u8 0, .int .u8 0, .int .u8 0, .int .u8 0, .int .u8 0, .int .u8 0, .int .u8 0, .int .u8 0, .int .u8 0, .int .u8 0, .int .u8 0, .int .u8 0, .int .u8 0, .int .u8 0, .int .u8 0, .int .u8 0, .int .u8 0, .int .u8 0, .int .u8 0, .int .u8 0, .int .u8 0, .int .u8 0, .int .u8 0, .int .u8 0, .int .u8 0, .int .u8 0, .int .u8 0, .int .u8 0, .slice none 0 0, .slice none 0 0, .int .i64 0]) (by kernel_rfl) (by kernel_rfl) (by kernel_rfl) (by kernel_rfl)
theorem sz57 : tsz Tryz.prog 57 = some 2 := by kernel_rfl
theorem by57 : tby Tryz.prog 57 = some 32 := by kernel_rfl
theorem ag57 : tagg Tryz.prog 57 = some true := by kernel_rfl
theorem sl57 : tsl Tryz.prog 57 = none := by kernel_rfl
theorem ar57 : tarr Tryz.prog 57 = none := by kernel_rfl
theorem pt57 : tptr Tryz.prog 57 = none := by kernel_rfl
theorem un57 : (Tryz.prog.underlying 57).isSome = true := by kernel_rfl
theorem fl57_0 : tfld Tryz.prog 57 0 = some (0, 43) := by kernel_rfl
theorem fl57_1 : tfld Tryz.prog 57 1 = some (1, 3) := by kernel_rfl
theorem fs57 : tflds Tryz.prog 57 = true := by kernel_rfl
theorem po57 : tpos Tryz.prog 57 = true := by kernel_rfl
def z57 : AV := .agg 2 [.sl 41 [] 1, .val (.int .i64 0)]
theorem zo57 : ZeroOK Tryz.prog 57 z57 := ZeroOK.mk (.agg #[.slice none 0 0, .int .i64 0]) (by kernel_rfl) (by kernel_rfl) (by kernel_rfl) (by kernel_rfl)
theorem sz60 : tsz Tryz.prog 60 = some 1 := by kernel_rfl
theorem by60 : tby Tryz.prog 60 = some 8 := by kernel_rfl
theorem ag60 : tagg Tryz.prog 60 = some false := by kernel_rfl
theorem sl60 : tsl Tryz.prog 60 = none := by kernel_rfl
theorem ar60 : tarr Tryz.prog 60 = none := by kernel_rfl
theorem pt60 : tptr Tryz.prog 60 = none := by kernel_rfl
theorem un60 : (Tryz.prog.underlying 60).isSome = true := by kernel_rfl
theorem po60 : tpos Tryz.prog 60 = true := by kernel_rfl
def z60 : AV := .val .nilFunc
theorem zo60 : ZeroOK Tryz.prog 60 z60 := ZeroOK.mk (.nilFunc) (by kernel_rfl) (by kernel_rfl) (by kernel_rfl) (by kernel_rfl)
theorem sz92 : tsz Tryz.prog 92 = some 1 := by kernel_rfl
theorem by92 : tby Tryz.prog 92 = some 8 := by kernel_rfl
theorem ag92 : tagg Tryz.prog 92 = some false := by kernel_rfl
theorem sl92 : tsl Tryz.prog 92 = none := by kernel_rfl
theorem ar92 : tarr Tryz.prog 92 = none := by kernel_rfl
theorem pt92 : tptr Tryz.prog 92 = none := by kernel_rfl
theorem un92 : (Tryz.prog.underlying 92).isSome = true := by kernel_rfl
theorem po92 : tpos Tryz.prog 92 = true := by kernel_rfl
def z92 : AV := .val .nilFunc
theorem zo92 : ZeroOK Tryz.prog 92 z92 := ZeroOK.mk (.nilFunc) (by kernel_rfl) (by kernel_rfl) (by kernel_rfl) (by kernel_rfl)
theorem sz95 : tsz Tryz.prog 95 = some 33 := by kernel_rfl
theorem by95 : tby Tryz.prog 95 = some 40 := by kernel_rfl
theorem ag95 : tagg Tryz.prog 95 = some true := by kernel_rfl
theorem sl95 : tsl Tryz.prog 95 = none := by kernel_rfl
theorem ar95 : tarr Tryz.prog 95 = none := by kernel_rfl
theorem pt95 : tptr Tryz.prog 95 = none := by kernel_rfl
theorem un95 : (Tryz.prog.underlying 95).isSome = true := by kernel_rfl
theorem fl95_0 : tfld Tryz.prog 95 0 = some (0, 3) := by kernel_rfl
theorem fl95_1 : tfld Tryz.prog 95 1 = some (1, 29) := by kernel_rfl
theorem fs95 : tflds Tryz.prog 95 = true := by kernel_rfl
theorem po95 : tpos Tryz.prog 95 = true := by kernel_rfl
theorem tq95 : teq Tryz.prog 95 = true := by kernel_rfl
theorem tc95 : tcmp Tryz.prog 95 = some [(0, 3), (1, 29)] := by kernel_rfl
def z95 : AV := .agg 33 [.val (.int .i64 0), .vec 1 (List.replicate 32 (.val (.int .u8 0)))]
theorem zo95 : ZeroOK Tryz.prog 95 z95 := ZeroOK.mk (.agg #[.int .i64 0, .int .u8 0, .int .u8 0, .int .u8 0, .int .u8 0, .int .u8 0, .int .u8 0, .int .u8 0, .int .u8 0, .int .u8 0, .int .u8 0, .int .u8 0, .int .u8 0, .int .u8 0, .int .u8 0, .int .u8 0, .int .u8 0, .int .u8 0, .int .u8 0, .int .u8 0, .int .u8 0, .int .u8 0, .int .u8 0, .int .u8 0, .int .u8 0, .int .u8 0, .int .u8 0, .int .u8 0, .int .u8 0, .int .u8 0, .int .u8 0, .int .u8 0, .int .u8 0]) (by kernel_rfl) (by kernel_rfl) (by kernel_rfl) (by kernel_rfl)
theorem sz97 : tsz Tryz.prog 97 = some 1 := by kernel_rfl
theorem by97 : tby Tryz.prog 97 = some 24 := by kernel_rfl
theorem ag97 : tagg Tryz.prog 97 = some false := by kernel_rfl
theorem sl97 : tsl Tryz.prog 97 = some 141 := by kernel_rfl
theorem ar97 : tarr Tryz.prog 97 = none := by kernel_rfl
theorem pt97 : tptr Tryz.prog 97 = none := by kernel_rfl
theorem un97 : (Tryz.prog.underlying 97).isSome = true := by kernel_rfl
theorem po97 : tpos Tryz.prog 97 = true := by kernel_rfl
def z97 : AV := .sl 35 [] 1
theorem zo97 : ZeroOK Tryz.prog 97 z97 := ZeroOK.mk (.slice none 0 0) (by kernel_rfl) (by kernel_rfl) (by kernel_rfl) (by kernel_rfl)
theorem sz99 : tsz Tryz.prog 99 = some 2 := by kernel_rfl
theorem by99 : tby Tryz.prog 99 = some 32 := by kernel_rfl
theorem ag99 : tagg Tryz.prog 99 = some true := by kernel_rfl
theorem sl99 : tsl Tryz.prog 99 = none := by kernel_rfl
theorem ar99 : tarr Tryz.prog 99 = none := by kernel_rfl
theorem pt99 : tptr Tryz.prog 99 = none := by kernel_rfl
theorem un99 : (Tryz.prog.underlying 99).isSome = true := by kernel_rfl
theorem fl99_0 : tfld Tryz.prog 99 0 = some (0, 2) := by kernel_rfl
theorem fl99_1 : tfld Tryz.prog 99 1 = some (1, 97) := by kernel_rfl
theorem fs99 : tflds Tryz.prog 99 = true := by kernel_rfl
theorem po99 : tpos Tryz.prog 99 = true := by kernel_rfl
def z99 : AV := .agg 2 [.val (.int .i64 0), .sl 35 [] 1]
theorem zo99 : ZeroOK Tryz.prog 99 z99 := ZeroOK.mk (.agg #[.int .i64 0, .slice none 0 0]) (by kernel_rfl) (by kernel_rfl) (by kernel_rfl) (by kernel_rfl)
theorem sz100 : tsz Tryz.prog 100 = some 1 := by kernel_rfl
theorem by100 : tby Tryz.prog 100 = some 8 := by kernel_rfl
theorem ag100 : tagg Tryz.prog 100 = some false := by kernel_rfl
theorem sl100 : tsl Tryz.prog 100 = none := by kernel_rfl
theorem ar100 : tarr Tryz.prog 100 = none := by kernel_rfl
theorem pt100 : tptr Tryz.prog 100 = none := by kernel_rfl
theorem un100 : (Tryz.prog.underlying 100).isSome = true := by kernel_rfl
theorem po100 : tpos Tryz.prog 100 = true := by kernel_rfl
def z100 : AV := .val .nilFunc
theorem zo100 : ZeroOK Tryz.prog 100 z100 := ZeroOK.mk (.nilFunc) (by kernel_rfl) (by kernel_rfl) (by kernel_rfl) (by kernel_rfl)
theorem sz127 : tsz Tryz.prog 127 = some 1 := by kernel_rfl
theorem by127 : tby Tryz.prog 127 = some 24 := by kernel_rfl
theorem ag127 : tagg Tryz.prog 127 = some true := by kernel_rfl
theorem sl127 : tsl Tryz.prog 127 = none := by kernel_rfl
theorem ar127 : tarr Tryz.prog 127 = none := by kernel_rfl
theorem pt127 : tptr Tryz.prog 127 = none := by kernel_rfl
theorem un127 : (Tryz.prog.underlying 127).isSome = true := by kernel_rfl
theorem fl127_0 : tfld Tryz.prog 127 0 = some (0, 32) := by kernel_rfl
theorem fs127 : tflds Tryz.prog 127 = true := by kernel_rfl
theorem po127 : tpos Tryz.prog 127 = true := by kernel_rfl
def z127 : AV := .agg 1 [.sl 1 [] 1]
theorem zo127 : ZeroOK Tryz.prog 127 z127 := ZeroOK.mk (.agg #[.slice none 0 0]) (by kernel_rfl) (by kernel_rfl) (by kernel_rfl) (by kernel_rfl)
theorem sz129 : tsz Tryz.prog 129 = some 1 := by kernel_rfl
theorem by129 : tby Tryz.prog 129 = some 8 := by kernel_rfl
theorem ag129 : tagg Tryz.prog 129 = some false := by kernel_rfl
theorem sl129 : tsl Tryz.prog 129 = none := by kernel_rfl
theorem ar129 : tarr Tryz.prog 129 = none := by kernel_rfl
theorem pt129 : tptr Tryz.prog 129 = some 127 := by kernel_rfl
theorem un129 : (Tryz.prog.underlying 129).isSome = true := by kernel_rfl
theorem po129 : tpos Tryz.prog 129 = true := by kernel_rfl
def z129 : AV := .val (.pointer none)
theorem zo129 : ZeroOK Tryz.prog 129 z129 := ZeroOK.mk (.pointer none) (by kernel_rfl) (by kernel_rfl) (by kernel_rfl) (by kernel_rfl)
theorem sz141 : tsz Tryz.prog 141 = some 35 := by kernel_rfl
theorem by141 : tby Tryz.prog 141 = some 72 := by kernel_rfl
theorem ag141 : tagg Tryz.prog 141 = some true := by kernel_rfl
theorem sl141 : tsl Tryz.prog 141 = none := by kernel_rfl
theorem ar141 : tarr Tryz.prog 141 = none := by kernel_rfl
theorem pt141 : tptr Tryz.prog 141 = none := by kernel_rfl
theorem un141 : (Tryz.prog.underlying 141).isSome = true := by kernel_rfl
theorem fl141_0 : tfld Tryz.prog 141 0 = some (0, 51) := by kernel_rfl
theorem fl141_1 : tfld Tryz.prog 141 1 = some (1, 29) := by kernel_rfl
theorem fl141_2 : tfld Tryz.prog 141 2 = some (33, 3) := by kernel_rfl
theorem fl141_3 : tfld Tryz.prog 141 3 = some (34, 3) := by kernel_rfl
theorem fs141 : tflds Tryz.prog 141 = true := by kernel_rfl
theorem po141 : tpos Tryz.prog 141 = true := by kernel_rfl
def z141 : AV := .agg 35 [.sl 1 [] 1, .vec 1 (List.replicate 32 (.val (.int .u8 0))), .val (.int .i64 0), .val (.int .i64 0)]
theorem zo141 : ZeroOK Tryz.prog 141 z141 := ZeroOK.mk (.agg #[.slice none 0 0, .int .u8 0, .int .u8 0, .int .u8 0, .int .u8 0, .int .u8 0, .int .u8 0, .int .u8 0, .int .u8 0, .int .u8 0, .int .u8 0, .int .u8 0, .int .u8 0, .int .u8 0, .int .u8 0, .int .u8 0, .int .u8 0, .int .u8 0, .int .u8 0, .int .u8 0, .int .u8 0, .int .u8 0, .int .u8 0, .int .u8 0, .int .u8 0, .int .u8 0, .int .u8 0, .int .u8 0, .int .u8 0, .int .u8 0, .int .u8 0, .int .u8 0, .int .u8 0, .int .i64 0, .int .i64 0]) (by kernel_rfl) (by kernel_rfl) (by kernel_rfl) (by kernel_rfl)
theorem sz142 : tsz Tryz.prog 142 = some 1 := by kernel_rfl
theorem by142 : tby Tryz.prog 142 = some 8 := by kernel_rfl
theorem ag142 : tagg Tryz.prog 142 = some false := by kernel_rfl
theorem sl142 : tsl Tryz.prog 142 = none := by kernel_rfl
theorem ar142 : tarr Tryz.prog 142 = none := by kernel_rfl
theorem pt142 : tptr Tryz.prog 142 = none := by kernel_rfl
theorem un142 : (Tryz.prog.underlying 142).isSome = true := by kernel_rfl
theorem po142 : tpos Tryz.prog 142 = true := by kernel_rfl
def z142 : AV := .val .nilFunc
theorem zo142 : ZeroOK Tryz.prog 142 z142 := ZeroOK.mk (.nilFunc) (by kernel_rfl) (by kernel_rfl) (by kernel_rfl) (by kernel_rfl)
theorem sz158 : tsz Tryz.prog 158 = some 39 := by kernel_rfl
theorem by158 : tby Tryz.prog 158 = some 88 := by kernel_rfl
theorem ag158 : tagg Tryz.prog 158 = some true := by kernel_rfl
theorem sl158 : tsl Tryz.prog 158 = none := by kernel_rfl
theorem ar158 : tarr Tryz.prog 158 = none := by kernel_rfl
theorem pt158 : tptr Tryz.prog 158 = none := by kernel_rfl
theorem un158 : (Tryz.prog.underlying 158).isSome = true := by kernel_rfl
theorem fl158_0 : tfld Tryz.prog 158 0 = some (0, 3) := by kernel_rfl
theorem fl158_1 : tfld Tryz.prog 158 1 = some (1, 3) := by kernel_rfl
theorem fl158_2 : tfld Tryz.prog 158 2 = some (2, 3) := by kernel_rfl
theorem fl158_3 : tfld Tryz.prog 158 3 = some (3, 31) := by kernel_rfl
theorem fl158_4 : tfld Tryz.prog 158 4 = some (36, 2) := by kernel_rfl
theorem fl158_5 : tfld Tryz.prog 158 5 = some (37, 3) := by kernel_rfl
theorem fl158_6 : tfld Tryz.prog 158 6 = some (38, 3) := by kernel_rfl
theorem fs158 : tflds Tryz.prog 158 = true := by kernel_rfl
theorem po158 : tpos Tryz.prog 158 = true := by kernel_rfl
theorem tq158 : teq Tryz.prog 158 = true := by kernel_rfl
theorem tc158 : tcmp Tryz.prog 158 = some [(0, 3), (1, 3), (2, 3), (3, 31), (36, 2), (37, 3), (38, 3)] := by kernel_rfl
def z158 : AV := .agg 39 [.val (.int .i64 0), .val (.int .i64 0), .val (.int .i64 0), .agg 33 [.vec 1 (List.replicate 32 (.val (.int .u8 0))), .val (.int .i64 0)], .val (.int .i64 0), .val (.int .i64 0), .val (.int .i64 0)]
theorem zo158 : ZeroOK Tryz.prog 158 z158 := ZeroOK.mk (.agg #[.int .i64 0, .int .i64 0, .int .i64 0, .int .u8 0, .int .u8 0, .int .u8 0, .int .u8 0, .int .u8 0, .int .u8 0, .int .u8 0, .int .u8 0, .int .u8 0, .int .u8 0, .int .u8 0, .int .u8 0, .int .u8 0, .int .u8 0, .int .u8 0, .int .u8 0, .int .u8 0, .int .u8 0, .int .u8 0, .int .u8 0, .int .u8 0, .int .u8 0, .int .u8 0, .int .u8 0, .int .u8 0, .int .u8 0, .int .u8 0, .int .u8 0, .int .u8 0, .int .u8 0, .int .u8 0, .int .u8 0, .int .i64 0, .int .i64 0, .int .i64 0, .int .i64 0]) (by kernel_rfl) (by kernel_rfl) (by kernel_rfl) (by kernel_rfl)
theorem sz184 : tsz Tryz.prog 184 = some 1 := by kernel_rfl
theorem by184 : tby Tryz.prog 184 = some 24 := by kernel_rfl
theorem ag184 : tagg Tryz.prog 184 = some false := by kernel_rfl
theorem sl184 : tsl Tryz.prog 184 = some 32 := by kernel_rfl
theorem ar184 : tarr Tryz.prog 184 = none := by kernel_rfl
theorem pt184 : tptr Tryz.prog 184 = none := by kernel_rfl
theorem un184 : (Tryz.prog.underlying 184).isSome = true := by kernel_rfl
theorem po184 : tpos Tryz.prog 184 = true := by kernel_rfl
def z184 : AV := .sl 1 [] 1
theorem zo184 : ZeroOK Tryz.prog 184 z184 := ZeroOK.mk (.slice none 0 0) (by kernel_rfl) (by kernel_rfl) (by kernel_rfl) (by kernel_rfl)
theorem sz185 : tsz Tryz.prog 185 = some 1 := by kernel_rfl
theorem by185 : tby Tryz.prog 185 = some 8 := by kernel_rfl
theorem ag185 : tagg Tryz.prog 185 = some false := by kernel_rfl
theorem sl185 : tsl Tryz.prog 185 = none := by kernel_rfl
theorem ar185 : tarr Tryz.prog 185 = none := by kernel_rfl
theorem pt185 : tptr Tryz.prog 185 = none := by kernel_rfl
theorem in185 : tint Tryz.prog 185 = some .u64 := by kernel_rfl
theorem un185 : (Tryz.prog.underlying 185).isSome = true := by kernel_rfl
theorem po185 : tpos Tryz.prog 185 = true := by kernel_rfl
def z185 : AV := .val (.int .u64 0)
theorem zo185 : ZeroOK Tryz.prog 185 z185 := ZeroOK.mk (.int .u64 0) (by kernel_rfl) (by kernel_rfl) (by kernel_rfl) (by kernel_rfl)
theorem sz188 : tsz Tryz.prog 188 = some 1 := by kernel_rfl
theorem by188 : tby Tryz.prog 188 = some 8 := by kernel_rfl
theorem ag188 : tagg Tryz.prog 188 = some false := by kernel_rfl
theorem sl188 : tsl Tryz.prog 188 = none := by kernel_rfl
theorem ar188 : tarr Tryz.prog 188 = none := by kernel_rfl
theorem pt188 : tptr Tryz.prog 188 = none := by kernel_rfl
theorem in188 : tint Tryz.prog 188 = some .u64 := by kernel_rfl
theorem un188 : (Tryz.prog.underlying 188).isSome = true := by kernel_rfl
theorem po188 : tpos Tryz.prog 188 = true := by kernel_rfl
def z188 : AV := .val (.int .u64 0)
theorem zo188 : ZeroOK Tryz.prog 188 z188 := ZeroOK.mk (.int .u64 0) (by kernel_rfl) (by kernel_rfl) (by kernel_rfl) (by kernel_rfl)
theorem sz192 : tsz Tryz.prog 192 = some 1 := by kernel_rfl
theorem by192 : tby Tryz.prog 192 = some 8 := by kernel_rfl
theorem ag192 : tagg Tryz.prog 192 = some false := by kernel_rfl
theorem sl192 : tsl Tryz.prog 192 = none := by kernel_rfl
theorem ar192 : tarr Tryz.prog 192 = none := by kernel_rfl
theorem pt192 : tptr Tryz.prog 192 = some 225 := by kernel_rfl
theorem un192 : (Tryz.prog.underlying 192).isSome = true := by kernel_rfl
theorem po192 : tpos Tryz.prog 192 = true := by kernel_rfl
def z192 : AV := .val (.pointer none)
theorem zo192 : ZeroOK Tryz.prog 192 z192 := ZeroOK.mk (.pointer none) (by kernel_rfl) (by kernel_rfl) (by kernel_rfl) (by kernel_rfl)
theorem sz199 : tsz Tryz.prog 199 = some 67 := by kernel_rfl
theorem by199 : tby Tryz.prog 199 = some 88 := by kernel_rfl
theorem ag199 : tagg Tryz.prog 199 = some true := by kernel_rfl
theorem sl199 : tsl Tryz.prog 199 = none := by kernel_rfl
theorem ar199 : tarr Tryz.prog 199 = none := by kernel_rfl
theorem pt199 : tptr Tryz.prog 199 = none := by kernel_rfl
theorem un199 : (Tryz.prog.underlying 199).isSome = true := by kernel_rfl
theorem fl199_0 : tfld Tryz.prog 199 0 = some (0, 3) := by kernel_rfl
theorem fl199_1 : tfld Tryz.prog 199 1 = some (1, 3) := by kernel_rfl
theorem fl199_2 : tfld Tryz.prog 199 2 = some (2, 3) := by kernel_rfl
theorem fl199_3 : tfld Tryz.prog 199 3 = some (3, 29) := by kernel_rfl
theorem fl199_4 : tfld Tryz.prog 199 4 = some (35, 29) := by kernel_rfl
theorem fs199 : tflds Tryz.prog 199 = true := by kernel_rfl
theorem po199 : tpos Tryz.prog 199 = true := by kernel_rfl
theorem tq199 : teq Tryz.prog 199 = true := by kernel_rfl
theorem tc199 : tcmp Tryz.prog 199 = some [(0, 3), (1, 3), (2, 3), (3, 29), (35, 29)] := by kernel_rfl
def z199 : AV := .agg 67 [.val (.int .i64 0), .val (.int .i64 0), .val (.int .i64 0), .vec 1 (List.replicate 32 (.val (.int .u8 0))), .vec 1 (List.replicate 32 (.val (.int .u8 0)))]
theorem zo199 : ZeroOK Tryz.prog 199 z199 := ZeroOK.mk (.agg #[.int .i64 0, .int .i64 0, .int .i64 0, .int .u8 0, .int .u8 0, .int .u8 0, .int .u8 0, .int .u8 0, .int .u8 0, .int .u8 0, .int .u8 0, .int .u8 0, .int .u8 0, .int .u8 0, .int .u8 0, .int .u8 0, .int .u8 0, .int .u8 0, .int .u8 0, .int .u8 0, .int .u8 0, .int .u8 0, .int .u8 0, .int .u8 0, .int .u8 0, .int .u8 0, .int .u8 0, .int .u8 0, .int .u8 0, .int .u8 0, .int .u8 0, .int .u8 0, .int .u8 0, .int .u8 0, .int .u8 0, .int .u8 0, .int .u8 0, .int .u8 0, .int .u8 0, .int .u8 0, .int .u8 0, .int .u8 0, .int .u8 0, .int .u8 0, .int .u8 0, .int .u8 0, .int .u8 0, .int .u8 0, .int .u8 0, .int .u8 0, .int .u8 0, .int .u8 0, .int .u8 0, .int .u8 0, .int .u8 0, .int .u8 0, .int .u8 0, .int .u8 0, .int .u8 0, .int .u8 0, .int .u8 0, .int .u8 0, .int .u8 0, .int .u8 0, .int .u8 0, .int .u8 0, .int .u8 0]) (by kernel_rfl) (by kernel_rfl) (by kernel_rfl) (by kernel_rfl)
theorem sz213 : tsz Tryz.prog 213 = some 1 := by kernel_rfl
theorem by213 : tby Tryz.prog 213 = some 4 := by kernel_rfl
theorem ag213 : tagg Tryz.prog 213 = some false := by kernel_rfl
theorem sl213 : tsl Tryz.prog 213 = none := by kernel_rfl
theorem ar213 : tarr Tryz.prog 213 = none := by kernel_rfl
theorem pt213 : tptr Tryz.prog 213 = none := by kernel_rfl
theorem in213 : tint Tryz.prog 213 = some .u32 := by kernel_rfl
theorem un213 : (Tryz.prog.underlying 213).isSome = true := by kernel_rfl
theorem po213 : tpos Tryz.prog 213 = true := by kernel_rfl
def z213 : AV := .val (.int .u32 0)
theorem zo213 : ZeroOK Tryz.prog 213 z213 := ZeroOK.mk (.int .u32 0) (by kernel_rfl) (by kernel_rfl) (by kernel_rfl) (by kernel_rfl)
theorem sz215 : tsz Tryz.prog 215 = some 8 := by kernel_rfl
theorem by215 : tby Tryz.prog 215 = some 32 := by kernel_rfl
theorem ag215 : tagg Tryz.prog 215 = some true := by kernel_rfl
theorem sl215 : tsl Tryz.prog 215 = none := by kernel_rfl
theorem ar215 : tarr Tryz.prog 215 = some (8, 213) := by kernel_rfl
theorem pt215 : tptr Tryz.prog 215 = none := by kernel_rfl
theorem un215 : (Tryz.prog.underlying 215).isSome = true := by kernel_rfl
theorem po215 : tpos Tryz.prog 215 = true := by kernel_rfl
theorem tq215 : teq Tryz.prog 215 = true := by kernel_rfl
def z215 : AV := .vec 1 (List.replicate 8 (.val (.int .u32 0)))
theorem zo215 : ZeroOK Tryz.prog 215 z215 := ZeroOK.mk (.agg #[.int .u32 0, .int .u32 0, .int .u32 0, .int .u32 0, .int .u32 0, .int .u32 0, .int .u32 0, .int .u32 0]) (by kernel_rfl) (by kernel_rfl) (by kernel_rfl) (by kernel_rfl)
theorem sz217 : tsz Tryz.prog 217 = some 64 := by kernel_rfl
theorem by217 : tby Tryz.prog 217 = some 256 := by kernel_rfl
theorem ag217 : tagg Tryz.prog 217 = some true := by kernel_rfl
theorem sl217 : tsl Tryz.prog 217 = none := by kernel_rfl
theorem ar217 : tarr Tryz.prog 217 = some (64, 213) := by kernel_rfl
theorem pt217 : tptr Tryz.prog 217 = none := by kernel_rfl
theorem un217 : (Tryz.prog.underlying 217).isSome = true := by kernel_rfl
theorem po217 : tpos Tryz.prog 217 = true := by kernel_rfl
theorem tq217 : teq Tryz.prog 217 = true := by kernel_rfl
def z217 : AV := .vec 1 (List.replicate 64 (.val (.int .u32 0)))
theorem zo217 : ZeroOK Tryz.prog 217 z217 := ZeroOK.mk (.agg #[.int .u32 0, .int .u32 0, .int .u32 0, .int .u32 0, .int .u32 0, .int .u32 0, .int .u32 0, .int .u32 0, .int .u32 0, .int .u32 0, .int .u32 0, .int .u32 0, .int .u32 0, .int .u32 0, .int .u32 0, .int .u32 0, .int .u32 0, .int .u32 0, .int .u32 0, .int .u32 0, .int .u32 0, .int .u32 0, .int .u32 0, .int .u32 0, .int .u32 0, .int .u32 0, .int .u32 0, .int .u32 0, .int .u32 0, .int .u32 0, .int .u32 0, .int .u32 0, .int .u32 0, .int .u32 0, .int .u32 0, .int .u32 0, .int .u32 0, .int .u32 0, .int .u32 0, .int .u32 0, .int .u32 0, .int .u32 0, .int .u32 0, .int .u32 0, .int .u32 0, .int .u32 0, .int .u32 0, .int .u32 0, .int .u32 0, .int .u32 0, .int .u32 0, .int .u32 0, .int .u32 0, .int .u32 0, .int .u32 0, .int .u32 0, .int .u32 0, .int .u32 0, .int .u32 0, .int .u32 0, .int .u32 0, .int .u32 0, .int .u32 0, .int .u32 0]) (by kernel_rfl) (by kernel_rfl) (by kernel_rfl) (by kernel_rfl)
theorem sz221 : tsz Tryz.prog 221 = some 1 := by kernel_rfl
theorem by221 : tby Tryz.prog 221 = some 8 := by kernel_rfl
theorem ag221 : tagg Tryz.prog 221 = some false := by kernel_rfl
theorem sl221 : tsl Tryz.prog 221 = none := by kernel_rfl
theorem ar221 : tarr Tryz.prog 221 = none := by kernel_rfl
theorem pt221 : tptr Tryz.prog 221 = some 217 := by kernel_rfl
theorem un221 : (Tryz.prog.underlying 221).isSome = true := by kernel_rfl
theorem po221 : tpos Tryz.prog 221 = true := by kernel_rfl
def z221 : AV := .val (.pointer none)
theorem zo221 : ZeroOK Tryz.prog 221 z221 := ZeroOK.mk (.pointer none) (by kernel_rfl) (by kernel_rfl) (by kernel_rfl) (by kernel_rfl)
theorem sz225 : tsz Tryz.prog 225 = some 2 := by kernel_rfl
theorem by225 : tby Tryz.prog 225 = some 32 := by kernel_rfl
theorem ag225 : tagg Tryz.prog 225 = some true := by kernel_rfl
theorem sl225 : tsl Tryz.prog 225 = none := by kernel_rfl
theorem ar225 : tarr Tryz.prog 225 = none := by kernel_rfl
theorem pt225 : tptr Tryz.prog 225 = none := by kernel_rfl
theorem un225 : (Tryz.prog.underlying 225).isSome = true := by kernel_rfl
theorem fl225_0 : tfld Tryz.prog 225 0 = some (0, 32) := by kernel_rfl
theorem fl225_1 : tfld Tryz.prog 225 1 = some (1, 24) := by kernel_rfl
theorem fs225 : tflds Tryz.prog 225 = true := by kernel_rfl
theorem po225 : tpos Tryz.prog 225 = true := by kernel_rfl
def z225 : AV := .agg 2 [.sl 1 [] 1, .val (.int .i64 0)]
theorem zo225 : ZeroOK Tryz.prog 225 z225 := ZeroOK.mk (.agg #[.slice none 0 0, .int .i64 0]) (by kernel_rfl) (by kernel_rfl) (by kernel_rfl) (by kernel_rfl)
theorem sz239 : tsz Tryz.prog 239 = some 1 := by kernel_rfl
theorem by239 : tby Tryz.prog 239 = some 8 := by kernel_rfl
theorem ag239 : tagg Tryz.prog 239 = some false := by kernel_rfl
theorem sl239 : tsl Tryz.prog 239 = none := by kernel_rfl
theorem ar239 : tarr Tryz.prog 239 = none := by kernel_rfl
theorem pt239 : tptr Tryz.prog 239 = some 215 := by kernel_rfl
theorem un239 : (Tryz.prog.underlying 239).isSome = true := by kernel_rfl
theorem po239 : tpos Tryz.prog 239 = true := by kernel_rfl
def z239 : AV := .val (.pointer none)
theorem zo239 : ZeroOK Tryz.prog 239 z239 := ZeroOK.mk (.pointer none) (by kernel_rfl) (by kernel_rfl) (by kernel_rfl) (by kernel_rfl)
theorem sz242 : tsz Tryz.prog 242 = some 1 := by kernel_rfl
theorem by242 : tby Tryz.prog 242 = some 24 := by kernel_rfl
theorem ag242 : tagg Tryz.prog 242 = some false := by kernel_rfl
theorem sl242 : tsl Tryz.prog 242 = some 213 := by kernel_rfl
theorem ar242 : tarr Tryz.prog 242 = none := by kernel_rfl
theorem pt242 : tptr Tryz.prog 242 = none := by kernel_rfl
theorem un242 : (Tryz.prog.underlying 242).isSome = true := by kernel_rfl
theorem po242 : tpos Tryz.prog 242 = true := by kernel_rfl
def z242 : AV := .sl 1 [] 1
theorem zo242 : ZeroOK Tryz.prog 242 z242 := ZeroOK.mk (.slice none 0 0) (by kernel_rfl) (by kernel_rfl) (by kernel_rfl) (by kernel_rfl)
def zl : List (Nat × AV) := [(2, z2), (3, z3), (4, z4), (5, z5), (22, z22), (23, z23), (24, z24), (29, z29), (31, z31), (32, z32), (34, z34), (35, z35), (36, z36), (38, z38), (39, z39), (41, z41), (43, z43), (45, z45), (50, z50), (51, z51), (55, z55), (57, z57), (60, z60), (92, z92), (95, z95), (97, z97), (99, z99), (100, z100), (127, z127), (129, z129), (141, z141), (142, z142), (158, z158), (184, z184), (185, z185), (188, z188), (192, z192), (199, z199), (213, z213), (215, z215), (217, z217), (221, z221), (225, z225), (239, z239), (242, z242)]
theorem zl_ok : zAll Tryz.prog zl := ⟨zo2, zo3, zo4, zo5, zo22, zo23, zo24, zo29, zo31, zo32, zo34, zo35, zo36, zo38, zo39, zo41, zo43, zo45, zo50, zo51, zo55, zo57, zo60, zo92, zo95, zo97, zo99, zo100, zo127, zo129, zo141, zo142, zo158, zo184, zo185, zo188, zo192, zo199, zo213, zo215, zo217, zo221, zo225, zo239, zo242, trivial⟩
/-- the program, its zero values -/
noncomputable def cx : Cx := ⟨Tryz.prog, zLook zl, zLook_ok zl_ok⟩
theorem cxP : cx.P = Tryz.prog := rfl
theorem zt2 : cx.zt 2 = some z2 := by kernel_rfl
theorem zt3 : cx.zt 3 = some z3 := by kernel_rfl
theorem zt4 : cx.zt 4 = some z4 := by kernel_rfl
theorem zt5 : cx.zt 5 = some z5 := by kernel_rfl
theorem zt22 : cx.zt 22 = some z22 := by kernel_rfl
theorem zt23 : cx.zt 23 = some z23 := by kernel_rfl
theorem zt24 : cx.zt 24 = some z24 := by kernel_rfl
theorem zt29 : cx.zt 29 = some z29 := by kernel_rfl
theorem zt31 : cx.zt 31 = some z31 := by kernel_rfl
theorem zt32 : cx.zt 32 = some z32 := by kernel_rfl
theorem zt34 : cx.zt 34 = some z34 := by kernel_rfl
theorem zt35 : cx.zt 35 = some z35 := by kernel_rfl
theorem zt36 : cx.zt 36 = some z36 := by kernel_rfl
theorem zt38 : cx.zt 38 = some z38 := by kernel_rfl
theorem zt39 : cx.zt 39 = some z39 := by kernel_rfl
theorem zt41 : cx.zt 41 = some z41 := by kernel_rfl
theorem zt43 : cx.zt 43 = some z43 := by kernel_rfl
theorem zt45 : cx.zt 45 = some z45 := by kernel_rfl
theorem zt50 : cx.zt 50 = some z50 := by kernel_rfl
theorem zt51 : cx.zt 51 = some z51 := by kernel_rfl
theorem zt55 : cx.zt 55 = some z55 := by kernel_rfl
theorem zt57 : cx.zt 57 = some z57 := by kernel_rfl
theorem zt60 : cx.zt 60 = some z60 := by kernel_rfl
theorem zt92 : cx.zt 92 = some z92 := by kernel_rfl
theorem zt95 : cx.zt 95 = some z95 := by kernel_rfl
theorem zt97 : cx.zt 97 = some z97 := by kernel_rfl
theorem zt99 : cx.zt 99 = some z99 := by kernel_rfl
theorem zt100 : cx.zt 100 = some z100 := by kernel_rfl
theorem zt127 : cx.zt 127 = some z127 := by kernel_rfl
theorem zt129 : cx.zt 129 = some z129 := by kernel_rfl
theorem zt141 : cx.zt 141 = some z141 := by kernel_rfl
theorem zt142 : cx.zt 142 = some z142 := by kernel_rfl
theorem zt158 : cx.zt 158 = some z158 := by kernel_rfl
theorem zt184 : cx.zt 184 = some z184 := by kernel_rfl
theorem zt185 : cx.zt 185 = some z185 := by kernel_rfl
theorem zt188 : cx.zt 188 = some z188 := by kernel_rfl
theorem zt192 : cx.zt 192 = some z192 := by kernel_rfl
theorem zt199 : cx.zt 199 = some z199 := by kernel_rfl
theorem zt213 : cx.zt 213 = some z213 := by kernel_rfl
theorem zt215 : cx.zt 215 = some z215 := by kernel_rfl
theorem zt217 : cx.zt 217 = some z217 := by kernel_rfl
theorem zt221 : cx.zt 221 = some z221 := by kernel_rfl
theorem zt225 : cx.zt 225 = some z225 := by kernel_rfl
theorem zt239 : cx.zt 239 = some z239 := by kernel_rfl
theorem zt242 : cx.zt 242 = some z242 := by kernel_rfl
theorem t2 : type_of% (sz2) ∧ type_of% (by2) ∧ type_of% (ag2) ∧ type_of% (sl2) ∧ type_of% (ar2) ∧ type_of% (pt2) ∧ type_of% (in2) ∧ type_of% (un2) ∧ type_of% (po2) ∧ type_of% (zt2) ∧ type_of% (@z2.eq_1) :=
  ⟨sz2, by2, ag2, sl2, ar2, pt2, in2, un2, po2, zt2, @z2.eq_1⟩
theorem t3 : type_of% (sz3) ∧ type_of% (by3) ∧ type_of% (ag3) ∧ type_of% (sl3) ∧ type_of% (ar3) ∧ type_of% (pt3) ∧ type_of% (in3) ∧ type_of% (un3) ∧ type_of% (po3) ∧ type_of% (zt3) ∧ type_of% (@z3.eq_1) :=
  ⟨sz3, by3, ag3, sl3, ar3, pt3, in3, un3, po3, zt3, @z3.eq_1⟩
theorem t4 : type_of% (sz4) ∧ type_of% (by4) ∧ type_of% (ag4) ∧ type_of% (sl4) ∧ type_of% (ar4) ∧ type_of% (pt4) ∧ type_of% (un4) ∧ type_of% (tb4) ∧ type_of% (po4) ∧ type_of% (zt4) ∧ type_of% (@z4.eq_1) :=
  ⟨sz4, by4, ag4, sl4, ar4, pt4, un4, tb4, po4, zt4, @z4.eq_1⟩
theorem t5 : type_of% (sz5) ∧ type_of% (by5) ∧ type_of% (ag5) ∧ type_of% (sl5) ∧ type_of% (ar5) ∧ type_of% (pt5) ∧ type_of% (in5) ∧ type_of% (un5) ∧ type_of% (po5) ∧ type_of% (zt5) ∧ type_of% (@z5.eq_1) :=
  ⟨sz5, by5, ag5, sl5, ar5, pt5, in5, un5, po5, zt5, @z5.eq_1⟩
theorem t22 : type_of% (sz22) ∧ type_of% (by22) ∧ type_of% (ag22) ∧ type_of% (sl22) ∧ type_of% (ar22) ∧ type_of% (pt22) ∧ type_of% (un22) ∧ type_of% (po22) ∧ type_of% (zt22) ∧ type_of% (@z22.eq_1) :=
  ⟨sz22, by22, ag22, sl22, ar22, pt22, un22, po22, zt22, @z22.eq_1⟩
theorem t23 : type_of% (sz23) ∧ type_of% (by23) ∧ type_of% (ag23) ∧ type_of% (sl23) ∧ type_of% (ar23) ∧ type_of% (pt23) ∧ type_of% (un23) ∧ type_of% (po23) ∧ type_of% (zt23) ∧ type_of% (@z23.eq_1) :=
  ⟨sz23, by23, ag23, sl23, ar23, pt23, un23, po23, zt23, @z23.eq_1⟩
theorem t24 : type_of% (sz24) ∧ type_of% (by24) ∧ type_of% (ag24) ∧ type_of% (sl24) ∧ type_of% (ar24) ∧ type_of% (pt24) ∧ type_of% (in24) ∧ type_of% (un24) ∧ type_of% (po24) ∧ type_of% (zt24) ∧ type_of% (@z24.eq_1) :=
  ⟨sz24, by24, ag24, sl24, ar24, pt24, in24, un24, po24, zt24, @z24.eq_1⟩
theorem t29 : type_of% (sz29) ∧ type_of% (by29) ∧ type_of% (ag29) ∧ type_of% (sl29) ∧ type_of% (ar29) ∧ type_of% (pt29) ∧ type_of% (un29) ∧ type_of% (po29) ∧ type_of% (tq29) ∧ type_of% (zt29) ∧ type_of% (@z29.eq_1) :=
  ⟨sz29, by29, ag29, sl29, ar29, pt29, un29, po29, tq29, zt29, @z29.eq_1⟩
theorem t31 : type_of% (sz31) ∧ type_of% (by31) ∧ type_of% (ag31) ∧ type_of% (sl31) ∧ type_of% (ar31) ∧ type_of% (pt31) ∧ type_of% (un31) ∧ type_of% (fl31_0) ∧ type_of% (fl31_1) ∧ type_of% (fs31) ∧ type_of% (po31) ∧ type_of% (tq31) ∧ type_of% (tc31) ∧ type_of% (zt31) ∧ type_of% (@z31.eq_1) :=
  ⟨sz31, by31, ag31, sl31, ar31, pt31, un31, fl31_0, fl31_1, fs31, po31, tq31, tc31, zt31, @z31.eq_1⟩
theorem t32 : type_of% (sz32) ∧ type_of% (by32) ∧ type_of% (ag32) ∧ type_of% (sl32) ∧ type_of% (ar32) ∧ type_of% (pt32) ∧ type_of% (un32) ∧ type_of% (po32) ∧ type_of% (zt32) ∧ type_of% (@z32.eq_1) :=
  ⟨sz32, by32, ag32, sl32, ar32, pt32, un32, po32, zt32, @z32.eq_1⟩
theorem t34 : type_of% (sz34) ∧ type_of% (by34) ∧ type_of% (ag34) ∧ type_of% (sl34) ∧ type_of% (ar34) ∧ type_of% (pt34) ∧ type_of% (un34) ∧ type_of% (fl34_0) ∧ type_of% (fl34_1) ∧ type_of% (fl34_2) ∧ type_of% (fs34) ∧ type_of% (po34) ∧ type_of% (zt34) ∧ type_of% (@z34.eq_1) :=
  ⟨sz34, by34, ag34, sl34, ar34, pt34, un34, fl34_0, fl34_1, fl34_2, fs34, po34, zt34, @z34.eq_1⟩
theorem t35 : type_of% (sz35) ∧ type_of% (by35) ∧ type_of% (ag35) ∧ type_of% (sl35) ∧ type_of% (ar35) ∧ type_of% (pt35) ∧ type_of% (un35) ∧ type_of% (po35) ∧ type_of% (zt35) ∧ type_of% (@z35.eq_1) :=
  ⟨sz35, by35, ag35, sl35, ar35, pt35, un35, po35, zt35, @z35.eq_1⟩
theorem t36 : type_of% (sz36) ∧ type_of% (by36) ∧ type_of% (ag36) ∧ type_of% (sl36) ∧ type_of% (ar36) ∧ type_of% (pt36) ∧ type_of% (un36) ∧ type_of% (po36) ∧ type_of% (zt36) ∧ type_of% (@z36.eq_1) :=
  ⟨sz36, by36, ag36, sl36, ar36, pt36, un36, po36, zt36, @z36.eq_1⟩
theorem t38 : type_of% (sz38) ∧ type_of% (by38) ∧ type_of% (ag38) ∧ type_of% (sl38) ∧ type_of% (ar38) ∧ type_of% (pt38) ∧ type_of% (un38) ∧ type_of% (fl38_0) ∧ type_of% (fl38_1) ∧ type_of% (fl38_2) ∧ type_of% (fl38_3) ∧ type_of% (fl38_4) ∧ type_of% (fl38_5) ∧ type_of% (fs38) ∧ type_of% (po38) ∧ type_of% (zt38) ∧ type_of% (@z38.eq_1) :=
  ⟨sz38, by38, ag38, sl38, ar38, pt38, un38, fl38_0, fl38_1, fl38_2, fl38_3, fl38_4, fl38_5, fs38, po38, zt38, @z38.eq_1⟩
theorem t39 : type_of% (sz39) ∧ type_of% (by39) ∧ type_of% (ag39) ∧ type_of% (sl39) ∧ type_of% (ar39) ∧ type_of% (pt39) ∧ type_of% (un39) ∧ type_of% (po39) ∧ type_of% (zt39) ∧ type_of% (@z39.eq_1) :=
  ⟨sz39, by39, ag39, sl39, ar39, pt39, un39, po39, zt39, @z39.eq_1⟩
theorem t41 : type_of% (sz41) ∧ type_of% (by41) ∧ type_of% (ag41) ∧ type_of% (sl41) ∧ type_of% (ar41) ∧ type_of% (pt41) ∧ type_of% (un41) ∧ type_of% (fl41_0) ∧ type_of% (fl41_1) ∧ type_of% (fl41_2) ∧ type_of% (fl41_3) ∧ type_of% (fs41) ∧ type_of% (po41) ∧ type_of% (zt41) ∧ type_of% (@z41.eq_1) :=
  ⟨sz41, by41, ag41, sl41, ar41, pt41, un41, fl41_0, fl41_1, fl41_2, fl41_3, fs41, po41, zt41, @z41.eq_1⟩
theorem t43 : type_of% (sz43) ∧ type_of% (by43) ∧ type_of% (ag43) ∧ type_of% (sl43) ∧ type_of% (ar43) ∧ type_of% (pt43) ∧ type_of% (un43) ∧ type_of% (po43) ∧ type_of% (zt43) ∧ type_of% (@z43.eq_1) :=
  ⟨sz43, by43, ag43, sl43, ar43, pt43, un43, po43, zt43, @z43.eq_1⟩
theorem t45 : type_of% (sz45) ∧ type_of% (by45) ∧ type_of% (ag45) ∧ type_of% (sl45) ∧ type_of% (ar45) ∧ type_of% (pt45) ∧ type_of% (un45) ∧ type_of% (po45) ∧ type_of% (zt45) ∧ type_of% (@z45.eq_1) :=
  ⟨sz45, by45, ag45, sl45, ar45, pt45, un45, po45, zt45, @z45.eq_1⟩
theorem t50 : type_of% (sz50) ∧ type_of% (by50) ∧ type_of% (ag50) ∧ type_of% (sl50) ∧ type_of% (ar50) ∧ type_of% (pt50) ∧ type_of% (un50) ∧ type_of% (po50) ∧ type_of% (zt50) ∧ type_of% (@z50.eq_1) :=
  ⟨sz50, by50, ag50, sl50, ar50, pt50, un50, po50, zt50, @z50.eq_1⟩
theorem t51 : type_of% (sz51) ∧ type_of% (by51) ∧ type_of% (ag51) ∧ type_of% (sl51) ∧ type_of% (ar51) ∧ type_of% (pt51) ∧ type_of% (un51) ∧ type_of% (po51) ∧ type_of% (zt51) ∧ type_of% (@z51.eq_1) :=
  ⟨sz51, by51, ag51, sl51, ar51, pt51, un51, po51, zt51, @z51.eq_1⟩
theorem t55 : type_of% (sz55) ∧ type_of% (by55) ∧ type_of% (ag55) ∧ type_of% (sl55) ∧ type_of% (ar55) ∧ type_of% (pt55) ∧ type_of% (un55) ∧ type_of% (fl55_0) ∧ type_of% (fl55_1) ∧ type_of% (fs55) ∧ type_of% (po55) ∧ type_of% (zt55) ∧ type_of% (@z55.eq_1) :=
  ⟨sz55, by55, ag55, sl55, ar55, pt55, un55, fl55_0, fl55_1, fs55, po55, zt55, @z55.eq_1⟩
theorem t57 : type_of% (sz57) ∧ type_of% (by57) ∧ type_of% (ag57) ∧ type_of% (sl57) ∧ type_of% (ar57) ∧ type_of% (pt57) ∧ type_of% (un57) ∧ type_of% (fl57_0) ∧ type_of% (fl57_1) ∧ type_of% (fs57) ∧ type_of% (po57) ∧ type_of% (zt57) ∧ type_of% (@z57.eq_1) :=
  ⟨sz57, by57, ag57, sl57, ar57, pt57, un57, fl57_0, fl57_1, fs57, po57, zt57, @z57.eq_1⟩
theorem t60 : type_of% (sz60) ∧ type_of% (by60) ∧ type_of% (ag60) ∧ type_of% (sl60) ∧ type_of% (ar60) ∧ type_of% (pt60) ∧ type_of% (un60) ∧ type_of% (po60) ∧ type_of% (zt60) ∧ type_of% (@z60.eq_1) :=
  ⟨sz60, by60, ag60, sl60, ar60, pt60, un60, po60, zt60, @z60.eq_1⟩
theorem t92 : type_of% (sz92) ∧ type_of% (by92) ∧ type_of% (ag92) ∧ type_of% (sl92) ∧ type_of% (ar92) ∧ type_of% (pt92) ∧ type_of% (un92) ∧ type_of% (po92) ∧ type_of% (zt92) ∧ type_of% (@z92.eq_1) :=
  ⟨sz92, by92, ag92, sl92, ar92, pt92, un92, po92, zt92, @z92.eq_1⟩
theorem t95 : type_of% (sz95) ∧ type_of% (by95) ∧ type_of% (ag95) ∧ type_of% (sl95) ∧ type_of% (ar95) ∧ type_of% (pt95) ∧ type_of% (un95) ∧ type_of% (fl95_0) ∧ type_of% (fl95_1) ∧ type_of% (fs95) ∧ type_of% (po95) ∧ type_of% (tq95) ∧ type_of% (tc95) ∧ type_of% (zt95) ∧ type_of% (@z95.eq_1) :=
  ⟨sz95, by95, ag95, sl95, ar95, pt95, un95, fl95_0, fl95_1, fs95, po95, tq95, tc95, zt95, @z95.eq_1⟩
theorem t97 : type_of% (sz97) ∧ type_of% (by97) ∧ type_of% (ag97) ∧ type_of% (sl97) ∧ type_of% (ar97) ∧ type_of% (pt97) ∧ type_of% (un97) ∧ type_of% (po97) ∧ type_of% (zt97) ∧ type_of% (@z97.eq_1) :=
  ⟨sz97, by97, ag97, sl97, ar97, pt97, un97, po97, zt97, @z97.eq_1⟩
theorem t99 : type_of% (sz99) ∧ type_of% (by99) ∧ type_of% (ag99) ∧ type_of% (sl99) ∧ type_of% (ar99) ∧ type_of% (pt99) ∧ type_of% (un99) ∧ type_of% (fl99_0) ∧ type_of% (fl99_1) ∧ type_of% (fs99) ∧ type_of% (po99) ∧ type_of% (zt99) ∧ type_of% (@z99.eq_1) :=
  ⟨sz99, by99, ag99, sl99, ar99, pt99, un99, fl99_0, fl99_1, fs99, po99, zt99, @z99.eq_1⟩
theorem t100 : type_of% (sz100) ∧ type_of% (by100) ∧ type_of% (ag100) ∧ type_of% (sl100) ∧ type_of% (ar100) ∧ type_of% (pt100) ∧ type_of% (un100) ∧ type_of% (po100) ∧ type_of% (zt100) ∧ type_of% (@z100.eq_1) :=
  ⟨sz100, by100, ag100, sl100, ar100, pt100, un100, po100, zt100, @z100.eq_1⟩
theorem t127 : type_of% (sz127) ∧ type_of% (by127) ∧ type_of% (ag127) ∧ type_of% (sl127) ∧ type_of% (ar127) ∧ type_of% (pt127) ∧ type_of% (un127) ∧ type_of% (fl127_0) ∧ type_of% (fs127) ∧ type_of% (po127) ∧ type_of% (zt127) ∧ type_of% (@z127.eq_1) :=
  ⟨sz127, by127, ag127, sl127, ar127, pt127, un127, fl127_0, fs127, po127, zt127, @z127.eq_1⟩
theorem t129 : type_of% (sz129) ∧ type_of% (by129) ∧ type_of% (ag129) ∧ type_of% (sl129) ∧ type_of% (ar129) ∧ type_of% (pt129) ∧ type_of% (un129) ∧ type_of% (po129) ∧ type_of% (zt129) ∧ type_of% (@z129.eq_1) :=
  ⟨sz129, by129, ag129, sl129, ar129, pt129, un129, po129, zt129, @z129.eq_1⟩
theorem t141 : type_of% (sz141) ∧ type_of% (by141) ∧ type_of% (ag141) ∧ type_of% (sl141) ∧ type_of% (ar141) ∧ type_of% (pt141) ∧ type_of% (un141) ∧ type_of% (fl141_0) ∧ type_of% (fl141_1) ∧ type_of% (fl141_2) ∧ type_of% (fl141_3) ∧ type_of% (fs141) ∧ type_of% (po141) ∧ type_of% (zt141) ∧ type_of% (@z141.eq_1) :=
  ⟨sz141, by141, ag141, sl141, ar141, pt141, un141, fl141_0, fl141_1, fl141_2, fl141_3, fs141, po141, zt141, @z141.eq_1⟩
theorem t142 : type_of% (sz142) ∧ type_of% (by142) ∧ type_of% (ag142) ∧ type_of% (sl142) ∧ type_of% (ar142) ∧ type_of% (pt142) ∧ type_of% (un142) ∧ type_of% (po142) ∧ type_of% (zt142) ∧ type_of% (@z142.eq_1) :=
  ⟨sz142, by142, ag142, sl142, ar142, pt142, un142, po142, zt142, @z142.eq_1⟩
theorem t158 : type_of% (sz158) ∧ type_of% (by158) ∧ type_of% (ag158) ∧ type_of% (sl158) ∧ type_of% (ar158) ∧ type_of% (pt158) ∧ type_of% (un158) ∧ type_of% (fl158_0) ∧ type_of% (fl158_1) ∧ type_of% (fl158_2) ∧ type_of% (fl158_3) ∧ type_of% (fl158_4) ∧ type_of% (fl158_5) ∧ type_of% (fl158_6) ∧ type_of% (fs158) ∧ type_of% (po158) ∧ type_of% (tq158) ∧ type_of% (tc158) ∧ type_of% (zt158) ∧ type_of% (@z158.eq_1) :=
  ⟨sz158, by158, ag158, sl158, ar158, pt158, un158, fl158_0, fl158_1, fl158_2, fl158_3, fl158_4, fl158_5, fl158_6, fs158, po158, tq158, tc158, zt158, @z158.eq_1⟩
theorem t184 : type_of% (sz184) ∧ type_of% (by184) ∧ type_of% (ag184) ∧ type_of% (sl184) ∧ type_of% (ar184) ∧ type_of% (pt184) ∧ type_of% (un184) ∧ type_of% (po184) ∧ type_of% (zt184) ∧ type_of% (@z184.eq_1) :=
  ⟨sz184, by184, ag184, sl184, ar184, pt184, un184, po184, zt184, @z184.eq_1⟩
theorem t185 : type_of% (sz185) ∧ type_of% (by185) ∧ type_of% (ag185) ∧ type_of% (sl185) ∧ type_of% (ar185) ∧ type_of% (pt185) ∧ type_of% (in185) ∧ type_of% (un185) ∧ type_of% (po185) ∧ type_of% (zt185) ∧ type_of% (@z185.eq_1) :=
  ⟨sz185, by185, ag185, sl185, ar185, pt185, in185, un185, po185, zt185, @z185.eq_1⟩
theorem t188 : type_of% (sz188) ∧ type_of% (by188) ∧ type_of% (ag188) ∧ type_of% (sl188) ∧ type_of% (ar188) ∧ type_of% (pt188) ∧ type_of% (in188) ∧ type_of% (un188) ∧ type_of% (po188) ∧ type_of% (zt188) ∧ type_of% (@z188.eq_1) :=
  ⟨sz188, by188, ag188, sl188, ar188, pt188, in188, un188, po188, zt188, @z188.eq_1⟩
theorem t192 : type_of% (sz192) ∧ type_of% (by192) ∧ type_of% (ag192) ∧ type_of% (sl192) ∧ type_of% (ar192) ∧ type_of% (pt192) ∧ type_of% (un192) ∧ type_of% (po192) ∧ type_of% (zt192) ∧ type_of% (@z192.eq_1) :=
  ⟨sz192, by192, ag192, sl192, ar192, pt192, un192, po192, zt192, @z192.eq_1⟩
theorem t199 : type_of% (sz199) ∧ type_of% (by199) ∧ type_of% (ag199) ∧ type_of% (sl199) ∧ type_of% (ar199) ∧ type_of% (pt199) ∧ type_of% (un199) ∧ type_of% (fl199_0) ∧ type_of% (fl199_1) ∧ type_of% (fl199_2) ∧ type_of% (fl199_3) ∧ type_of% (fl199_4) ∧ type_of% (fs199) ∧ type_of% (po199) ∧ type_of% (tq199) ∧ type_of% (tc199) ∧ type_of% (zt199) ∧ type_of% (@z199.eq_1) :=
  ⟨sz199, by199, ag199, sl199, ar199, pt199, un199, fl199_0, fl199_1, fl199_2, fl199_3, fl199_4, fs199, po199, tq199, tc199, zt199, @z199.eq_1⟩
theorem t213 : type_of% (sz213) ∧ type_of% (by213) ∧ type_of% (ag213) ∧ type_of% (sl213) ∧ type_of% (ar213) ∧ type_of% (pt213) ∧ type_of% (in213) ∧ type_of% (un213) ∧ type_of% (po213) ∧ type_of% (zt213) ∧ type_of% (@z213.eq_1) :=
  ⟨sz213, by213, ag213, sl213, ar213, pt213, in213, un213, po213, zt213, @z213.eq_1⟩
theorem t215 : type_of% (sz215) ∧ type_of% (by215) ∧ type_of% (ag215) ∧ type_of% (sl215) ∧ type_of% (ar215) ∧ type_of% (pt215) ∧ type_of% (un215) ∧ type_of% (po215) ∧ type_of% (tq215) ∧ type_of% (zt215) ∧ type_of% (@z215.eq_1) :=
  ⟨sz215, by215, ag215, sl215, ar215, pt215, un215, po215, tq215, zt215, @z215.eq_1⟩
theorem t217 : type_of% (sz217) ∧ type_of% (by217) ∧ type_of% (ag217) ∧ type_of% (sl217) ∧ type_of% (ar217) ∧ type_of% (pt217) ∧ type_of% (un217) ∧ type_of% (po217) ∧ type_of% (tq217) ∧ type_of% (zt217) ∧ type_of% (@z217.eq_1) :=
  ⟨sz217, by217, ag217, sl217, ar217, pt217, un217, po217, tq217, zt217, @z217.eq_1⟩
theorem t221 : type_of% (sz221) ∧ type_of% (by221) ∧ type_of% (ag221) ∧ type_of% (sl221) ∧ type_of% (ar221) ∧ type_of% (pt221) ∧ type_of% (un221) ∧ type_of% (po221) ∧ type_of% (zt221) ∧ type_of% (@z221.eq_1) :=
  ⟨sz221, by221, ag221, sl221, ar221, pt221, un221, po221, zt221, @z221.eq_1⟩
theorem t225 : type_of% (sz225) ∧ type_of% (by225) ∧ type_of% (ag225) ∧ type_of% (sl225) ∧ type_of% (ar225) ∧ type_of% (pt225) ∧ type_of% (un225) ∧ type_of% (fl225_0) ∧ type_of% (fl225_1) ∧ type_of% (fs225) ∧ type_of% (po225) ∧ type_of% (zt225) ∧ type_of% (@z225.eq_1) :=
  ⟨sz225, by225, ag225, sl225, ar225, pt225, un225, fl225_0, fl225_1, fs225, po225, zt225, @z225.eq_1⟩
theorem t239 : type_of% (sz239) ∧ type_of% (by239) ∧ type_of% (ag239) ∧ type_of% (sl239) ∧ type_of% (ar239) ∧ type_of% (pt239) ∧ type_of% (un239) ∧ type_of% (po239) ∧ type_of% (zt239) ∧ type_of% (@z239.eq_1) :=
  ⟨sz239, by239, ag239, sl239, ar239, pt239, un239, po239, zt239, @z239.eq_1⟩
theorem t242 : type_of% (sz242) ∧ type_of% (by242) ∧ type_of% (ag242) ∧ type_of% (sl242) ∧ type_of% (ar242) ∧ type_of% (pt242) ∧ type_of% (un242) ∧ type_of% (po242) ∧ type_of% (zt242) ∧ type_of% (@z242.eq_1) :=
  ⟨sz242, by242, ag242, sl242, ar242, pt242, un242, po242, zt242, @z242.eq_1⟩
theorem mo : cx.P.follows .mixedOrders = true := by kernel_rfl
end Go.Proofs.YtnmnfhicgopdnaaGreat.T
