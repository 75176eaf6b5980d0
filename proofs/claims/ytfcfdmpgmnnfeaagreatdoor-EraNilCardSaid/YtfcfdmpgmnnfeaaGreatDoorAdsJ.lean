/- Part AdsJ of the proof. -/
import Derived.Test.YtfcfdmpgmnnfeaaGreatDoorAdsF
set_option linter.unusedSimpArgs false
set_option linter.unusedVariables false
namespace Go.Ads
noncomputable section
def c2 : FFunc := ⟨[], (.region [⟨(some 0), oExtract (rC (.tuple #[])) 0, none, none⟩])⟩
def c3 : FFunc := ⟨[.tmp 2], (.seq (.region [⟨(some 2), oMv (rC (.bool false)), none, none⟩])
 (.seq (.region [⟨(some 3), oMv (rC (.pointer none)), none, none⟩])
 (.seq (.seq (.region [⟨(some 14), oMv (rT 0), none, none⟩])
 (.cond (.tmp 14) (.region [⟨(some 15), oBuild #[(.int .i64 0), (.int .i64 0), (.int .i64 0), (.int .i64 0), (.slice none 0 0), (.slice none 0 0), (.slice none 0 0), (.int .i64 0), (.bool false), (.int .i64 0)] [(0, 4), (4, 1), (5, 1), (6, 1), (7, 1), (8, 1), (9, 1)] [], none, none⟩,
  ⟨(some 16), oBox (.tmp 15), none, none⟩,
  ⟨(some 3), oMv (rT 16), none, none⟩])
 .skip))
 (.seq (.region [⟨(some 18), oMv (rT 3), none, none⟩,
  ⟨(some 19), oCall 4 [(.tmp 18)], none, none⟩,
  ⟨(some 17), oMv (rT 19), none, none⟩,
  ⟨(some 20), oExtract (rT 17) 0, none, none⟩,
  ⟨(some 21), oExtract (rT 17) 1, none, none⟩,
  ⟨(some 4), oAlloc [(.int .u8 0), (.int .u32 0), (.int .u8 0), (.int .u8 0)], none, (some [(.int .u8 0), (.int .u32 0), (.int .u8 0), (.int .u8 0)])⟩,
  ⟨none, oStore 4 (rT 4) (rT 20), none, none⟩,
  ⟨(some 5), oMv (rT 21), none, none⟩])
 (.seq (.region [⟨(some 23), oMv (rT 3), none, none⟩,
  ⟨(some 24), oCall 5 [(.tmp 23)], none, none⟩,
  ⟨(some 22), oMv (rT 24), none, none⟩,
  ⟨(some 25), oExtract (rT 22) 0, none, none⟩,
  ⟨(some 26), oExtract (rT 22) 1, none, none⟩,
  ⟨(some 6), oAlloc [(.int .i64 0), (.slice none 0 0)], none, (some [(.int .i64 0), (.slice none 0 0)])⟩,
  ⟨none, oStore 2 (rT 6) (rT 25), none, none⟩,
  ⟨(some 7), oMv (rT 26), none, none⟩])
 (.seq (.region [⟨(some 28), oCall 7 [], none, none⟩,
  ⟨(some 29), oCall 6 [(.tmp 28)], none, none⟩,
  ⟨(some 27), oMv (rT 29), none, none⟩,
  ⟨(some 30), oExtract (rT 27) 0, none, none⟩,
  ⟨(some 31), oExtract (rT 27) 1, none, none⟩,
  ⟨(some 8), oMv (rT 30), none, none⟩,
  ⟨(some 9), oMv (rT 31), none, none⟩])
 (.seq (.region [⟨(some 32), oMv (rT 8), none, none⟩,
  ⟨(some 33), oBuild #[(.int .i64 0), (.bool false), (.slice none 0 0)] [(0, 1), (1, 1), (2, 1)] [], none, none⟩,
  ⟨(some 34), oBuildSlice false 3 1 [(.int .i64 0), (.bool false), (.slice none 0 0)] [(0, (.tmp 33))], none, none⟩,
  ⟨(some 35), oCall 8 [(.tmp 32), (.tmp 34)], none, none⟩])
 (.seq (.region [⟨(some 36), oMv (rT 8), none, none⟩,
  ⟨(some 37), oCall 9 [(.tmp 36), (.const (.int .i64 0))], none, none⟩])
 (.seq (.region [⟨(some 39), oMv (rT 8), none, none⟩,
  ⟨(some 40), oCall 4 [(.tmp 39)], none, none⟩,
  ⟨(some 38), oMv (rT 40), none, none⟩,
  ⟨(some 41), oExtract (rT 38) 0, none, none⟩,
  ⟨(some 42), oExtract (rT 38) 1, none, none⟩,
  ⟨(some 10), oAlloc [(.int .u8 0), (.int .u32 0), (.int .u8 0), (.int .u8 0)], none, (some [(.int .u8 0), (.int .u32 0), (.int .u8 0), (.int .u8 0)])⟩,
  ⟨none, oStore 4 (rT 10) (rT 41), none, none⟩,
  ⟨(some 11), oMv (rT 42), none, none⟩])
 (.seq (.region [⟨(some 44), oMv (rT 8), none, none⟩,
  ⟨(some 45), oCall 5 [(.tmp 44)], none, none⟩,
  ⟨(some 43), oMv (rT 45), none, none⟩,
  ⟨(some 46), oExtract (rT 43) 0, none, none⟩,
  ⟨(some 47), oExtract (rT 43) 1, none, none⟩,
  ⟨(some 12), oAlloc [(.int .i64 0), (.slice none 0 0)], none, (some [(.int .i64 0), (.slice none 0 0)])⟩,
  ⟨none, oStore 2 (rT 12) (rT 46), none, none⟩,
  ⟨(some 13), oMv (rT 47), none, none⟩])
 (.seq (.region [⟨(some 48), oMv (rT 5), none, none⟩,
  ⟨(some 49), oBinBy (cmpBy .eql cEql) (.tmp 48) (.const (.int .i64 1)), none, none⟩,
  ⟨(some 50), oMv (rT 49), none, none⟩,
  ⟨(some 51), oMv (rT 7), (some (50, true)), none⟩,
  ⟨(some 52), oBinBy (cmpBy .eql cEql) (.tmp 51) (.const (.int .i64 1)), (some (50, true)), none⟩,
  ⟨(some 53), oPick (rT 50) (rT 52) (rC (.bool false)), none, none⟩,
  ⟨(some 54), oMv (rT 53), none, none⟩,
  ⟨(some 55), oMv (rT 9), (some (54, true)), none⟩,
  ⟨(some 56), oBinBy (cmpBy .eql cEql) (.tmp 55) (.const (.int .i64 0)), (some (54, true)), none⟩,
  ⟨(some 57), oPick (rT 54) (rT 56) (rC (.bool false)), none, none⟩,
  ⟨(some 58), oMv (rT 57), none, none⟩,
  ⟨(some 59), oMv (rT 11), (some (58, true)), none⟩,
  ⟨(some 60), oBinBy (cmpBy .eql cEql) (.tmp 59) (.const (.int .i64 10)), (some (58, true)), none⟩,
  ⟨(some 61), oPick (rT 58) (rT 60) (rC (.bool false)), none, none⟩,
  ⟨(some 62), oMv (rT 61), none, none⟩,
  ⟨(some 63), oMv (rT 13), (some (62, true)), none⟩,
  ⟨(some 64), oBinBy (cmpBy .eql cEql) (.tmp 63) (.const (.int .i64 10)), (some (62, true)), none⟩,
  ⟨(some 65), oPick (rT 62) (rT 64) (rC (.bool false)), none, none⟩,
  ⟨(some 66), oMv (rT 65), none, none⟩,
  ⟨(some 67), oCall 10 [], (some (66, true)), none⟩,
  ⟨(some 68), oPick (rT 66) (rT 67) (rC (.bool false)), none, none⟩,
  ⟨(some 2), oMv (rT 68), none, none⟩])
 .ret)))))))))))⟩
def c4 : FFunc := ⟨[.cells 2 4, .tmp 3], (.seq (.region [⟨(some 2), oAlloc [(.int .u8 0), (.int .u32 0), (.int .u8 0), (.int .u8 0)], none, (some [(.int .u8 0), (.int .u32 0), (.int .u8 0), (.int .u8 0)])⟩,
  ⟨(some 3), oMv (rC (.int .i64 0)), none, none⟩])
 (.seq (.region [⟨(some 15), oMv (rT 0), none, none⟩,
  ⟨(some 16), oCall 11 [(.tmp 15)], none, none⟩,
  ⟨(some 14), oMv (rT 16), none, none⟩,
  ⟨(some 17), oExtract (rT 14) 0, none, none⟩,
  ⟨(some 18), oExtract (rT 14) 1, none, none⟩,
  ⟨(some 4), oMv (rT 17), none, none⟩,
  ⟨(some 5), oMv (rT 18), none, none⟩])
 (.seq (.seq (.region [⟨(some 19), oMv (rT 5), none, none⟩,
  ⟨(some 20), oBinBy (cmpBy .neq cNeq) (.tmp 19) (.const (.int .i64 0)), none, none⟩])
 (.cond (.tmp 20) (.seq (.region [⟨(some 21), oBuild #[(.int .u8 0), (.int .u32 0), (.int .u8 0), (.int .u8 0)] [(0, 1), (1, 1), (2, 1), (3, 1)] [], none, none⟩,
  ⟨(some 22), oMv (rT 5), none, none⟩,
  ⟨none, oStore 4 (rT 2) (rT 21), none, none⟩,
  ⟨(some 3), oMv (rT 22), none, none⟩])
 .ret)
 .skip))
 (.seq (.region [⟨(some 24), oMv (rT 4), none, none⟩,
  ⟨(some 25), oCall 12 [(.tmp 24)], none, none⟩,
  ⟨(some 23), oMv (rT 25), none, none⟩,
  ⟨(some 26), oExtract (rT 23) 0, none, none⟩,
  ⟨(some 27), oExtract (rT 23) 1, none, none⟩,
  ⟨(some 6), oMv (rT 26), none, none⟩,
  ⟨(some 7), oMv (rT 27), none, none⟩])
 (.seq (.seq (.region [⟨(some 28), oMv (rT 7), none, none⟩,
  ⟨(some 29), oBinBy (cmpBy .eql cEql) (.tmp 28) (.const (.int .u32 0)), none, none⟩])
 (.cond (.tmp 29) (.seq (.region [⟨(some 30), oBuild #[(.int .u8 0), (.int .u32 0), (.int .u8 0), (.int .u8 0)] [(0, 1), (1, 1), (2, 1), (3, 1)] [], none, none⟩,
  ⟨none, oStore 4 (rT 2) (rT 30), none, none⟩,
  ⟨(some 3), oMv (rC (.int .i64 0)), none, none⟩])
 .ret)
 .skip))
 (.seq (.region [⟨(some 31), oMv (rT 7), none, none⟩,
  ⟨(some 32), oBuild #[(.int .u8 0), (.int .u32 0), (.int .u8 0), (.int .u8 0)] [(0, 1), (1, 1), (2, 1), (3, 1)] [(0, (.const (.int .u8 1))), (1, (.tmp 31)), (2, (.const (.int .u8 1)))], none, none⟩,
  ⟨(some 8), oAlloc [(.int .u8 0), (.int .u32 0), (.int .u8 0), (.int .u8 0)], none, (some [(.int .u8 0), (.int .u32 0), (.int .u8 0), (.int .u8 0)])⟩,
  ⟨none, oStore 4 (rT 8) (rT 32), none, none⟩])
 (.seq (.seq (.region [⟨(some 33), oMv (rT 6), none, none⟩,
  ⟨(some 34), oMv (rT 7), none, none⟩,
  ⟨(some 35), oLookup (.int .u32) (.int .i64 0) false (.tmp 33) (.tmp 34), none, none⟩,
  ⟨(some 36), oBinBy (abin .and) (.tmp 35) (.const (.int .i64 2)), none, none⟩,
  ⟨(some 37), oBinBy (cmpBy .neq cNeq) (.tmp 36) (.const (.int .i64 0)), none, none⟩])
 (.cond (.tmp 37) (.region [⟨(some 38), oFieldAddr 0 (rT 8), none, none⟩,
  ⟨none, oStore 1 (rT 38) (rC (.int .u8 2)), none, none⟩,
  ⟨(some 39), oFieldAddr 2 (rT 8), none, none⟩,
  ⟨none, oStore 1 (rT 39) (rC (.int .u8 2)), none, none⟩])
 .skip))
 (.seq (.seq (.region [⟨(some 40), oMv (rT 7), none, none⟩,
  ⟨(some 41), oBinBy (arithBy .add nAdd) (.tmp 40) (.const (.int .u32 1)), none, none⟩,
  ⟨(some 42), oMv (rT 7), none, none⟩,
  ⟨(some 43), oBuildArr #[(.int .u32 0), (.int .u32 0)] 1 [(0, (.tmp 41)), (1, (.tmp 42))], none, none⟩,
  ⟨(some 44), oMv (rC (.int .i64 0)), none, none⟩])
 (.block 0 (.loop (.seq (.region [⟨(some 45), oBinBy (cmpBy .lss cLss) (.tmp 44) (.const (.int .i64 2)), none, none⟩])
 (.seq (.cond (.tmp 45) .skip
 (.exit 0))
 (.seq (.block 1 (.seq (.region [⟨(some 46), oIndexA false 2 1 (.tmp 43) (.tmp 44), none, none⟩,
  ⟨(some 10), oMv (rT 46), none, none⟩])
 (.seq (.region [⟨(some 48), oMv (rT 0), none, none⟩,
  ⟨(some 49), oMv (rT 6), none, none⟩,
  ⟨(some 50), oMv (rT 10), none, none⟩,
  ⟨(some 51), oCall 13 [(.tmp 48), (.tmp 49), (.tmp 50)], none, none⟩,
  ⟨(some 47), oMv (rT 51), none, none⟩,
  ⟨(some 52), oExtract (rT 47) 0, none, none⟩,
  ⟨(some 53), oExtract (rT 47) 1, none, none⟩,
  ⟨(some 11), oAlloc [(.int .u8 0), (.int .u32 0), (.int .u8 0), (.int .u8 0)], none, (some [(.int .u8 0), (.int .u32 0), (.int .u8 0), (.int .u8 0)])⟩,
  ⟨none, oStore 4 (rT 11) (rT 52), none, none⟩,
  ⟨(some 12), oMv (rT 53), none, none⟩])
 (.seq (.region [⟨(some 54), oMv (rT 12), none, none⟩])
 (.cond (.tmp 54) (.seq (.region [⟨(some 55), oLoadN 4 (rT 11), none, none⟩,
  ⟨none, oStore 4 (rT 8) (rT 55), none, none⟩])
 (.exit 0))
 .skip)))))
 (.region [⟨(some 56), oBinBy (arithBy .add nAdd) (.tmp 44) (.const (.int .i64 1)), none, none⟩,
  ⟨(some 44), oMv (rT 56), none, none⟩])))))))
 (.seq (.region [⟨(some 58), oMv (rT 0), none, none⟩,
  ⟨(some 59), oFieldAddr 2 (rT 8), none, none⟩,
  ⟨(some 60), oLoad1 (rT 59), none, none⟩,
  ⟨(some 61), oFieldAddr 1 (rT 8), none, none⟩,
  ⟨(some 62), oLoad1 (rT 61), none, none⟩,
  ⟨(some 63), oCall 14 [(.tmp 58), (.tmp 60), (.tmp 62)], none, none⟩,
  ⟨(some 57), oMv (rT 63), none, none⟩,
  ⟨(some 64), oExtract (rT 57) 0, none, none⟩,
  ⟨(some 65), oExtract (rT 57) 1, none, none⟩,
  ⟨(some 5), oMv (rT 65), none, none⟩])
 (.seq (.seq (.region [⟨(some 13), oMv (rC (.int .i64 3)), none, none⟩])
 (.seq (.region [⟨(some 66), oMv (rT 5), none, none⟩,
  ⟨(some 67), oBinBy (cmpBy .neq cNeq) (.tmp 66) (.const (.int .i64 0)), none, none⟩,
  ⟨(some 68), oMv (rT 67), none, none⟩,
  ⟨(some 69), oMv (rT 6), (some (68, false)), none⟩,
  ⟨(some 70), oFieldAddr 1 (rT 8), (some (68, false)), none⟩,
  ⟨(some 71), oLoad1 (rT 70), (some (68, false)), none⟩,
  ⟨(some 72), oLookup (.int .u32) (.int .i64 0) false (.tmp 69) (.tmp 71), (some (68, false)), none⟩,
  ⟨(some 73), oMv (rT 13), (some (68, false)), none⟩,
  ⟨(some 74), oBinBy (abin .and) (.tmp 72) (.tmp 73), (some (68, false)), none⟩,
  ⟨(some 75), oMv (rT 13), (some (68, false)), none⟩,
  ⟨(some 76), oBinBy (cmpBy .eql cEql) (.tmp 74) (.tmp 75), (some (68, false)), none⟩,
  ⟨(some 77), oPick (rT 68) (rC (.bool true)) (rT 76), none, none⟩])
 (.cond (.tmp 77) (.seq (.region [⟨(some 78), oBuild #[(.int .u8 0), (.int .u32 0), (.int .u8 0), (.int .u8 0)] [(0, 1), (1, 1), (2, 1), (3, 1)] [(0, (.const (.int .u8 4)))], none, none⟩,
  ⟨none, oStore 4 (rT 2) (rT 78), none, none⟩,
  ⟨(some 3), oMv (rC (.int .i64 0)), none, none⟩])
 .ret)
 .skip)))
 (.seq (.region [⟨(some 79), oLoadN 4 (rT 8), none, none⟩,
  ⟨none, oStore 4 (rT 2) (rT 79), none, none⟩,
  ⟨(some 3), oMv (rC (.int .i64 0)), none, none⟩])
 .ret)))))))))))⟩
def c5 : FFunc := ⟨[.cells 2 2, .tmp 3], (.seq (.region [⟨(some 2), oAlloc [(.int .i64 0), (.slice none 0 0)], none, (some [(.int .i64 0), (.slice none 0 0)])⟩,
  ⟨(some 3), oMv (rC (.int .i64 0)), none, none⟩])
 (.seq (.region [⟨(some 7), oMv (rT 0), none, none⟩,
  ⟨(some 8), oCall 4 [(.tmp 7)], none, none⟩,
  ⟨(some 6), oMv (rT 8), none, none⟩,
  ⟨(some 9), oExtract (rT 6) 0, none, none⟩,
  ⟨(some 10), oExtract (rT 6) 1, none, none⟩,
  ⟨(some 4), oAlloc [(.int .u8 0), (.int .u32 0), (.int .u8 0), (.int .u8 0)], none, (some [(.int .u8 0), (.int .u32 0), (.int .u8 0), (.int .u8 0)])⟩,
  ⟨none, oStore 4 (rT 4) (rT 9), none, none⟩,
  ⟨(some 5), oMv (rT 10), none, none⟩])
 (.seq (.block 0 (.seq (.region [⟨(some 12), oMv (rT 5), none, none⟩,
  ⟨(some 13), oBinBy (cmpBy .neq cNeq) (.tmp 12) (.const (.int .i64 0)), none, none⟩,
  ⟨(some 11), oMv (rT 13), none, none⟩])
 (.cond (.tmp 11) (.seq (.region [⟨(some 14), oBuild #[(.int .i64 0), (.slice none 0 0)] [(0, 1), (1, 1)] [], none, none⟩,
  ⟨(some 15), oMv (rT 5), none, none⟩,
  ⟨none, oStore 2 (rT 2) (rT 14), none, none⟩,
  ⟨(some 3), oMv (rT 15), none, none⟩])
 .ret)
 (.seq (.region [⟨(some 17), oFieldAddr 0 (rT 4), none, none⟩,
  ⟨(some 18), oLoad1 (rT 17), none, none⟩,
  ⟨(some 19), oBinBy (cmpBy .eql cEql) (.tmp 18) (.const (.int .u8 0)), none, none⟩,
  ⟨(some 20), oMv (rT 19), none, none⟩,
  ⟨(some 21), oFieldAddr 0 (rT 4), (some (20, false)), none⟩,
  ⟨(some 22), oLoad1 (rT 21), (some (20, false)), none⟩,
  ⟨(some 23), oBinBy (cmpBy .eql cEql) (.tmp 22) (.const (.int .u8 4)), (some (20, false)), none⟩,
  ⟨(some 24), oPick (rT 20) (rC (.bool true)) (rT 23), none, none⟩,
  ⟨(some 16), oMv (rT 24), none, none⟩])
 (.cond (.tmp 16) (.seq (.region [⟨(some 25), oBuild #[(.int .i64 0), (.slice none 0 0)] [(0, 1), (1, 1)] [], none, none⟩,
  ⟨none, oStore 2 (rT 2) (rT 25), none, none⟩,
  ⟨(some 3), oMv (rC (.int .i64 16)), none, none⟩])
 .ret)
 .skip)))))
 (.seq (.region [⟨(some 26), oMv (rT 0), none, none⟩,
  ⟨(some 27), oFieldAddr 2 (rT 4), none, none⟩,
  ⟨(some 28), oLoad1 (rT 27), none, none⟩,
  ⟨(some 29), oFieldAddr 1 (rT 4), none, none⟩,
  ⟨(some 30), oLoad1 (rT 29), none, none⟩,
  ⟨(some 31), oCall 14 [(.tmp 26), (.tmp 28), (.tmp 30)], none, none⟩,
  ⟨(some 32), oExtract (rT 31) 0, none, none⟩,
  ⟨(some 33), oExtract (rT 31) 1, none, none⟩,
  ⟨none, oStore 2 (rT 2) (rT 32), none, none⟩,
  ⟨(some 3), oMv (rT 33), none, none⟩])
 .ret))))⟩
def c6 : FFunc := ⟨[.tmp 2, .tmp 3], (.seq (.region [⟨(some 1), oBox (.tmp 0), none, none⟩,
  ⟨(some 2), oMv (rC (.pointer none)), none, none⟩,
  ⟨(some 3), oMv (rC (.int .i64 0)), none, none⟩])
 (.seq (.seq (.region [⟨(some 7), oFieldAddr 0 (rT 1), none, none⟩,
  ⟨(some 8), oLoad1 (rT 7), none, none⟩,
  ⟨(some 9), oBuildArr #[(.int .i64 0), (.int .i64 0), (.int .i64 0)] 1 [(0, (.tmp 8)), (1, (.const (.int .i64 8))), (2, (.const (.int .i64 64)))], none, none⟩,
  ⟨(some 10), oFieldAddr 1 (rT 1), none, none⟩,
  ⟨(some 11), oLoad1 (rT 10), none, none⟩,
  ⟨(some 12), oBuildArr #[(.int .i64 0), (.int .i64 0), (.int .i64 0)] 1 [(0, (.tmp 11)), (1, (.const (.int .i64 4))), (2, (.const (.int .i64 32)))], none, none⟩,
  ⟨(some 13), oFieldAddr 2 (rT 1), none, none⟩,
  ⟨(some 14), oLoad1 (rT 13), none, none⟩,
  ⟨(some 15), oBuildArr #[(.int .i64 0), (.int .i64 0), (.int .i64 0)] 1 [(0, (.tmp 14)), (1, (.const (.int .i64 128))), (2, (.const (.int .i64 256)))], none, none⟩,
  ⟨(some 16), oFieldAddr 3 (rT 1), none, none⟩,
  ⟨(some 17), oLoad1 (rT 16), none, none⟩,
  ⟨(some 18), oBuildArr #[(.int .i64 0), (.int .i64 0), (.int .i64 0)] 1 [(0, (.tmp 17)), (1, (.const (.int .i64 0))), (2, (.const (.int .i64 4)))], none, none⟩,
  ⟨(some 19), oBuildArr #[(.int .i64 0), (.int .i64 0), (.int .i64 0), (.int .i64 0), (.int .i64 0), (.int .i64 0), (.int .i64 0), (.int .i64 0), (.int .i64 0), (.int .i64 0), (.int .i64 0), (.int .i64 0)] 3 [(0, (.tmp 9)), (1, (.tmp 12)), (2, (.tmp 15)), (3, (.tmp 18))], none, none⟩,
  ⟨(some 20), oMv (rC (.int .i64 0)), none, none⟩])
 (.block 0 (.loop (.seq (.region [⟨(some 21), oBinBy (cmpBy .lss cLss) (.tmp 20) (.const (.int .i64 4)), none, none⟩])
 (.seq (.cond (.tmp 21) .skip
 (.exit 0))
 (.seq (.block 1 (.seq (.region [⟨(some 22), oIndexA true 4 3 (.tmp 19) (.tmp 20), none, none⟩,
  ⟨(some 5), oAlloc [(.int .i64 0), (.int .i64 0), (.int .i64 0)], none, (some [(.int .i64 0), (.int .i64 0), (.int .i64 0)])⟩,
  ⟨none, oStore 3 (rT 5) (rT 22), none, none⟩])
 (.seq (.region [⟨(some 23), oIndexAddrA 3 1 (.tmp 5) (.const (.int .i64 0)), none, none⟩,
  ⟨(some 24), oLoad1 (rT 23), none, none⟩,
  ⟨(some 25), oIndexAddrA 3 1 (.tmp 5) (.const (.int .i64 1)), none, none⟩,
  ⟨(some 26), oLoad1 (rT 25), none, none⟩,
  ⟨(some 27), oBinBy (cmpBy .lss cLss) (.tmp 24) (.tmp 26), none, none⟩,
  ⟨(some 28), oMv (rT 27), none, none⟩,
  ⟨(some 29), oIndexAddrA 3 1 (.tmp 5) (.const (.int .i64 0)), (some (28, false)), none⟩,
  ⟨(some 30), oLoad1 (rT 29), (some (28, false)), none⟩,
  ⟨(some 31), oIndexAddrA 3 1 (.tmp 5) (.const (.int .i64 2)), (some (28, false)), none⟩,
  ⟨(some 32), oLoad1 (rT 31), (some (28, false)), none⟩,
  ⟨(some 33), oBinBy (cmpBy .gtr cGtr) (.tmp 30) (.tmp 32), (some (28, false)), none⟩,
  ⟨(some 34), oPick (rT 28) (rC (.bool true)) (rT 33), none, none⟩])
 (.cond (.tmp 34) (.seq (.region [⟨(some 2), oMv (rC (.pointer none)), none, none⟩,
  ⟨(some 3), oMv (rC (.int .i64 2)), none, none⟩])
 .ret)
 .skip))))
 (.region [⟨(some 35), oBinBy (arithBy .add nAdd) (.tmp 20) (.const (.int .i64 1)), none, none⟩,
  ⟨(some 20), oMv (rT 35), none, none⟩])))))))
 (.seq (.draw [⟨(some 36), oLoadN 4 (rT 1), none, none⟩,
  ⟨(some 37), oFieldAddr 0 (rT 1), none, none⟩,
  ⟨(some 38), oLoad1 (rT 37), none, none⟩,
  ⟨(some 39), oMkSlice false 1 1 [(.bool false)] (.tmp 38) (.tmp 38), none, none⟩,
  ⟨(some 40), oBuild #[(.int .i64 0), (.int .i64 0), (.int .i64 0), (.int .i64 0), (.slice none 0 0), (.slice none 0 0), (.slice none 0 0), (.int .i64 0), (.bool false), (.int .i64 0)] [(0, 4), (4, 1), (5, 1), (6, 1), (7, 1), (8, 1), (9, 1)] [(0, (.tmp 36)), (2, (.tmp 39))], none, none⟩,
  ⟨(some 41), oBox (.tmp 40), none, none⟩,
  ⟨(some 6), oMv (rT 41), none, none⟩] 0 [(0, 3)])
 (.seq (.seq (.region [⟨(some 42), oFieldAddr 0 (rT 1), none, none⟩,
  ⟨(some 43), oLoad1 (rT 42), none, none⟩,
  ⟨(some 44), oMv (rC (.int .i64 0)), none, none⟩])
 (.block 2 (.loop (.seq (.region [⟨(some 45), oBinBy (cmpBy .lss cLss) (.tmp 44) (.tmp 43), none, none⟩])
 (.seq (.cond (.tmp 45) .skip
 (.exit 2))
 (.seq (.block 3 (.draw [⟨(some 46), oMv (rT 6), none, none⟩,
  ⟨(some 47), oMv (rT 6), none, none⟩,
  ⟨(some 48), oNilCheck (rT 47), none, none⟩,
  ⟨(some 49), oFieldAddr 4 (rT 48), none, none⟩,
  ⟨(some 50), oLoad1 (rT 49), none, none⟩,
  ⟨(some 51), oBuildSlice true 1 1 [(.int .u8 0)] [(0, (.const (.int .u8 255)))], none, none⟩,
  ⟨(some 52), oFieldAddr 1 (rT 1), none, none⟩,
  ⟨(some 53), oLoad1 (rT 52), none, none⟩,
  ⟨(some 54), oFieldAddr 2 (rT 1), none, none⟩,
  ⟨(some 55), oLoad1 (rT 54), none, none⟩,
  ⟨(some 56), oBinBy (arithBy .mul nMul) (.tmp 53) (.tmp 55), none, none⟩,
  ⟨(some 57), oCall 15 [(.tmp 51), (.tmp 56)], none, none⟩,
  ⟨(some 58), oBuildSlice false 1 1 [(.slice none 0 0)] [(0, (.tmp 57))], none, none⟩,
  ⟨(some 59), oAppend 1 24 (.tmp 50) (.tmp 58), none, none⟩,
  ⟨(some 60), oNilCheck (rT 46), none, none⟩,
  ⟨(some 61), oFieldAddr 4 (rT 60), none, none⟩,
  ⟨none, oStore 1 (rT 61) (rT 59), none, none⟩] 0 [(4, 5), (4, 11), (4, 12), (7, 5), (9, 5)]))
 (.region [⟨(some 62), oBinBy (arithBy .add nAdd) (.tmp 44) (.const (.int .i64 1)), none, none⟩,
  ⟨(some 44), oMv (rT 62), none, none⟩])))))))
 (.seq (.region [⟨(some 63), oMv (rT 6), none, none⟩,
  ⟨(some 2), oMv (rT 63), none, none⟩,
  ⟨(some 3), oMv (rC (.int .i64 0)), none, none⟩])
 .ret)))))⟩
def c7 : FFunc := ⟨[.cells 0 4], (.seq (.region [⟨(some 0), oAlloc [(.int .i64 0), (.int .i64 0), (.int .i64 0), (.int .i64 0)], none, (some [(.int .i64 0), (.int .i64 0), (.int .i64 0), (.int .i64 0)])⟩])
 (.seq (.region [⟨(some 1), oBuild #[(.int .i64 0), (.int .i64 0), (.int .i64 0), (.int .i64 0)] [(0, 1), (1, 1), (2, 1), (3, 1)] [(0, (.const (.int .i64 32))), (1, (.const (.int .i64 16))), (2, (.const (.int .i64 128))), (3, (.const (.int .i64 2)))], none, none⟩,
  ⟨none, oStore 4 (rT 0) (rT 1), none, none⟩])
 .ret))⟩
def c8 : FFunc := ⟨[.tmp 4], (.seq (.region [⟨(some 4), oMv (rC (.int .i64 0)), none, none⟩])
 (.seq (.block 0 (.seq (.region [⟨(some 8), oMv (rT 0), none, none⟩,
  ⟨(some 9), oCall 16 [(.tmp 8)], none, none⟩,
  ⟨(some 7), oMv (rT 9), none, none⟩])
 (.cond (.tmp 7) (.seq (.region [⟨(some 4), oMv (rC (.int .i64 1)), none, none⟩])
 .ret)
 (.seq (.region [⟨(some 11), oMv (rT 1), none, none⟩,
  ⟨(some 12), oCall 17 [(.tmp 11), (.func 18)], none, none⟩,
  ⟨(some 10), oMv (rT 12), none, none⟩])
 (.cond (.tmp 10) (.seq (.region [⟨(some 4), oMv (rC (.int .i64 2)), none, none⟩])
 .ret)
 .skip)))))
 (.seq (.region [⟨(some 13), oMv (rT 0), none, none⟩,
  ⟨(some 14), oMv (rT 0), none, none⟩,
  ⟨(some 15), oNilCheck (rT 13), none, none⟩,
  ⟨(some 16), oFieldAddr 6 (rT 15), none, none⟩,
  ⟨none, oStore 1 (rT 16) (rC (.slice none 0 0)), none, none⟩,
  ⟨(some 17), oNilCheck (rT 14), none, none⟩,
  ⟨(some 18), oFieldAddr 7 (rT 17), none, none⟩,
  ⟨none, oStore 1 (rT 18) (rC (.int .i64 0)), none, none⟩])
 (.seq (.seq (.region [⟨(some 19), oMv (rT 1), none, none⟩,
  ⟨(some 20), oLenS 48 (rT 19), none, none⟩,
  ⟨(some 21), oMv (rC (.int .i64 0)), none, none⟩])
 (.block 1 (.loop (.seq (.region [⟨(some 22), oBinBy (cmpBy .lss cLss) (.tmp 21) (.tmp 20), none, none⟩])
 (.seq (.cond (.tmp 22) .skip
 (.exit 1))
 (.seq (.block 2 (.seq (.region [⟨(some 23), oIndexAddr 3 (rT 19) (rT 21), none, none⟩,
  ⟨(some 24), oLoadN 3 (rT 23), none, none⟩,
  ⟨(some 6), oAlloc [(.int .i64 0), (.bool false), (.slice none 0 0)], none, (some [(.int .i64 0), (.bool false), (.slice none 0 0)])⟩,
  ⟨none, oStore 3 (rT 6) (rT 24), none, none⟩])
 (.seq (.region [⟨(some 25), oFieldAddr 2 (rT 6), none, none⟩,
  ⟨(some 26), oLoad1 (rT 25), none, none⟩,
  ⟨(some 27), oCall 19 [(.tmp 26)], none, none⟩,
  ⟨(some 28), oFieldAddr 2 (rT 6), none, none⟩,
  ⟨none, oStore 1 (rT 28) (rT 27), none, none⟩])
 (.draw [⟨(some 29), oMv (rT 0), none, none⟩,
  ⟨(some 30), oMv (rT 0), none, none⟩,
  ⟨(some 31), oNilCheck (rT 30), none, none⟩,
  ⟨(some 32), oFieldAddr 6 (rT 31), none, none⟩,
  ⟨(some 33), oLoad1 (rT 32), none, none⟩,
  ⟨(some 34), oLoadN 3 (rT 6), none, none⟩,
  ⟨(some 35), oBuildSlice false 3 1 [(.int .i64 0), (.bool false), (.slice none 0 0)] [(0, (.tmp 34))], none, none⟩,
  ⟨(some 36), oAppend 3 40 (.tmp 33) (.tmp 35), none, none⟩,
  ⟨(some 37), oNilCheck (rT 29), none, none⟩,
  ⟨(some 38), oFieldAddr 6 (rT 37), none, none⟩,
  ⟨none, oStore 1 (rT 38) (rT 36), none, none⟩] 0 [(4, 6)]))))
 (.region [⟨(some 39), oBinBy (arithBy .add nAdd) (.tmp 21) (.const (.int .i64 1)), none, none⟩,
  ⟨(some 21), oMv (rT 39), none, none⟩])))))))
 (.seq (.region [⟨(some 4), oMv (rC (.int .i64 0)), none, none⟩])
 .ret)))))⟩
def c9 : FFunc := ⟨[.tmp 4], (.seq (.region [⟨(some 4), oMv (rC (.int .i64 0)), none, none⟩])
 (.seq (.seq (.region [⟨(some 6), oMv (rT 0), none, none⟩,
  ⟨(some 7), oMv (rT 1), none, none⟩,
  ⟨(some 8), oCall 20 [(.tmp 6), (.tmp 7), (.const (.int .i64 0))], none, none⟩,
  ⟨(some 5), oMv (rT 8), none, none⟩])
 (.seq (.region [⟨(some 9), oMv (rT 5), none, none⟩,
  ⟨(some 10), oBinBy (cmpBy .neq cNeq) (.tmp 9) (.const (.int .i64 0)), none, none⟩])
 (.cond (.tmp 10) (.seq (.region [⟨(some 11), oMv (rT 5), none, none⟩,
  ⟨(some 4), oMv (rT 11), none, none⟩])
 .ret)
 .skip)))
 (.seq (.seq (.region [⟨(some 12), oMv (rT 0), none, none⟩,
  ⟨(some 13), oNilCheck (rT 12), none, none⟩,
  ⟨(some 14), oFieldAddr 5 (rT 13), none, none⟩,
  ⟨(some 15), oLoad1 (rT 14), none, none⟩,
  ⟨(some 16), oMv (rT 1), none, none⟩,
  ⟨(some 17), oIndexAddr 1 (rT 15) (rT 16), none, none⟩,
  ⟨(some 18), oLoad1 (rT 17), none, none⟩])
 (.cond (.tmp 18) (.seq (.region [⟨(some 4), oMv (rC (.int .i64 9)), none, none⟩])
 .ret)
 .skip))
 (.seq (.region [⟨(some 19), oMv (rT 0), none, none⟩,
  ⟨(some 20), oMv (rT 1), none, none⟩,
  ⟨(some 21), oMv (rT 0), none, none⟩,
  ⟨(some 22), oNilCheck (rT 21), none, none⟩,
  ⟨(some 23), oFieldAddr 4 (rT 22), none, none⟩,
  ⟨(some 24), oLoad1 (rT 23), none, none⟩,
  ⟨(some 25), oMv (rT 1), none, none⟩,
  ⟨(some 26), oIndexAddr 1 (rT 24) (rT 25), none, none⟩,
  ⟨(some 27), oLoad1 (rT 26), none, none⟩,
  ⟨(some 28), oCall 21 [(.tmp 19), (.tmp 20), (.tmp 27), (.func 22)], none, none⟩,
  ⟨(some 4), oMv (rT 28), none, none⟩])
 .ret))))⟩
def c10 : FFunc := ⟨[.tmp 0], (.seq (.region [⟨(some 0), oMv (rC (.bool false)), none, none⟩])
 (.seq (.region [⟨(some 9), oCall 7 [], none, none⟩,
  ⟨(some 10), oCall 6 [(.tmp 9)], none, none⟩,
  ⟨(some 8), oMv (rT 10), none, none⟩,
  ⟨(some 11), oExtract (rT 8) 0, none, none⟩,
  ⟨(some 12), oExtract (rT 8) 1, none, none⟩,
  ⟨(some 1), oMv (rT 11), none, none⟩,
  ⟨(some 2), oMv (rT 12), none, none⟩])
 (.seq (.region [⟨(some 14), oMv (rT 1), none, none⟩,
  ⟨(some 15), oCall 4 [(.tmp 14)], none, none⟩,
  ⟨(some 13), oMv (rT 15), none, none⟩,
  ⟨(some 16), oExtract (rT 13) 0, none, none⟩,
  ⟨(some 17), oExtract (rT 13) 1, none, none⟩,
  ⟨(some 3), oAlloc [(.int .u8 0), (.int .u32 0), (.int .u8 0), (.int .u8 0)], none, (some [(.int .u8 0), (.int .u32 0), (.int .u8 0), (.int .u8 0)])⟩,
  ⟨none, oStore 4 (rT 3) (rT 16), none, none⟩,
  ⟨(some 4), oMv (rT 17), none, none⟩])
 (.seq (.region [⟨(some 18), oMv (rT 1), none, none⟩,
  ⟨(some 19), oCall 24 [], none, none⟩,
  ⟨(some 20), oCall 23 [(.tmp 18), (.const (.int .u8 1)), (.const (.int .u32 1)), (.tmp 19)], none, none⟩,
  ⟨(some 5), oMv (rT 20), none, none⟩])
 (.seq (.region [⟨(some 22), oMv (rT 1), none, none⟩,
  ⟨(some 23), oCall 4 [(.tmp 22)], none, none⟩,
  ⟨(some 21), oMv (rT 23), none, none⟩,
  ⟨(some 24), oExtract (rT 21) 0, none, none⟩,
  ⟨(some 25), oExtract (rT 21) 1, none, none⟩,
  ⟨(some 6), oAlloc [(.int .u8 0), (.int .u32 0), (.int .u8 0), (.int .u8 0)], none, (some [(.int .u8 0), (.int .u32 0), (.int .u8 0), (.int .u8 0)])⟩,
  ⟨none, oStore 4 (rT 6) (rT 24), none, none⟩,
  ⟨(some 7), oMv (rT 25), none, none⟩])
 (.seq (.region [⟨(some 26), oMv (rT 2), none, none⟩,
  ⟨(some 27), oBinBy (cmpBy .eql cEql) (.tmp 26) (.const (.int .i64 0)), none, none⟩,
  ⟨(some 28), oMv (rT 27), none, none⟩,
  ⟨(some 29), oLoadN 4 (rT 3), (some (28, true)), none⟩,
  ⟨(some 30), oBuild #[(.int .u8 0), (.int .u32 0), (.int .u8 0), (.int .u8 0)] [(0, 1), (1, 1), (2, 1), (3, 1)] [], (some (28, true)), none⟩,
  ⟨(some 31), oEqFlat false [(0, (.int .u8)), (1, (.int .u32)), (2, (.int .u8)), (3, (.int .u8))] (.tmp 29) (.tmp 30), (some (28, true)), none⟩,
  ⟨(some 32), oPick (rT 28) (rT 31) (rC (.bool false)), none, none⟩,
  ⟨(some 33), oMv (rT 32), none, none⟩,
  ⟨(some 34), oMv (rT 4), (some (33, true)), none⟩,
  ⟨(some 35), oBinBy (cmpBy .eql cEql) (.tmp 34) (.const (.int .i64 0)), (some (33, true)), none⟩,
  ⟨(some 36), oPick (rT 33) (rT 35) (rC (.bool false)), none, none⟩,
  ⟨(some 37), oMv (rT 36), none, none⟩,
  ⟨(some 38), oMv (rT 5), (some (37, true)), none⟩,
  ⟨(some 39), oBinBy (cmpBy .eql cEql) (.tmp 38) (.const (.int .i64 0)), (some (37, true)), none⟩,
  ⟨(some 40), oPick (rT 37) (rT 39) (rC (.bool false)), none, none⟩,
  ⟨(some 41), oMv (rT 40), none, none⟩,
  ⟨(some 42), oMv (rT 7), (some (41, true)), none⟩,
  ⟨(some 43), oBinBy (cmpBy .eql cEql) (.tmp 42) (.const (.int .i64 0)), (some (41, true)), none⟩,
  ⟨(some 44), oPick (rT 41) (rT 43) (rC (.bool false)), none, none⟩,
  ⟨(some 45), oMv (rT 44), none, none⟩,
  ⟨(some 46), oLoadN 4 (rT 6), (some (45, true)), none⟩,
  ⟨(some 47), oBuild #[(.int .u8 0), (.int .u32 0), (.int .u8 0), (.int .u8 0)] [(0, 1), (1, 1), (2, 1), (3, 1)] [(0, (.const (.int .u8 1))), (1, (.const (.int .u32 1))), (2, (.const (.int .u8 1)))], (some (45, true)), none⟩,
  ⟨(some 48), oEqFlat false [(0, (.int .u8)), (1, (.int .u32)), (2, (.int .u8)), (3, (.int .u8))] (.tmp 46) (.tmp 47), (some (45, true)), none⟩,
  ⟨(some 49), oPick (rT 45) (rT 48) (rC (.bool false)), none, none⟩,
  ⟨(some 0), oMv (rT 49), none, none⟩])
 .ret))))))⟩
def c11 : FFunc := ⟨[.tmp 2, .tmp 3], (.seq (.region [⟨(some 2), oMv (rC (.pointer none)), none, none⟩,
  ⟨(some 3), oMv (rC (.int .i64 0)), none, none⟩])
 (.seq (.seq (.region [⟨(some 9), oMv (rT 0), none, none⟩,
  ⟨(some 10), oEqNil false true (.pointer 29) (.tmp 9) (.const (.pointer none)), none, none⟩,
  ⟨(some 11), oMv (rT 10), none, none⟩,
  ⟨(some 12), oMv (rT 0), (some (11, false)), none⟩,
  ⟨(some 13), oCall 25 [(.tmp 12)], (some (11, false)), none⟩,
  ⟨(some 14), oField false 0 1 (.tmp 13), (some (11, false)), none⟩,
  ⟨(some 15), oBinBy (cmpBy .eql cEql) (.tmp 14) (.const (.int .i64 0)), (some (11, false)), none⟩,
  ⟨(some 16), oPick (rT 11) (rC (.bool true)) (rT 15), none, none⟩])
 (.cond (.tmp 16) (.seq (.region [⟨(some 2), oMv (rC (.pointer none)), none, none⟩,
  ⟨(some 3), oMv (rC (.int .i64 1)), none, none⟩])
 .ret)
 .skip))
 (.seq (.seq (.region [⟨(some 18), oMv (rT 0), none, none⟩,
  ⟨(some 19), oCall 26 [(.tmp 18), (.const (.int .i64 0)), (.const (.int .i64 0))], none, none⟩,
  ⟨(some 17), oMv (rT 19), none, none⟩,
  ⟨(some 20), oExtract (rT 17) 0, none, none⟩,
  ⟨(some 21), oExtract (rT 17) 1, none, none⟩,
  ⟨(some 4), oMv (rT 20), none, none⟩,
  ⟨(some 5), oMv (rT 21), none, none⟩])
 (.seq (.region [⟨(some 22), oMv (rT 5), none, none⟩,
  ⟨(some 23), oBinBy (cmpBy .neq cNeq) (.tmp 22) (.const (.int .i64 0)), none, none⟩])
 (.cond (.tmp 23) (.seq (.region [⟨(some 24), oMv (rT 5), none, none⟩,
  ⟨(some 2), oMv (rC (.pointer none)), none, none⟩,
  ⟨(some 3), oMv (rT 24), none, none⟩])
 .ret)
 .skip)))
 (.seq (.region [⟨(some 25), oMv (rT 0), none, none⟩,
  ⟨(some 26), oMv (rT 0), none, none⟩,
  ⟨(some 27), oCall 25 [(.tmp 26)], none, none⟩,
  ⟨(some 28), oField false 0 1 (.tmp 27), none, none⟩,
  ⟨(some 29), oMkSlice false 4 24 [(.int .i64 0), (.int .u8 0), (.int .u32 0), (.int .u64 0)] (.tmp 28) (.tmp 28), none, none⟩,
  ⟨(some 30), oBuild #[(.pointer none), (.slice none 0 0), (.int .u64 0), (.int .i64 0)] [(0, 1), (1, 1), (2, 1), (3, 1)] [(0, (.tmp 25)), (1, (.tmp 29))], none, none⟩,
  ⟨(some 31), oBox (.tmp 30), none, none⟩,
  ⟨(some 6), oMv (rT 31), none, none⟩])
 (.seq (.seq (.region [⟨(some 32), oMv (rT 6), none, none⟩,
  ⟨(some 33), oNilCheck (rT 32), none, none⟩,
  ⟨(some 34), oFieldAddr 1 (rT 33), none, none⟩,
  ⟨(some 35), oLoad1 (rT 34), none, none⟩,
  ⟨(some 36), oLenS 84 (rT 35), none, none⟩,
  ⟨(some 37), oMv (rC (.int .i64 0)), none, none⟩])
 (.block 0 (.loop (.seq (.region [⟨(some 38), oBinBy (cmpBy .lss cLss) (.tmp 37) (.tmp 36), none, none⟩])
 (.seq (.cond (.tmp 38) .skip
 (.exit 0))
 (.seq (.block 1 (.seq (.region [⟨(some 39), oMv (rT 37), none, none⟩,
  ⟨(some 7), oMv (rT 39), none, none⟩])
 (.seq (.region [⟨(some 40), oMv (rT 6), none, none⟩,
  ⟨(some 41), oMv (rT 7), none, none⟩,
  ⟨(some 42), oCall 27 [(.tmp 40), (.tmp 41)], none, none⟩])
 (.seq (.region [⟨(some 43), oMv (rT 6), none, none⟩,
  ⟨(some 44), oNilCheck (rT 43), none, none⟩,
  ⟨(some 45), oFieldAddr 1 (rT 44), none, none⟩,
  ⟨(some 46), oLoad1 (rT 45), none, none⟩,
  ⟨(some 47), oMv (rT 7), none, none⟩,
  ⟨(some 48), oIndexAddr 4 (rT 46) (rT 47), none, none⟩,
  ⟨(some 49), oFieldAddr 1 (rT 48), none, none⟩,
  ⟨(some 50), oLoadN 3 (rT 49), none, none⟩,
  ⟨(some 8), oAlloc [(.int .u8 0), (.int .u32 0), (.int .u64 0)], none, (some [(.int .u8 0), (.int .u32 0), (.int .u64 0)])⟩,
  ⟨none, oStore 3 (rT 8) (rT 50), none, none⟩])
 (.seq (.draw [⟨(some 51), oFieldAddr 2 (rT 8), none, none⟩,
  ⟨(some 52), oLoad1 (rT 51), none, none⟩,
  ⟨(some 53), oMv (rT 6), none, none⟩,
  ⟨(some 54), oNilCheck (rT 53), none, none⟩,
  ⟨(some 55), oFieldAddr 2 (rT 54), none, none⟩,
  ⟨(some 56), oLoad1 (rT 55), none, none⟩,
  ⟨(some 57), oBinBy (cmpBy .gtr cGtr) (.tmp 52) (.tmp 56), none, none⟩,
  ⟨(some 58), oMv (rT 57), none, none⟩,
  ⟨(some 59), oFieldAddr 2 (rT 8), (some (58, false)), none⟩,
  ⟨(some 60), oLoad1 (rT 59), (some (58, false)), none⟩,
  ⟨(some 61), oMv (rT 6), (some (58, false)), none⟩,
  ⟨(some 62), oNilCheck (rT 61), (some (58, false)), none⟩,
  ⟨(some 63), oFieldAddr 2 (rT 62), (some (58, false)), none⟩,
  ⟨(some 64), oLoad1 (rT 63), (some (58, false)), none⟩,
  ⟨(some 65), oBinBy (cmpBy .eql cEql) (.tmp 60) (.tmp 64), (some (58, false)), none⟩,
  ⟨(some 66), oMv (rT 65), (some (58, false)), none⟩,
  ⟨(some 67), oFieldAddr 2 (rT 8), (some (66, true)), none⟩,
  ⟨(some 68), oLoad1 (rT 67), (some (66, true)), none⟩,
  ⟨(some 69), oBinBy (cmpBy .gtr cGtr) (.tmp 68) (.const (.int .u64 0)), (some (66, true)), none⟩,
  ⟨(some 70), oPick (rT 66) (rT 69) (rC (.bool false)), (some (58, false)), none⟩,
  ⟨(some 71), oPick (rT 58) (rC (.bool true)) (rT 70), none, none⟩] 0 [])
 (.cond (.tmp 71) (.region [⟨(some 72), oMv (rT 6), none, none⟩,
  ⟨(some 73), oMv (rT 6), none, none⟩,
  ⟨(some 74), oFieldAddr 2 (rT 8), none, none⟩,
  ⟨(some 75), oLoad1 (rT 74), none, none⟩,
  ⟨(some 76), oMv (rT 7), none, none⟩,
  ⟨(some 77), oBinBy (arithBy .add nAdd) (.tmp 76) (.const (.int .i64 1)), none, none⟩,
  ⟨(some 78), oNilCheck (rT 72), none, none⟩,
  ⟨(some 79), oFieldAddr 2 (rT 78), none, none⟩,
  ⟨none, oStore 1 (rT 79) (rT 75), none, none⟩,
  ⟨(some 80), oNilCheck (rT 73), none, none⟩,
  ⟨(some 81), oFieldAddr 3 (rT 80), none, none⟩,
  ⟨none, oStore 1 (rT 81) (rT 77), none, none⟩])
 .skip))))))
 (.region [⟨(some 82), oBinBy (arithBy .add nAdd) (.tmp 37) (.const (.int .i64 1)), none, none⟩,
  ⟨(some 37), oMv (rT 82), none, none⟩])))))))
 (.seq (.region [⟨(some 83), oMv (rT 6), none, none⟩,
  ⟨(some 2), oMv (rT 83), none, none⟩,
  ⟨(some 3), oMv (rC (.int .i64 0)), none, none⟩])
 .ret))))))⟩
def c12 : FFunc := ⟨[.tmp 2, .tmp 3], (.seq (.region [⟨(some 2), oMv (rC (.map none)), none, none⟩,
  ⟨(some 3), oMv (rC (.int .u32 0)), none, none⟩])
 (.seq (.region [⟨(some 7), oMkMap, none, none⟩,
  ⟨(some 2), oMv (rT 7), none, none⟩])
 (.seq (.seq (.region [⟨(some 8), oMv (rT 0), none, none⟩,
  ⟨(some 9), oCall 28 [(.tmp 8)], none, none⟩,
  ⟨(some 10), oLenS 88 (rT 9), none, none⟩,
  ⟨(some 11), oMv (rC (.int .i64 0)), none, none⟩])
 (.block 0 (.loop (.seq (.region [⟨(some 12), oBinBy (cmpBy .lss cLss) (.tmp 11) (.tmp 10), none, none⟩])
 (.seq (.cond (.tmp 12) .skip
 (.exit 0))
 (.seq (.block 1 (.seq (.region [⟨(some 13), oIndexAddr 5 (rT 9) (rT 11), none, none⟩,
  ⟨(some 14), oLoadN 5 (rT 13), none, none⟩,
  ⟨(some 5), oAlloc [(.int .i64 0), (.int .u8 0), (.int .u32 0), (.int .u64 0), (.bool false)], none, (some [(.int .i64 0), (.int .u8 0), (.int .u32 0), (.int .u64 0), (.bool false)])⟩,
  ⟨none, oStore 5 (rT 5) (rT 14), none, none⟩])
 (.seq (.region [⟨(some 6), oMv (rC (.int .i64 0)), none, none⟩])
 (.seq (.seq (.region [⟨(some 15), oFieldAddr 1 (rT 5), none, none⟩,
  ⟨(some 16), oFieldAddr 0 (rT 15), none, none⟩,
  ⟨(some 17), oLoad1 (rT 16), none, none⟩])
 (.block 2 (.seq (.region [⟨(some 19), oBinBy (cmpBy .eql cEql) (.tmp 17) (.const (.int .u8 1)), none, none⟩,
  ⟨(some 18), oMv (rT 19), none, none⟩])
 (.cond (.tmp 18) (.region [⟨(some 6), oMv (rC (.int .i64 1)), none, none⟩])
 (.seq (.region [⟨(some 21), oBinBy (cmpBy .eql cEql) (.tmp 17) (.const (.int .u8 2)), none, none⟩,
  ⟨(some 20), oMv (rT 21), none, none⟩])
 (.cond (.tmp 20) (.region [⟨(some 6), oMv (rC (.int .i64 2)), none, none⟩])
 (.exit 1)))))))
 (.seq (.seq (.region [⟨(some 22), oFieldAddr 4 (rT 5), none, none⟩,
  ⟨(some 23), oLoad1 (rT 22), none, none⟩,
  ⟨(some 24), oUn .not (.tmp 23), none, none⟩])
 (.cond (.tmp 24) (.region [⟨(some 25), oMv (rT 6), none, none⟩,
  ⟨(some 26), oMv (rT 6), none, none⟩,
  ⟨(some 27), oBinBy (arithBy .mul nMul) (.tmp 26) (.const (.int .i64 4)), none, none⟩,
  ⟨(some 28), oBinBy (abin .or) (.tmp 25) (.tmp 27), none, none⟩,
  ⟨(some 6), oMv (rT 28), none, none⟩])
 .skip))
 (.seq (.region [⟨(some 29), oMv (rT 2), none, none⟩,
  ⟨(some 30), oFieldAddr 1 (rT 5), none, none⟩,
  ⟨(some 31), oFieldAddr 1 (rT 30), none, none⟩,
  ⟨(some 32), oLoad1 (rT 31), none, none⟩,
  ⟨(some 33), oLookup (.int .u32) (.int .i64 0) false (.tmp 29) (.tmp 32), none, none⟩,
  ⟨(some 34), oMv (rT 6), none, none⟩,
  ⟨(some 35), oBinBy (abin .or) (.tmp 33) (.tmp 34), none, none⟩,
  ⟨none, oMapUpdate (.int .u32) (.tmp 29) (.tmp 32) (.tmp 35), none, none⟩])
 (.region [⟨(some 36), oMv (rT 3), none, none⟩,
  ⟨(some 37), oFieldAddr 1 (rT 5), none, none⟩,
  ⟨(some 38), oFieldAddr 1 (rT 37), none, none⟩,
  ⟨(some 39), oLoad1 (rT 38), none, none⟩,
  ⟨(some 40), oMax [(.tmp 36), (.tmp 39)], none, none⟩,
  ⟨(some 3), oMv (rT 40), none, none⟩])))))))
 (.region [⟨(some 41), oBinBy (arithBy .add nAdd) (.tmp 11) (.const (.int .i64 1)), none, none⟩,
  ⟨(some 11), oMv (rT 41), none, none⟩])))))))
 (.seq (.region [⟨(some 42), oMv (rT 2), none, none⟩,
  ⟨(some 43), oMv (rT 3), none, none⟩,
  ⟨(some 2), oMv (rT 42), none, none⟩,
  ⟨(some 3), oMv (rT 43), none, none⟩])
 .ret))))⟩
def c13 : FFunc := ⟨[.cells 6 4, .tmp 7], (.seq (.region [⟨(some 6), oAlloc [(.int .u8 0), (.int .u32 0), (.int .u8 0), (.int .u8 0)], none, (some [(.int .u8 0), (.int .u32 0), (.int .u8 0), (.int .u8 0)])⟩,
  ⟨(some 7), oMv (rC (.bool false)), none, none⟩])
 (.seq (.seq (.region [⟨(some 13), oMv (rT 2), none, none⟩,
  ⟨(some 14), oBinBy (cmpBy .lss cLss) (.tmp 13) (.const (.int .u32 2)), none, none⟩])
 (.cond (.tmp 14) (.seq (.region [⟨(some 15), oBuild #[(.int .u8 0), (.int .u32 0), (.int .u8 0), (.int .u8 0)] [(0, 1), (1, 1), (2, 1), (3, 1)] [], none, none⟩,
  ⟨none, oStore 4 (rT 6) (rT 15), none, none⟩,
  ⟨(some 7), oMv (rC (.bool false)), none, none⟩])
 .ret)
 .skip))
 (.seq (.region [⟨(some 17), oMv (rT 0), none, none⟩,
  ⟨(some 18), oMv (rT 2), none, none⟩,
  ⟨(some 19), oCall 29 [(.tmp 17), (.tmp 18)], none, none⟩,
  ⟨(some 16), oMv (rT 19), none, none⟩,
  ⟨(some 20), oExtract (rT 16) 0, none, none⟩,
  ⟨(some 21), oExtract (rT 16) 1, none, none⟩,
  ⟨(some 22), oExtract (rT 16) 2, none, none⟩,
  ⟨(some 23), oExtract (rT 16) 3, none, none⟩,
  ⟨(some 10), oAlloc [(.int .u8 0), (.int .u8 0), (.int .u8 0)], none, (some [(.int .u8 0), (.int .u8 0), (.int .u8 0)])⟩,
  ⟨(some 8), oMv (rT 20), none, none⟩,
  ⟨(some 9), oMv (rT 21), none, none⟩,
  ⟨none, oStore 3 (rT 10) (rT 22), none, none⟩,
  ⟨(some 11), oMv (rT 23), none, none⟩])
 (.seq (.region [⟨(some 12), oMv (rC (.int .i64 4)), none, none⟩])
 (.seq (.seq (.region [⟨(some 24), oFieldAddr 0 (rT 10), none, none⟩,
  ⟨(some 25), oLoad1 (rT 24), none, none⟩,
  ⟨(some 26), oBinBy (cmpBy .eql cEql) (.tmp 25) (.const (.int .u8 2)), none, none⟩])
 (.cond (.tmp 26) (.region [⟨(some 12), oMv (rC (.int .i64 8)), none, none⟩])
 .skip))
 (.seq (.seq (.region [⟨(some 27), oMv (rT 8), none, none⟩,
  ⟨(some 28), oUn .not (.tmp 27), none, none⟩,
  ⟨(some 29), oMv (rT 28), none, none⟩,
  ⟨(some 30), oMv (rT 9), (some (29, false)), none⟩,
  ⟨(some 31), oPick (rT 29) (rC (.bool true)) (rT 30), none, none⟩,
  ⟨(some 32), oMv (rT 31), none, none⟩,
  ⟨(some 33), oMv (rT 1), (some (32, false)), none⟩,
  ⟨(some 34), oMv (rT 2), (some (32, false)), none⟩,
  ⟨(some 35), oBinBy (arithBy .sub nSub) (.tmp 34) (.const (.int .u32 1)), (some (32, false)), none⟩,
  ⟨(some 36), oLookup (.int .u32) (.int .i64 0) false (.tmp 33) (.tmp 35), (some (32, false)), none⟩,
  ⟨(some 37), oMv (rT 12), (some (32, false)), none⟩,
  ⟨(some 38), oBinBy (abin .and) (.tmp 36) (.tmp 37), (some (32, false)), none⟩,
  ⟨(some 39), oBinBy (cmpBy .eql cEql) (.tmp 38) (.const (.int .i64 0)), (some (32, false)), none⟩,
  ⟨(some 40), oPick (rT 32) (rC (.bool true)) (rT 39), none, none⟩])
 (.cond (.tmp 40) (.seq (.region [⟨(some 41), oBuild #[(.int .u8 0), (.int .u32 0), (.int .u8 0), (.int .u8 0)] [(0, 1), (1, 1), (2, 1), (3, 1)] [], none, none⟩,
  ⟨none, oStore 4 (rT 6) (rT 41), none, none⟩,
  ⟨(some 7), oMv (rC (.bool false)), none, none⟩])
 .ret)
 .skip))
 (.seq (.region [⟨(some 42), oMv (rT 2), none, none⟩,
  ⟨(some 43), oBinBy (arithBy .sub nSub) (.tmp 42) (.const (.int .u32 1)), none, none⟩,
  ⟨(some 44), oFieldAddr 0 (rT 10), none, none⟩,
  ⟨(some 45), oLoad1 (rT 44), none, none⟩,
  ⟨(some 46), oFieldAddr 1 (rT 10), none, none⟩,
  ⟨(some 47), oLoad1 (rT 46), none, none⟩,
  ⟨(some 48), oBuild #[(.int .u8 0), (.int .u32 0), (.int .u8 0), (.int .u8 0)] [(0, 1), (1, 1), (2, 1), (3, 1)] [(0, (.const (.int .u8 3))), (1, (.tmp 43)), (2, (.tmp 45)), (3, (.tmp 47))], none, none⟩,
  ⟨none, oStore 4 (rT 6) (rT 48), none, none⟩,
  ⟨(some 7), oMv (rC (.bool true)), none, none⟩])
 .ret)))))))⟩
def c14 : FFunc := ⟨[.cells 6 2, .tmp 7], (.seq (.region [⟨(some 6), oAlloc [(.int .i64 0), (.slice none 0 0)], none, (some [(.int .i64 0), (.slice none 0 0)])⟩,
  ⟨(some 7), oMv (rC (.int .i64 0)), none, none⟩])
 (.seq (.region [⟨(some 13), oMv (rT 0), none, none⟩,
  ⟨(some 14), oMv (rT 1), none, none⟩,
  ⟨(some 15), oMv (rT 2), none, none⟩,
  ⟨(some 16), oCall 30 [(.tmp 13), (.tmp 14), (.tmp 15)], none, none⟩,
  ⟨(some 12), oMv (rT 16), none, none⟩,
  ⟨(some 17), oExtract (rT 12) 0, none, none⟩,
  ⟨(some 18), oExtract (rT 12) 1, none, none⟩,
  ⟨(some 19), oExtract (rT 12) 2, none, none⟩,
  ⟨(some 20), oExtract (rT 12) 3, none, none⟩,
  ⟨(some 10), oAlloc [(.int .i64 0), (.slice none 0 0)], none, (some [(.int .i64 0), (.slice none 0 0)])⟩,
  ⟨(some 8), oMv (rT 17), none, none⟩,
  ⟨(some 9), oMv (rT 18), none, none⟩,
  ⟨none, oStore 2 (rT 10) (rT 19), none, none⟩,
  ⟨(some 11), oMv (rT 20), none, none⟩])
 (.seq (.region [⟨(some 21), oLoadN 2 (rT 10), none, none⟩,
  ⟨(some 22), oMv (rT 11), none, none⟩,
  ⟨none, oStore 2 (rT 6) (rT 21), none, none⟩,
  ⟨(some 7), oMv (rT 22), none, none⟩])
 .ret)))⟩
def c15 : FFunc := ⟨[.tmp 4], (.seq (.region [⟨(some 4), oMv (rC (.slice none 0 0)), none, none⟩])
 (.seq (.seq (.region [⟨(some 9), oMv (rT 1), none, none⟩,
  ⟨(some 10), oBinBy (cmpBy .lss cLss) (.tmp 9) (.const (.int .i64 0)), none, none⟩])
 (.cond (.tmp 10) (.region [⟨(some 11), oMkIface 9 (.const (.string ⟨#[99, 97, 110, 110, 111, 116, 32, 98, 101, 32, 110, 101, 103, 97, 116, 105, 118, 101]⟩)), none, none⟩,
  ⟨none, oPanic (.tmp 11), none, none⟩])
 .skip))
 (.seq (.region [⟨(some 13), oMv (rT 0), none, none⟩,
  ⟨(some 14), oLenS 5 (rT 13), none, none⟩,
  ⟨(some 15), oToInt .u64 (.tmp 14), none, none⟩,
  ⟨(some 16), oMv (rT 1), none, none⟩,
  ⟨(some 17), oToInt .u64 (.tmp 16), none, none⟩,
  ⟨(some 18), oCall 31 [(.tmp 15), (.tmp 17)], none, none⟩,
  ⟨(some 12), oMv (rT 18), none, none⟩,
  ⟨(some 19), oExtract (rT 12) 0, none, none⟩,
  ⟨(some 20), oExtract (rT 12) 1, none, none⟩,
  ⟨(some 5), oMv (rT 19), none, none⟩,
  ⟨(some 6), oMv (rT 20), none, none⟩])
 (.seq (.seq (.region [⟨(some 21), oMv (rT 5), none, none⟩,
  ⟨(some 22), oBinBy (cmpBy .gtr cGtr) (.tmp 21) (.const (.int .u64 0)), none, none⟩,
  ⟨(some 23), oMv (rT 22), none, none⟩,
  ⟨(some 24), oMv (rT 6), (some (23, false)), none⟩,
  ⟨(some 25), oBinBy (cmpBy .gtr cGtr) (.tmp 24) (.const (.int .u64 9223372036854775807)), (some (23, false)), none⟩,
  ⟨(some 26), oPick (rT 23) (rC (.bool true)) (rT 25), none, none⟩])
 (.cond (.tmp 26) (.region [⟨(some 27), oMkIface 9 (.const (.string ⟨#[116, 104, 101, 32, 114, 101, 115, 117, 108, 116, 32, 111, 102, 32, 40, 108, 101, 110, 40, 120, 41, 32, 42, 32, 99, 111, 117, 110, 116, 41, 32, 111, 118, 101, 114, 102, 108, 111, 119, 115]⟩)), none, none⟩,
  ⟨none, oPanic (.tmp 27), none, none⟩])
 .skip))
 (.seq (.region [⟨(some 28), oMv (rT 6), none, none⟩,
  ⟨(some 29), oToInt .i64 (.tmp 28), none, none⟩,
  ⟨(some 30), oMkSlice true 1 1 [(.int .u8 0)] (.tmp 29) (.tmp 29), none, none⟩,
  ⟨(some 7), oMv (rT 30), none, none⟩])
 (.seq (.region [⟨(some 31), oMv (rT 7), none, none⟩,
  ⟨(some 32), oMv (rT 0), none, none⟩,
  ⟨(some 33), oCopy 1 (.tmp 31) (.tmp 32), none, none⟩,
  ⟨(some 8), oMv (rT 33), none, none⟩])
 (.seq (.block 0 (.loop (.seq (.seq (.region [⟨(some 34), oMv (rT 8), none, none⟩,
  ⟨(some 35), oMv (rT 7), none, none⟩,
  ⟨(some 36), oLenS 5 (rT 35), none, none⟩,
  ⟨(some 37), oBinBy (cmpBy .lss cLss) (.tmp 34) (.tmp 36), none, none⟩])
 (.cond (.tmp 37) .skip
 (.exit 0)))
 (.block 1 (.draw [⟨(some 38), oMv (rT 8), none, none⟩,
  ⟨(some 39), oMv (rT 7), none, none⟩,
  ⟨(some 40), oMv (rT 8), none, none⟩,
  ⟨(some 41), oSlice 1 (.tmp 39) (some (.tmp 40)) none none, none, none⟩,
  ⟨(some 42), oMv (rT 7), none, none⟩,
  ⟨(some 43), oMv (rT 8), none, none⟩,
  ⟨(some 44), oSlice 1 (.tmp 42) none (some (.tmp 43)) none, none, none⟩,
  ⟨(some 45), oCopy 1 (.tmp 41) (.tmp 44), none, none⟩,
  ⟨(some 46), oBinBy (arithBy .add nAdd) (.tmp 38) (.tmp 45), none, none⟩,
  ⟨(some 8), oMv (rT 46), none, none⟩] 0 [])))))
 (.seq (.region [⟨(some 47), oMv (rT 7), none, none⟩,
  ⟨(some 4), oMv (rT 47), none, none⟩])
 .ret))))))))⟩
def c16 : FFunc := ⟨[.tmp 2], (.seq (.region [⟨(some 2), oMv (rC (.bool false)), none, none⟩])
 (.seq (.region [⟨(some 3), oMv (rT 0), none, none⟩,
  ⟨(some 4), oEqNil false true (.pointer 29) (.tmp 3) (.const (.pointer none)), none, none⟩,
  ⟨(some 5), oMv (rT 4), none, none⟩,
  ⟨(some 6), oMv (rT 0), (some (5, false)), none⟩,
  ⟨(some 7), oNilCheck (rT 6), (some (5, false)), none⟩,
  ⟨(some 8), oFieldAddr 4 (rT 7), (some (5, false)), none⟩,
  ⟨(some 9), oLoad1 (rT 8), (some (5, false)), none⟩,
  ⟨(some 10), oEqNil false true (.slice 46) (.tmp 9) (.const (.slice none 0 0)), (some (5, false)), none⟩,
  ⟨(some 11), oPick (rT 5) (rC (.bool true)) (rT 10), none, none⟩,
  ⟨(some 2), oMv (rT 11), none, none⟩])
 .ret))⟩
def c17 : FFunc := ⟨[.tmp 4], (.seq (.region [⟨(some 4), oMv (rC (.bool false)), none, none⟩])
 (.seq (.region [⟨(some 5), oMv (rT 0), none, none⟩,
  ⟨(some 6), oMv (rT 1), none, none⟩,
  ⟨(some 7), oCall 32 [(.tmp 5), (.tmp 6)], none, none⟩,
  ⟨(some 8), oBinBy (cmpBy .geq cGeq) (.tmp 7) (.const (.int .i64 0)), none, none⟩,
  ⟨(some 4), oMv (rT 8), none, none⟩])
 .ret))⟩
def c18 : FFunc := ⟨[.tmp 2], (.seq (.region [⟨(some 1), oBox (.tmp 0), none, none⟩,
  ⟨(some 2), oMv (rC (.bool false)), none, none⟩])
 (.seq (.region [⟨(some 3), oFieldAddr 0 (rT 1), none, none⟩,
  ⟨(some 4), oLoad1 (rT 3), none, none⟩,
  ⟨(some 5), oBinBy (cmpBy .lss cLss) (.tmp 4) (.const (.int .i64 0)), none, none⟩,
  ⟨(some 2), oMv (rT 5), none, none⟩])
 .ret))⟩
def c19 : FFunc := ⟨[.tmp 2], (.seq (.region [⟨(some 2), oMv (rC (.slice none 0 0)), none, none⟩])
 (.seq (.seq (.region [⟨(some 3), oMv (rT 0), none, none⟩,
  ⟨(some 4), oEqNil false true (.slice 5) (.tmp 3) (.const (.slice none 0 0)), none, none⟩])
 (.cond (.tmp 4) (.seq (.region [⟨(some 2), oMv (rC (.slice none 0 0)), none, none⟩])
 .ret)
 .skip))
 (.seq (.region [⟨(some 5), oBuildSlice true 1 0 [(.int .u8 0)] [], none, none⟩,
  ⟨(some 6), oMv (rT 0), none, none⟩,
  ⟨(some 7), oAppend 1 1 (.tmp 5) (.tmp 6), none, none⟩,
  ⟨(some 2), oMv (rT 7), none, none⟩])
 .ret)))⟩
def c20 : FFunc := ⟨[.tmp 6], (.seq (.region [⟨(some 6), oMv (rC (.int .i64 0)), none, none⟩])
 (.seq (.block 0 (.seq (.region [⟨(some 8), oMv (rT 0), none, none⟩,
  ⟨(some 9), oCall 16 [(.tmp 8)], none, none⟩,
  ⟨(some 7), oMv (rT 9), none, none⟩])
 (.cond (.tmp 7) (.seq (.region [⟨(some 6), oMv (rC (.int .i64 1)), none, none⟩])
 .ret)
 (.seq (.region [⟨(some 11), oMv (rT 0), none, none⟩,
  ⟨(some 12), oNilCheck (rT 11), none, none⟩,
  ⟨(some 13), oFieldAddr 8 (rT 12), none, none⟩,
  ⟨(some 14), oLoad1 (rT 13), none, none⟩,
  ⟨(some 10), oMv (rT 14), none, none⟩])
 (.cond (.tmp 10) (.seq (.region [⟨(some 6), oMv (rC (.int .i64 10)), none, none⟩])
 .ret)
 (.seq (.region [⟨(some 16), oMv (rT 1), none, none⟩,
  ⟨(some 17), oBinBy (cmpBy .lss cLss) (.tmp 16) (.const (.int .i64 0)), none, none⟩,
  ⟨(some 18), oMv (rT 17), none, none⟩,
  ⟨(some 19), oMv (rT 1), (some (18, false)), none⟩,
  ⟨(some 20), oMv (rT 0), (some (18, false)), none⟩,
  ⟨(some 21), oNilCheck (rT 20), (some (18, false)), none⟩,
  ⟨(some 22), oFieldAddr 0 (rT 21), (some (18, false)), none⟩,
  ⟨(some 23), oFieldAddr 0 (rT 22), (some (18, false)), none⟩,
  ⟨(some 24), oLoad1 (rT 23), (some (18, false)), none⟩,
  ⟨(some 25), oBinBy (cmpBy .geq cGeq) (.tmp 19) (.tmp 24), (some (18, false)), none⟩,
  ⟨(some 26), oPick (rT 18) (rC (.bool true)) (rT 25), none, none⟩,
  ⟨(some 27), oMv (rT 26), none, none⟩,
  ⟨(some 28), oMv (rT 2), (some (27, false)), none⟩,
  ⟨(some 29), oBinBy (cmpBy .lss cLss) (.tmp 28) (.const (.int .i64 0)), (some (27, false)), none⟩,
  ⟨(some 30), oPick (rT 27) (rC (.bool true)) (rT 29), none, none⟩,
  ⟨(some 31), oMv (rT 30), none, none⟩,
  ⟨(some 32), oMv (rT 2), (some (31, false)), none⟩,
  ⟨(some 33), oMv (rT 0), (some (31, false)), none⟩,
  ⟨(some 34), oNilCheck (rT 33), (some (31, false)), none⟩,
  ⟨(some 35), oFieldAddr 0 (rT 34), (some (31, false)), none⟩,
  ⟨(some 36), oFieldAddr 1 (rT 35), (some (31, false)), none⟩,
  ⟨(some 37), oLoad1 (rT 36), (some (31, false)), none⟩,
  ⟨(some 38), oBinBy (cmpBy .geq cGeq) (.tmp 32) (.tmp 37), (some (31, false)), none⟩,
  ⟨(some 39), oPick (rT 31) (rC (.bool true)) (rT 38), none, none⟩,
  ⟨(some 15), oMv (rT 39), none, none⟩])
 (.cond (.tmp 15) (.seq (.region [⟨(some 6), oMv (rC (.int .i64 2)), none, none⟩])
 .ret)
 .skip)))))))
 (.seq (.region [⟨(some 6), oMv (rC (.int .i64 0)), none, none⟩])
 .ret)))⟩
def c21 : FFunc := ⟨[.tmp 8], (.seq (.region [⟨(some 8), oMv (rC (.int .i64 0)), none, none⟩])
 (.seq (.region [⟨(some 13), oMv (rT 0), none, none⟩,
  ⟨(some 14), oCall 33 [(.tmp 13)], none, none⟩,
  ⟨(some 9), oMv (rT 14), none, none⟩])
 (.seq (.seq (.region [⟨(some 15), oMv (rT 2), none, none⟩,
  ⟨(some 16), oLenS 5 (rT 15), none, none⟩,
  ⟨(some 17), oMv (rC (.int .i64 0)), none, none⟩])
 (.block 0 (.loop (.seq (.region [⟨(some 18), oBinBy (cmpBy .lss cLss) (.tmp 17) (.tmp 16), none, none⟩])
 (.seq (.cond (.tmp 18) .skip
 (.exit 0))
 (.seq (.block 1 (.seq (.region [⟨(some 19), oMv (rT 17), none, none⟩,
  ⟨(some 10), oMv (rT 19), none, none⟩])
 (.seq (.region [⟨(some 11), oMv (rC (.int .u8 255)), none, none⟩])
 (.seq (.seq (.region [⟨(some 20), oMv (rT 9), none, none⟩,
  ⟨(some 21), oEqNil true true (.pointer 48) (.tmp 20) (.const (.pointer none)), none, none⟩])
 (.cond (.tmp 21) (.seq (.region [⟨(some 11), oMv (rC (.int .u8 0)), none, none⟩])
 (.seq (.region [⟨(some 22), oMv (rT 9), none, none⟩,
  ⟨(some 23), oNilCheck (rT 22), none, none⟩,
  ⟨(some 24), oFieldAddr 2 (rT 23), none, none⟩,
  ⟨(some 25), oLoad1 (rT 24), none, none⟩,
  ⟨(some 26), oLenS 5 (rT 25), none, none⟩,
  ⟨(some 12), oMv (rT 26), none, none⟩])
 (.seq (.region [⟨(some 27), oMv (rT 12), none, none⟩,
  ⟨(some 28), oBinBy (cmpBy .gtr cGtr) (.tmp 27) (.const (.int .i64 0)), none, none⟩])
 (.cond (.tmp 28) (.draw [⟨(some 29), oMv (rT 9), none, none⟩,
  ⟨(some 30), oNilCheck (rT 29), none, none⟩,
  ⟨(some 31), oFieldAddr 2 (rT 30), none, none⟩,
  ⟨(some 32), oLoad1 (rT 31), none, none⟩,
  ⟨(some 33), oMv (rT 10), none, none⟩,
  ⟨(some 34), oMv (rT 12), none, none⟩,
  ⟨(some 35), oBinBy (arithBy .rem nRem) (.tmp 33) (.tmp 34), none, none⟩,
  ⟨(some 36), oIndexAddr 1 (rT 32) (rT 35), none, none⟩,
  ⟨(some 37), oLoad1 (rT 36), none, none⟩,
  ⟨(some 11), oMv (rT 37), none, none⟩] 0 [])
 .skip))))
 .skip))
 (.draw [⟨(some 38), oMv (rT 2), none, none⟩,
  ⟨(some 39), oMv (rT 10), none, none⟩,
  ⟨(some 40), oMv (rT 2), none, none⟩,
  ⟨(some 41), oMv (rT 10), none, none⟩,
  ⟨(some 42), oIndexAddr 1 (rT 40) (rT 41), none, none⟩,
  ⟨(some 43), oLoad1 (rT 42), none, none⟩,
  ⟨(some 44), oMv (rT 11), none, none⟩,
  ⟨(some 45), oBinBy (abin .andNot) (.tmp 43) (.tmp 44), none, none⟩,
  ⟨(some 46), oMv (rT 3), none, none⟩,
  ⟨(some 47), oMv (rT 10), none, none⟩,
  ⟨(some 48), oCallV (.tmp 46) [(.tmp 47)], none, none⟩,
  ⟨(some 49), oMv (rT 11), none, none⟩,
  ⟨(some 50), oBinBy (abin .and) (.tmp 48) (.tmp 49), none, none⟩,
  ⟨(some 51), oBinBy (abin .or) (.tmp 45) (.tmp 50), none, none⟩,
  ⟨(some 52), oIndexAddr 1 (rT 38) (rT 39), none, none⟩,
  ⟨none, oStore 1 (rT 52) (rT 51), none, none⟩] 0 [(5, 10)])))))
 (.region [⟨(some 53), oBinBy (arithBy .add nAdd) (.tmp 17) (.const (.int .i64 1)), none, none⟩,
  ⟨(some 17), oMv (rT 53), none, none⟩])))))))
 (.seq (.block 2 (.seq (.region [⟨(some 55), oMv (rT 9), none, none⟩,
  ⟨(some 56), oEqNil false true (.pointer 48) (.tmp 55) (.const (.pointer none)), none, none⟩,
  ⟨(some 54), oMv (rT 56), none, none⟩])
 (.cond (.tmp 54) (.seq (.region [⟨(some 8), oMv (rC (.int .i64 0)), none, none⟩])
 .ret)
 (.seq (.region [⟨(some 58), oMv (rT 9), none, none⟩,
  ⟨(some 59), oNilCheck (rT 58), none, none⟩,
  ⟨(some 60), oFieldAddr 1 (rT 59), none, none⟩,
  ⟨(some 61), oLoad1 (rT 60), none, none⟩,
  ⟨(some 57), oMv (rT 61), none, none⟩])
 (.cond (.tmp 57) (.seq (.region [⟨(some 62), oMv (rT 0), none, none⟩,
  ⟨(some 63), oNilCheck (rT 62), none, none⟩,
  ⟨(some 64), oFieldAddr 5 (rT 63), none, none⟩,
  ⟨(some 65), oLoad1 (rT 64), none, none⟩,
  ⟨(some 66), oMv (rT 1), none, none⟩,
  ⟨(some 67), oIndexAddr 1 (rT 65) (rT 66), none, none⟩,
  ⟨none, oStore 1 (rT 67) (rC (.bool true)), none, none⟩])
 (.seq (.region [⟨(some 8), oMv (rC (.int .i64 9)), none, none⟩])
 .ret))
 .skip)))))
 (.seq (.region [⟨(some 68), oMv (rT 0), none, none⟩,
  ⟨(some 69), oNilCheck (rT 68), none, none⟩,
  ⟨(some 70), oFieldAddr 8 (rT 69), none, none⟩,
  ⟨none, oStore 1 (rT 70) (rC (.bool true)), none, none⟩])
 (.seq (.region [⟨(some 8), oMv (rC (.int .i64 10)), none, none⟩])
 .ret))))))⟩
def c22 : FFunc := ⟨[.tmp 2], (.seq (.region [⟨(some 2), oMv (rC (.int .u8 0)), none, none⟩])
 (.seq (.region [⟨(some 2), oMv (rC (.int .u8 255)), none, none⟩])
 .ret))⟩
def c23 : FFunc := ⟨[.tmp 8], (.seq (.region [⟨(some 8), oMv (rC (.int .i64 0)), none, none⟩])
 (.seq (.region [⟨(some 20), oMv (rT 0), none, none⟩,
  ⟨(some 21), oMv (rT 1), none, none⟩,
  ⟨(some 22), oMv (rT 2), none, none⟩,
  ⟨(some 23), oCall 34 [(.tmp 20), (.tmp 21), (.tmp 22)], none, none⟩,
  ⟨(some 19), oMv (rT 23), none, none⟩,
  ⟨(some 24), oExtract (rT 19) 0, none, none⟩,
  ⟨(some 25), oExtract (rT 19) 1, none, none⟩,
  ⟨(some 9), oMv (rT 24), none, none⟩,
  ⟨(some 10), oMv (rT 25), none, none⟩])
 (.seq (.seq (.region [⟨(some 26), oMv (rT 10), none, none⟩,
  ⟨(some 27), oBinBy (cmpBy .neq cNeq) (.tmp 26) (.const (.int .i64 0)), none, none⟩])
 (.cond (.tmp 27) (.seq (.region [⟨(some 28), oMv (rT 10), none, none⟩,
  ⟨(some 8), oMv (rT 28), none, none⟩])
 .ret)
 .skip))
 (.seq (.seq (.region [⟨(some 29), oMv (rT 9), none, none⟩,
  ⟨(some 30), oCall 28 [(.tmp 29)], none, none⟩,
  ⟨(some 31), oLenS 88 (rT 30), none, none⟩,
  ⟨(some 32), oMv (rC (.int .i64 0)), none, none⟩])
 (.block 0 (.loop (.seq (.region [⟨(some 33), oBinBy (cmpBy .lss cLss) (.tmp 32) (.tmp 31), none, none⟩])
 (.seq (.cond (.tmp 33) .skip
 (.exit 0))
 (.seq (.block 1 (.seq (.region [⟨(some 34), oIndexAddr 5 (rT 30) (rT 32), none, none⟩,
  ⟨(some 35), oLoadN 5 (rT 34), none, none⟩,
  ⟨(some 12), oAlloc [(.int .i64 0), (.int .u8 0), (.int .u32 0), (.int .u64 0), (.bool false)], none, (some [(.int .i64 0), (.int .u8 0), (.int .u32 0), (.int .u64 0), (.bool false)])⟩,
  ⟨none, oStore 5 (rT 12) (rT 35), none, none⟩])
 (.seq (.region [⟨(some 36), oFieldAddr 1 (rT 12), none, none⟩,
  ⟨(some 37), oFieldAddr 0 (rT 36), none, none⟩,
  ⟨(some 38), oLoad1 (rT 37), none, none⟩,
  ⟨(some 39), oMv (rT 1), none, none⟩,
  ⟨(some 40), oBinBy (cmpBy .eql cEql) (.tmp 38) (.tmp 39), none, none⟩,
  ⟨(some 41), oMv (rT 40), none, none⟩,
  ⟨(some 42), oFieldAddr 1 (rT 12), (some (41, true)), none⟩,
  ⟨(some 43), oFieldAddr 1 (rT 42), (some (41, true)), none⟩,
  ⟨(some 44), oLoad1 (rT 43), (some (41, true)), none⟩,
  ⟨(some 45), oMv (rT 2), (some (41, true)), none⟩,
  ⟨(some 46), oBinBy (cmpBy .eql cEql) (.tmp 44) (.tmp 45), (some (41, true)), none⟩,
  ⟨(some 47), oPick (rT 41) (rT 46) (rC (.bool false)), none, none⟩,
  ⟨(some 48), oMv (rT 47), none, none⟩,
  ⟨(some 49), oFieldAddr 4 (rT 12), (some (48, true)), none⟩,
  ⟨(some 50), oLoad1 (rT 49), (some (48, true)), none⟩,
  ⟨(some 51), oUn .not (.tmp 50), (some (48, true)), none⟩,
  ⟨(some 52), oPick (rT 48) (rT 51) (rC (.bool false)), none, none⟩])
 (.cond (.tmp 52) (.seq (.region [⟨(some 8), oMv (rC (.int .i64 2)), none, none⟩])
 .ret)
 .skip))))
 (.region [⟨(some 53), oBinBy (arithBy .add nAdd) (.tmp 32) (.const (.int .i64 1)), none, none⟩,
  ⟨(some 32), oMv (rT 53), none, none⟩])))))))
 (.seq (.seq (.region [⟨(some 54), oMv (rT 3), none, none⟩,
  ⟨(some 55), oLenS 106 (rT 54), none, none⟩,
  ⟨(some 56), oMv (rC (.int .i64 0)), none, none⟩])
 (.block 2 (.loop (.seq (.region [⟨(some 57), oBinBy (cmpBy .lss cLss) (.tmp 56) (.tmp 55), none, none⟩])
 (.seq (.cond (.tmp 57) .skip
 (.exit 2))
 (.seq (.block 3 (.seq (.region [⟨(some 58), oMv (rT 56), none, none⟩,
  ⟨(some 59), oIndexAddr 5 (rT 54) (rT 56), none, none⟩,
  ⟨(some 60), oLoadN 5 (rT 59), none, none⟩,
  ⟨(some 14), oAlloc [(.int .i64 0), (.int .u8 0), (.string ⟨#[]⟩), (.int .i64 0), (.slice none 0 0)], none, (some [(.int .i64 0), (.int .u8 0), (.string ⟨#[]⟩), (.int .i64 0), (.slice none 0 0)])⟩,
  ⟨(some 13), oMv (rT 58), none, none⟩,
  ⟨none, oStore 5 (rT 14) (rT 60), none, none⟩])
 (.seq (.draw [⟨(some 61), oFieldAddr 0 (rT 14), none, none⟩,
  ⟨(some 62), oLoadN 4 (rT 61), none, none⟩,
  ⟨(some 63), oCall 35 [(.tmp 62)], none, none⟩,
  ⟨(some 64), oUn .not (.tmp 63), none, none⟩,
  ⟨(some 65), oMv (rT 64), none, none⟩,
  ⟨(some 66), oFieldAddr 4 (rT 14), (some (65, false)), none⟩,
  ⟨(some 67), oLoad1 (rT 66), (some (65, false)), none⟩,
  ⟨(some 68), oLenS 5 (rT 67), (some (65, false)), none⟩,
  ⟨(some 69), oBinBy (cmpBy .lss cLss) (.tmp 68) (.const (.int .i64 1)), (some (65, false)), none⟩,
  ⟨(some 70), oPick (rT 65) (rC (.bool true)) (rT 69), none, none⟩,
  ⟨(some 71), oMv (rT 70), none, none⟩,
  ⟨(some 72), oFieldAddr 4 (rT 14), (some (71, false)), none⟩,
  ⟨(some 73), oLoad1 (rT 72), (some (71, false)), none⟩,
  ⟨(some 74), oLenS 5 (rT 73), (some (71, false)), none⟩,
  ⟨(some 75), oBinBy (cmpBy .gtr cGtr) (.tmp 74) (.const (.int .i64 255)), (some (71, false)), none⟩,
  ⟨(some 76), oPick (rT 71) (rC (.bool true)) (rT 75), none, none⟩,
  ⟨(some 77), oMv (rT 76), none, none⟩,
  ⟨(some 78), oMv (rT 13), (some (77, false)), none⟩,
  ⟨(some 79), oBinBy (cmpBy .gtr cGtr) (.tmp 78) (.const (.int .i64 0)), (some (77, false)), none⟩,
  ⟨(some 80), oMv (rT 79), (some (77, false)), none⟩,
  ⟨(some 81), oMv (rT 3), (some (80, true)), none⟩,
  ⟨(some 82), oMv (rT 13), (some (80, true)), none⟩,
  ⟨(some 83), oBinBy (arithBy .sub nSub) (.tmp 82) (.const (.int .i64 1)), (some (80, true)), none⟩,
  ⟨(some 84), oIndexAddr 5 (rT 81) (rT 83), (some (80, true)), none⟩,
  ⟨(some 85), oFieldAddr 0 (rT 84), (some (80, true)), none⟩,
  ⟨(some 86), oLoadN 4 (rT 85), (some (80, true)), none⟩,
  ⟨(some 87), oFieldAddr 0 (rT 14), (some (80, true)), none⟩,
  ⟨(some 88), oLoadN 4 (rT 87), (some (80, true)), none⟩,
  ⟨(some 89), oCall 36 [(.tmp 86), (.tmp 88)], (some (80, true)), none⟩,
  ⟨(some 90), oUn .not (.tmp 89), (some (80, true)), none⟩,
  ⟨(some 91), oPick (rT 80) (rT 90) (rC (.bool false)), (some (77, false)), none⟩,
  ⟨(some 92), oPick (rT 77) (rC (.bool true)) (rT 91), none, none⟩] 0 [])
 (.cond (.tmp 92) (.seq (.region [⟨(some 8), oMv (rC (.int .i64 2)), none, none⟩])
 .ret)
 .skip))))
 (.region [⟨(some 93), oBinBy (arithBy .add nAdd) (.tmp 56) (.const (.int .i64 1)), none, none⟩,
  ⟨(some 56), oMv (rT 93), none, none⟩])))))))
 (.seq (.region [⟨(some 95), oMv (rT 0), none, none⟩,
  ⟨(some 96), oMv (rT 1), none, none⟩,
  ⟨(some 97), oMv (rT 2), none, none⟩,
  ⟨(some 98), oCall 37 [(.tmp 95), (.tmp 96), (.tmp 97)], none, none⟩,
  ⟨(some 94), oMv (rT 98), none, none⟩,
  ⟨(some 99), oExtract (rT 94) 0, none, none⟩,
  ⟨(some 100), oExtract (rT 94) 1, none, none⟩,
  ⟨(some 15), oMv (rT 99), none, none⟩,
  ⟨(some 10), oMv (rT 100), none, none⟩])
 (.seq (.seq (.region [⟨(some 101), oMv (rT 10), none, none⟩,
  ⟨(some 102), oBinBy (cmpBy .neq cNeq) (.tmp 101) (.const (.int .i64 0)), none, none⟩])
 (.cond (.tmp 102) (.seq (.region [⟨(some 103), oMv (rT 10), none, none⟩,
  ⟨(some 8), oMv (rT 103), none, none⟩])
 .ret)
 .skip))
 (.seq (.seq (.region [⟨(some 104), oMv (rT 3), none, none⟩,
  ⟨(some 105), oLenS 106 (rT 104), none, none⟩,
  ⟨(some 106), oMv (rC (.int .i64 0)), none, none⟩])
 (.block 4 (.loop (.seq (.region [⟨(some 107), oBinBy (cmpBy .lss cLss) (.tmp 106) (.tmp 105), none, none⟩])
 (.seq (.cond (.tmp 107) .skip
 (.exit 4))
 (.seq (.block 5 (.seq (.region [⟨(some 108), oIndexAddr 5 (rT 104) (rT 106), none, none⟩,
  ⟨(some 109), oLoadN 5 (rT 108), none, none⟩,
  ⟨(some 17), oAlloc [(.int .i64 0), (.int .u8 0), (.string ⟨#[]⟩), (.int .i64 0), (.slice none 0 0)], none, (some [(.int .i64 0), (.int .u8 0), (.string ⟨#[]⟩), (.int .i64 0), (.slice none 0 0)])⟩,
  ⟨none, oStore 5 (rT 17) (rT 109), none, none⟩])
 (.seq (.region [⟨(some 110), oMv (rT 15), none, none⟩,
  ⟨(some 111), oFieldAddr 0 (rT 17), none, none⟩,
  ⟨(some 112), oLoadN 4 (rT 111), none, none⟩,
  ⟨(some 113), oFieldAddr 4 (rT 17), none, none⟩,
  ⟨(some 114), oLoad1 (rT 113), none, none⟩,
  ⟨(some 115), oBuild #[(.int .i64 0), (.int .u8 0), (.string ⟨#[]⟩), (.int .i64 0), (.slice none 0 0), (.bool false)] [(0, 4), (4, 1), (5, 1)] [(0, (.tmp 112)), (1, (.tmp 114))], none, none⟩,
  ⟨(some 116), oBuildSlice false 6 1 [(.int .i64 0), (.int .u8 0), (.string ⟨#[]⟩), (.int .i64 0), (.slice none 0 0), (.bool false)] [(0, (.tmp 115))], none, none⟩,
  ⟨(some 117), oCallM [(145, 204), (148, 211)] (.tmp 110) [(.tmp 116)], none, none⟩,
  ⟨(some 18), oMv (rT 117), none, none⟩])
 (.seq (.region [⟨(some 118), oMv (rT 18), none, none⟩,
  ⟨(some 119), oBinBy (cmpBy .neq cNeq) (.tmp 118) (.const (.int .i64 0)), none, none⟩])
 (.cond (.tmp 119) (.seq (.region [⟨(some 120), oMv (rT 18), none, none⟩,
  ⟨(some 8), oMv (rT 120), none, none⟩])
 .ret)
 .skip)))))
 (.region [⟨(some 121), oBinBy (arithBy .add nAdd) (.tmp 106) (.const (.int .i64 1)), none, none⟩,
  ⟨(some 106), oMv (rT 121), none, none⟩])))))))
 (.seq (.region [⟨(some 122), oMv (rT 15), none, none⟩,
  ⟨(some 123), oCallM [(145, 205), (148, 212)] (.tmp 122) [], none, none⟩,
  ⟨(some 8), oMv (rT 123), none, none⟩])
 .ret)))))))))⟩
def c24 : FFunc := ⟨[.tmp 0], (.seq (.region [⟨(some 0), oMv (rC (.slice none 0 0)), none, none⟩])
 (.seq (.region [⟨(some 1), oBuild #[(.int .i64 0), (.int .u8 0), (.string ⟨#[]⟩), (.int .i64 0)] [(0, 1), (1, 1), (2, 1), (3, 1)] [(0, (.const (.int .i64 1))), (1, (.const (.int .u8 1)))], none, none⟩,
  ⟨(some 2), oBuildSlice true 1 4 [(.int .u8 0)] [(0, (.const (.int .u8 1))), (1, (.const (.int .u8 1))), (2, (.const (.int .u8 0))), (3, (.const (.int .u8 0)))], none, none⟩,
  ⟨(some 3), oBuild #[(.int .i64 0), (.int .u8 0), (.string ⟨#[]⟩), (.int .i64 0), (.slice none 0 0)] [(0, 4), (4, 1)] [(0, (.tmp 1)), (1, (.tmp 2))], none, none⟩,
  ⟨(some 4), oBuildSlice false 5 1 [(.int .i64 0), (.int .u8 0), (.string ⟨#[]⟩), (.int .i64 0), (.slice none 0 0)] [(0, (.tmp 3))], none, none⟩,
  ⟨(some 0), oMv (rT 4), none, none⟩])
 .ret))⟩
def c25 : FFunc := ⟨[.cells 2 4], (.seq (.region [⟨(some 2), oAlloc [(.int .i64 0), (.int .i64 0), (.int .i64 0), (.int .i64 0)], none, (some [(.int .i64 0), (.int .i64 0), (.int .i64 0), (.int .i64 0)])⟩])
 (.seq (.seq (.region [⟨(some 3), oMv (rT 0), none, none⟩,
  ⟨(some 4), oCall 16 [(.tmp 3)], none, none⟩])
 (.cond (.tmp 4) (.seq (.region [⟨(some 5), oBuild #[(.int .i64 0), (.int .i64 0), (.int .i64 0), (.int .i64 0)] [(0, 1), (1, 1), (2, 1), (3, 1)] [], none, none⟩,
  ⟨none, oStore 4 (rT 2) (rT 5), none, none⟩])
 .ret)
 .skip))
 (.seq (.region [⟨(some 6), oMv (rT 0), none, none⟩,
  ⟨(some 7), oNilCheck (rT 6), none, none⟩,
  ⟨(some 8), oFieldAddr 0 (rT 7), none, none⟩,
  ⟨(some 9), oLoadN 4 (rT 8), none, none⟩,
  ⟨none, oStore 4 (rT 2) (rT 9), none, none⟩])
 .ret)))⟩
def c26 : FFunc := ⟨[.tmp 6, .tmp 7], (.seq (.region [⟨(some 6), oMv (rC (.slice none 0 0)), none, none⟩,
  ⟨(some 7), oMv (rC (.int .i64 0)), none, none⟩])
 (.seq (.seq (.region [⟨(some 9), oMv (rT 0), none, none⟩,
  ⟨(some 10), oMv (rT 1), none, none⟩,
  ⟨(some 11), oMv (rT 2), none, none⟩,
  ⟨(some 12), oCall 20 [(.tmp 9), (.tmp 10), (.tmp 11)], none, none⟩,
  ⟨(some 8), oMv (rT 12), none, none⟩])
 (.seq (.region [⟨(some 13), oMv (rT 8), none, none⟩,
  ⟨(some 14), oBinBy (cmpBy .neq cNeq) (.tmp 13) (.const (.int .i64 0)), none, none⟩])
 (.cond (.tmp 14) (.seq (.region [⟨(some 15), oMv (rT 8), none, none⟩,
  ⟨(some 6), oMv (rC (.slice none 0 0)), none, none⟩,
  ⟨(some 7), oMv (rT 15), none, none⟩])
 .ret)
 .skip)))
 (.seq (.region [⟨(some 16), oMv (rT 0), none, none⟩,
  ⟨(some 17), oMv (rT 1), none, none⟩,
  ⟨(some 18), oMv (rT 2), none, none⟩,
  ⟨(some 19), oCall 38 [(.tmp 16), (.tmp 17), (.tmp 18)], none, none⟩,
  ⟨(some 20), oCall 19 [(.tmp 19)], none, none⟩,
  ⟨(some 6), oMv (rT 20), none, none⟩,
  ⟨(some 7), oMv (rC (.int .i64 0)), none, none⟩])
 .ret)))⟩
def c27 : FFunc := ⟨[], (.seq (.region [⟨(some 10), oBuild #[(.int .i64 0), (.int .u8 0), (.int .u32 0), (.int .u64 0)] [(0, 1), (1, 3)] [], none, none⟩,
  ⟨(some 4), oAlloc [(.int .i64 0), (.int .u8 0), (.int .u32 0), (.int .u64 0)], none, (some [(.int .i64 0), (.int .u8 0), (.int .u32 0), (.int .u64 0)])⟩,
  ⟨none, oStore 4 (rT 4) (rT 10), none, none⟩])
 (.seq (.seq (.region [⟨(some 11), oMv (rT 0), none, none⟩,
  ⟨(some 12), oNilCheck (rT 11), none, none⟩,
  ⟨(some 13), oFieldAddr 0 (rT 12), none, none⟩,
  ⟨(some 14), oLoad1 (rT 13), none, none⟩,
  ⟨(some 15), oCall 25 [(.tmp 14)], none, none⟩,
  ⟨(some 16), oField false 1 1 (.tmp 15), none, none⟩,
  ⟨(some 17), oMv (rC (.int .i64 0)), none, none⟩])
 (.block 0 (.loop (.seq (.region [⟨(some 18), oBinBy (cmpBy .lss cLss) (.tmp 17) (.tmp 16), none, none⟩])
 (.seq (.cond (.tmp 18) .skip
 (.exit 0))
 (.seq (.block 1 (.seq (.region [⟨(some 19), oMv (rT 17), none, none⟩,
  ⟨(some 5), oMv (rT 19), none, none⟩])
 (.seq (.region [⟨(some 21), oMv (rT 0), none, none⟩,
  ⟨(some 22), oNilCheck (rT 21), none, none⟩,
  ⟨(some 23), oFieldAddr 0 (rT 22), none, none⟩,
  ⟨(some 24), oLoad1 (rT 23), none, none⟩,
  ⟨(some 25), oMv (rT 1), none, none⟩,
  ⟨(some 26), oMv (rT 5), none, none⟩,
  ⟨(some 27), oCall 26 [(.tmp 24), (.tmp 25), (.tmp 26)], none, none⟩,
  ⟨(some 20), oMv (rT 27), none, none⟩,
  ⟨(some 28), oExtract (rT 20) 0, none, none⟩,
  ⟨(some 29), oExtract (rT 20) 1, none, none⟩,
  ⟨(some 6), oMv (rT 28), none, none⟩,
  ⟨(some 7), oMv (rT 29), none, none⟩])
 (.seq (.seq (.region [⟨(some 30), oMv (rT 7), none, none⟩,
  ⟨(some 31), oBinBy (cmpBy .neq cNeq) (.tmp 30) (.const (.int .i64 0)), none, none⟩])
 (.cond (.tmp 31) .ret
 .skip))
 (.seq (.seq (.region [⟨(some 33), oMv (rT 6), none, none⟩,
  ⟨(some 34), oCall 39 [(.tmp 33)], none, none⟩,
  ⟨(some 32), oMv (rT 34), none, none⟩,
  ⟨(some 35), oExtract (rT 32) 0, none, none⟩,
  ⟨(some 36), oExtract (rT 32) 1, none, none⟩,
  ⟨(some 8), oAlloc [(.int .u8 0), (.int .u32 0), (.int .u64 0)], none, (some [(.int .u8 0), (.int .u32 0), (.int .u64 0)])⟩,
  ⟨none, oStore 3 (rT 8) (rT 35), none, none⟩,
  ⟨(some 9), oMv (rT 36), none, none⟩])
 (.seq (.region [⟨(some 37), oMv (rT 5), none, none⟩,
  ⟨(some 38), oBinBy (cmpBy .eql cEql) (.tmp 37) (.const (.int .i64 0)), none, none⟩,
  ⟨(some 39), oMv (rT 38), none, none⟩,
  ⟨(some 40), oMv (rT 9), (some (39, true)), none⟩,
  ⟨(some 41), oBinBy (cmpBy .eql cEql) (.tmp 40) (.const (.int .i64 0)), (some (39, true)), none⟩,
  ⟨(some 42), oPick (rT 39) (rT 41) (rC (.bool false)), none, none⟩])
 (.cond (.tmp 42) (.seq (.draw [⟨(some 43), oMv (rT 0), none, none⟩,
  ⟨(some 44), oNilCheck (rT 43), none, none⟩,
  ⟨(some 45), oFieldAddr 1 (rT 44), none, none⟩,
  ⟨(some 46), oLoad1 (rT 45), none, none⟩,
  ⟨(some 47), oMv (rT 1), none, none⟩,
  ⟨(some 48), oLoadN 3 (rT 8), none, none⟩,
  ⟨(some 49), oBuild #[(.int .i64 0), (.int .u8 0), (.int .u32 0), (.int .u64 0)] [(0, 1), (1, 3)] [(0, (.const (.int .i64 2))), (1, (.tmp 48))], none, none⟩,
  ⟨(some 50), oIndexAddr 4 (rT 46) (rT 47), none, none⟩,
  ⟨none, oStore 4 (rT 50) (rT 49), none, none⟩] 0 [])
 .ret)
 .skip)))
 (.seq (.region [⟨(some 51), oMv (rT 6), none, none⟩,
  ⟨(some 52), oCall 40 [(.tmp 51)], none, none⟩,
  ⟨(some 53), oUn .not (.tmp 52), none, none⟩])
 (.cond (.tmp 53) (.region [⟨(some 54), oFieldAddr 0 (rT 4), none, none⟩,
  ⟨none, oStore 1 (rT 54) (rC (.int .i64 1)), none, none⟩])
 .skip)))))))
 (.region [⟨(some 55), oBinBy (arithBy .add nAdd) (.tmp 17) (.const (.int .i64 1)), none, none⟩,
  ⟨(some 17), oMv (rT 55), none, none⟩])))))))
 (.draw [⟨(some 56), oMv (rT 0), none, none⟩,
  ⟨(some 57), oNilCheck (rT 56), none, none⟩,
  ⟨(some 58), oFieldAddr 1 (rT 57), none, none⟩,
  ⟨(some 59), oLoad1 (rT 58), none, none⟩,
  ⟨(some 60), oMv (rT 1), none, none⟩,
  ⟨(some 61), oLoadN 4 (rT 4), none, none⟩,
  ⟨(some 62), oIndexAddr 4 (rT 59) (rT 60), none, none⟩,
  ⟨none, oStore 4 (rT 62) (rT 61), none, none⟩] 0 [])))⟩
def c28 : FFunc := ⟨[.tmp 2], (.seq (.region [⟨(some 2), oMv (rC (.slice none 0 0)), none, none⟩])
 (.seq (.seq (.region [⟨(some 6), oMv (rT 0), none, none⟩,
  ⟨(some 7), oCall 41 [(.tmp 6)], none, none⟩])
 (.cond (.tmp 7) (.seq (.region [⟨(some 2), oMv (rC (.slice none 0 0)), none, none⟩])
 .ret)
 .skip))
 (.seq (.region [⟨(some 3), oMv (rC (.slice none 0 0)), none, none⟩])
 (.seq (.seq (.region [⟨(some 8), oMv (rT 0), none, none⟩,
  ⟨(some 9), oNilCheck (rT 8), none, none⟩,
  ⟨(some 10), oFieldAddr 1 (rT 9), none, none⟩,
  ⟨(some 11), oLoad1 (rT 10), none, none⟩,
  ⟨(some 12), oLenS 84 (rT 11), none, none⟩,
  ⟨(some 13), oMv (rC (.int .i64 0)), none, none⟩])
 (.block 0 (.loop (.seq (.region [⟨(some 14), oBinBy (cmpBy .lss cLss) (.tmp 13) (.tmp 12), none, none⟩])
 (.seq (.cond (.tmp 14) .skip
 (.exit 0))
 (.seq (.block 1 (.seq (.region [⟨(some 15), oMv (rT 13), none, none⟩,
  ⟨(some 16), oIndexAddr 4 (rT 11) (rT 13), none, none⟩,
  ⟨(some 17), oLoadN 4 (rT 16), none, none⟩,
  ⟨(some 5), oAlloc [(.int .i64 0), (.int .u8 0), (.int .u32 0), (.int .u64 0)], none, (some [(.int .i64 0), (.int .u8 0), (.int .u32 0), (.int .u64 0)])⟩,
  ⟨(some 4), oMv (rT 15), none, none⟩,
  ⟨none, oStore 4 (rT 5) (rT 17), none, none⟩])
 (.seq (.region [⟨(some 18), oFieldAddr 0 (rT 5), none, none⟩,
  ⟨(some 19), oLoad1 (rT 18), none, none⟩,
  ⟨(some 20), oBinBy (cmpBy .eql cEql) (.tmp 19) (.const (.int .i64 2)), none, none⟩])
 (.cond (.tmp 20) (.draw [⟨(some 21), oMv (rT 3), none, none⟩,
  ⟨(some 22), oMv (rT 4), none, none⟩,
  ⟨(some 23), oFieldAddr 1 (rT 5), none, none⟩,
  ⟨(some 24), oLoadN 3 (rT 23), none, none⟩,
  ⟨(some 25), oMv (rT 0), none, none⟩,
  ⟨(some 26), oNilCheck (rT 25), none, none⟩,
  ⟨(some 27), oFieldAddr 0 (rT 26), none, none⟩,
  ⟨(some 28), oLoad1 (rT 27), none, none⟩,
  ⟨(some 29), oMv (rT 4), none, none⟩,
  ⟨(some 30), oCall 42 [(.tmp 28), (.tmp 29)], none, none⟩,
  ⟨(some 31), oBuild #[(.int .i64 0), (.int .u8 0), (.int .u32 0), (.int .u64 0), (.bool false)] [(0, 1), (1, 3), (4, 1)] [(0, (.tmp 22)), (1, (.tmp 24)), (2, (.tmp 30))], none, none⟩,
  ⟨(some 32), oBuildSlice false 5 1 [(.int .i64 0), (.int .u8 0), (.int .u32 0), (.int .u64 0), (.bool false)] [(0, (.tmp 31))], none, none⟩,
  ⟨(some 33), oAppend 5 32 (.tmp 21) (.tmp 32), none, none⟩,
  ⟨(some 3), oMv (rT 33), none, none⟩] 0 [(3, 9)])
 .skip))))
 (.region [⟨(some 34), oBinBy (arithBy .add nAdd) (.tmp 13) (.const (.int .i64 1)), none, none⟩,
  ⟨(some 13), oMv (rT 34), none, none⟩])))))))
 (.seq (.region [⟨(some 35), oMv (rT 3), none, none⟩,
  ⟨(some 36), oCall 43 [(.tmp 35), (.func 44)], none, none⟩])
 (.seq (.region [⟨(some 37), oMv (rT 3), none, none⟩,
  ⟨(some 2), oMv (rT 37), none, none⟩])
 .ret))))))⟩
def c29 : FFunc := ⟨[.tmp 4, .tmp 5, .cells 6 3, .tmp 7], (.seq (.region [⟨(some 4), oMv (rC (.bool false)), none, none⟩,
  ⟨(some 5), oMv (rC (.bool false)), none, none⟩,
  ⟨(some 6), oAlloc [(.int .u8 0), (.int .u8 0), (.int .u8 0)], none, (some [(.int .u8 0), (.int .u8 0), (.int .u8 0)])⟩,
  ⟨(some 7), oMv (rC (.int .i64 0)), none, none⟩])
 (.seq (.region [⟨(some 20), oMv (rT 0), none, none⟩,
  ⟨(some 21), oCall 11 [(.tmp 20)], none, none⟩,
  ⟨(some 19), oMv (rT 21), none, none⟩,
  ⟨(some 22), oExtract (rT 19) 0, none, none⟩,
  ⟨(some 23), oExtract (rT 19) 1, none, none⟩,
  ⟨(some 8), oMv (rT 22), none, none⟩,
  ⟨(some 7), oMv (rT 23), none, none⟩])
 (.seq (.block 0 (.seq (.region [⟨(some 25), oMv (rT 7), none, none⟩,
  ⟨(some 26), oBinBy (cmpBy .neq cNeq) (.tmp 25) (.const (.int .i64 0)), none, none⟩,
  ⟨(some 24), oMv (rT 26), none, none⟩])
 (.cond (.tmp 24) (.seq (.draw [⟨(some 27), oLoadN 3 (rT 6), none, none⟩,
  ⟨(some 28), oMv (rT 7), none, none⟩,
  ⟨(some 4), oMv (rC (.bool false)), none, none⟩,
  ⟨(some 5), oMv (rC (.bool false)), none, none⟩,
  ⟨none, oStore 3 (rT 6) (rT 27), none, none⟩,
  ⟨(some 7), oMv (rT 28), none, none⟩] 0 [])
 .ret)
 (.seq (.region [⟨(some 30), oMv (rT 1), none, none⟩,
  ⟨(some 31), oBinBy (cmpBy .eql cEql) (.tmp 30) (.const (.int .u32 0)), none, none⟩,
  ⟨(some 29), oMv (rT 31), none, none⟩])
 (.cond (.tmp 29) (.seq (.draw [⟨(some 32), oLoadN 3 (rT 6), none, none⟩,
  ⟨(some 4), oMv (rC (.bool false)), none, none⟩,
  ⟨(some 5), oMv (rC (.bool false)), none, none⟩,
  ⟨none, oStore 3 (rT 6) (rT 32), none, none⟩,
  ⟨(some 7), oMv (rC (.int .i64 2)), none, none⟩] 0 [])
 .ret)
 .skip)))))
 (.seq (.seq (.region [⟨(some 33), oMv (rT 8), none, none⟩,
  ⟨(some 34), oCall 28 [(.tmp 33)], none, none⟩,
  ⟨(some 35), oLenS 88 (rT 34), none, none⟩,
  ⟨(some 36), oMv (rC (.int .i64 0)), none, none⟩])
 (.block 1 (.loop (.seq (.region [⟨(some 37), oBinBy (cmpBy .lss cLss) (.tmp 36) (.tmp 35), none, none⟩])
 (.seq (.cond (.tmp 37) .skip
 (.exit 1))
 (.seq (.block 2 (.seq (.region [⟨(some 38), oIndexAddr 5 (rT 34) (rT 36), none, none⟩,
  ⟨(some 39), oLoadN 5 (rT 38), none, none⟩,
  ⟨(some 10), oAlloc [(.int .i64 0), (.int .u8 0), (.int .u32 0), (.int .u64 0), (.bool false)], none, (some [(.int .i64 0), (.int .u8 0), (.int .u32 0), (.int .u64 0), (.bool false)])⟩,
  ⟨none, oStore 5 (rT 10) (rT 39), none, none⟩])
 (.seq (.seq (.region [⟨(some 40), oFieldAddr 1 (rT 10), none, none⟩,
  ⟨(some 41), oFieldAddr 0 (rT 40), none, none⟩,
  ⟨(some 42), oLoad1 (rT 41), none, none⟩,
  ⟨(some 43), oBinBy (cmpBy .neq cNeq) (.tmp 42) (.const (.int .u8 3)), none, none⟩,
  ⟨(some 44), oMv (rT 43), none, none⟩,
  ⟨(some 45), oFieldAddr 1 (rT 10), (some (44, false)), none⟩,
  ⟨(some 46), oFieldAddr 1 (rT 45), (some (44, false)), none⟩,
  ⟨(some 47), oLoad1 (rT 46), (some (44, false)), none⟩,
  ⟨(some 48), oMv (rT 1), (some (44, false)), none⟩,
  ⟨(some 49), oBinBy (cmpBy .neq cNeq) (.tmp 47) (.tmp 48), (some (44, false)), none⟩,
  ⟨(some 50), oPick (rT 44) (rC (.bool true)) (rT 49), none, none⟩])
 (.cond (.tmp 50) (.exit 2)
 .skip))
 (.seq (.region [⟨(some 11), oMv (rC (.int .i64 1)), none, none⟩])
 (.block 3 (.loop (.seq (.seq (.region [⟨(some 51), oMv (rT 11), none, none⟩,
  ⟨(some 52), oMv (rT 0), none, none⟩,
  ⟨(some 53), oCall 25 [(.tmp 52)], none, none⟩,
  ⟨(some 54), oField false 1 1 (.tmp 53), none, none⟩,
  ⟨(some 55), oBinBy (cmpBy .lss cLss) (.tmp 51) (.tmp 54), none, none⟩])
 (.cond (.tmp 55) .skip
 (.exit 3)))
 (.seq (.block 4 (.seq (.region [⟨(some 59), oMv (rT 0), none, none⟩,
  ⟨(some 60), oFieldAddr 0 (rT 10), none, none⟩,
  ⟨(some 61), oLoad1 (rT 60), none, none⟩,
  ⟨(some 62), oMv (rT 11), none, none⟩,
  ⟨(some 63), oCall 26 [(.tmp 59), (.tmp 61), (.tmp 62)], none, none⟩,
  ⟨(some 58), oMv (rT 63), none, none⟩,
  ⟨(some 64), oExtract (rT 58) 0, none, none⟩,
  ⟨(some 65), oExtract (rT 58) 1, none, none⟩,
  ⟨(some 12), oMv (rT 64), none, none⟩,
  ⟨(some 13), oMv (rT 65), none, none⟩])
 (.seq (.region [⟨(some 67), oMv (rT 12), none, none⟩,
  ⟨(some 68), oCall 45 [(.tmp 67)], none, none⟩,
  ⟨(some 66), oMv (rT 68), none, none⟩,
  ⟨(some 69), oExtract (rT 66) 0, none, none⟩,
  ⟨(some 70), oExtract (rT 66) 1, none, none⟩,
  ⟨(some 71), oExtract (rT 66) 2, none, none⟩,
  ⟨(some 14), oMv (rT 69), none, none⟩,
  ⟨(some 15), oMv (rT 70), none, none⟩,
  ⟨(some 16), oMv (rT 71), none, none⟩])
 (.seq (.seq (.region [⟨(some 72), oMv (rT 16), none, none⟩,
  ⟨(some 73), oBinBy (cmpBy .neq cNeq) (.tmp 72) (.const (.int .i64 0)), none, none⟩,
  ⟨(some 74), oMv (rT 73), none, none⟩,
  ⟨(some 75), oMv (rT 14), (some (74, false)), none⟩,
  ⟨(some 76), oBinBy (cmpBy .neq cNeq) (.tmp 75) (.const (.int .u8 7)), (some (74, false)), none⟩,
  ⟨(some 77), oPick (rT 74) (rC (.bool true)) (rT 76), none, none⟩])
 (.cond (.tmp 77) (.exit 4)
 .skip))
 (.seq (.region [⟨(some 79), oMv (rT 15), none, none⟩,
  ⟨(some 80), oCall 46 [(.tmp 79)], none, none⟩,
  ⟨(some 78), oMv (rT 80), none, none⟩,
  ⟨(some 81), oExtract (rT 78) 0, none, none⟩,
  ⟨(some 82), oExtract (rT 78) 1, none, none⟩,
  ⟨(some 17), oAlloc [(.int .u8 0), (.int .u8 0), (.int .u8 0)], none, (some [(.int .u8 0), (.int .u8 0), (.int .u8 0)])⟩,
  ⟨none, oStore 3 (rT 17) (rT 81), none, none⟩,
  ⟨(some 18), oMv (rT 82), none, none⟩])
 (.seq (.region [⟨(some 83), oMv (rT 18), none, none⟩,
  ⟨(some 84), oBinBy (cmpBy .eql cEql) (.tmp 83) (.const (.int .i64 0)), none, none⟩])
 (.cond (.tmp 84) (.seq (.seq (.region [⟨(some 85), oMv (rT 4), none, none⟩,
  ⟨(some 86), oUn .not (.tmp 85), none, none⟩])
 (.cond (.tmp 86) (.region [⟨(some 87), oFieldAddr 0 (rT 17), none, none⟩,
  ⟨(some 88), oLoad1 (rT 87), none, none⟩,
  ⟨(some 89), oFieldAddr 1 (rT 17), none, none⟩,
  ⟨(some 90), oLoad1 (rT 89), none, none⟩,
  ⟨(some 91), oBuild #[(.int .u8 0), (.int .u8 0), (.int .u8 0)] [(0, 1), (1, 1), (2, 1)] [(0, (.tmp 88)), (1, (.tmp 90))], none, none⟩,
  ⟨none, oStore 3 (rT 6) (rT 91), none, none⟩])
 .skip))
 (.draw [⟨(some 92), oMv (rT 5), none, none⟩,
  ⟨(some 93), oMv (rT 92), none, none⟩,
  ⟨(some 94), oFieldAddr 2 (rT 17), (some (93, false)), none⟩,
  ⟨(some 95), oLoad1 (rT 94), (some (93, false)), none⟩,
  ⟨(some 96), oBinBy (cmpBy .eql cEql) (.tmp 95) (.const (.int .u8 2)), (some (93, false)), none⟩,
  ⟨(some 97), oPick (rT 93) (rC (.bool true)) (rT 96), none, none⟩,
  ⟨(some 4), oMv (rC (.bool true)), none, none⟩,
  ⟨(some 5), oMv (rT 97), none, none⟩] 0 []))
 .skip)))))))
 (.region [⟨(some 56), oMv (rT 11), none, none⟩,
  ⟨(some 57), oBinBy (arithBy .add nAdd) (.tmp 56) (.const (.int .i64 1)), none, none⟩,
  ⟨(some 11), oMv (rT 57), none, none⟩])))))))))
 (.region [⟨(some 98), oBinBy (arithBy .add nAdd) (.tmp 36) (.const (.int .i64 1)), none, none⟩,
  ⟨(some 36), oMv (rT 98), none, none⟩])))))))
 (.seq (.draw [⟨(some 99), oMv (rT 4), none, none⟩,
  ⟨(some 100), oMv (rT 5), none, none⟩,
  ⟨(some 101), oLoadN 3 (rT 6), none, none⟩,
  ⟨(some 4), oMv (rT 99), none, none⟩,
  ⟨(some 5), oMv (rT 100), none, none⟩,
  ⟨none, oStore 3 (rT 6) (rT 101), none, none⟩,
  ⟨(some 7), oMv (rC (.int .i64 0)), none, none⟩] 0 [])
 .ret)))))⟩
def c30 : FFunc := ⟨[.tmp 6, .tmp 7, .cells 8 2, .tmp 9], (.seq (.region [⟨(some 6), oMv (rC (.slice none 0 0)), none, none⟩,
  ⟨(some 7), oMv (rC (.slice none 0 0)), none, none⟩,
  ⟨(some 8), oAlloc [(.int .i64 0), (.slice none 0 0)], none, (some [(.int .i64 0), (.slice none 0 0)])⟩,
  ⟨(some 9), oMv (rC (.int .i64 0)), none, none⟩])
 (.seq (.region [⟨(some 17), oMv (rT 0), none, none⟩,
  ⟨(some 18), oCall 11 [(.tmp 17)], none, none⟩,
  ⟨(some 16), oMv (rT 18), none, none⟩,
  ⟨(some 19), oExtract (rT 16) 0, none, none⟩,
  ⟨(some 20), oExtract (rT 16) 1, none, none⟩,
  ⟨(some 10), oMv (rT 19), none, none⟩,
  ⟨(some 9), oMv (rT 20), none, none⟩])
 (.seq (.seq (.region [⟨(some 21), oMv (rT 9), none, none⟩,
  ⟨(some 22), oBinBy (cmpBy .neq cNeq) (.tmp 21) (.const (.int .i64 0)), none, none⟩])
 (.cond (.tmp 22) (.seq (.draw [⟨(some 23), oLoadN 2 (rT 8), none, none⟩,
  ⟨(some 24), oMv (rT 9), none, none⟩,
  ⟨(some 6), oMv (rC (.slice none 0 0)), none, none⟩,
  ⟨(some 7), oMv (rC (.slice none 0 0)), none, none⟩,
  ⟨none, oStore 2 (rT 8) (rT 23), none, none⟩,
  ⟨(some 9), oMv (rT 24), none, none⟩] 0 [])
 .ret)
 .skip))
 (.seq (.region [⟨(some 26), oMv (rT 1), none, none⟩,
  ⟨(some 27), oCall 47 [(.tmp 26)], none, none⟩,
  ⟨(some 25), oMv (rT 27), none, none⟩,
  ⟨(some 28), oExtract (rT 25) 0, none, none⟩,
  ⟨(some 29), oExtract (rT 25) 1, none, none⟩,
  ⟨(some 11), oAlloc [.nilFunc, .nilFunc], none, (some [.nilFunc, .nilFunc])⟩,
  ⟨none, oStore 2 (rT 11) (rT 28), none, none⟩,
  ⟨(some 12), oMv (rT 29), none, none⟩])
 (.seq (.seq (.region [⟨(some 30), oMv (rT 12), none, none⟩,
  ⟨(some 31), oUn .not (.tmp 30), none, none⟩,
  ⟨(some 32), oMv (rT 31), none, none⟩,
  ⟨(some 33), oMv (rT 2), (some (32, false)), none⟩,
  ⟨(some 34), oBinBy (cmpBy .eql cEql) (.tmp 33) (.const (.int .u32 0)), (some (32, false)), none⟩,
  ⟨(some 35), oPick (rT 32) (rC (.bool true)) (rT 34), none, none⟩])
 (.cond (.tmp 35) (.seq (.draw [⟨(some 36), oLoadN 2 (rT 8), none, none⟩,
  ⟨(some 6), oMv (rC (.slice none 0 0)), none, none⟩,
  ⟨(some 7), oMv (rC (.slice none 0 0)), none, none⟩,
  ⟨none, oStore 2 (rT 8) (rT 36), none, none⟩,
  ⟨(some 9), oMv (rC (.int .i64 2)), none, none⟩] 0 [])
 .ret)
 .skip))
 (.seq (.seq (.region [⟨(some 37), oMv (rT 10), none, none⟩,
  ⟨(some 38), oCall 28 [(.tmp 37)], none, none⟩,
  ⟨(some 39), oLenS 88 (rT 38), none, none⟩,
  ⟨(some 40), oMv (rC (.int .i64 0)), none, none⟩])
 (.block 0 (.loop (.seq (.region [⟨(some 41), oBinBy (cmpBy .lss cLss) (.tmp 40) (.tmp 39), none, none⟩])
 (.seq (.cond (.tmp 41) .skip
 (.exit 0))
 (.seq (.block 1 (.seq (.region [⟨(some 42), oIndexAddr 5 (rT 38) (rT 40), none, none⟩,
  ⟨(some 43), oLoadN 5 (rT 42), none, none⟩,
  ⟨(some 14), oAlloc [(.int .i64 0), (.int .u8 0), (.int .u32 0), (.int .u64 0), (.bool false)], none, (some [(.int .i64 0), (.int .u8 0), (.int .u32 0), (.int .u64 0), (.bool false)])⟩,
  ⟨none, oStore 5 (rT 14) (rT 43), none, none⟩])
 (.seq (.region [⟨(some 44), oFieldAddr 1 (rT 14), none, none⟩,
  ⟨(some 45), oFieldAddr 0 (rT 44), none, none⟩,
  ⟨(some 46), oLoad1 (rT 45), none, none⟩,
  ⟨(some 47), oMv (rT 1), none, none⟩,
  ⟨(some 48), oBinBy (cmpBy .eql cEql) (.tmp 46) (.tmp 47), none, none⟩,
  ⟨(some 49), oMv (rT 48), none, none⟩,
  ⟨(some 50), oFieldAddr 1 (rT 14), (some (49, true)), none⟩,
  ⟨(some 51), oFieldAddr 1 (rT 50), (some (49, true)), none⟩,
  ⟨(some 52), oLoad1 (rT 51), (some (49, true)), none⟩,
  ⟨(some 53), oMv (rT 2), (some (49, true)), none⟩,
  ⟨(some 54), oBinBy (cmpBy .eql cEql) (.tmp 52) (.tmp 53), (some (49, true)), none⟩,
  ⟨(some 55), oPick (rT 49) (rT 54) (rC (.bool false)), none, none⟩])
 (.cond (.tmp 55) (.region [⟨(some 56), oMv (rT 6), none, none⟩,
  ⟨(some 57), oFieldAddr 0 (rT 14), none, none⟩,
  ⟨(some 58), oLoad1 (rT 57), none, none⟩,
  ⟨(some 59), oBuildSlice false 1 1 [(.int .i64 0)] [(0, (.tmp 58))], none, none⟩,
  ⟨(some 60), oAppend 1 8 (.tmp 56) (.tmp 59), none, none⟩,
  ⟨(some 6), oMv (rT 60), none, none⟩])
 .skip))))
 (.region [⟨(some 61), oBinBy (arithBy .add nAdd) (.tmp 40) (.const (.int .i64 1)), none, none⟩,
  ⟨(some 40), oMv (rT 61), none, none⟩])))))))
 (.seq (.region [⟨(some 63), oFieldAddr 0 (rT 11), none, none⟩,
  ⟨(some 64), oLoad1 (rT 63), none, none⟩,
  ⟨(some 65), oMv (rT 0), none, none⟩,
  ⟨(some 66), oMv (rT 2), none, none⟩,
  ⟨(some 67), oCallV (.tmp 64) [(.tmp 65), (.tmp 66)], none, none⟩,
  ⟨(some 62), oMv (rT 67), none, none⟩,
  ⟨(some 68), oExtract (rT 62) 0, none, none⟩,
  ⟨(some 69), oExtract (rT 62) 1, none, none⟩,
  ⟨(some 7), oMv (rT 68), none, none⟩,
  ⟨(some 9), oMv (rT 69), none, none⟩])
 (.seq (.region [⟨(some 70), oMv (rT 0), none, none⟩,
  ⟨(some 71), oCall 25 [(.tmp 70)], none, none⟩,
  ⟨(some 15), oAlloc [(.int .i64 0), (.int .i64 0), (.int .i64 0), (.int .i64 0)], none, (some [(.int .i64 0), (.int .i64 0), (.int .i64 0), (.int .i64 0)])⟩,
  ⟨none, oStore 4 (rT 15) (rT 71), none, none⟩])
 (.seq (.seq (.region [⟨(some 72), oMv (rT 9), none, none⟩,
  ⟨(some 73), oBinBy (cmpBy .neq cNeq) (.tmp 72) (.const (.int .i64 0)), none, none⟩,
  ⟨(some 74), oMv (rT 73), none, none⟩,
  ⟨(some 75), oMv (rT 6), (some (74, false)), none⟩,
  ⟨(some 76), oLenS 3 (rT 75), (some (74, false)), none⟩,
  ⟨(some 77), oBinBy (cmpBy .eql cEql) (.tmp 76) (.const (.int .i64 0)), (some (74, false)), none⟩,
  ⟨(some 78), oPick (rT 74) (rC (.bool true)) (rT 77), none, none⟩,
  ⟨(some 79), oMv (rT 78), none, none⟩,
  ⟨(some 80), oMv (rT 7), (some (79, false)), none⟩,
  ⟨(some 81), oLenS 106 (rT 80), (some (79, false)), none⟩,
  ⟨(some 82), oLoadN 4 (rT 15), (some (79, false)), none⟩,
  ⟨(some 83), oCall 48 [(.tmp 82)], (some (79, false)), none⟩,
  ⟨(some 84), oBinBy (cmpBy .gtr cGtr) (.tmp 81) (.tmp 83), (some (79, false)), none⟩,
  ⟨(some 85), oPick (rT 79) (rC (.bool true)) (rT 84), none, none⟩])
 (.cond (.tmp 85) (.seq (.draw [⟨(some 86), oLoadN 2 (rT 8), none, none⟩,
  ⟨(some 6), oMv (rC (.slice none 0 0)), none, none⟩,
  ⟨(some 7), oMv (rC (.slice none 0 0)), none, none⟩,
  ⟨none, oStore 2 (rT 8) (rT 86), none, none⟩,
  ⟨(some 9), oMv (rC (.int .i64 16)), none, none⟩] 0 [])
 .ret)
 .skip))
 (.seq (.region [⟨(some 88), oMv (rT 7), none, none⟩,
  ⟨(some 89), oFieldAddr 2 (rT 15), none, none⟩,
  ⟨(some 90), oLoad1 (rT 89), none, none⟩,
  ⟨(some 91), oCall 50 [(.tmp 90)], none, none⟩,
  ⟨(some 92), oCall 49 [(.tmp 88), (.tmp 91)], none, none⟩,
  ⟨(some 87), oMv (rT 92), none, none⟩,
  ⟨(some 93), oExtract (rT 87) 0, none, none⟩,
  ⟨(some 94), oExtract (rT 87) 1, none, none⟩,
  ⟨none, oStore 2 (rT 8) (rT 93), none, none⟩,
  ⟨(some 9), oMv (rT 94), none, none⟩])
 (.seq (.seq (.region [⟨(some 95), oMv (rT 9), none, none⟩,
  ⟨(some 96), oBinBy (cmpBy .neq cNeq) (.tmp 95) (.const (.int .i64 0)), none, none⟩])
 (.cond (.tmp 96) (.seq (.region [⟨(some 97), oBuild #[(.int .i64 0), (.slice none 0 0)] [(0, 1), (1, 1)] [], none, none⟩,
  ⟨(some 6), oMv (rC (.slice none 0 0)), none, none⟩,
  ⟨(some 7), oMv (rC (.slice none 0 0)), none, none⟩,
  ⟨none, oStore 2 (rT 8) (rT 97), none, none⟩,
  ⟨(some 9), oMv (rC (.int .i64 16)), none, none⟩])
 .ret)
 .skip))
 (.seq (.draw [⟨(some 98), oMv (rT 6), none, none⟩,
  ⟨(some 99), oMv (rT 7), none, none⟩,
  ⟨(some 100), oLoadN 2 (rT 8), none, none⟩,
  ⟨(some 6), oMv (rT 98), none, none⟩,
  ⟨(some 7), oMv (rT 99), none, none⟩,
  ⟨none, oStore 2 (rT 8) (rT 100), none, none⟩,
  ⟨(some 9), oMv (rC (.int .i64 0)), none, none⟩] 0 [])
 .ret))))))))))))⟩
def c31 : FFunc := ⟨[.tmp 4, .tmp 5], (.seq (.region [⟨(some 4), oMv (rC (.int .u64 0)), none, none⟩,
  ⟨(some 5), oMv (rC (.int .u64 0)), none, none⟩])
 (.seq (.cond (.const (.bool false)) (.seq (.region [⟨(some 11), oMv (rT 0), none, none⟩,
  ⟨(some 12), oToInt .u32 (.tmp 11), none, none⟩,
  ⟨(some 13), oMv (rT 1), none, none⟩,
  ⟨(some 14), oToInt .u32 (.tmp 13), none, none⟩,
  ⟨(some 15), oCall 51 [(.tmp 12), (.tmp 14)], none, none⟩,
  ⟨(some 10), oMv (rT 15), none, none⟩,
  ⟨(some 16), oExtract (rT 10) 0, none, none⟩,
  ⟨(some 17), oExtract (rT 10) 1, none, none⟩,
  ⟨(some 6), oMv (rT 16), none, none⟩,
  ⟨(some 7), oMv (rT 17), none, none⟩])
 (.seq (.region [⟨(some 18), oMv (rT 6), none, none⟩,
  ⟨(some 19), oToInt .u64 (.tmp 18), none, none⟩,
  ⟨(some 20), oMv (rT 7), none, none⟩,
  ⟨(some 21), oToInt .u64 (.tmp 20), none, none⟩,
  ⟨(some 4), oMv (rT 19), none, none⟩,
  ⟨(some 5), oMv (rT 21), none, none⟩])
 .ret))
 .skip)
 (.seq (.region [⟨(some 23), oMv (rT 0), none, none⟩,
  ⟨(some 24), oMv (rT 1), none, none⟩,
  ⟨(some 25), oCall 52 [(.tmp 23), (.tmp 24)], none, none⟩,
  ⟨(some 22), oMv (rT 25), none, none⟩,
  ⟨(some 26), oExtract (rT 22) 0, none, none⟩,
  ⟨(some 27), oExtract (rT 22) 1, none, none⟩,
  ⟨(some 8), oMv (rT 26), none, none⟩,
  ⟨(some 9), oMv (rT 27), none, none⟩])
 (.seq (.region [⟨(some 28), oMv (rT 8), none, none⟩,
  ⟨(some 29), oMv (rT 9), none, none⟩,
  ⟨(some 4), oMv (rT 28), none, none⟩,
  ⟨(some 5), oMv (rT 29), none, none⟩])
 .ret))))⟩
def c32 : FFunc := ⟨[.tmp 4], (.seq (.region [⟨(some 4), oMv (rC (.int .i64 0)), none, none⟩])
 (.seq (.seq (.region [⟨(some 6), oMv (rT 0), none, none⟩,
  ⟨(some 7), oLenS 48 (rT 6), none, none⟩,
  ⟨(some 8), oMv (rC (.int .i64 0)), none, none⟩])
 (.block 0 (.loop (.seq (.region [⟨(some 9), oBinBy (cmpBy .lss cLss) (.tmp 8) (.tmp 7), none, none⟩])
 (.seq (.cond (.tmp 9) .skip
 (.exit 0))
 (.seq (.block 1 (.seq (.region [⟨(some 10), oMv (rT 8), none, none⟩,
  ⟨(some 5), oMv (rT 10), none, none⟩])
 (.seq (.region [⟨(some 11), oMv (rT 1), none, none⟩,
  ⟨(some 12), oMv (rT 0), none, none⟩,
  ⟨(some 13), oMv (rT 5), none, none⟩,
  ⟨(some 14), oIndexAddr 3 (rT 12) (rT 13), none, none⟩,
  ⟨(some 15), oLoadN 3 (rT 14), none, none⟩,
  ⟨(some 16), oCallV (.tmp 11) [(.tmp 15)], none, none⟩])
 (.cond (.tmp 16) (.seq (.region [⟨(some 17), oMv (rT 5), none, none⟩,
  ⟨(some 4), oMv (rT 17), none, none⟩])
 .ret)
 .skip))))
 (.region [⟨(some 18), oBinBy (arithBy .add nAdd) (.tmp 8) (.const (.int .i64 1)), none, none⟩,
  ⟨(some 8), oMv (rT 18), none, none⟩])))))))
 (.seq (.region [⟨(some 4), oMv (rC (.int .i64 (-1))), none, none⟩])
 .ret)))⟩
def c33 : FFunc := ⟨[.tmp 2], (.seq (.region [⟨(some 2), oMv (rC (.pointer none)), none, none⟩])
 (.seq (.region [⟨(some 4), oMv (rT 0), none, none⟩,
  ⟨(some 5), oNilCheck (rT 4), none, none⟩,
  ⟨(some 6), oFieldAddr 9 (rT 5), none, none⟩,
  ⟨(some 7), oLoad1 (rT 6), none, none⟩,
  ⟨(some 8), oBinBy (arithBy .add nAdd) (.tmp 7) (.const (.int .i64 1)), none, none⟩,
  ⟨(some 9), oNilCheck (rT 4), none, none⟩,
  ⟨(some 10), oFieldAddr 9 (rT 9), none, none⟩,
  ⟨none, oStore 1 (rT 10) (rT 8), none, none⟩])
 (.seq (.block 0 (.seq (.region [⟨(some 12), oMv (rT 0), none, none⟩,
  ⟨(some 13), oNilCheck (rT 12), none, none⟩,
  ⟨(some 14), oFieldAddr 6 (rT 13), none, none⟩,
  ⟨(some 15), oLoad1 (rT 14), none, none⟩,
  ⟨(some 16), oLenS 48 (rT 15), none, none⟩,
  ⟨(some 17), oBinBy (cmpBy .eql cEql) (.tmp 16) (.const (.int .i64 0)), none, none⟩,
  ⟨(some 11), oMv (rT 17), none, none⟩])
 (.cond (.tmp 11) (.seq (.region [⟨(some 2), oMv (rC (.pointer none)), none, none⟩])
 .ret)
 (.seq (.draw [⟨(some 19), oMv (rT 0), none, none⟩,
  ⟨(some 20), oNilCheck (rT 19), none, none⟩,
  ⟨(some 21), oFieldAddr 7 (rT 20), none, none⟩,
  ⟨(some 22), oLoad1 (rT 21), none, none⟩,
  ⟨(some 23), oMv (rT 0), none, none⟩,
  ⟨(some 24), oNilCheck (rT 23), none, none⟩,
  ⟨(some 25), oFieldAddr 6 (rT 24), none, none⟩,
  ⟨(some 26), oLoad1 (rT 25), none, none⟩,
  ⟨(some 27), oIndexAddr 3 (rT 26) (rC (.int .i64 0)), none, none⟩,
  ⟨(some 28), oFieldAddr 0 (rT 27), none, none⟩,
  ⟨(some 29), oLoad1 (rT 28), none, none⟩,
  ⟨(some 30), oBinBy (cmpBy .lss cLss) (.tmp 22) (.tmp 29), none, none⟩,
  ⟨(some 18), oMv (rT 30), none, none⟩] 0 [])
 (.cond (.tmp 18) (.seq (.region [⟨(some 31), oMv (rT 0), none, none⟩,
  ⟨(some 32), oNilCheck (rT 31), none, none⟩,
  ⟨(some 33), oFieldAddr 7 (rT 32), none, none⟩,
  ⟨(some 34), oLoad1 (rT 33), none, none⟩,
  ⟨(some 35), oBinBy (arithBy .add nAdd) (.tmp 34) (.const (.int .i64 1)), none, none⟩,
  ⟨(some 36), oNilCheck (rT 31), none, none⟩,
  ⟨(some 37), oFieldAddr 7 (rT 36), none, none⟩,
  ⟨none, oStore 1 (rT 37) (rT 35), none, none⟩])
 (.seq (.region [⟨(some 2), oMv (rC (.pointer none)), none, none⟩])
 .ret))
 .skip)))))
 (.seq (.region [⟨(some 38), oMv (rT 0), none, none⟩,
  ⟨(some 39), oNilCheck (rT 38), none, none⟩,
  ⟨(some 40), oFieldAddr 6 (rT 39), none, none⟩,
  ⟨(some 41), oLoad1 (rT 40), none, none⟩,
  ⟨(some 42), oIndexAddr 3 (rT 41) (rC (.int .i64 0)), none, none⟩,
  ⟨(some 43), oLoadN 3 (rT 42), none, none⟩,
  ⟨(some 3), oAlloc [(.int .i64 0), (.bool false), (.slice none 0 0)], none, (some [(.int .i64 0), (.bool false), (.slice none 0 0)])⟩,
  ⟨none, oStore 3 (rT 3) (rT 43), none, none⟩])
 (.seq (.region [⟨(some 44), oMv (rT 0), none, none⟩,
  ⟨(some 45), oMv (rT 0), none, none⟩,
  ⟨(some 46), oMv (rT 0), none, none⟩,
  ⟨(some 47), oNilCheck (rT 46), none, none⟩,
  ⟨(some 48), oFieldAddr 6 (rT 47), none, none⟩,
  ⟨(some 49), oLoad1 (rT 48), none, none⟩,
  ⟨(some 50), oSlice 3 (.tmp 49) (some (.const (.int .i64 1))) none none, none, none⟩,
  ⟨(some 51), oNilCheck (rT 44), none, none⟩,
  ⟨(some 52), oFieldAddr 6 (rT 51), none, none⟩,
  ⟨none, oStore 1 (rT 52) (rT 50), none, none⟩,
  ⟨(some 53), oNilCheck (rT 45), none, none⟩,
  ⟨(some 54), oFieldAddr 7 (rT 53), none, none⟩,
  ⟨none, oStore 1 (rT 54) (rC (.int .i64 0)), none, none⟩])
 (.seq (.region [⟨(some 2), oMv (rT 3), none, none⟩])
 .ret))))))⟩
def c34 : FFunc := ⟨[.tmp 6, .tmp 7], (.seq (.region [⟨(some 6), oMv (rC (.pointer none)), none, none⟩,
  ⟨(some 7), oMv (rC (.int .i64 0)), none, none⟩])
 (.seq (.region [⟨(some 11), oMv (rT 0), none, none⟩,
  ⟨(some 12), oCall 11 [(.tmp 11)], none, none⟩,
  ⟨(some 10), oMv (rT 12), none, none⟩,
  ⟨(some 13), oExtract (rT 10) 0, none, none⟩,
  ⟨(some 14), oExtract (rT 10) 1, none, none⟩,
  ⟨(some 8), oMv (rT 13), none, none⟩,
  ⟨(some 9), oMv (rT 14), none, none⟩])
 (.seq (.block 0 (.seq (.region [⟨(some 16), oMv (rT 9), none, none⟩,
  ⟨(some 17), oBinBy (cmpBy .neq cNeq) (.tmp 16) (.const (.int .i64 0)), none, none⟩,
  ⟨(some 15), oMv (rT 17), none, none⟩])
 (.cond (.tmp 15) (.seq (.region [⟨(some 18), oMv (rT 9), none, none⟩,
  ⟨(some 6), oMv (rC (.pointer none)), none, none⟩,
  ⟨(some 7), oMv (rT 18), none, none⟩])
 .ret)
 (.seq (.region [⟨(some 20), oMv (rT 1), none, none⟩,
  ⟨(some 21), oBinBy (cmpBy .neq cNeq) (.tmp 20) (.const (.int .u8 1)), none, none⟩,
  ⟨(some 22), oMv (rT 21), none, none⟩,
  ⟨(some 23), oMv (rT 1), (some (22, true)), none⟩,
  ⟨(some 24), oBinBy (cmpBy .neq cNeq) (.tmp 23) (.const (.int .u8 2)), (some (22, true)), none⟩,
  ⟨(some 25), oPick (rT 22) (rT 24) (rC (.bool false)), none, none⟩,
  ⟨(some 26), oMv (rT 25), none, none⟩,
  ⟨(some 27), oMv (rT 2), (some (26, false)), none⟩,
  ⟨(some 28), oBinBy (cmpBy .eql cEql) (.tmp 27) (.const (.int .u32 0)), (some (26, false)), none⟩,
  ⟨(some 29), oPick (rT 26) (rC (.bool true)) (rT 28), none, none⟩,
  ⟨(some 19), oMv (rT 29), none, none⟩])
 (.cond (.tmp 19) (.seq (.region [⟨(some 6), oMv (rC (.pointer none)), none, none⟩,
  ⟨(some 7), oMv (rC (.int .i64 2)), none, none⟩])
 .ret)
 .skip)))))
 (.seq (.region [⟨(some 30), oMv (rT 8), none, none⟩,
  ⟨(some 6), oMv (rT 30), none, none⟩,
  ⟨(some 7), oMv (rC (.int .i64 0)), none, none⟩])
 .ret))))⟩
def c35 : FFunc := ⟨[.tmp 2], (.seq (.region [⟨(some 1), oBox (.tmp 0), none, none⟩,
  ⟨(some 2), oMv (rC (.bool false)), none, none⟩])
 (.seq (.seq (.region [⟨(some 3), oFieldAddr 0 (rT 1), none, none⟩,
  ⟨(some 4), oLoad1 (rT 3), none, none⟩,
  ⟨(some 5), oBinBy (cmpBy .lss cLss) (.tmp 4) (.const (.int .i64 1)), none, none⟩,
  ⟨(some 6), oMv (rT 5), none, none⟩,
  ⟨(some 7), oFieldAddr 0 (rT 1), (some (6, false)), none⟩,
  ⟨(some 8), oLoad1 (rT 7), (some (6, false)), none⟩,
  ⟨(some 9), oBinBy (cmpBy .gtr cGtr) (.tmp 8) (.const (.int .i64 65535)), (some (6, false)), none⟩,
  ⟨(some 10), oPick (rT 6) (rC (.bool true)) (rT 9), none, none⟩])
 (.cond (.tmp 10) (.seq (.region [⟨(some 2), oMv (rC (.bool false)), none, none⟩])
 .ret)
 .skip))
 (.seq (.seq (.region [⟨(some 11), oFieldAddr 1 (rT 1), none, none⟩,
  ⟨(some 12), oLoad1 (rT 11), none, none⟩])
 (.block 0 (.seq (.region [⟨(some 14), oBinBy (cmpBy .eql cEql) (.tmp 12) (.const (.int .u8 1)), none, none⟩,
  ⟨(some 13), oMv (rT 14), none, none⟩])
 (.cond (.tmp 13) (.seq (.region [⟨(some 15), oLoadN 4 (rT 1), none, none⟩,
  ⟨(some 16), oFieldAddr 0 (rT 1), none, none⟩,
  ⟨(some 17), oLoad1 (rT 16), none, none⟩,
  ⟨(some 18), oFieldAddr 1 (rT 1), none, none⟩,
  ⟨(some 19), oLoad1 (rT 18), none, none⟩,
  ⟨(some 20), oBuild #[(.int .i64 0), (.int .u8 0), (.string ⟨#[]⟩), (.int .i64 0)] [(0, 1), (1, 1), (2, 1), (3, 1)] [(0, (.tmp 17)), (1, (.tmp 19))], none, none⟩,
  ⟨(some 21), oEqFlat false [(0, (.int .i64)), (1, (.int .u8)), (2, .string), (3, (.int .i64))] (.tmp 15) (.tmp 20), none, none⟩,
  ⟨(some 2), oMv (rT 21), none, none⟩])
 .ret)
 (.seq (.region [⟨(some 23), oBinBy (cmpBy .eql cEql) (.tmp 12) (.const (.int .u8 2)), none, none⟩,
  ⟨(some 22), oMv (rT 23), none, none⟩])
 (.cond (.tmp 22) (.seq (.region [⟨(some 24), oFieldAddr 2 (rT 1), none, none⟩,
  ⟨(some 25), oLoad1 (rT 24), none, none⟩,
  ⟨(some 26), oCall 53 [(.tmp 25)], none, none⟩,
  ⟨(some 27), oMv (rT 26), none, none⟩,
  ⟨(some 28), oFieldAddr 3 (rT 1), (some (27, true)), none⟩,
  ⟨(some 29), oLoad1 (rT 28), (some (27, true)), none⟩,
  ⟨(some 30), oBinBy (cmpBy .eql cEql) (.tmp 29) (.const (.int .i64 0)), (some (27, true)), none⟩,
  ⟨(some 31), oPick (rT 27) (rT 30) (rC (.bool false)), none, none⟩,
  ⟨(some 2), oMv (rT 31), none, none⟩])
 .ret)
 (.seq (.region [⟨(some 33), oBinBy (cmpBy .eql cEql) (.tmp 12) (.const (.int .u8 3)), none, none⟩,
  ⟨(some 32), oMv (rT 33), none, none⟩])
 (.cond (.tmp 32) (.seq (.region [⟨(some 34), oFieldAddr 2 (rT 1), none, none⟩,
  ⟨(some 35), oLoad1 (rT 34), none, none⟩,
  ⟨(some 36), oBinBy (cmpBy .eql cEql) (.tmp 35) (.const (.string ⟨#[]⟩)), none, none⟩,
  ⟨(some 37), oMv (rT 36), none, none⟩,
  ⟨(some 38), oFieldAddr 3 (rT 1), (some (37, true)), none⟩,
  ⟨(some 39), oLoad1 (rT 38), (some (37, true)), none⟩,
  ⟨(some 40), oBinBy (cmpBy .geq cGeq) (.tmp 39) (.const (.int .i64 0)), (some (37, true)), none⟩,
  ⟨(some 41), oPick (rT 37) (rT 40) (rC (.bool false)), none, none⟩,
  ⟨(some 42), oMv (rT 41), none, none⟩,
  ⟨(some 43), oFieldAddr 3 (rT 1), (some (42, true)), none⟩,
  ⟨(some 44), oLoad1 (rT 43), (some (42, true)), none⟩,
  ⟨(some 45), oBinBy (cmpBy .lss cLss) (.tmp 44) (.const (.int .i64 8)), (some (42, true)), none⟩,
  ⟨(some 46), oPick (rT 42) (rT 45) (rC (.bool false)), none, none⟩,
  ⟨(some 2), oMv (rT 46), none, none⟩])
 .ret)
 .skip))))))))
 (.seq (.region [⟨(some 2), oMv (rC (.bool false)), none, none⟩])
 .ret))))⟩
def c36 : FFunc := ⟨[.tmp 4], (.seq (.region [⟨(some 2), oBox (.tmp 0), none, none⟩,
  ⟨(some 3), oBox (.tmp 1), none, none⟩,
  ⟨(some 4), oMv (rC (.bool false)), none, none⟩])
 (.seq (.region [⟨(some 5), oLoadN 4 (rT 2), none, none⟩,
  ⟨(some 6), oLoadN 4 (rT 3), none, none⟩,
  ⟨(some 7), oCall 54 [(.tmp 5), (.tmp 6)], none, none⟩,
  ⟨(some 8), oBinBy (cmpBy .lss cLss) (.tmp 7) (.const (.int .i64 0)), none, none⟩,
  ⟨(some 4), oMv (rT 8), none, none⟩])
 .ret))⟩
def c37 : FFunc := ⟨[.tmp 6, .tmp 7], (.seq (.region [⟨(some 6), oMv (rC .nilIface), none, none⟩,
  ⟨(some 7), oMv (rC (.int .i64 0)), none, none⟩])
 (.seq (.seq (.region [⟨(some 12), oMv (rT 1), none, none⟩,
  ⟨(some 13), oBinBy (cmpBy .eql cEql) (.tmp 12) (.const (.int .u8 1)), none, none⟩])
 (.cond (.tmp 13) (.seq (.region [⟨(some 15), oMv (rT 0), none, none⟩,
  ⟨(some 16), oMv (rT 2), none, none⟩,
  ⟨(some 17), oCall 55 [(.tmp 15), (.tmp 16)], none, none⟩,
  ⟨(some 14), oMv (rT 17), none, none⟩,
  ⟨(some 18), oExtract (rT 14) 0, none, none⟩,
  ⟨(some 19), oExtract (rT 14) 1, none, none⟩,
  ⟨(some 8), oMv (rT 18), none, none⟩,
  ⟨(some 9), oMv (rT 19), none, none⟩])
 (.seq (.region [⟨(some 20), oMv (rT 8), none, none⟩,
  ⟨(some 21), oMkIface 145 (.tmp 20), none, none⟩,
  ⟨(some 22), oMv (rT 9), none, none⟩,
  ⟨(some 6), oMv (rT 21), none, none⟩,
  ⟨(some 7), oMv (rT 22), none, none⟩])
 .ret))
 .skip))
 (.seq (.region [⟨(some 24), oMv (rT 0), none, none⟩,
  ⟨(some 25), oMv (rT 2), none, none⟩,
  ⟨(some 26), oCall 56 [(.tmp 24), (.tmp 25)], none, none⟩,
  ⟨(some 23), oMv (rT 26), none, none⟩,
  ⟨(some 27), oExtract (rT 23) 0, none, none⟩,
  ⟨(some 28), oExtract (rT 23) 1, none, none⟩,
  ⟨(some 10), oMv (rT 27), none, none⟩,
  ⟨(some 11), oMv (rT 28), none, none⟩])
 (.seq (.region [⟨(some 29), oMv (rT 10), none, none⟩,
  ⟨(some 30), oMkIface 148 (.tmp 29), none, none⟩,
  ⟨(some 31), oMv (rT 11), none, none⟩,
  ⟨(some 6), oMv (rT 30), none, none⟩,
  ⟨(some 7), oMv (rT 31), none, none⟩])
 .ret))))⟩
def c38 : FFunc := ⟨[.tmp 6], (.seq (.region [⟨(some 6), oMv (rC (.slice none 0 0)), none, none⟩])
 (.seq (.draw [⟨(some 9), oMv (rT 2), none, none⟩,
  ⟨(some 10), oMv (rT 0), none, none⟩,
  ⟨(some 11), oNilCheck (rT 10), none, none⟩,
  ⟨(some 12), oFieldAddr 0 (rT 11), none, none⟩,
  ⟨(some 13), oFieldAddr 2 (rT 12), none, none⟩,
  ⟨(some 14), oLoad1 (rT 13), none, none⟩,
  ⟨(some 15), oBinBy (arithBy .mul nMul) (.tmp 9) (.tmp 14), none, none⟩,
  ⟨(some 16), oMv (rT 2), none, none⟩,
  ⟨(some 17), oBinBy (arithBy .add nAdd) (.tmp 16) (.const (.int .i64 1)), none, none⟩,
  ⟨(some 18), oMv (rT 0), none, none⟩,
  ⟨(some 19), oNilCheck (rT 18), none, none⟩,
  ⟨(some 20), oFieldAddr 0 (rT 19), none, none⟩,
  ⟨(some 21), oFieldAddr 2 (rT 20), none, none⟩,
  ⟨(some 22), oLoad1 (rT 21), none, none⟩,
  ⟨(some 23), oBinBy (arithBy .mul nMul) (.tmp 17) (.tmp 22), none, none⟩,
  ⟨(some 7), oMv (rT 15), none, none⟩,
  ⟨(some 8), oMv (rT 23), none, none⟩] 0 [])
 (.seq (.region [⟨(some 24), oMv (rT 0), none, none⟩,
  ⟨(some 25), oNilCheck (rT 24), none, none⟩,
  ⟨(some 26), oFieldAddr 4 (rT 25), none, none⟩,
  ⟨(some 27), oLoad1 (rT 26), none, none⟩,
  ⟨(some 28), oMv (rT 1), none, none⟩,
  ⟨(some 29), oIndexAddr 1 (rT 27) (rT 28), none, none⟩,
  ⟨(some 30), oLoad1 (rT 29), none, none⟩,
  ⟨(some 31), oMv (rT 7), none, none⟩,
  ⟨(some 32), oMv (rT 8), none, none⟩,
  ⟨(some 33), oMv (rT 8), none, none⟩,
  ⟨(some 34), oSlice 1 (.tmp 30) (some (.tmp 31)) (some (.tmp 32)) (some (.tmp 33)), none, none⟩,
  ⟨(some 6), oMv (rT 34), none, none⟩])
 .ret)))⟩
def c39 : FFunc := ⟨[.cells 2 3, .tmp 3], (.seq (.region [⟨(some 2), oAlloc [(.int .u8 0), (.int .u32 0), (.int .u64 0)], none, (some [(.int .u8 0), (.int .u32 0), (.int .u64 0)])⟩,
  ⟨(some 3), oMv (rC (.int .i64 0)), none, none⟩])
 (.seq (.region [⟨(some 18), oMv (rT 0), none, none⟩,
  ⟨(some 19), oCall 45 [(.tmp 18)], none, none⟩,
  ⟨(some 17), oMv (rT 19), none, none⟩,
  ⟨(some 20), oExtract (rT 17) 0, none, none⟩,
  ⟨(some 21), oExtract (rT 17) 1, none, none⟩,
  ⟨(some 22), oExtract (rT 17) 2, none, none⟩,
  ⟨(some 4), oMv (rT 20), none, none⟩,
  ⟨(some 5), oMv (rT 21), none, none⟩,
  ⟨(some 6), oMv (rT 22), none, none⟩])
 (.seq (.seq (.region [⟨(some 23), oMv (rT 6), none, none⟩,
  ⟨(some 24), oBinBy (cmpBy .neq cNeq) (.tmp 23) (.const (.int .i64 0)), none, none⟩])
 (.cond (.tmp 24) (.seq (.region [⟨(some 25), oBuild #[(.int .u8 0), (.int .u32 0), (.int .u64 0)] [(0, 1), (1, 1), (2, 1)] [], none, none⟩,
  ⟨(some 26), oMv (rT 6), none, none⟩,
  ⟨none, oStore 3 (rT 2) (rT 25), none, none⟩,
  ⟨(some 3), oMv (rT 26), none, none⟩])
 .ret)
 .skip))
 (.seq (.region [⟨(some 27), oMv (rT 5), none, none⟩,
  ⟨(some 28), oCall 57 [(.tmp 27)], none, none⟩,
  ⟨(some 7), oMv (rT 28), none, none⟩])
 (.seq (.region [⟨(some 30), oMv (rT 7), none, none⟩,
  ⟨(some 31), oCall 58 [(.tmp 30), (.const (.int .i64 1))], none, none⟩,
  ⟨(some 29), oMv (rT 31), none, none⟩,
  ⟨(some 32), oExtract (rT 29) 0, none, none⟩,
  ⟨(some 33), oExtract (rT 29) 1, none, none⟩,
  ⟨(some 8), oMv (rT 32), none, none⟩,
  ⟨(some 9), oMv (rT 33), none, none⟩])
 (.seq (.region [⟨(some 35), oMv (rT 7), none, none⟩,
  ⟨(some 36), oCall 58 [(.tmp 35), (.const (.int .i64 4))], none, none⟩,
  ⟨(some 34), oMv (rT 36), none, none⟩,
  ⟨(some 37), oExtract (rT 34) 0, none, none⟩,
  ⟨(some 38), oExtract (rT 34) 1, none, none⟩,
  ⟨(some 10), oMv (rT 37), none, none⟩,
  ⟨(some 11), oMv (rT 38), none, none⟩])
 (.seq (.region [⟨(some 40), oMv (rT 7), none, none⟩,
  ⟨(some 41), oCall 58 [(.tmp 40), (.const (.int .i64 8))], none, none⟩,
  ⟨(some 39), oMv (rT 41), none, none⟩,
  ⟨(some 42), oExtract (rT 39) 0, none, none⟩,
  ⟨(some 43), oExtract (rT 39) 1, none, none⟩,
  ⟨(some 12), oMv (rT 42), none, none⟩,
  ⟨(some 13), oMv (rT 43), none, none⟩])
 (.seq (.region [⟨(some 44), oMv (rT 8), none, none⟩,
  ⟨(some 45), oToInt .u8 (.tmp 44), none, none⟩,
  ⟨(some 46), oMv (rT 10), none, none⟩,
  ⟨(some 47), oToInt .u32 (.tmp 46), none, none⟩,
  ⟨(some 48), oMv (rT 12), none, none⟩,
  ⟨(some 49), oBuild #[(.int .u8 0), (.int .u32 0), (.int .u64 0)] [(0, 1), (1, 1), (2, 1)] [(0, (.tmp 45)), (1, (.tmp 47)), (2, (.tmp 48))], none, none⟩,
  ⟨(some 14), oAlloc [(.int .u8 0), (.int .u32 0), (.int .u64 0)], none, (some [(.int .u8 0), (.int .u32 0), (.int .u64 0)])⟩,
  ⟨none, oStore 3 (rT 14) (rT 49), none, none⟩])
 (.seq (.seq (.region [⟨(some 51), oMv (rT 0), none, none⟩,
  ⟨(some 52), oLenS 5 (rT 51), none, none⟩,
  ⟨(some 53), oLoadN 3 (rT 14), none, none⟩,
  ⟨(some 54), oCall 59 [(.tmp 52), (.tmp 53)], none, none⟩,
  ⟨(some 50), oMv (rT 54), none, none⟩,
  ⟨(some 55), oExtract (rT 50) 0, none, none⟩,
  ⟨(some 56), oExtract (rT 50) 1, none, none⟩,
  ⟨(some 15), oMv (rT 55), none, none⟩,
  ⟨(some 16), oMv (rT 56), none, none⟩])
 (.seq (.region [⟨(some 57), oMv (rT 16), none, none⟩,
  ⟨(some 58), oBinBy (cmpBy .neq cNeq) (.tmp 57) (.const (.int .i64 0)), none, none⟩,
  ⟨(some 59), oMv (rT 58), none, none⟩,
  ⟨(some 60), oMv (rT 4), (some (59, false)), none⟩,
  ⟨(some 61), oBinBy (cmpBy .neq cNeq) (.tmp 60) (.const (.int .u8 1)), (some (59, false)), none⟩,
  ⟨(some 62), oPick (rT 59) (rC (.bool true)) (rT 61), none, none⟩,
  ⟨(some 63), oMv (rT 62), none, none⟩,
  ⟨(some 64), oMv (rT 5), (some (63, false)), none⟩,
  ⟨(some 65), oLenS 5 (rT 64), (some (63, false)), none⟩,
  ⟨(some 66), oBinBy (cmpBy .neq cNeq) (.tmp 65) (.const (.int .i64 13)), (some (63, false)), none⟩,
  ⟨(some 67), oPick (rT 63) (rC (.bool true)) (rT 66), none, none⟩])
 (.cond (.tmp 67) (.seq (.region [⟨(some 68), oBuild #[(.int .u8 0), (.int .u32 0), (.int .u64 0)] [(0, 1), (1, 1), (2, 1)] [], none, none⟩,
  ⟨none, oStore 3 (rT 2) (rT 68), none, none⟩,
  ⟨(some 3), oMv (rC (.int .i64 5)), none, none⟩])
 .ret)
 .skip)))
 (.seq (.region [⟨(some 69), oLoadN 3 (rT 14), none, none⟩,
  ⟨none, oStore 3 (rT 2) (rT 69), none, none⟩,
  ⟨(some 3), oMv (rC (.int .i64 0)), none, none⟩])
 .ret))))))))))⟩
def c40 : FFunc := ⟨[.tmp 2], (.seq (.region [⟨(some 2), oMv (rC (.bool false)), none, none⟩])
 (.seq (.seq (.region [⟨(some 5), oMv (rT 0), none, none⟩,
  ⟨(some 6), oLenS 5 (rT 5), none, none⟩,
  ⟨(some 7), oMv (rC (.int .i64 0)), none, none⟩])
 (.block 0 (.loop (.seq (.region [⟨(some 8), oBinBy (cmpBy .lss cLss) (.tmp 7) (.tmp 6), none, none⟩])
 (.seq (.cond (.tmp 8) .skip
 (.exit 0))
 (.seq (.block 1 (.seq (.region [⟨(some 9), oIndexAddr 1 (rT 5) (rT 7), none, none⟩,
  ⟨(some 10), oLoad1 (rT 9), none, none⟩,
  ⟨(some 4), oMv (rT 10), none, none⟩])
 (.seq (.region [⟨(some 11), oMv (rT 4), none, none⟩,
  ⟨(some 12), oBinBy (cmpBy .neq cNeq) (.tmp 11) (.const (.int .u8 255)), none, none⟩])
 (.cond (.tmp 12) (.seq (.region [⟨(some 2), oMv (rC (.bool false)), none, none⟩])
 .ret)
 .skip))))
 (.region [⟨(some 13), oBinBy (arithBy .add nAdd) (.tmp 7) (.const (.int .i64 1)), none, none⟩,
  ⟨(some 7), oMv (rT 13), none, none⟩])))))))
 (.seq (.region [⟨(some 2), oMv (rC (.bool true)), none, none⟩])
 .ret)))⟩
def c41 : FFunc := ⟨[.tmp 2], (.seq (.region [⟨(some 2), oMv (rC (.bool false)), none, none⟩])
 (.seq (.region [⟨(some 3), oMv (rT 0), none, none⟩,
  ⟨(some 4), oEqNil false true (.pointer 79) (.tmp 3) (.const (.pointer none)), none, none⟩,
  ⟨(some 5), oMv (rT 4), none, none⟩,
  ⟨(some 6), oMv (rT 0), (some (5, false)), none⟩,
  ⟨(some 7), oNilCheck (rT 6), (some (5, false)), none⟩,
  ⟨(some 8), oFieldAddr 1 (rT 7), (some (5, false)), none⟩,
  ⟨(some 9), oLoad1 (rT 8), (some (5, false)), none⟩,
  ⟨(some 10), oEqNil false true (.slice 84) (.tmp 9) (.const (.slice none 0 0)), (some (5, false)), none⟩,
  ⟨(some 11), oPick (rT 5) (rC (.bool true)) (rT 10), none, none⟩,
  ⟨(some 2), oMv (rT 11), none, none⟩])
 .ret))⟩
def c42 : FFunc := ⟨[.tmp 4], (.seq (.region [⟨(some 4), oMv (rC (.bool false)), none, none⟩])
 (.seq (.region [⟨(some 5), oMv (rT 0), none, none⟩,
  ⟨(some 6), oCall 16 [(.tmp 5)], none, none⟩,
  ⟨(some 7), oUn .not (.tmp 6), none, none⟩,
  ⟨(some 8), oMv (rT 7), none, none⟩,
  ⟨(some 9), oMv (rT 1), (some (8, true)), none⟩,
  ⟨(some 10), oBinBy (cmpBy .geq cGeq) (.tmp 9) (.const (.int .i64 0)), (some (8, true)), none⟩,
  ⟨(some 11), oPick (rT 8) (rT 10) (rC (.bool false)), none, none⟩,
  ⟨(some 12), oMv (rT 11), none, none⟩,
  ⟨(some 13), oMv (rT 1), (some (12, true)), none⟩,
  ⟨(some 14), oMv (rT 0), (some (12, true)), none⟩,
  ⟨(some 15), oNilCheck (rT 14), (some (12, true)), none⟩,
  ⟨(some 16), oFieldAddr 0 (rT 15), (some (12, true)), none⟩,
  ⟨(some 17), oFieldAddr 0 (rT 16), (some (12, true)), none⟩,
  ⟨(some 18), oLoad1 (rT 17), (some (12, true)), none⟩,
  ⟨(some 19), oBinBy (cmpBy .lss cLss) (.tmp 13) (.tmp 18), (some (12, true)), none⟩,
  ⟨(some 20), oPick (rT 12) (rT 19) (rC (.bool false)), none, none⟩,
  ⟨(some 21), oMv (rT 20), none, none⟩,
  ⟨(some 22), oMv (rT 0), (some (21, true)), none⟩,
  ⟨(some 23), oNilCheck (rT 22), (some (21, true)), none⟩,
  ⟨(some 24), oFieldAddr 5 (rT 23), (some (21, true)), none⟩,
  ⟨(some 25), oLoad1 (rT 24), (some (21, true)), none⟩,
  ⟨(some 26), oMv (rT 1), (some (21, true)), none⟩,
  ⟨(some 27), oIndexAddr 1 (rT 25) (rT 26), (some (21, true)), none⟩,
  ⟨(some 28), oLoad1 (rT 27), (some (21, true)), none⟩,
  ⟨(some 29), oPick (rT 21) (rT 28) (rC (.bool false)), none, none⟩,
  ⟨(some 4), oMv (rT 29), none, none⟩])
 .ret))⟩
def c43 : FFunc := ⟨[], (.region [⟨(some 4), oMv (rT 0), none, none⟩,
  ⟨(some 5), oMv (rT 0), none, none⟩,
  ⟨(some 6), oLenS 88 (rT 5), none, none⟩,
  ⟨(some 7), oMv (rT 1), none, none⟩,
  ⟨(some 8), oCall 60 [(.tmp 4), (.tmp 6), (.tmp 7)], none, none⟩])⟩
def c44 : FFunc := ⟨[.tmp 4], (.seq (.region [⟨(some 2), oBox (.tmp 0), none, none⟩,
  ⟨(some 3), oBox (.tmp 1), none, none⟩,
  ⟨(some 4), oMv (rC (.int .i64 0)), none, none⟩])
 (.seq (.block 0 (.seq (.region [⟨(some 6), oFieldAddr 1 (rT 2), none, none⟩,
  ⟨(some 7), oFieldAddr 2 (rT 6), none, none⟩,
  ⟨(some 8), oLoad1 (rT 7), none, none⟩,
  ⟨(some 9), oFieldAddr 1 (rT 3), none, none⟩,
  ⟨(some 10), oFieldAddr 2 (rT 9), none, none⟩,
  ⟨(some 11), oLoad1 (rT 10), none, none⟩,
  ⟨(some 12), oBinBy (cmpBy .lss cLss) (.tmp 8) (.tmp 11), none, none⟩,
  ⟨(some 5), oMv (rT 12), none, none⟩])
 (.cond (.tmp 5) (.seq (.region [⟨(some 4), oMv (rC (.int .i64 (-1))), none, none⟩])
 .ret)
 (.seq (.region [⟨(some 14), oFieldAddr 1 (rT 2), none, none⟩,
  ⟨(some 15), oFieldAddr 2 (rT 14), none, none⟩,
  ⟨(some 16), oLoad1 (rT 15), none, none⟩,
  ⟨(some 17), oFieldAddr 1 (rT 3), none, none⟩,
  ⟨(some 18), oFieldAddr 2 (rT 17), none, none⟩,
  ⟨(some 19), oLoad1 (rT 18), none, none⟩,
  ⟨(some 20), oBinBy (cmpBy .gtr cGtr) (.tmp 16) (.tmp 19), none, none⟩,
  ⟨(some 13), oMv (rT 20), none, none⟩])
 (.cond (.tmp 13) (.seq (.region [⟨(some 4), oMv (rC (.int .i64 1)), none, none⟩])
 .ret)
 .skip)))))
 (.seq (.region [⟨(some 21), oFieldAddr 0 (rT 2), none, none⟩,
  ⟨(some 22), oLoad1 (rT 21), none, none⟩,
  ⟨(some 23), oFieldAddr 0 (rT 3), none, none⟩,
  ⟨(some 24), oLoad1 (rT 23), none, none⟩,
  ⟨(some 25), oBinBy (arithBy .sub nSub) (.tmp 22) (.tmp 24), none, none⟩,
  ⟨(some 4), oMv (rT 25), none, none⟩])
 .ret)))⟩
def c45 : FFunc := ⟨[.tmp 2, .tmp 3, .tmp 4], (.seq (.region [⟨(some 2), oMv (rC (.int .u8 0)), none, none⟩,
  ⟨(some 3), oMv (rC (.slice none 0 0)), none, none⟩,
  ⟨(some 4), oMv (rC (.int .i64 0)), none, none⟩])
 (.seq (.block 0 (.seq (.region [⟨(some 14), oMv (rT 0), none, none⟩,
  ⟨(some 15), oLenS 5 (rT 14), none, none⟩,
  ⟨(some 16), oCall 61 [(.tmp 15)], none, none⟩,
  ⟨(some 17), oUn .not (.tmp 16), none, none⟩,
  ⟨(some 13), oMv (rT 17), none, none⟩])
 (.cond (.tmp 13) (.seq (.region [⟨(some 2), oMv (rC (.int .u8 0)), none, none⟩,
  ⟨(some 3), oMv (rC (.slice none 0 0)), none, none⟩,
  ⟨(some 4), oMv (rC (.int .i64 2)), none, none⟩])
 .ret)
 (.seq (.region [⟨(some 19), oMv (rT 0), none, none⟩,
  ⟨(some 20), oCall 40 [(.tmp 19)], none, none⟩,
  ⟨(some 18), oMv (rT 20), none, none⟩])
 (.cond (.tmp 18) (.seq (.region [⟨(some 2), oMv (rC (.int .u8 0)), none, none⟩,
  ⟨(some 3), oMv (rC (.slice none 0 0)), none, none⟩,
  ⟨(some 4), oMv (rC (.int .i64 6)), none, none⟩])
 .ret)
 .skip)))))
 (.seq (.region [⟨(some 21), oMv (rT 0), none, none⟩,
  ⟨(some 22), oSlice 1 (.tmp 21) none (some (.const (.int .i64 5))) (some (.const (.int .i64 5))), none, none⟩,
  ⟨(some 23), oCall 57 [(.tmp 22)], none, none⟩,
  ⟨(some 5), oMv (rT 23), none, none⟩])
 (.seq (.region [⟨(some 25), oMv (rT 5), none, none⟩,
  ⟨(some 26), oCall 58 [(.tmp 25), (.const (.int .i64 2))], none, none⟩,
  ⟨(some 24), oMv (rT 26), none, none⟩,
  ⟨(some 27), oExtract (rT 24) 0, none, none⟩,
  ⟨(some 28), oExtract (rT 24) 1, none, none⟩,
  ⟨(some 6), oMv (rT 27), none, none⟩,
  ⟨(some 7), oMv (rT 28), none, none⟩])
 (.seq (.seq (.region [⟨(some 29), oMv (rT 6), none, none⟩,
  ⟨(some 30), oToInt .i64 (.tmp 29), none, none⟩,
  ⟨(some 31), oMv (rT 0), none, none⟩,
  ⟨(some 32), oSlice 1 (.tmp 31) (some (.const (.int .i64 2))) none none, none, none⟩,
  ⟨(some 33), oCall 62 [(.tmp 32)], none, none⟩,
  ⟨(some 34), oBinBy (cmpBy .neq cNeq) (.tmp 30) (.tmp 33), none, none⟩])
 (.cond (.tmp 34) (.seq (.region [⟨(some 2), oMv (rC (.int .u8 0)), none, none⟩,
  ⟨(some 3), oMv (rC (.slice none 0 0)), none, none⟩,
  ⟨(some 4), oMv (rC (.int .i64 7)), none, none⟩])
 .ret)
 .skip))
 (.seq (.region [⟨(some 36), oMv (rT 5), none, none⟩,
  ⟨(some 37), oCall 58 [(.tmp 36), (.const (.int .i64 1))], none, none⟩,
  ⟨(some 35), oMv (rT 37), none, none⟩,
  ⟨(some 38), oExtract (rT 35) 0, none, none⟩,
  ⟨(some 39), oExtract (rT 35) 1, none, none⟩,
  ⟨(some 8), oMv (rT 38), none, none⟩,
  ⟨(some 9), oMv (rT 39), none, none⟩])
 (.seq (.region [⟨(some 41), oMv (rT 5), none, none⟩,
  ⟨(some 42), oCall 58 [(.tmp 41), (.const (.int .i64 2))], none, none⟩,
  ⟨(some 40), oMv (rT 42), none, none⟩,
  ⟨(some 43), oExtract (rT 40) 0, none, none⟩,
  ⟨(some 44), oExtract (rT 40) 1, none, none⟩,
  ⟨(some 10), oMv (rT 43), none, none⟩,
  ⟨(some 11), oMv (rT 44), none, none⟩])
 (.seq (.region [⟨(some 45), oMv (rT 10), none, none⟩,
  ⟨(some 46), oToInt .i64 (.tmp 45), none, none⟩,
  ⟨(some 12), oMv (rT 46), none, none⟩])
 (.seq (.seq (.region [⟨(some 47), oMv (rT 8), none, none⟩,
  ⟨(some 48), oBinBy (cmpBy .lss cLss) (.tmp 47) (.const (.int .u64 1)), none, none⟩,
  ⟨(some 49), oMv (rT 48), none, none⟩,
  ⟨(some 50), oMv (rT 8), (some (49, false)), none⟩,
  ⟨(some 51), oBinBy (cmpBy .gtr cGtr) (.tmp 50) (.const (.int .u64 7)), (some (49, false)), none⟩,
  ⟨(some 52), oPick (rT 49) (rC (.bool true)) (rT 51), none, none⟩,
  ⟨(some 53), oMv (rT 52), none, none⟩,
  ⟨(some 54), oMv (rT 12), (some (53, false)), none⟩,
  ⟨(some 55), oMv (rT 0), (some (53, false)), none⟩,
  ⟨(some 56), oLenS 5 (rT 55), (some (53, false)), none⟩,
  ⟨(some 57), oCall 63 [(.tmp 56)], (some (53, false)), none⟩,
  ⟨(some 58), oBinBy (cmpBy .gtr cGtr) (.tmp 54) (.tmp 57), (some (53, false)), none⟩,
  ⟨(some 59), oPick (rT 53) (rC (.bool true)) (rT 58), none, none⟩,
  ⟨(some 60), oMv (rT 59), none, none⟩,
  ⟨(some 61), oMv (rT 0), (some (60, false)), none⟩,
  ⟨(some 62), oMv (rT 12), (some (60, false)), none⟩,
  ⟨(some 63), oBinBy (arithBy .add nAdd) (.const (.int .i64 5)) (.tmp 62), (some (60, false)), none⟩,
  ⟨(some 64), oSlice 1 (.tmp 61) (some (.tmp 63)) none none, (some (60, false)), none⟩,
  ⟨(some 65), oCall 40 [(.tmp 64)], (some (60, false)), none⟩,
  ⟨(some 66), oUn .not (.tmp 65), (some (60, false)), none⟩,
  ⟨(some 67), oPick (rT 60) (rC (.bool true)) (rT 66), none, none⟩])
 (.cond (.tmp 67) (.seq (.region [⟨(some 2), oMv (rC (.int .u8 0)), none, none⟩,
  ⟨(some 3), oMv (rC (.slice none 0 0)), none, none⟩,
  ⟨(some 4), oMv (rC (.int .i64 5)), none, none⟩])
 .ret)
 .skip))
 (.seq (.region [⟨(some 68), oMv (rT 8), none, none⟩,
  ⟨(some 69), oToInt .u8 (.tmp 68), none, none⟩,
  ⟨(some 70), oMv (rT 0), none, none⟩,
  ⟨(some 71), oMv (rT 12), none, none⟩,
  ⟨(some 72), oBinBy (arithBy .add nAdd) (.const (.int .i64 5)) (.tmp 71), none, none⟩,
  ⟨(some 73), oSlice 1 (.tmp 70) (some (.const (.int .i64 5))) (some (.tmp 72)) none, none, none⟩,
  ⟨(some 74), oAppend 1 1 (.const (.slice none 0 0)) (.tmp 73), none, none⟩,
  ⟨(some 2), oMv (rT 69), none, none⟩,
  ⟨(some 3), oMv (rT 74), none, none⟩,
  ⟨(some 4), oMv (rC (.int .i64 0)), none, none⟩])
 .ret))))))))))⟩
def c46 : FFunc := ⟨[.cells 2 3, .tmp 3], (.seq (.region [⟨(some 2), oAlloc [(.int .u8 0), (.int .u8 0), (.int .u8 0)], none, (some [(.int .u8 0), (.int .u8 0), (.int .u8 0)])⟩,
  ⟨(some 3), oMv (rC (.int .i64 0)), none, none⟩])
 (.seq (.seq (.region [⟨(some 5), oMv (rT 0), none, none⟩,
  ⟨(some 6), oLenS 5 (rT 5), none, none⟩,
  ⟨(some 7), oBinBy (cmpBy .neq cNeq) (.tmp 6) (.const (.int .i64 3)), none, none⟩])
 (.cond (.tmp 7) (.seq (.region [⟨(some 8), oBuild #[(.int .u8 0), (.int .u8 0), (.int .u8 0)] [(0, 1), (1, 1), (2, 1)] [], none, none⟩,
  ⟨none, oStore 3 (rT 2) (rT 8), none, none⟩,
  ⟨(some 3), oMv (rC (.int .i64 5)), none, none⟩])
 .ret)
 .skip))
 (.seq (.draw [⟨(some 9), oMv (rT 0), none, none⟩,
  ⟨(some 10), oIndexAddr 1 (rT 9) (rC (.int .i64 0)), none, none⟩,
  ⟨(some 11), oLoad1 (rT 10), none, none⟩,
  ⟨(some 12), oMv (rT 0), none, none⟩,
  ⟨(some 13), oIndexAddr 1 (rT 12) (rC (.int .i64 1)), none, none⟩,
  ⟨(some 14), oLoad1 (rT 13), none, none⟩,
  ⟨(some 15), oMv (rT 0), none, none⟩,
  ⟨(some 16), oIndexAddr 1 (rT 15) (rC (.int .i64 2)), none, none⟩,
  ⟨(some 17), oLoad1 (rT 16), none, none⟩,
  ⟨(some 18), oBuild #[(.int .u8 0), (.int .u8 0), (.int .u8 0)] [(0, 1), (1, 1), (2, 1)] [(0, (.tmp 11)), (1, (.tmp 14)), (2, (.tmp 17))], none, none⟩,
  ⟨(some 4), oAlloc [(.int .u8 0), (.int .u8 0), (.int .u8 0)], none, (some [(.int .u8 0), (.int .u8 0), (.int .u8 0)])⟩,
  ⟨none, oStore 3 (rT 4) (rT 18), none, none⟩] 1 [(2, 10), (5, 10), (8, 10)])
 (.seq (.seq (.region [⟨(some 19), oLoadN 3 (rT 4), none, none⟩,
  ⟨(some 20), oCall 64 [(.tmp 19)], none, none⟩,
  ⟨(some 21), oUn .not (.tmp 20), none, none⟩])
 (.cond (.tmp 21) (.seq (.region [⟨(some 22), oBuild #[(.int .u8 0), (.int .u8 0), (.int .u8 0)] [(0, 1), (1, 1), (2, 1)] [], none, none⟩,
  ⟨none, oStore 3 (rT 2) (rT 22), none, none⟩,
  ⟨(some 3), oMv (rC (.int .i64 5)), none, none⟩])
 .ret)
 .skip))
 (.seq (.region [⟨(some 23), oLoadN 3 (rT 4), none, none⟩,
  ⟨none, oStore 3 (rT 2) (rT 23), none, none⟩,
  ⟨(some 3), oMv (rC (.int .i64 0)), none, none⟩])
 .ret)))))⟩
def c47 : FFunc := ⟨[.cells 2 2, .tmp 3], (.seq (.region [⟨(some 2), oAlloc [.nilFunc, .nilFunc], none, (some [.nilFunc, .nilFunc])⟩,
  ⟨(some 3), oMv (rC (.bool false)), none, none⟩])
 (.seq (.seq (.region [⟨(some 4), oMv (rT 0), none, none⟩])
 (.block 0 (.seq (.region [⟨(some 6), oBinBy (cmpBy .eql cEql) (.tmp 4) (.const (.int .u8 1)), none, none⟩,
  ⟨(some 5), oMv (rT 6), none, none⟩])
 (.cond (.tmp 5) (.seq (.region [⟨(some 7), oBuild #[.nilFunc, .nilFunc] [(0, 1), (1, 1)] [(0, (.func 65)), (1, (.func 66))], none, none⟩,
  ⟨none, oStore 2 (rT 2) (rT 7), none, none⟩,
  ⟨(some 3), oMv (rC (.bool true)), none, none⟩])
 .ret)
 (.seq (.region [⟨(some 9), oBinBy (cmpBy .eql cEql) (.tmp 4) (.const (.int .u8 2)), none, none⟩,
  ⟨(some 8), oMv (rT 9), none, none⟩])
 (.cond (.tmp 8) (.seq (.region [⟨(some 10), oBuild #[.nilFunc, .nilFunc] [(0, 1), (1, 1)] [(0, (.func 67)), (1, (.func 68))], none, none⟩,
  ⟨none, oStore 2 (rT 2) (rT 10), none, none⟩,
  ⟨(some 3), oMv (rC (.bool true)), none, none⟩])
 .ret)
 .skip))))))
 (.seq (.region [⟨(some 11), oBuild #[.nilFunc, .nilFunc] [(0, 1), (1, 1)] [], none, none⟩,
  ⟨none, oStore 2 (rT 2) (rT 11), none, none⟩,
  ⟨(some 3), oMv (rC (.bool false)), none, none⟩])
 .ret)))⟩
def c48 : FFunc := ⟨[.tmp 2], (.seq (.region [⟨(some 1), oBox (.tmp 0), none, none⟩,
  ⟨(some 2), oMv (rC (.int .i64 0)), none, none⟩])
 (.seq (.seq (.region [⟨(some 4), oLoadN 4 (rT 1), none, none⟩,
  ⟨(some 5), oCall 69 [(.tmp 4)], none, none⟩,
  ⟨(some 6), oUn .not (.tmp 5), none, none⟩])
 (.cond (.tmp 6) (.seq (.region [⟨(some 2), oMv (rC (.int .i64 0)), none, none⟩])
 .ret)
 .skip))
 (.seq (.region [⟨(some 7), oFieldAddr 0 (rT 1), none, none⟩,
  ⟨(some 8), oLoad1 (rT 7), none, none⟩,
  ⟨(some 9), oFieldAddr 3 (rT 1), none, none⟩,
  ⟨(some 10), oLoad1 (rT 9), none, none⟩,
  ⟨(some 11), oBinBy (arithBy .mul nMul) (.const (.int .i64 2)) (.tmp 10), none, none⟩,
  ⟨(some 12), oBinBy (arithBy .sub nSub) (.tmp 8) (.tmp 11), none, none⟩,
  ⟨(some 13), oBinBy (arithBy .sub nSub) (.tmp 12) (.const (.int .i64 4)), none, none⟩,
  ⟨(some 14), oFieldAddr 1 (rT 1), none, none⟩,
  ⟨(some 15), oLoad1 (rT 14), none, none⟩,
  ⟨(some 16), oBinBy (arithBy .sub nSub) (.tmp 15) (.const (.int .i64 1)), none, none⟩,
  ⟨(some 17), oBinBy (arithBy .mul nMul) (.tmp 13) (.tmp 16), none, none⟩,
  ⟨(some 3), oMv (rT 17), none, none⟩])
 (.seq (.region [⟨(some 18), oMv (rT 3), none, none⟩,
  ⟨(some 19), oBinBy (arithBy .sub nSub) (.tmp 18) (.const (.int .i64 8)), none, none⟩,
  ⟨(some 20), oBinBy (arithBy .quo nQuo) (.tmp 19) (.const (.int .i64 8)), none, none⟩,
  ⟨(some 21), oMax [(.const (.int .i64 0)), (.tmp 20)], none, none⟩,
  ⟨(some 2), oMv (rT 21), none, none⟩])
 .ret))))⟩
def c50 : FFunc := ⟨[.tmp 2], (.seq (.region [⟨(some 2), oMv (rC (.int .i64 0)), none, none⟩])
 (.seq (.seq (.region [⟨(some 3), oMv (rT 0), none, none⟩,
  ⟨(some 4), oIndexAddrA 4 2 (.global 0) (.const (.int .i64 2)), none, none⟩,
  ⟨(some 5), oIndexAddrA 2 1 (.tmp 4) (.const (.int .i64 0)), none, none⟩,
  ⟨(some 6), oLoad1 (rT 5), none, none⟩,
  ⟨(some 7), oBinBy (cmpBy .lss cLss) (.tmp 3) (.tmp 6), none, none⟩,
  ⟨(some 8), oMv (rT 7), none, none⟩,
  ⟨(some 9), oMv (rT 0), (some (8, false)), none⟩,
  ⟨(some 10), oIndexAddrA 4 2 (.global 0) (.const (.int .i64 2)), (some (8, false)), none⟩,
  ⟨(some 11), oIndexAddrA 2 1 (.tmp 10) (.const (.int .i64 1)), (some (8, false)), none⟩,
  ⟨(some 12), oLoad1 (rT 11), (some (8, false)), none⟩,
  ⟨(some 13), oBinBy (cmpBy .gtr cGtr) (.tmp 9) (.tmp 12), (some (8, false)), none⟩,
  ⟨(some 14), oPick (rT 8) (rC (.bool true)) (rT 13), none, none⟩])
 (.cond (.tmp 14) (.seq (.region [⟨(some 2), oMv (rC (.int .i64 0)), none, none⟩])
 .ret)
 .skip))
 (.seq (.region [⟨(some 15), oMv (rT 0), none, none⟩,
  ⟨(some 16), oBinBy (arithBy .sub nSub) (.tmp 15) (.const (.int .i64 56)), none, none⟩,
  ⟨(some 2), oMv (rT 16), none, none⟩])
 .ret)))⟩
def c51 : FFunc := ⟨[.tmp 4, .tmp 5], (.seq (.region [⟨(some 4), oMv (rC (.int .u32 0)), none, none⟩,
  ⟨(some 5), oMv (rC (.int .u32 0)), none, none⟩])
 (.seq (.region [⟨(some 7), oMv (rT 0), none, none⟩,
  ⟨(some 8), oToInt .u64 (.tmp 7), none, none⟩,
  ⟨(some 9), oMv (rT 1), none, none⟩,
  ⟨(some 10), oToInt .u64 (.tmp 9), none, none⟩,
  ⟨(some 11), oBinBy (arithBy .mul nMul) (.tmp 8) (.tmp 10), none, none⟩,
  ⟨(some 6), oMv (rT 11), none, none⟩])
 (.seq (.region [⟨(some 12), oMv (rT 6), none, none⟩,
  ⟨(some 13), oBinBy (abin .shr) (.tmp 12) (.const (.int .u64 32)), none, none⟩,
  ⟨(some 14), oToInt .u32 (.tmp 13), none, none⟩,
  ⟨(some 15), oMv (rT 6), none, none⟩,
  ⟨(some 16), oToInt .u32 (.tmp 15), none, none⟩,
  ⟨(some 4), oMv (rT 14), none, none⟩,
  ⟨(some 5), oMv (rT 16), none, none⟩])
 .ret)))⟩
def c52 : FFunc := ⟨[.tmp 4, .tmp 5], (.seq (.region [⟨(some 4), oMv (rC (.int .u64 0)), none, none⟩,
  ⟨(some 5), oMv (rC (.int .u64 0)), none, none⟩])
 (.seq (.region [⟨(some 14), oMv (rT 0), none, none⟩,
  ⟨(some 15), oBinBy (abin .and) (.tmp 14) (.const (.int .u64 4294967295)), none, none⟩,
  ⟨(some 6), oMv (rT 15), none, none⟩])
 (.seq (.region [⟨(some 16), oMv (rT 0), none, none⟩,
  ⟨(some 17), oBinBy (abin .shr) (.tmp 16) (.const (.int .u64 32)), none, none⟩,
  ⟨(some 7), oMv (rT 17), none, none⟩])
 (.seq (.region [⟨(some 18), oMv (rT 1), none, none⟩,
  ⟨(some 19), oBinBy (abin .and) (.tmp 18) (.const (.int .u64 4294967295)), none, none⟩,
  ⟨(some 8), oMv (rT 19), none, none⟩])
 (.seq (.region [⟨(some 20), oMv (rT 1), none, none⟩,
  ⟨(some 21), oBinBy (abin .shr) (.tmp 20) (.const (.int .u64 32)), none, none⟩,
  ⟨(some 9), oMv (rT 21), none, none⟩])
 (.seq (.region [⟨(some 22), oMv (rT 6), none, none⟩,
  ⟨(some 23), oMv (rT 8), none, none⟩,
  ⟨(some 24), oBinBy (arithBy .mul nMul) (.tmp 22) (.tmp 23), none, none⟩,
  ⟨(some 10), oMv (rT 24), none, none⟩])
 (.seq (.region [⟨(some 25), oMv (rT 7), none, none⟩,
  ⟨(some 26), oMv (rT 8), none, none⟩,
  ⟨(some 27), oBinBy (arithBy .mul nMul) (.tmp 25) (.tmp 26), none, none⟩,
  ⟨(some 28), oMv (rT 10), none, none⟩,
  ⟨(some 29), oBinBy (abin .shr) (.tmp 28) (.const (.int .u64 32)), none, none⟩,
  ⟨(some 30), oBinBy (arithBy .add nAdd) (.tmp 27) (.tmp 29), none, none⟩,
  ⟨(some 11), oMv (rT 30), none, none⟩])
 (.seq (.region [⟨(some 31), oMv (rT 11), none, none⟩,
  ⟨(some 32), oBinBy (abin .and) (.tmp 31) (.const (.int .u64 4294967295)), none, none⟩,
  ⟨(some 12), oMv (rT 32), none, none⟩])
 (.seq (.region [⟨(some 33), oMv (rT 11), none, none⟩,
  ⟨(some 34), oBinBy (abin .shr) (.tmp 33) (.const (.int .u64 32)), none, none⟩,
  ⟨(some 13), oMv (rT 34), none, none⟩])
 (.seq (.region [⟨(some 35), oMv (rT 12), none, none⟩,
  ⟨(some 36), oMv (rT 6), none, none⟩,
  ⟨(some 37), oMv (rT 9), none, none⟩,
  ⟨(some 38), oBinBy (arithBy .mul nMul) (.tmp 36) (.tmp 37), none, none⟩,
  ⟨(some 39), oBinBy (arithBy .add nAdd) (.tmp 35) (.tmp 38), none, none⟩,
  ⟨(some 12), oMv (rT 39), none, none⟩])
 (.seq (.region [⟨(some 40), oMv (rT 7), none, none⟩,
  ⟨(some 41), oMv (rT 9), none, none⟩,
  ⟨(some 42), oBinBy (arithBy .mul nMul) (.tmp 40) (.tmp 41), none, none⟩,
  ⟨(some 43), oMv (rT 13), none, none⟩,
  ⟨(some 44), oBinBy (arithBy .add nAdd) (.tmp 42) (.tmp 43), none, none⟩,
  ⟨(some 45), oMv (rT 12), none, none⟩,
  ⟨(some 46), oBinBy (abin .shr) (.tmp 45) (.const (.int .u64 32)), none, none⟩,
  ⟨(some 47), oBinBy (arithBy .add nAdd) (.tmp 44) (.tmp 46), none, none⟩,
  ⟨(some 4), oMv (rT 47), none, none⟩])
 (.seq (.region [⟨(some 48), oMv (rT 0), none, none⟩,
  ⟨(some 49), oMv (rT 1), none, none⟩,
  ⟨(some 50), oBinBy (arithBy .mul nMul) (.tmp 48) (.tmp 49), none, none⟩,
  ⟨(some 5), oMv (rT 50), none, none⟩])
 .ret))))))))))))⟩
def c53 : FFunc := ⟨[.tmp 2], (.seq (.region [⟨(some 2), oMv (rC (.bool false)), none, none⟩])
 (.seq (.seq (.region [⟨(some 4), oMv (rT 0), none, none⟩,
  ⟨(some 5), oLen .string (rT 4), none, none⟩,
  ⟨(some 6), oMv (rC (.int .i64 0)), none, none⟩])
 (.block 0 (.loop (.seq (.region [⟨(some 7), oBinBy (cmpBy .lss cLss) (.tmp 6) (.tmp 5), none, none⟩])
 (.seq (.cond (.tmp 7) .skip
 (.exit 0))
 (.seq (.block 1 (.seq (.region [⟨(some 8), oMv (rT 6), none, none⟩,
  ⟨(some 3), oMv (rT 8), none, none⟩])
 (.seq (.region [⟨(some 9), oMv (rT 0), none, none⟩,
  ⟨(some 10), oMv (rT 3), none, none⟩,
  ⟨(some 11), oIndexS (.tmp 9) (.tmp 10), none, none⟩,
  ⟨(some 12), oCall 74 [(.tmp 11)], none, none⟩,
  ⟨(some 13), oUn .not (.tmp 12), none, none⟩])
 (.cond (.tmp 13) (.seq (.region [⟨(some 2), oMv (rC (.bool false)), none, none⟩])
 .ret)
 .skip))))
 (.region [⟨(some 14), oBinBy (arithBy .add nAdd) (.tmp 6) (.const (.int .i64 1)), none, none⟩,
  ⟨(some 6), oMv (rT 14), none, none⟩])))))))
 (.seq (.region [⟨(some 15), oMv (rT 0), none, none⟩,
  ⟨(some 16), oLen .string (rT 15), none, none⟩,
  ⟨(some 17), oBinBy (cmpBy .geq cGeq) (.tmp 16) (.const (.int .i64 1)), none, none⟩,
  ⟨(some 18), oMv (rT 17), none, none⟩,
  ⟨(some 19), oMv (rT 0), (some (18, true)), none⟩,
  ⟨(some 20), oLen .string (rT 19), (some (18, true)), none⟩,
  ⟨(some 21), oBinBy (cmpBy .leq cLeq) (.tmp 20) (.const (.int .i64 12)), (some (18, true)), none⟩,
  ⟨(some 22), oPick (rT 18) (rT 21) (rC (.bool false)), none, none⟩,
  ⟨(some 23), oMv (rT 22), none, none⟩,
  ⟨(some 24), oMv (rT 0), (some (23, true)), none⟩,
  ⟨(some 25), oBinBy (cmpBy .neq cNeq) (.tmp 24) (.const (.string ⟨#[46]⟩)), (some (23, true)), none⟩,
  ⟨(some 26), oPick (rT 23) (rT 25) (rC (.bool false)), none, none⟩,
  ⟨(some 27), oMv (rT 26), none, none⟩,
  ⟨(some 28), oMv (rT 0), (some (27, true)), none⟩,
  ⟨(some 29), oBinBy (cmpBy .neq cNeq) (.tmp 28) (.const (.string ⟨#[46, 46]⟩)), (some (27, true)), none⟩,
  ⟨(some 30), oPick (rT 27) (rT 29) (rC (.bool false)), none, none⟩,
  ⟨(some 2), oMv (rT 30), none, none⟩])
 .ret)))⟩
def c54 : FFunc := ⟨[.tmp 4], (.seq (.region [⟨(some 2), oBox (.tmp 0), none, none⟩,
  ⟨(some 3), oBox (.tmp 1), none, none⟩,
  ⟨(some 4), oMv (rC (.int .i64 0)), none, none⟩])
 (.seq (.draw [⟨(some 5), oFieldAddr 0 (rT 2), none, none⟩,
  ⟨(some 6), oLoad1 (rT 5), none, none⟩,
  ⟨(some 7), oFieldAddr 0 (rT 3), none, none⟩,
  ⟨(some 8), oLoad1 (rT 7), none, none⟩,
  ⟨(some 9), oCall 76 [(.tmp 6), (.tmp 8)], none, none⟩,
  ⟨(some 10), oFieldAddr 1 (rT 2), none, none⟩,
  ⟨(some 11), oLoad1 (rT 10), none, none⟩,
  ⟨(some 12), oFieldAddr 1 (rT 3), none, none⟩,
  ⟨(some 13), oLoad1 (rT 12), none, none⟩,
  ⟨(some 14), oCall 77 [(.tmp 11), (.tmp 13)], none, none⟩,
  ⟨(some 15), oFieldAddr 2 (rT 2), none, none⟩,
  ⟨(some 16), oLoad1 (rT 15), none, none⟩,
  ⟨(some 17), oFieldAddr 2 (rT 3), none, none⟩,
  ⟨(some 18), oLoad1 (rT 17), none, none⟩,
  ⟨(some 19), oCall 78 [(.tmp 16), (.tmp 18)], none, none⟩,
  ⟨(some 20), oFieldAddr 3 (rT 2), none, none⟩,
  ⟨(some 21), oLoad1 (rT 20), none, none⟩,
  ⟨(some 22), oFieldAddr 3 (rT 3), none, none⟩,
  ⟨(some 23), oLoad1 (rT 22), none, none⟩,
  ⟨(some 24), oCall 76 [(.tmp 21), (.tmp 23)], none, none⟩,
  ⟨(some 25), oBuildSlice false 1 4 [(.int .i64 0)] [(0, (.tmp 9)), (1, (.tmp 14)), (2, (.tmp 19)), (3, (.tmp 24))], none, none⟩,
  ⟨(some 26), oCall 75 [(.tmp 25)], none, none⟩,
  ⟨(some 4), oMv (rT 26), none, none⟩] 0 [(6, 4), (8, 4), (11, 4), (11, 9), (13, 4), (13, 9), (16, 4), (16, 9), (16, 14), (18, 4), (18, 9), (18, 14)])
 .ret))⟩
def c55 : FFunc := ⟨[.tmp 4, .tmp 5], (.seq (.region [⟨(some 4), oMv (rC (.pointer none)), none, none⟩,
  ⟨(some 5), oMv (rC (.int .i64 0)), none, none⟩])
 (.seq (.region [⟨(some 12), oMv (rT 0), none, none⟩,
  ⟨(some 13), oMv (rT 1), none, none⟩,
  ⟨(some 14), oCall 79 [(.tmp 12), (.tmp 13)], none, none⟩,
  ⟨(some 11), oMv (rT 14), none, none⟩,
  ⟨(some 15), oExtract (rT 11) 0, none, none⟩,
  ⟨(some 16), oExtract (rT 11) 1, none, none⟩,
  ⟨(some 17), oExtract (rT 11) 2, none, none⟩,
  ⟨(some 6), oMv (rT 15), none, none⟩,
  ⟨(some 7), oMv (rT 16), none, none⟩,
  ⟨(some 8), oMv (rT 17), none, none⟩])
 (.seq (.block 0 (.seq (.region [⟨(some 19), oMv (rT 8), none, none⟩,
  ⟨(some 20), oBinBy (cmpBy .neq cNeq) (.tmp 19) (.const (.int .i64 0)), none, none⟩,
  ⟨(some 18), oMv (rT 20), none, none⟩])
 (.cond (.tmp 18) (.seq (.region [⟨(some 21), oMv (rT 8), none, none⟩,
  ⟨(some 4), oMv (rC (.pointer none)), none, none⟩,
  ⟨(some 5), oMv (rT 21), none, none⟩])
 .ret)
 (.seq (.region [⟨(some 23), oMv (rT 7), none, none⟩,
  ⟨(some 24), oCall 80 [(.tmp 23), (.func 81)], none, none⟩,
  ⟨(some 22), oMv (rT 24), none, none⟩])
 (.cond (.tmp 22) (.seq (.region [⟨(some 4), oMv (rC (.pointer none)), none, none⟩,
  ⟨(some 5), oMv (rC (.int .i64 2)), none, none⟩])
 .ret)
 .skip)))))
 (.seq (.region [⟨(some 25), oMv (rT 6), none, none⟩,
  ⟨(some 26), oMv (rT 1), none, none⟩,
  ⟨(some 27), oBuild #[(.pointer none), (.int .u32 0), (.slice none 0 0), (.int .i64 0), (.int .i64 0)] [(0, 1), (1, 1), (2, 1), (3, 1), (4, 1)] [(0, (.tmp 25)), (1, (.tmp 26)), (3, (.const (.int .i64 (-1))))], none, none⟩,
  ⟨(some 28), oBox (.tmp 27), none, none⟩,
  ⟨(some 9), oMv (rT 28), none, none⟩])
 (.seq (.seq (.region [⟨(some 29), oMv (rT 9), none, none⟩,
  ⟨(some 30), oCall 82 [(.tmp 29)], none, none⟩,
  ⟨(some 10), oMv (rT 30), none, none⟩])
 (.seq (.region [⟨(some 31), oMv (rT 10), none, none⟩,
  ⟨(some 32), oBinBy (cmpBy .neq cNeq) (.tmp 31) (.const (.int .i64 0)), none, none⟩])
 (.cond (.tmp 32) (.seq (.region [⟨(some 33), oMv (rT 10), none, none⟩,
  ⟨(some 4), oMv (rC (.pointer none)), none, none⟩,
  ⟨(some 5), oMv (rT 33), none, none⟩])
 .ret)
 .skip)))
 (.seq (.region [⟨(some 34), oMv (rT 9), none, none⟩,
  ⟨(some 4), oMv (rT 34), none, none⟩,
  ⟨(some 5), oMv (rC (.int .i64 0)), none, none⟩])
 .ret))))))⟩
def c56 : FFunc := ⟨[.tmp 4, .tmp 5], (.seq (.region [⟨(some 4), oMv (rC (.pointer none)), none, none⟩,
  ⟨(some 5), oMv (rC (.int .i64 0)), none, none⟩])
 (.seq (.region [⟨(some 13), oMv (rT 0), none, none⟩,
  ⟨(some 14), oCall 11 [(.tmp 13)], none, none⟩,
  ⟨(some 12), oMv (rT 14), none, none⟩,
  ⟨(some 15), oExtract (rT 12) 0, none, none⟩,
  ⟨(some 16), oExtract (rT 12) 1, none, none⟩,
  ⟨(some 6), oMv (rT 15), none, none⟩,
  ⟨(some 7), oMv (rT 16), none, none⟩])
 (.seq (.block 0 (.seq (.region [⟨(some 18), oMv (rT 7), none, none⟩,
  ⟨(some 19), oBinBy (cmpBy .neq cNeq) (.tmp 18) (.const (.int .i64 0)), none, none⟩,
  ⟨(some 17), oMv (rT 19), none, none⟩])
 (.cond (.tmp 17) (.seq (.region [⟨(some 20), oMv (rT 7), none, none⟩,
  ⟨(some 4), oMv (rC (.pointer none)), none, none⟩,
  ⟨(some 5), oMv (rT 20), none, none⟩])
 .ret)
 (.seq (.region [⟨(some 22), oMv (rT 1), none, none⟩,
  ⟨(some 23), oBinBy (cmpBy .eql cEql) (.tmp 22) (.const (.int .u32 0)), none, none⟩,
  ⟨(some 21), oMv (rT 23), none, none⟩])
 (.cond (.tmp 21) (.seq (.region [⟨(some 4), oMv (rC (.pointer none)), none, none⟩,
  ⟨(some 5), oMv (rC (.int .i64 2)), none, none⟩])
 .ret)
 .skip)))))
 (.seq (.region [⟨(some 24), oMv (rT 6), none, none⟩,
  ⟨(some 25), oMv (rT 1), none, none⟩,
  ⟨(some 26), oBuild #[(.pointer none), (.int .u32 0), (.slice none 0 0), (.slice none 0 0), (.map none), (.int .i64 0), (.int .i64 0), (.int .u64 0), (.int .i64 0), (.int .i64 0)] [(0, 1), (1, 1), (2, 1), (3, 1), (4, 1), (5, 2), (7, 1), (8, 1), (9, 1)] [(0, (.tmp 24)), (1, (.tmp 25)), (7, (.const (.int .i64 (-1))))], none, none⟩,
  ⟨(some 27), oBox (.tmp 26), none, none⟩,
  ⟨(some 8), oMv (rT 27), none, none⟩])
 (.seq (.region [⟨(some 29), oMv (rT 8), none, none⟩,
  ⟨(some 30), oCall 83 [(.tmp 29)], none, none⟩,
  ⟨(some 28), oMv (rT 30), none, none⟩,
  ⟨(some 31), oExtract (rT 28) 0, none, none⟩,
  ⟨(some 32), oExtract (rT 28) 1, none, none⟩,
  ⟨(some 9), oMv (rT 31), none, none⟩,
  ⟨(some 10), oMv (rT 32), none, none⟩])
 (.seq (.seq (.region [⟨(some 33), oMv (rT 10), none, none⟩,
  ⟨(some 34), oLenS 3 (rT 33), none, none⟩,
  ⟨(some 35), oBinBy (cmpBy .gtr cGtr) (.tmp 34) (.const (.int .i64 0)), none, none⟩])
 (.cond (.tmp 35) (.seq (.region [⟨(some 4), oMv (rC (.pointer none)), none, none⟩,
  ⟨(some 5), oMv (rC (.int .i64 2)), none, none⟩])
 .ret)
 .skip))
 (.seq (.region [⟨(some 36), oMv (rT 8), none, none⟩,
  ⟨(some 37), oMv (rT 0), none, none⟩,
  ⟨(some 38), oMv (rT 9), none, none⟩,
  ⟨(some 39), oCall 84 [(.tmp 37), (.tmp 38)], none, none⟩,
  ⟨(some 40), oNilCheck (rT 36), none, none⟩,
  ⟨(some 41), oFieldAddr 7 (rT 40), none, none⟩,
  ⟨none, oStore 1 (rT 41) (rT 39), none, none⟩])
 (.seq (.seq (.region [⟨(some 42), oMv (rT 8), none, none⟩,
  ⟨(some 43), oBuild #[(.int .i64 0), (.int .i64 0)] [(0, 1), (1, 1)] [], none, none⟩,
  ⟨(some 44), oCall 85 [(.tmp 42), (.tmp 43), (.const (.int .i64 0))], none, none⟩,
  ⟨(some 11), oMv (rT 44), none, none⟩])
 (.seq (.region [⟨(some 45), oMv (rT 11), none, none⟩,
  ⟨(some 46), oBinBy (cmpBy .neq cNeq) (.tmp 45) (.const (.int .i64 0)), none, none⟩])
 (.cond (.tmp 46) (.seq (.region [⟨(some 47), oMv (rT 11), none, none⟩,
  ⟨(some 4), oMv (rC (.pointer none)), none, none⟩,
  ⟨(some 5), oMv (rT 47), none, none⟩])
 .ret)
 .skip)))
 (.seq (.region [⟨(some 48), oMv (rT 8), none, none⟩,
  ⟨(some 4), oMv (rT 48), none, none⟩,
  ⟨(some 5), oMv (rC (.int .i64 0)), none, none⟩])
 .ret)))))))))⟩
def c57 : FFunc := ⟨[.tmp 2], (.seq (.region [⟨(some 2), oMv (rC (.pointer none)), none, none⟩])
 (.seq (.region [⟨(some 3), oMv (rT 0), none, none⟩,
  ⟨(some 4), oAppend 1 1 (.const (.slice none 0 0)) (.tmp 3), none, none⟩,
  ⟨(some 5), oBuild #[(.bool false), (.slice none 0 0), (.bool false)] [(0, 1), (1, 1), (2, 1)] [(0, (.const (.bool true))), (1, (.tmp 4))], none, none⟩,
  ⟨(some 6), oBox (.tmp 5), none, none⟩,
  ⟨(some 2), oMv (rT 6), none, none⟩])
 .ret))⟩
def c58 : FFunc := ⟨[.tmp 4, .tmp 5], (.seq (.region [⟨(some 4), oMv (rC (.int .u64 0)), none, none⟩,
  ⟨(some 5), oMv (rC (.int .i64 0)), none, none⟩])
 (.seq (.block 0 (.seq (.region [⟨(some 12), oMv (rT 0), none, none⟩,
  ⟨(some 13), oCall 86 [(.tmp 12)], none, none⟩,
  ⟨(some 11), oMv (rT 13), none, none⟩])
 (.cond (.tmp 11) (.seq (.region [⟨(some 4), oMv (rC (.int .u64 0)), none, none⟩,
  ⟨(some 5), oMv (rC (.int .i64 1)), none, none⟩])
 .ret)
 (.seq (.region [⟨(some 15), oMv (rT 1), none, none⟩,
  ⟨(some 16), oCall 87 [(.tmp 15)], none, none⟩,
  ⟨(some 17), oUn .not (.tmp 16), none, none⟩,
  ⟨(some 14), oMv (rT 17), none, none⟩])
 (.cond (.tmp 14) (.seq (.region [⟨(some 4), oMv (rC (.int .u64 0)), none, none⟩,
  ⟨(some 5), oMv (rC (.int .i64 2)), none, none⟩])
 .ret)
 .skip)))))
 (.seq (.region [⟨(some 19), oMv (rT 0), none, none⟩,
  ⟨(some 20), oMv (rT 1), none, none⟩,
  ⟨(some 21), oCall 88 [(.tmp 19), (.tmp 20)], none, none⟩,
  ⟨(some 18), oMv (rT 21), none, none⟩,
  ⟨(some 22), oExtract (rT 18) 0, none, none⟩,
  ⟨(some 23), oExtract (rT 18) 1, none, none⟩,
  ⟨(some 6), oMv (rT 22), none, none⟩,
  ⟨(some 7), oMv (rT 23), none, none⟩])
 (.seq (.region [⟨(some 8), oMv (rC (.int .u64 0)), none, none⟩])
 (.seq (.seq (.region [⟨(some 24), oMv (rT 6), none, none⟩,
  ⟨(some 25), oLenS 5 (rT 24), none, none⟩,
  ⟨(some 26), oMv (rC (.int .i64 0)), none, none⟩])
 (.block 1 (.loop (.seq (.region [⟨(some 27), oBinBy (cmpBy .lss cLss) (.tmp 26) (.tmp 25), none, none⟩])
 (.seq (.cond (.tmp 27) .skip
 (.exit 1))
 (.seq (.block 2 (.seq (.region [⟨(some 28), oMv (rT 26), none, none⟩,
  ⟨(some 29), oIndexAddr 1 (rT 24) (rT 26), none, none⟩,
  ⟨(some 30), oLoad1 (rT 29), none, none⟩,
  ⟨(some 9), oMv (rT 28), none, none⟩,
  ⟨(some 10), oMv (rT 30), none, none⟩])
 (.region [⟨(some 31), oMv (rT 8), none, none⟩,
  ⟨(some 32), oMv (rT 10), none, none⟩,
  ⟨(some 33), oToInt .u64 (.tmp 32), none, none⟩,
  ⟨(some 34), oMv (rT 9), none, none⟩,
  ⟨(some 35), oBinBy (arithBy .mul nMul) (.const (.int .i64 8)) (.tmp 34), none, none⟩,
  ⟨(some 36), oToInt .u64 (.tmp 35), none, none⟩,
  ⟨(some 37), oBinBy (abin .shl) (.tmp 33) (.tmp 36), none, none⟩,
  ⟨(some 38), oBinBy (abin .or) (.tmp 31) (.tmp 37), none, none⟩,
  ⟨(some 8), oMv (rT 38), none, none⟩])))
 (.region [⟨(some 39), oBinBy (arithBy .add nAdd) (.tmp 26) (.const (.int .i64 1)), none, none⟩,
  ⟨(some 26), oMv (rT 39), none, none⟩])))))))
 (.seq (.region [⟨(some 40), oMv (rT 8), none, none⟩,
  ⟨(some 41), oMv (rT 7), none, none⟩,
  ⟨(some 4), oMv (rT 40), none, none⟩,
  ⟨(some 5), oMv (rT 41), none, none⟩])
 .ret))))))⟩
def c59 : FFunc := ⟨[.tmp 4, .tmp 5], (.seq (.region [⟨(some 3), oBox (.tmp 1), none, none⟩,
  ⟨(some 4), oMv (rC (.slice none 0 0)), none, none⟩,
  ⟨(some 5), oMv (rC (.int .i64 0)), none, none⟩])
 (.seq (.seq (.region [⟨(some 10), oFieldAddr 0 (rT 3), none, none⟩,
  ⟨(some 11), oLoad1 (rT 10), none, none⟩,
  ⟨(some 12), oBinBy (cmpBy .lss cLss) (.tmp 11) (.const (.int .u8 1)), none, none⟩,
  ⟨(some 13), oMv (rT 12), none, none⟩,
  ⟨(some 14), oFieldAddr 0 (rT 3), (some (13, false)), none⟩,
  ⟨(some 15), oLoad1 (rT 14), (some (13, false)), none⟩,
  ⟨(some 16), oBinBy (cmpBy .gtr cGtr) (.tmp 15) (.const (.int .u8 3)), (some (13, false)), none⟩,
  ⟨(some 17), oPick (rT 13) (rC (.bool true)) (rT 16), none, none⟩,
  ⟨(some 18), oMv (rT 17), none, none⟩,
  ⟨(some 19), oFieldAddr 1 (rT 3), (some (18, false)), none⟩,
  ⟨(some 20), oLoad1 (rT 19), (some (18, false)), none⟩,
  ⟨(some 21), oBinBy (cmpBy .lss cLss) (.tmp 20) (.const (.int .u32 1)), (some (18, false)), none⟩,
  ⟨(some 22), oPick (rT 18) (rC (.bool true)) (rT 21), none, none⟩,
  ⟨(some 23), oMv (rT 22), none, none⟩,
  ⟨(some 24), oFieldAddr 2 (rT 3), (some (23, false)), none⟩,
  ⟨(some 25), oLoad1 (rT 24), (some (23, false)), none⟩,
  ⟨(some 26), oBinBy (cmpBy .lss cLss) (.tmp 25) (.const (.int .u64 1)), (some (23, false)), none⟩,
  ⟨(some 27), oPick (rT 23) (rC (.bool true)) (rT 26), none, none⟩])
 (.cond (.tmp 27) (.seq (.region [⟨(some 4), oMv (rC (.slice none 0 0)), none, none⟩,
  ⟨(some 5), oMv (rC (.int .i64 2)), none, none⟩])
 .ret)
 .skip))
 (.seq (.region [⟨(some 29), oFieldAddr 1 (rT 3), none, none⟩,
  ⟨(some 30), oLoad1 (rT 29), none, none⟩,
  ⟨(some 31), oToInt .u64 (.tmp 30), none, none⟩,
  ⟨(some 32), oCall 89 [(.tmp 31), (.const (.int .i64 4))], none, none⟩,
  ⟨(some 28), oMv (rT 32), none, none⟩,
  ⟨(some 33), oExtract (rT 28) 0, none, none⟩,
  ⟨(some 34), oExtract (rT 28) 1, none, none⟩,
  ⟨(some 6), oMv (rT 33), none, none⟩,
  ⟨(some 7), oMv (rT 34), none, none⟩])
 (.seq (.region [⟨(some 36), oFieldAddr 2 (rT 3), none, none⟩,
  ⟨(some 37), oLoad1 (rT 36), none, none⟩,
  ⟨(some 38), oCall 89 [(.tmp 37), (.const (.int .i64 8))], none, none⟩,
  ⟨(some 35), oMv (rT 38), none, none⟩,
  ⟨(some 39), oExtract (rT 35) 0, none, none⟩,
  ⟨(some 40), oExtract (rT 35) 1, none, none⟩,
  ⟨(some 8), oMv (rT 39), none, none⟩,
  ⟨(some 9), oMv (rT 40), none, none⟩])
 (.seq (.region [⟨(some 41), oMv (rT 0), none, none⟩,
  ⟨(some 42), oFieldAddr 0 (rT 3), none, none⟩,
  ⟨(some 43), oLoad1 (rT 42), none, none⟩,
  ⟨(some 44), oBuildSlice true 1 1 [(.int .u8 0)] [(0, (.tmp 43))], none, none⟩,
  ⟨(some 45), oMv (rT 6), none, none⟩,
  ⟨(some 46), oMv (rT 8), none, none⟩,
  ⟨(some 47), oBuildSlice false 1 3 [(.slice none 0 0)] [(0, (.tmp 44)), (1, (.tmp 45)), (2, (.tmp 46))], none, none⟩,
  ⟨(some 48), oCall 91 [(.tmp 47)], none, none⟩,
  ⟨(some 49), oCall 90 [(.tmp 41), (.const (.int .u8 1)), (.tmp 48)], none, none⟩,
  ⟨(some 50), oExtract (rT 49) 0, none, none⟩,
  ⟨(some 51), oExtract (rT 49) 1, none, none⟩,
  ⟨(some 4), oMv (rT 50), none, none⟩,
  ⟨(some 5), oMv (rT 51), none, none⟩])
 .ret)))))⟩
def c60 : FFunc := ⟨[], (.seq (.region [⟨(some 6), oMv (rC (.int .i64 20)), none, none⟩])
 (.seq (.region [⟨(some 10), oMv (rT 6), none, none⟩,
  ⟨(some 7), oMv (rC (.int .i64 0)), none, none⟩,
  ⟨(some 8), oMv (rT 10), none, none⟩])
 (.seq (.block 0 (.loop (.seq (.seq (.region [⟨(some 11), oMv (rT 8), none, none⟩,
  ⟨(some 12), oMv (rT 1), none, none⟩,
  ⟨(some 13), oBinBy (cmpBy .leq cLeq) (.tmp 11) (.tmp 12), none, none⟩])
 (.cond (.tmp 13) .skip
 (.exit 0)))
 (.block 1 (.seq (.region [⟨(some 14), oMv (rT 0), none, none⟩,
  ⟨(some 15), oMv (rT 7), none, none⟩,
  ⟨(some 16), oMv (rT 8), none, none⟩,
  ⟨(some 17), oMv (rT 2), none, none⟩,
  ⟨(some 18), oCall 92 [(.tmp 14), (.tmp 15), (.tmp 16), (.tmp 17)], none, none⟩])
 (.seq (.region [⟨(some 19), oMv (rT 8), none, none⟩,
  ⟨(some 7), oMv (rT 19), none, none⟩])
 (.region [⟨(some 20), oMv (rT 8), none, none⟩,
  ⟨(some 21), oMv (rT 6), none, none⟩,
  ⟨(some 22), oBinBy (arithBy .add nAdd) (.tmp 20) (.tmp 21), none, none⟩,
  ⟨(some 8), oMv (rT 22), none, none⟩])))))))
 (.seq (.region [⟨(some 23), oMv (rT 0), none, none⟩,
  ⟨(some 24), oMv (rT 7), none, none⟩,
  ⟨(some 25), oMv (rT 1), none, none⟩,
  ⟨(some 26), oMv (rT 2), none, none⟩,
  ⟨(some 27), oCall 92 [(.tmp 23), (.tmp 24), (.tmp 25), (.tmp 26)], none, none⟩])
 (.block 2 (.loop (.seq (.seq (.region [⟨(some 28), oMv (rT 6), none, none⟩,
  ⟨(some 29), oMv (rT 1), none, none⟩,
  ⟨(some 30), oBinBy (cmpBy .lss cLss) (.tmp 28) (.tmp 29), none, none⟩])
 (.cond (.tmp 30) .skip
 (.exit 2)))
 (.block 3 (.seq (.region [⟨(some 31), oMv (rT 6), none, none⟩,
  ⟨(some 32), oBinBy (arithBy .mul nMul) (.const (.int .i64 2)) (.tmp 31), none, none⟩,
  ⟨(some 7), oMv (rC (.int .i64 0)), none, none⟩,
  ⟨(some 8), oMv (rT 32), none, none⟩])
 (.seq (.block 4 (.loop (.seq (.seq (.region [⟨(some 33), oMv (rT 8), none, none⟩,
  ⟨(some 34), oMv (rT 1), none, none⟩,
  ⟨(some 35), oBinBy (cmpBy .leq cLeq) (.tmp 33) (.tmp 34), none, none⟩])
 (.cond (.tmp 35) .skip
 (.exit 4)))
 (.block 5 (.seq (.region [⟨(some 36), oMv (rT 0), none, none⟩,
  ⟨(some 37), oMv (rT 7), none, none⟩,
  ⟨(some 38), oMv (rT 7), none, none⟩,
  ⟨(some 39), oMv (rT 6), none, none⟩,
  ⟨(some 40), oBinBy (arithBy .add nAdd) (.tmp 38) (.tmp 39), none, none⟩,
  ⟨(some 41), oMv (rT 8), none, none⟩,
  ⟨(some 42), oMv (rT 2), none, none⟩,
  ⟨(some 43), oCall 93 [(.tmp 36), (.tmp 37), (.tmp 40), (.tmp 41), (.tmp 42)], none, none⟩])
 (.seq (.region [⟨(some 44), oMv (rT 8), none, none⟩,
  ⟨(some 7), oMv (rT 44), none, none⟩])
 (.region [⟨(some 45), oMv (rT 8), none, none⟩,
  ⟨(some 46), oMv (rT 6), none, none⟩,
  ⟨(some 47), oBinBy (arithBy .mul nMul) (.const (.int .i64 2)) (.tmp 46), none, none⟩,
  ⟨(some 48), oBinBy (arithBy .add nAdd) (.tmp 45) (.tmp 47), none, none⟩,
  ⟨(some 8), oMv (rT 48), none, none⟩])))))))
 (.seq (.seq (.region [⟨(some 49), oMv (rT 7), none, none⟩,
  ⟨(some 50), oMv (rT 6), none, none⟩,
  ⟨(some 51), oBinBy (arithBy .add nAdd) (.tmp 49) (.tmp 50), none, none⟩,
  ⟨(some 9), oMv (rT 51), none, none⟩])
 (.seq (.region [⟨(some 52), oMv (rT 9), none, none⟩,
  ⟨(some 53), oMv (rT 1), none, none⟩,
  ⟨(some 54), oBinBy (cmpBy .lss cLss) (.tmp 52) (.tmp 53), none, none⟩])
 (.cond (.tmp 54) (.region [⟨(some 55), oMv (rT 0), none, none⟩,
  ⟨(some 56), oMv (rT 7), none, none⟩,
  ⟨(some 57), oMv (rT 9), none, none⟩,
  ⟨(some 58), oMv (rT 1), none, none⟩,
  ⟨(some 59), oMv (rT 2), none, none⟩,
  ⟨(some 60), oCall 93 [(.tmp 55), (.tmp 56), (.tmp 57), (.tmp 58), (.tmp 59)], none, none⟩])
 .skip)))
 (.region [⟨(some 61), oMv (rT 6), none, none⟩,
  ⟨(some 62), oBinBy (arithBy .mul nMul) (.tmp 61) (.const (.int .i64 2)), none, none⟩,
  ⟨(some 6), oMv (rT 62), none, none⟩]))))))))))))⟩
def c61 : FFunc := ⟨[.tmp 2], (.seq (.region [⟨(some 2), oMv (rC (.bool false)), none, none⟩])
 (.seq (.region [⟨(some 3), oMv (rT 0), none, none⟩,
  ⟨(some 4), oBinBy (cmpBy .geq cGeq) (.tmp 3) (.const (.int .i64 128)), none, none⟩,
  ⟨(some 5), oMv (rT 4), none, none⟩,
  ⟨(some 6), oMv (rT 0), (some (5, true)), none⟩,
  ⟨(some 7), oBinBy (cmpBy .leq cLeq) (.tmp 6) (.const (.int .i64 256)), (some (5, true)), none⟩,
  ⟨(some 8), oPick (rT 5) (rT 7) (rC (.bool false)), none, none⟩,
  ⟨(some 2), oMv (rT 8), none, none⟩])
 .ret))⟩
def c62 : FFunc := ⟨[.tmp 2], (.seq (.region [⟨(some 2), oMv (rC (.int .i64 0)), none, none⟩])
 (.seq (.region [⟨(some 3), oMv (rC (.int .i64 0)), none, none⟩])
 (.seq (.seq (.region [⟨(some 6), oMv (rT 0), none, none⟩,
  ⟨(some 7), oLenS 5 (rT 6), none, none⟩,
  ⟨(some 8), oMv (rC (.int .i64 0)), none, none⟩])
 (.block 0 (.loop (.seq (.region [⟨(some 9), oBinBy (cmpBy .lss cLss) (.tmp 8) (.tmp 7), none, none⟩])
 (.seq (.cond (.tmp 9) .skip
 (.exit 0))
 (.seq (.block 1 (.seq (.region [⟨(some 10), oIndexAddr 1 (rT 6) (rT 8), none, none⟩,
  ⟨(some 11), oLoad1 (rT 10), none, none⟩,
  ⟨(some 5), oMv (rT 11), none, none⟩])
 (.region [⟨(some 12), oMv (rT 3), none, none⟩,
  ⟨(some 13), oMv (rT 5), none, none⟩,
  ⟨(some 14), oUn .xor (.tmp 13), none, none⟩,
  ⟨(some 15), oCall 94 [(.tmp 14)], none, none⟩,
  ⟨(some 16), oBinBy (arithBy .add nAdd) (.tmp 12) (.tmp 15), none, none⟩,
  ⟨(some 3), oMv (rT 16), none, none⟩])))
 (.region [⟨(some 17), oBinBy (arithBy .add nAdd) (.tmp 8) (.const (.int .i64 1)), none, none⟩,
  ⟨(some 8), oMv (rT 17), none, none⟩])))))))
 (.seq (.region [⟨(some 18), oMv (rT 3), none, none⟩,
  ⟨(some 2), oMv (rT 18), none, none⟩])
 .ret))))⟩
def c63 : FFunc := ⟨[.tmp 2], (.seq (.region [⟨(some 2), oMv (rC (.int .i64 0)), none, none⟩])
 (.seq (.seq (.region [⟨(some 3), oMv (rT 0), none, none⟩,
  ⟨(some 4), oCall 61 [(.tmp 3)], none, none⟩,
  ⟨(some 5), oUn .not (.tmp 4), none, none⟩])
 (.cond (.tmp 5) (.seq (.region [⟨(some 2), oMv (rC (.int .i64 0)), none, none⟩])
 .ret)
 .skip))
 (.seq (.region [⟨(some 6), oMv (rT 0), none, none⟩,
  ⟨(some 7), oBinBy (arithBy .sub nSub) (.tmp 6) (.const (.int .i64 5)), none, none⟩,
  ⟨(some 2), oMv (rT 7), none, none⟩])
 .ret)))⟩
def c64 : FFunc := ⟨[.tmp 2], (.seq (.region [⟨(some 1), oBox (.tmp 0), none, none⟩,
  ⟨(some 2), oMv (rC (.bool false)), none, none⟩])
 (.seq (.region [⟨(some 5), oFieldAddr 2 (rT 1), none, none⟩,
  ⟨(some 6), oLoad1 (rT 5), none, none⟩,
  ⟨(some 7), oBuild #[(.int .u8 0), (.int .u8 0), (.int .u8 0)] [(0, 1), (1, 1), (2, 1)] [(0, (.const (.int .u8 1))), (1, (.const (.int .u8 2))), (2, (.tmp 6))], none, none⟩,
  ⟨(some 3), oAlloc [(.int .u8 0), (.int .u8 0), (.int .u8 0)], none, (some [(.int .u8 0), (.int .u8 0), (.int .u8 0)])⟩,
  ⟨none, oStore 3 (rT 3) (rT 7), none, none⟩])
 (.seq (.region [⟨(some 8), oFieldAddr 2 (rT 1), none, none⟩,
  ⟨(some 9), oLoad1 (rT 8), none, none⟩,
  ⟨(some 10), oBuild #[(.int .u8 0), (.int .u8 0), (.int .u8 0)] [(0, 1), (1, 1), (2, 1)] [(0, (.const (.int .u8 2))), (1, (.const (.int .u8 1))), (2, (.tmp 9))], none, none⟩,
  ⟨(some 4), oAlloc [(.int .u8 0), (.int .u8 0), (.int .u8 0)], none, (some [(.int .u8 0), (.int .u8 0), (.int .u8 0)])⟩,
  ⟨none, oStore 3 (rT 4) (rT 10), none, none⟩])
 (.seq (.region [⟨(some 11), oLoadN 3 (rT 1), none, none⟩,
  ⟨(some 12), oLoadN 3 (rT 3), none, none⟩,
  ⟨(some 13), oEqFlat false [(0, (.int .u8)), (1, (.int .u8)), (2, (.int .u8))] (.tmp 11) (.tmp 12), none, none⟩,
  ⟨(some 14), oMv (rT 13), none, none⟩,
  ⟨(some 15), oLoadN 3 (rT 1), (some (14, false)), none⟩,
  ⟨(some 16), oLoadN 3 (rT 4), (some (14, false)), none⟩,
  ⟨(some 17), oEqFlat false [(0, (.int .u8)), (1, (.int .u8)), (2, (.int .u8))] (.tmp 15) (.tmp 16), (some (14, false)), none⟩,
  ⟨(some 18), oPick (rT 14) (rC (.bool true)) (rT 17), none, none⟩,
  ⟨(some 19), oMv (rT 18), none, none⟩,
  ⟨(some 20), oFieldAddr 2 (rT 1), (some (19, true)), none⟩,
  ⟨(some 21), oLoad1 (rT 20), (some (19, true)), none⟩,
  ⟨(some 22), oBinBy (cmpBy .eql cEql) (.tmp 21) (.const (.int .u8 1)), (some (19, true)), none⟩,
  ⟨(some 23), oMv (rT 22), (some (19, true)), none⟩,
  ⟨(some 24), oFieldAddr 2 (rT 1), (some (23, false)), none⟩,
  ⟨(some 25), oLoad1 (rT 24), (some (23, false)), none⟩,
  ⟨(some 26), oBinBy (cmpBy .eql cEql) (.tmp 25) (.const (.int .u8 2)), (some (23, false)), none⟩,
  ⟨(some 27), oPick (rT 23) (rC (.bool true)) (rT 26), (some (19, true)), none⟩,
  ⟨(some 28), oPick (rT 19) (rT 27) (rC (.bool false)), none, none⟩,
  ⟨(some 2), oMv (rT 28), none, none⟩])
 .ret))))⟩
def c65 : FFunc := ⟨[.tmp 4, .tmp 5], (.seq (.region [⟨(some 4), oMv (rC (.slice none 0 0)), none, none⟩,
  ⟨(some 5), oMv (rC (.int .i64 0)), none, none⟩])
 (.seq (.region [⟨(some 15), oMv (rT 0), none, none⟩,
  ⟨(some 16), oMv (rT 1), none, none⟩,
  ⟨(some 17), oCall 95 [(.tmp 15), (.tmp 16)], none, none⟩,
  ⟨(some 14), oMv (rT 17), none, none⟩,
  ⟨(some 18), oExtract (rT 14) 0, none, none⟩,
  ⟨(some 19), oExtract (rT 14) 1, none, none⟩,
  ⟨(some 20), oExtract (rT 14) 2, none, none⟩,
  ⟨(some 6), oMv (rT 18), none, none⟩,
  ⟨(some 7), oMv (rT 19), none, none⟩,
  ⟨(some 8), oMv (rT 20), none, none⟩])
 (.seq (.region [⟨(some 9), oMv (rC (.slice none 0 0)), none, none⟩])
 (.seq (.seq (.region [⟨(some 21), oMv (rT 6), none, none⟩,
  ⟨(some 22), oLenS 204 (rT 21), none, none⟩,
  ⟨(some 23), oMv (rC (.int .i64 0)), none, none⟩])
 (.block 0 (.loop (.seq (.region [⟨(some 24), oBinBy (cmpBy .lss cLss) (.tmp 23) (.tmp 22), none, none⟩])
 (.seq (.cond (.tmp 24) .skip
 (.exit 0))
 (.seq (.block 1 (.seq (.region [⟨(some 25), oIndexAddr 3 (rT 21) (rT 23), none, none⟩,
  ⟨(some 26), oLoadN 3 (rT 25), none, none⟩,
  ⟨(some 11), oAlloc [(.int .i64 0), (.int .u64 0), (.slice none 0 0)], none, (some [(.int .i64 0), (.int .u64 0), (.slice none 0 0)])⟩,
  ⟨none, oStore 3 (rT 11) (rT 26), none, none⟩])
 (.seq (.seq (.region [⟨(some 27), oFieldAddr 1 (rT 11), none, none⟩,
  ⟨(some 28), oLoad1 (rT 27), none, none⟩,
  ⟨(some 29), oMv (rT 7), none, none⟩,
  ⟨(some 30), oBinBy (cmpBy .lss cLss) (.tmp 28) (.tmp 29), none, none⟩])
 (.cond (.tmp 30) (.exit 1)
 .skip))
 (.seq (.region [⟨(some 31), oFieldAddr 2 (rT 11), none, none⟩,
  ⟨(some 32), oLoad1 (rT 31), none, none⟩,
  ⟨(some 33), oLenS 206 (rT 32), none, none⟩,
  ⟨(some 34), oMv (rC (.int .i64 0)), none, none⟩])
 (.block 2 (.loop (.seq (.region [⟨(some 35), oBinBy (cmpBy .lss cLss) (.tmp 34) (.tmp 33), none, none⟩])
 (.seq (.cond (.tmp 35) .skip
 (.exit 2))
 (.seq (.block 3 (.seq (.region [⟨(some 36), oIndexAddr 3 (rT 32) (rT 34), none, none⟩,
  ⟨(some 37), oLoadN 3 (rT 36), none, none⟩,
  ⟨(some 13), oAlloc [(.int .i64 0), (.slice none 0 0), (.int .u64 0)], none, (some [(.int .i64 0), (.slice none 0 0), (.int .u64 0)])⟩,
  ⟨none, oStore 3 (rT 13) (rT 37), none, none⟩])
 (.region [⟨(some 38), oMv (rT 9), none, none⟩,
  ⟨(some 39), oFieldAddr 1 (rT 13), none, none⟩,
  ⟨(some 40), oLoad1 (rT 39), none, none⟩,
  ⟨(some 41), oCall 96 [(.tmp 38), (.tmp 40)], none, none⟩,
  ⟨(some 9), oMv (rT 41), none, none⟩])))
 (.region [⟨(some 42), oBinBy (arithBy .add nAdd) (.tmp 34) (.const (.int .i64 1)), none, none⟩,
  ⟨(some 34), oMv (rT 42), none, none⟩]))))))))))
 (.region [⟨(some 43), oBinBy (arithBy .add nAdd) (.tmp 23) (.const (.int .i64 1)), none, none⟩,
  ⟨(some 23), oMv (rT 43), none, none⟩])))))))
 (.seq (.region [⟨(some 44), oMv (rT 9), none, none⟩,
  ⟨(some 45), oMv (rT 8), none, none⟩,
  ⟨(some 4), oMv (rT 44), none, none⟩,
  ⟨(some 5), oMv (rT 45), none, none⟩])
 .ret)))))⟩
def c66 : FFunc := ⟨[.tmp 4, .tmp 5], (.seq (.region [⟨(some 4), oMv (rC (.map none)), none, none⟩,
  ⟨(some 5), oMv (rC (.int .i64 0)), none, none⟩])
 (.seq (.region [⟨(some 13), oMv (rT 0), none, none⟩,
  ⟨(some 14), oMv (rT 1), none, none⟩,
  ⟨(some 15), oCall 97 [(.tmp 13), (.tmp 14)], none, none⟩,
  ⟨(some 12), oMv (rT 15), none, none⟩,
  ⟨(some 16), oExtract (rT 12) 0, none, none⟩,
  ⟨(some 17), oExtract (rT 12) 1, none, none⟩,
  ⟨(some 18), oExtract (rT 12) 2, none, none⟩,
  ⟨(some 6), oMv (rT 16), none, none⟩,
  ⟨(some 7), oMv (rT 17), none, none⟩,
  ⟨(some 8), oMv (rT 18), none, none⟩])
 (.seq (.region [⟨(some 19), oMkMap, none, none⟩,
  ⟨(some 9), oMv (rT 19), none, none⟩])
 (.seq (.seq (.region [⟨(some 20), oMv (rT 6), none, none⟩,
  ⟨(some 21), oLenS 3 (rT 20), none, none⟩,
  ⟨(some 22), oMv (rC (.int .i64 0)), none, none⟩])
 (.block 0 (.loop (.seq (.region [⟨(some 23), oBinBy (cmpBy .lss cLss) (.tmp 22) (.tmp 21), none, none⟩])
 (.seq (.cond (.tmp 23) .skip
 (.exit 0))
 (.seq (.block 1 (.seq (.region [⟨(some 24), oIndexAddr 1 (rT 20) (rT 22), none, none⟩,
  ⟨(some 25), oLoad1 (rT 24), none, none⟩,
  ⟨(some 11), oMv (rT 25), none, none⟩])
 (.region [⟨(some 26), oMv (rT 9), none, none⟩,
  ⟨(some 27), oMv (rT 11), none, none⟩,
  ⟨none, oMapUpdate (.int .i64) (.tmp 26) (.tmp 27) (.const (.bool true)), none, none⟩])))
 (.region [⟨(some 28), oBinBy (arithBy .add nAdd) (.tmp 22) (.const (.int .i64 1)), none, none⟩,
  ⟨(some 22), oMv (rT 28), none, none⟩])))))))
 (.seq (.region [⟨(some 29), oMv (rT 9), none, none⟩,
  ⟨(some 4), oMv (rT 29), none, none⟩,
  ⟨(some 5), oMv (rC (.int .i64 0)), none, none⟩])
 .ret)))))⟩
def c67 : FFunc := ⟨[.tmp 4, .tmp 5], (.seq (.region [⟨(some 4), oMv (rC (.slice none 0 0)), none, none⟩,
  ⟨(some 5), oMv (rC (.int .i64 0)), none, none⟩])
 (.seq (.region [⟨(some 9), oMv (rT 0), none, none⟩,
  ⟨(some 10), oMv (rT 1), none, none⟩,
  ⟨(some 11), oCall 98 [(.tmp 9), (.tmp 10)], none, none⟩,
  ⟨(some 8), oMv (rT 11), none, none⟩,
  ⟨(some 12), oExtract (rT 8) 0, none, none⟩,
  ⟨(some 13), oExtract (rT 8) 1, none, none⟩,
  ⟨(some 6), oMv (rT 12), none, none⟩,
  ⟨(some 7), oMv (rT 13), none, none⟩])
 (.seq (.seq (.region [⟨(some 14), oMv (rT 7), none, none⟩,
  ⟨(some 15), oBinBy (cmpBy .neq cNeq) (.tmp 14) (.const (.int .i64 0)), none, none⟩])
 (.cond (.tmp 15) (.seq (.region [⟨(some 16), oMv (rT 7), none, none⟩,
  ⟨(some 4), oMv (rC (.slice none 0 0)), none, none⟩,
  ⟨(some 5), oMv (rT 16), none, none⟩])
 .ret)
 .skip))
 (.seq (.region [⟨(some 17), oMv (rT 6), none, none⟩,
  ⟨(some 18), oNilCheck (rT 17), none, none⟩,
  ⟨(some 19), oFieldAddr 4 (rT 18), none, none⟩,
  ⟨(some 20), oLoad1 (rT 19), none, none⟩,
  ⟨(some 4), oMv (rT 20), none, none⟩,
  ⟨(some 5), oMv (rC (.int .i64 0)), none, none⟩])
 .ret))))⟩
def c68 : FFunc := ⟨[.tmp 4, .tmp 5], (.seq (.region [⟨(some 4), oMv (rC (.map none)), none, none⟩,
  ⟨(some 5), oMv (rC (.int .i64 0)), none, none⟩])
 (.seq (.region [⟨(some 12), oMv (rT 0), none, none⟩,
  ⟨(some 13), oMv (rT 1), none, none⟩,
  ⟨(some 14), oCall 99 [(.tmp 12), (.tmp 13)], none, none⟩,
  ⟨(some 11), oMv (rT 14), none, none⟩,
  ⟨(some 15), oExtract (rT 11) 0, none, none⟩,
  ⟨(some 16), oExtract (rT 11) 1, none, none⟩,
  ⟨(some 6), oMv (rT 15), none, none⟩,
  ⟨(some 7), oMv (rT 16), none, none⟩])
 (.seq (.region [⟨(some 17), oMkMap, none, none⟩,
  ⟨(some 8), oMv (rT 17), none, none⟩])
 (.seq (.seq (.region [⟨(some 18), oMv (rT 6), none, none⟩,
  ⟨(some 19), oLenS 183 (rT 18), none, none⟩,
  ⟨(some 20), oMv (rC (.int .i64 0)), none, none⟩])
 (.block 0 (.loop (.seq (.region [⟨(some 21), oBinBy (cmpBy .lss cLss) (.tmp 20) (.tmp 19), none, none⟩])
 (.seq (.cond (.tmp 21) .skip
 (.exit 0))
 (.seq (.block 1 (.seq (.region [⟨(some 22), oIndexAddr 2 (rT 18) (rT 20), none, none⟩,
  ⟨(some 23), oLoadN 2 (rT 22), none, none⟩,
  ⟨(some 10), oAlloc [(.int .i64 0), (.int .i64 0)], none, (some [(.int .i64 0), (.int .i64 0)])⟩,
  ⟨none, oStore 2 (rT 10) (rT 23), none, none⟩])
 (.region [⟨(some 24), oMv (rT 8), none, none⟩,
  ⟨(some 25), oFieldAddr 0 (rT 10), none, none⟩,
  ⟨(some 26), oLoad1 (rT 25), none, none⟩,
  ⟨none, oMapUpdate (.int .i64) (.tmp 24) (.tmp 26) (.const (.bool true)), none, none⟩])))
 (.region [⟨(some 27), oBinBy (arithBy .add nAdd) (.tmp 20) (.const (.int .i64 1)), none, none⟩,
  ⟨(some 20), oMv (rT 27), none, none⟩])))))))
 (.seq (.region [⟨(some 28), oMv (rT 8), none, none⟩,
  ⟨(some 29), oMv (rT 6), none, none⟩,
  ⟨(some 30), oLenS 183 (rT 29), none, none⟩,
  ⟨(some 4), oMv (rT 28), none, none⟩,
  ⟨(some 5), oMv (rT 30), none, none⟩])
 .ret)))))⟩
def c69 : FFunc := ⟨[.tmp 2], (.seq (.region [⟨(some 1), oBox (.tmp 0), none, none⟩,
  ⟨(some 2), oMv (rC (.bool false)), none, none⟩])
 (.seq (.seq (.region [⟨(some 5), oFieldAddr 0 (rT 1), none, none⟩,
  ⟨(some 6), oLoad1 (rT 5), none, none⟩,
  ⟨(some 7), oFieldAddr 1 (rT 1), none, none⟩,
  ⟨(some 8), oLoad1 (rT 7), none, none⟩,
  ⟨(some 9), oFieldAddr 2 (rT 1), none, none⟩,
  ⟨(some 10), oLoad1 (rT 9), none, none⟩,
  ⟨(some 11), oFieldAddr 3 (rT 1), none, none⟩,
  ⟨(some 12), oLoad1 (rT 11), none, none⟩,
  ⟨(some 13), oBuildArr #[(.int .i64 0), (.int .i64 0), (.int .i64 0), (.int .i64 0)] 1 [(0, (.tmp 6)), (1, (.tmp 8)), (2, (.tmp 10)), (3, (.tmp 12))], none, none⟩,
  ⟨(some 14), oMv (rC (.int .i64 0)), none, none⟩])
 (.block 0 (.loop (.seq (.region [⟨(some 15), oBinBy (cmpBy .lss cLss) (.tmp 14) (.const (.int .i64 4)), none, none⟩])
 (.seq (.cond (.tmp 15) .skip
 (.exit 0))
 (.seq (.block 1 (.seq (.region [⟨(some 16), oMv (rT 14), none, none⟩,
  ⟨(some 17), oIndexA false 4 1 (.tmp 13) (.tmp 14), none, none⟩,
  ⟨(some 3), oMv (rT 16), none, none⟩,
  ⟨(some 4), oMv (rT 17), none, none⟩])
 (.seq (.region [⟨(some 18), oMv (rT 4), none, none⟩,
  ⟨(some 19), oMv (rT 3), none, none⟩,
  ⟨(some 20), oIndexAddrA 4 2 (.global 0) (.tmp 19), none, none⟩,
  ⟨(some 21), oIndexAddrA 2 1 (.tmp 20) (.const (.int .i64 0)), none, none⟩,
  ⟨(some 22), oLoad1 (rT 21), none, none⟩,
  ⟨(some 23), oBinBy (cmpBy .lss cLss) (.tmp 18) (.tmp 22), none, none⟩,
  ⟨(some 24), oMv (rT 23), none, none⟩,
  ⟨(some 25), oMv (rT 4), (some (24, false)), none⟩,
  ⟨(some 26), oMv (rT 3), (some (24, false)), none⟩,
  ⟨(some 27), oIndexAddrA 4 2 (.global 0) (.tmp 26), (some (24, false)), none⟩,
  ⟨(some 28), oIndexAddrA 2 1 (.tmp 27) (.const (.int .i64 1)), (some (24, false)), none⟩,
  ⟨(some 29), oLoad1 (rT 28), (some (24, false)), none⟩,
  ⟨(some 30), oBinBy (cmpBy .gtr cGtr) (.tmp 25) (.tmp 29), (some (24, false)), none⟩,
  ⟨(some 31), oPick (rT 24) (rC (.bool true)) (rT 30), none, none⟩])
 (.cond (.tmp 31) (.seq (.region [⟨(some 2), oMv (rC (.bool false)), none, none⟩])
 .ret)
 .skip))))
 (.region [⟨(some 32), oBinBy (arithBy .add nAdd) (.tmp 14) (.const (.int .i64 1)), none, none⟩,
  ⟨(some 14), oMv (rT 32), none, none⟩])))))))
 (.seq (.region [⟨(some 2), oMv (rC (.bool true)), none, none⟩])
 .ret)))⟩
def c71 : FFunc := ⟨[], (.seq (.region [⟨(some 2), oMv (rT 0), none, none⟩,
  ⟨(some 3), oUn .not (.tmp 2), none, none⟩])
 (.cond (.tmp 3) (.region [⟨(some 4), oBuild #[] [] [], none, none⟩,
  ⟨(some 5), oMkIface 161 (.tmp 4), none, none⟩,
  ⟨none, oPanic (.tmp 5), none, none⟩])
 .skip))⟩
def c72 : FFunc := ⟨[], (.seq (.region [⟨(some 5), oBox (.tmp 2), none, none⟩])
 (.seq (.seq (.region [⟨(some 15), oFieldAddr 0 (rT 5), none, none⟩,
  ⟨(some 16), oFieldAddr 1 (rT 15), none, none⟩,
  ⟨(some 17), oLoad1 (rT 16), none, none⟩,
  ⟨(some 18), oBinBy (cmpBy .eql cEql) (.tmp 17) (.const (.int .u8 1)), none, none⟩])
 (.cond (.tmp 18) (.seq (.region [⟨(some 20), oFieldAddr 4 (rT 5), none, none⟩,
  ⟨(some 21), oLoad1 (rT 20), none, none⟩,
  ⟨(some 22), oCall 100 [(.tmp 21)], none, none⟩,
  ⟨(some 19), oMv (rT 22), none, none⟩,
  ⟨(some 23), oExtract (rT 19) 0, none, none⟩,
  ⟨(some 24), oExtract (rT 19) 1, none, none⟩,
  ⟨(some 6), oAlloc [(.int .u8 0), (.int .i64 0), (.int .i64 0)], none, (some [(.int .u8 0), (.int .i64 0), (.int .i64 0)])⟩,
  ⟨none, oStore 3 (rT 6) (rT 23), none, none⟩,
  ⟨(some 7), oMv (rT 24), none, none⟩])
 (.seq (.region [⟨(some 25), oMv (rT 7), none, none⟩,
  ⟨(some 26), oBinBy (cmpBy .eql cEql) (.tmp 25) (.const (.int .i64 0)), none, none⟩,
  ⟨(some 27), oMv (rT 26), none, none⟩,
  ⟨(some 28), oMv (rT 0), (some (27, true)), none⟩,
  ⟨(some 29), oNilCheck (rT 28), (some (27, true)), none⟩,
  ⟨(some 30), oFieldAddr 1 (rT 29), (some (27, true)), none⟩,
  ⟨(some 31), oLoad1 (rT 30), (some (27, true)), none⟩,
  ⟨(some 32), oLenS 227 (rT 31), (some (27, true)), none⟩,
  ⟨(some 33), oBinBy (cmpBy .lss cLss) (.tmp 32) (.const (.int .i64 48)), (some (27, true)), none⟩,
  ⟨(some 34), oPick (rT 27) (rT 33) (rC (.bool false)), none, none⟩,
  ⟨(some 35), oCall 71 [(.tmp 34)], none, none⟩])
 (.seq (.region [⟨(some 36), oFieldAddr 0 (rT 5), none, none⟩,
  ⟨(some 37), oFieldAddr 0 (rT 36), none, none⟩,
  ⟨(some 38), oLoad1 (rT 37), none, none⟩,
  ⟨(some 39), oFieldAddr 0 (rT 6), none, none⟩,
  ⟨(some 40), oLoad1 (rT 39), none, none⟩,
  ⟨(some 41), oFieldAddr 1 (rT 6), none, none⟩,
  ⟨(some 42), oLoad1 (rT 41), none, none⟩,
  ⟨(some 43), oBuild #[(.int .i64 0), (.int .u8 0), (.int .i64 0), (.slice none 0 0), (.slice none 0 0)] [(0, 1), (1, 1), (2, 1), (3, 1), (4, 1)] [(0, (.tmp 38)), (1, (.tmp 40)), (2, (.tmp 42))], none, none⟩,
  ⟨(some 8), oAlloc [(.int .i64 0), (.int .u8 0), (.int .i64 0), (.slice none 0 0), (.slice none 0 0)], none, (some [(.int .i64 0), (.int .u8 0), (.int .i64 0), (.slice none 0 0), (.slice none 0 0)])⟩,
  ⟨none, oStore 5 (rT 8) (rT 43), none, none⟩])
 (.seq (.seq (.region [⟨(some 44), oFieldAddr 0 (rT 6), none, none⟩,
  ⟨(some 45), oLoad1 (rT 44), none, none⟩,
  ⟨(some 46), oBinBy (cmpBy .eql cEql) (.tmp 45) (.const (.int .u8 2)), none, none⟩])
 (.cond (.tmp 46) (.seq (.draw [⟨(some 47), oFieldAddr 2 (rT 6), none, none⟩,
  ⟨(some 48), oLoad1 (rT 47), none, none⟩,
  ⟨(some 49), oMv (rT 0), none, none⟩,
  ⟨(some 50), oNilCheck (rT 49), none, none⟩,
  ⟨(some 51), oFieldAddr 0 (rT 50), none, none⟩,
  ⟨(some 52), oLoad1 (rT 51), none, none⟩,
  ⟨(some 53), oBinBy (arithBy .mul nMul) (.const (.int .i64 8)) (.tmp 52), none, none⟩,
  ⟨(some 54), oBinBy (cmpBy .leq cLeq) (.tmp 48) (.tmp 53), none, none⟩,
  ⟨(some 55), oCall 71 [(.tmp 54)], none, none⟩] 0 [])
 (.region [⟨(some 56), oFieldAddr 2 (rT 6), none, none⟩,
  ⟨(some 57), oLoad1 (rT 56), none, none⟩,
  ⟨(some 58), oMkSlice true 1 1 [(.int .u8 0)] (.tmp 57) (.tmp 57), none, none⟩,
  ⟨(some 59), oFieldAddr 4 (rT 8), none, none⟩,
  ⟨none, oStore 1 (rT 59) (rT 58), none, none⟩]))
 (.region [⟨(some 60), oFieldAddr 2 (rT 6), none, none⟩,
  ⟨(some 61), oLoad1 (rT 60), none, none⟩,
  ⟨(some 62), oBinBy (cmpBy .eql cEql) (.tmp 61) (.const (.int .i64 0)), none, none⟩,
  ⟨(some 63), oCall 71 [(.tmp 62)], none, none⟩])))
 (.seq (.draw [⟨(some 64), oMv (rT 1), none, none⟩,
  ⟨(some 65), oFieldAddr 0 (rT 8), none, none⟩,
  ⟨(some 66), oLoad1 (rT 65), none, none⟩,
  ⟨(some 67), oMv (rT 0), none, none⟩,
  ⟨(some 68), oNilCheck (rT 67), none, none⟩,
  ⟨(some 69), oFieldAddr 1 (rT 68), none, none⟩,
  ⟨(some 70), oLoad1 (rT 69), none, none⟩,
  ⟨(some 71), oLenS 227 (rT 70), none, none⟩,
  ⟨none, oMapUpdate (.int .i64) (.tmp 64) (.tmp 66) (.tmp 71), none, none⟩] 0 [])
 (.seq (.draw [⟨(some 72), oMv (rT 0), none, none⟩,
  ⟨(some 73), oMv (rT 0), none, none⟩,
  ⟨(some 74), oNilCheck (rT 73), none, none⟩,
  ⟨(some 75), oFieldAddr 1 (rT 74), none, none⟩,
  ⟨(some 76), oLoad1 (rT 75), none, none⟩,
  ⟨(some 77), oLoadN 5 (rT 8), none, none⟩,
  ⟨(some 78), oBuildSlice false 5 1 [(.int .i64 0), (.int .u8 0), (.int .i64 0), (.slice none 0 0), (.slice none 0 0)] [(0, (.tmp 77))], none, none⟩,
  ⟨(some 79), oAppend 5 72 (.tmp 76) (.tmp 78), none, none⟩,
  ⟨(some 80), oNilCheck (rT 72), none, none⟩,
  ⟨(some 81), oFieldAddr 1 (rT 80), none, none⟩,
  ⟨none, oStore 1 (rT 81) (rT 79), none, none⟩] 0 [(4, 6)])
 .ret))))))
 .skip))
 (.seq (.region [⟨(some 83), oMv (rT 1), none, none⟩,
  ⟨(some 84), oFieldAddr 0 (rT 5), none, none⟩,
  ⟨(some 85), oFieldAddr 0 (rT 84), none, none⟩,
  ⟨(some 86), oLoad1 (rT 85), none, none⟩,
  ⟨(some 87), oLookup (.int .i64) (.int .i64 0) true (.tmp 83) (.tmp 86), none, none⟩,
  ⟨(some 82), oMv (rT 87), none, none⟩,
  ⟨(some 88), oExtract (rT 82) 0, none, none⟩,
  ⟨(some 89), oExtract (rT 82) 1, none, none⟩,
  ⟨(some 9), oMv (rT 88), none, none⟩,
  ⟨(some 10), oMv (rT 89), none, none⟩])
 (.seq (.region [⟨(some 90), oMv (rT 10), none, none⟩,
  ⟨(some 91), oCall 71 [(.tmp 90)], none, none⟩])
 (.seq (.region [⟨(some 92), oMv (rT 0), none, none⟩,
  ⟨(some 93), oNilCheck (rT 92), none, none⟩,
  ⟨(some 94), oFieldAddr 1 (rT 93), none, none⟩,
  ⟨(some 95), oLoad1 (rT 94), none, none⟩,
  ⟨(some 96), oMv (rT 9), none, none⟩,
  ⟨(some 97), oIndexAddr 5 (rT 95) (rT 96), none, none⟩,
  ⟨(some 11), oMv (rT 97), none, none⟩])
 (.seq (.seq (.region [⟨(some 98), oFieldAddr 0 (rT 5), none, none⟩,
  ⟨(some 99), oFieldAddr 1 (rT 98), none, none⟩,
  ⟨(some 100), oLoad1 (rT 99), none, none⟩,
  ⟨(some 101), oBinBy (cmpBy .eql cEql) (.tmp 100) (.const (.int .u8 2)), none, none⟩])
 (.cond (.tmp 101) (.seq (.region [⟨(some 103), oFieldAddr 4 (rT 5), none, none⟩,
  ⟨(some 104), oLoad1 (rT 103), none, none⟩,
  ⟨(some 105), oCall 101 [(.tmp 104)], none, none⟩,
  ⟨(some 102), oMv (rT 105), none, none⟩,
  ⟨(some 106), oExtract (rT 102) 0, none, none⟩,
  ⟨(some 107), oExtract (rT 102) 1, none, none⟩,
  ⟨(some 12), oMv (rT 106), none, none⟩,
  ⟨(some 13), oMv (rT 107), none, none⟩])
 (.seq (.region [⟨(some 108), oMv (rT 13), none, none⟩,
  ⟨(some 109), oBinBy (cmpBy .eql cEql) (.tmp 108) (.const (.int .i64 0)), none, none⟩,
  ⟨(some 110), oCall 71 [(.tmp 109)], none, none⟩])
 (.seq (.draw [⟨(some 111), oMv (rT 11), none, none⟩,
  ⟨(some 112), oMv (rT 11), none, none⟩,
  ⟨(some 113), oNilCheck (rT 112), none, none⟩,
  ⟨(some 114), oFieldAddr 3 (rT 113), none, none⟩,
  ⟨(some 115), oLoad1 (rT 114), none, none⟩,
  ⟨(some 116), oFieldAddr 0 (rT 5), none, none⟩,
  ⟨(some 117), oFieldAddr 2 (rT 116), none, none⟩,
  ⟨(some 118), oLoad1 (rT 117), none, none⟩,
  ⟨(some 119), oMv (rT 12), none, none⟩,
  ⟨(some 120), oBuild #[(.string ⟨#[]⟩), (.int .i64 0)] [(0, 1), (1, 1)] [(0, (.tmp 118)), (1, (.tmp 119))], none, none⟩,
  ⟨(some 121), oBuildSlice false 2 1 [(.string ⟨#[]⟩), (.int .i64 0)] [(0, (.tmp 120))], none, none⟩,
  ⟨(some 122), oAppend 2 24 (.tmp 115) (.tmp 121), none, none⟩,
  ⟨(some 123), oNilCheck (rT 111), none, none⟩,
  ⟨(some 124), oFieldAddr 3 (rT 123), none, none⟩,
  ⟨none, oStore 1 (rT 124) (rT 122), none, none⟩] 0 [(4, 10)])
 .ret)))
 .skip))
 (.seq (.draw [⟨(some 125), oFieldAddr 0 (rT 5), none, none⟩,
  ⟨(some 126), oFieldAddr 3 (rT 125), none, none⟩,
  ⟨(some 127), oLoad1 (rT 126), none, none⟩,
  ⟨(some 128), oMv (rT 0), none, none⟩,
  ⟨(some 129), oNilCheck (rT 128), none, none⟩,
  ⟨(some 130), oFieldAddr 0 (rT 129), none, none⟩,
  ⟨(some 131), oLoad1 (rT 130), none, none⟩,
  ⟨(some 132), oBinBy (arithBy .mul nMul) (.tmp 127) (.tmp 131), none, none⟩,
  ⟨(some 14), oMv (rT 132), none, none⟩] 0 [])
 (.seq (.draw [⟨(some 133), oFieldAddr 4 (rT 5), none, none⟩,
  ⟨(some 134), oLoad1 (rT 133), none, none⟩,
  ⟨(some 135), oLenS 5 (rT 134), none, none⟩,
  ⟨(some 136), oBinBy (cmpBy .gtr cGtr) (.tmp 135) (.const (.int .i64 0)), none, none⟩,
  ⟨(some 137), oMv (rT 136), none, none⟩,
  ⟨(some 138), oFieldAddr 4 (rT 5), (some (137, true)), none⟩,
  ⟨(some 139), oLoad1 (rT 138), (some (137, true)), none⟩,
  ⟨(some 140), oLenS 5 (rT 139), (some (137, true)), none⟩,
  ⟨(some 141), oMv (rT 0), (some (137, true)), none⟩,
  ⟨(some 142), oNilCheck (rT 141), (some (137, true)), none⟩,
  ⟨(some 143), oFieldAddr 0 (rT 142), (some (137, true)), none⟩,
  ⟨(some 144), oLoad1 (rT 143), (some (137, true)), none⟩,
  ⟨(some 145), oBinBy (cmpBy .leq cLeq) (.tmp 140) (.tmp 144), (some (137, true)), none⟩,
  ⟨(some 146), oPick (rT 137) (rT 145) (rC (.bool false)), none, none⟩,
  ⟨(some 147), oMv (rT 146), none, none⟩,
  ⟨(some 148), oMv (rT 14), (some (147, true)), none⟩,
  ⟨(some 149), oFieldAddr 4 (rT 5), (some (147, true)), none⟩,
  ⟨(some 150), oLoad1 (rT 149), (some (147, true)), none⟩,
  ⟨(some 151), oLenS 5 (rT 150), (some (147, true)), none⟩,
  ⟨(some 152), oBinBy (arithBy .add nAdd) (.tmp 148) (.tmp 151), (some (147, true)), none⟩,
  ⟨(some 153), oMv (rT 11), (some (147, true)), none⟩,
  ⟨(some 154), oNilCheck (rT 153), (some (147, true)), none⟩,
  ⟨(some 155), oFieldAddr 4 (rT 154), (some (147, true)), none⟩,
  ⟨(some 156), oLoad1 (rT 155), (some (147, true)), none⟩,
  ⟨(some 157), oLenS 5 (rT 156), (some (147, true)), none⟩,
  ⟨(some 158), oBinBy (cmpBy .leq cLeq) (.tmp 152) (.tmp 157), (some (147, true)), none⟩,
  ⟨(some 159), oPick (rT 147) (rT 158) (rC (.bool false)), none, none⟩,
  ⟨(some 160), oMv (rT 159), none, none⟩,
  ⟨(some 161), oFieldAddr 4 (rT 5), (some (160, true)), none⟩,
  ⟨(some 162), oLoad1 (rT 161), (some (160, true)), none⟩,
  ⟨(some 163), oFieldAddr 4 (rT 5), (some (160, true)), none⟩,
  ⟨(some 164), oLoad1 (rT 163), (some (160, true)), none⟩,
  ⟨(some 165), oLenS 5 (rT 164), (some (160, true)), none⟩,
  ⟨(some 166), oBinBy (arithBy .sub nSub) (.tmp 165) (.const (.int .i64 1)), (some (160, true)), none⟩,
  ⟨(some 167), oIndexAddr 1 (rT 162) (rT 166), (some (160, true)), none⟩,
  ⟨(some 168), oLoad1 (rT 167), (some (160, true)), none⟩,
  ⟨(some 169), oBinBy (cmpBy .neq cNeq) (.tmp 168) (.const (.int .u8 0)), (some (160, true)), none⟩,
  ⟨(some 170), oPick (rT 160) (rT 169) (rC (.bool false)), none, none⟩,
  ⟨(some 171), oCall 71 [(.tmp 170)], none, none⟩] 0 [])
 (.draw [⟨(some 172), oMv (rT 11), none, none⟩,
  ⟨(some 173), oNilCheck (rT 172), none, none⟩,
  ⟨(some 174), oFieldAddr 4 (rT 173), none, none⟩,
  ⟨(some 175), oLoad1 (rT 174), none, none⟩,
  ⟨(some 176), oMv (rT 14), none, none⟩,
  ⟨(some 177), oSlice 1 (.tmp 175) (some (.tmp 176)) none none, none, none⟩,
  ⟨(some 178), oFieldAddr 4 (rT 5), none, none⟩,
  ⟨(some 179), oLoad1 (rT 178), none, none⟩,
  ⟨(some 180), oCopy 1 (.tmp 177) (.tmp 179), none, none⟩] 0 [])))))))))⟩
def c73 : FFunc := ⟨[.tmp 2], (.seq (.region [⟨(some 1), oBox (.tmp 0), none, none⟩,
  ⟨(some 2), oMv (rC (.bool false)), none, none⟩])
 (.seq (.seq (.region [⟨(some 14), oFieldAddr 0 (rT 1), none, none⟩,
  ⟨(some 15), oLoad1 (rT 14), none, none⟩,
  ⟨(some 16), oBinBy (cmpBy .lss cLss) (.tmp 15) (.const (.int .i64 1)), none, none⟩,
  ⟨(some 17), oMv (rT 16), none, none⟩,
  ⟨(some 18), oFieldAddr 0 (rT 1), (some (17, false)), none⟩,
  ⟨(some 19), oLoad1 (rT 18), (some (17, false)), none⟩,
  ⟨(some 20), oBinBy (cmpBy .gtr cGtr) (.tmp 19) (.const (.int .i64 255)), (some (17, false)), none⟩,
  ⟨(some 21), oPick (rT 17) (rC (.bool true)) (rT 20), none, none⟩,
  ⟨(some 22), oMv (rT 21), none, none⟩,
  ⟨(some 23), oFieldAddr 1 (rT 1), (some (22, false)), none⟩,
  ⟨(some 24), oLoad1 (rT 23), (some (22, false)), none⟩,
  ⟨(some 25), oLenS 227 (rT 24), (some (22, false)), none⟩,
  ⟨(some 26), oBinBy (cmpBy .lss cLss) (.tmp 25) (.const (.int .i64 1)), (some (22, false)), none⟩,
  ⟨(some 27), oPick (rT 22) (rC (.bool true)) (rT 26), none, none⟩,
  ⟨(some 28), oMv (rT 27), none, none⟩,
  ⟨(some 29), oFieldAddr 1 (rT 1), (some (28, false)), none⟩,
  ⟨(some 30), oLoad1 (rT 29), (some (28, false)), none⟩,
  ⟨(some 31), oLenS 227 (rT 30), (some (28, false)), none⟩,
  ⟨(some 32), oBinBy (cmpBy .gtr cGtr) (.tmp 31) (.const (.int .i64 48)), (some (28, false)), none⟩,
  ⟨(some 33), oPick (rT 28) (rC (.bool true)) (rT 32), none, none⟩,
  ⟨(some 34), oMv (rT 33), none, none⟩,
  ⟨(some 35), oFieldAddr 1 (rT 1), (some (34, false)), none⟩,
  ⟨(some 36), oLoad1 (rT 35), (some (34, false)), none⟩,
  ⟨(some 37), oIndexAddr 5 (rT 36) (rC (.int .i64 0)), (some (34, false)), none⟩,
  ⟨(some 38), oFieldAddr 0 (rT 37), (some (34, false)), none⟩,
  ⟨(some 39), oLoad1 (rT 38), (some (34, false)), none⟩,
  ⟨(some 40), oBinBy (cmpBy .neq cNeq) (.tmp 39) (.const (.int .i64 1)), (some (34, false)), none⟩,
  ⟨(some 41), oPick (rT 34) (rC (.bool true)) (rT 40), none, none⟩,
  ⟨(some 42), oMv (rT 41), none, none⟩,
  ⟨(some 43), oFieldAddr 1 (rT 1), (some (42, false)), none⟩,
  ⟨(some 44), oLoad1 (rT 43), (some (42, false)), none⟩,
  ⟨(some 45), oIndexAddr 5 (rT 44) (rC (.int .i64 0)), (some (42, false)), none⟩,
  ⟨(some 46), oFieldAddr 1 (rT 45), (some (42, false)), none⟩,
  ⟨(some 47), oLoad1 (rT 46), (some (42, false)), none⟩,
  ⟨(some 48), oBinBy (cmpBy .neq cNeq) (.tmp 47) (.const (.int .u8 1)), (some (42, false)), none⟩,
  ⟨(some 49), oPick (rT 42) (rC (.bool true)) (rT 48), none, none⟩])
 (.cond (.tmp 49) (.seq (.region [⟨(some 2), oMv (rC (.bool false)), none, none⟩])
 .ret)
 .skip))
 (.seq (.seq (.region [⟨(some 50), oFieldAddr 1 (rT 1), none, none⟩,
  ⟨(some 51), oLoad1 (rT 50), none, none⟩,
  ⟨(some 52), oLenS 227 (rT 51), none, none⟩,
  ⟨(some 53), oMv (rC (.int .i64 0)), none, none⟩])
 (.block 0 (.loop (.seq (.region [⟨(some 54), oBinBy (cmpBy .lss cLss) (.tmp 53) (.tmp 52), none, none⟩])
 (.seq (.cond (.tmp 54) .skip
 (.exit 0))
 (.seq (.block 1 (.seq (.region [⟨(some 55), oMv (rT 53), none, none⟩,
  ⟨(some 56), oIndexAddr 5 (rT 51) (rT 53), none, none⟩,
  ⟨(some 57), oLoadN 5 (rT 56), none, none⟩,
  ⟨(some 4), oAlloc [(.int .i64 0), (.int .u8 0), (.int .i64 0), (.slice none 0 0), (.slice none 0 0)], none, (some [(.int .i64 0), (.int .u8 0), (.int .i64 0), (.slice none 0 0), (.slice none 0 0)])⟩,
  ⟨(some 3), oMv (rT 55), none, none⟩,
  ⟨none, oStore 5 (rT 4) (rT 57), none, none⟩])
 (.seq (.draw [⟨(some 58), oLoadN 2 (rT 1), none, none⟩,
  ⟨(some 59), oLoadN 5 (rT 4), none, none⟩,
  ⟨(some 60), oCall 102 [(.tmp 58), (.tmp 59)], none, none⟩,
  ⟨(some 61), oUn .not (.tmp 60), none, none⟩,
  ⟨(some 62), oMv (rT 61), none, none⟩,
  ⟨(some 63), oMv (rT 3), (some (62, false)), none⟩,
  ⟨(some 64), oBinBy (cmpBy .gtr cGtr) (.tmp 63) (.const (.int .i64 0)), (some (62, false)), none⟩,
  ⟨(some 65), oMv (rT 64), (some (62, false)), none⟩,
  ⟨(some 66), oFieldAddr 1 (rT 1), (some (65, true)), none⟩,
  ⟨(some 67), oLoad1 (rT 66), (some (65, true)), none⟩,
  ⟨(some 68), oMv (rT 3), (some (65, true)), none⟩,
  ⟨(some 69), oBinBy (arithBy .sub nSub) (.tmp 68) (.const (.int .i64 1)), (some (65, true)), none⟩,
  ⟨(some 70), oIndexAddr 5 (rT 67) (rT 69), (some (65, true)), none⟩,
  ⟨(some 71), oFieldAddr 0 (rT 70), (some (65, true)), none⟩,
  ⟨(some 72), oLoad1 (rT 71), (some (65, true)), none⟩,
  ⟨(some 73), oFieldAddr 0 (rT 4), (some (65, true)), none⟩,
  ⟨(some 74), oLoad1 (rT 73), (some (65, true)), none⟩,
  ⟨(some 75), oBinBy (cmpBy .geq cGeq) (.tmp 72) (.tmp 74), (some (65, true)), none⟩,
  ⟨(some 76), oPick (rT 65) (rT 75) (rC (.bool false)), (some (62, false)), none⟩,
  ⟨(some 77), oPick (rT 62) (rC (.bool true)) (rT 76), none, none⟩] 0 [])
 (.cond (.tmp 77) (.seq (.region [⟨(some 2), oMv (rC (.bool false)), none, none⟩])
 .ret)
 .skip))))
 (.region [⟨(some 78), oBinBy (arithBy .add nAdd) (.tmp 53) (.const (.int .i64 1)), none, none⟩,
  ⟨(some 53), oMv (rT 78), none, none⟩])))))))
 (.seq (.region [⟨(some 79), oMkMap, none, none⟩,
  ⟨none, oMapUpdate (.int .i64) (.tmp 79) (.const (.int .i64 1)) (.const (.int .i64 1)), none, none⟩,
  ⟨(some 80), oMv (rT 79), none, none⟩,
  ⟨(some 5), oMv (rT 80), none, none⟩])
 (.seq (.region [⟨(some 81), oBuildSlice false 1 1 [(.int .i64 0)] [(0, (.const (.int .i64 1)))], none, none⟩,
  ⟨(some 6), oMv (rT 81), none, none⟩])
 (.seq (.region [⟨(some 82), oMkMap, none, none⟩,
  ⟨(some 7), oMv (rT 82), none, none⟩])
 (.seq (.block 2 (.loop (.seq (.seq (.region [⟨(some 83), oMv (rT 6), none, none⟩,
  ⟨(some 84), oLenS 3 (rT 83), none, none⟩,
  ⟨(some 85), oBinBy (cmpBy .gtr cGtr) (.tmp 84) (.const (.int .i64 0)), none, none⟩])
 (.cond (.tmp 85) .skip
 (.exit 2)))
 (.block 3 (.seq (.draw [⟨(some 86), oLoadN 2 (rT 1), none, none⟩,
  ⟨(some 87), oMv (rT 6), none, none⟩,
  ⟨(some 88), oIndexAddr 1 (rT 87) (rC (.int .i64 0)), none, none⟩,
  ⟨(some 89), oLoad1 (rT 88), none, none⟩,
  ⟨(some 90), oCall 103 [(.tmp 86), (.tmp 89)], none, none⟩,
  ⟨(some 8), oMv (rT 90), none, none⟩] 0 [])
 (.seq (.region [⟨(some 91), oMv (rT 6), none, none⟩,
  ⟨(some 92), oSlice 1 (.tmp 91) (some (.const (.int .i64 1))) none none, none, none⟩,
  ⟨(some 6), oMv (rT 92), none, none⟩])
 (.seq (.region [⟨(some 93), oMv (rT 8), none, none⟩,
  ⟨(some 94), oNilCheck (rT 93), none, none⟩,
  ⟨(some 95), oFieldAddr 3 (rT 94), none, none⟩,
  ⟨(some 96), oLoad1 (rT 95), none, none⟩,
  ⟨(some 97), oLenS 233 (rT 96), none, none⟩,
  ⟨(some 98), oMv (rC (.int .i64 0)), none, none⟩])
 (.block 4 (.loop (.seq (.region [⟨(some 99), oBinBy (cmpBy .lss cLss) (.tmp 98) (.tmp 97), none, none⟩])
 (.seq (.cond (.tmp 99) .skip
 (.exit 4))
 (.seq (.block 5 (.seq (.region [⟨(some 100), oIndexAddr 2 (rT 96) (rT 98), none, none⟩,
  ⟨(some 101), oLoadN 2 (rT 100), none, none⟩,
  ⟨(some 10), oAlloc [(.string ⟨#[]⟩), (.int .i64 0)], none, (some [(.string ⟨#[]⟩), (.int .i64 0)])⟩,
  ⟨none, oStore 2 (rT 10) (rT 101), none, none⟩])
 (.seq (.region [⟨(some 102), oLoadN 2 (rT 1), none, none⟩,
  ⟨(some 103), oFieldAddr 1 (rT 10), none, none⟩,
  ⟨(some 104), oLoad1 (rT 103), none, none⟩,
  ⟨(some 105), oCall 103 [(.tmp 102), (.tmp 104)], none, none⟩,
  ⟨(some 11), oMv (rT 105), none, none⟩])
 (.seq (.seq (.region [⟨(some 106), oMv (rT 11), none, none⟩,
  ⟨(some 107), oEqNil false true (.pointer 227) (.tmp 106) (.const (.pointer none)), none, none⟩,
  ⟨(some 108), oMv (rT 107), none, none⟩,
  ⟨(some 109), oMv (rT 7), (some (108, false)), none⟩,
  ⟨(some 110), oMv (rT 8), (some (108, false)), none⟩,
  ⟨(some 111), oNilCheck (rT 110), (some (108, false)), none⟩,
  ⟨(some 112), oFieldAddr 0 (rT 111), (some (108, false)), none⟩,
  ⟨(some 113), oLoad1 (rT 112), (some (108, false)), none⟩,
  ⟨(some 114), oLookup (.int .i64) (.int .i64 0) false (.tmp 109) (.tmp 113), (some (108, false)), none⟩,
  ⟨(some 115), oBinBy (cmpBy .eql cEql) (.tmp 114) (.const (.int .i64 6)), (some (108, false)), none⟩,
  ⟨(some 116), oPick (rT 108) (rC (.bool true)) (rT 115), none, none⟩])
 (.cond (.tmp 116) (.seq (.region [⟨(some 2), oMv (rC (.bool false)), none, none⟩])
 .ret)
 .skip))
 (.seq (.region [⟨(some 117), oMv (rT 5), none, none⟩,
  ⟨(some 118), oFieldAddr 1 (rT 10), none, none⟩,
  ⟨(some 119), oLoad1 (rT 118), none, none⟩,
  ⟨(some 120), oLookup (.int .i64) (.int .i64 0) false (.tmp 117) (.tmp 119), none, none⟩,
  ⟨(some 121), oBinBy (arithBy .add nAdd) (.tmp 120) (.const (.int .i64 1)), none, none⟩,
  ⟨none, oMapUpdate (.int .i64) (.tmp 117) (.tmp 119) (.tmp 121), none, none⟩])
 (.seq (.region [⟨(some 122), oMv (rT 11), none, none⟩,
  ⟨(some 123), oNilCheck (rT 122), none, none⟩,
  ⟨(some 124), oFieldAddr 1 (rT 123), none, none⟩,
  ⟨(some 125), oLoad1 (rT 124), none, none⟩,
  ⟨(some 126), oBinBy (cmpBy .eql cEql) (.tmp 125) (.const (.int .u8 1)), none, none⟩])
 (.cond (.tmp 126) (.seq (.seq (.region [⟨(some 127), oMv (rT 5), none, none⟩,
  ⟨(some 128), oFieldAddr 1 (rT 10), none, none⟩,
  ⟨(some 129), oLoad1 (rT 128), none, none⟩,
  ⟨(some 130), oLookup (.int .i64) (.int .i64 0) false (.tmp 127) (.tmp 129), none, none⟩,
  ⟨(some 131), oBinBy (cmpBy .gtr cGtr) (.tmp 130) (.const (.int .i64 1)), none, none⟩])
 (.cond (.tmp 131) (.seq (.region [⟨(some 2), oMv (rC (.bool false)), none, none⟩])
 .ret)
 .skip))
 (.seq (.draw [⟨(some 132), oMv (rT 7), none, none⟩,
  ⟨(some 133), oFieldAddr 1 (rT 10), none, none⟩,
  ⟨(some 134), oLoad1 (rT 133), none, none⟩,
  ⟨(some 135), oMv (rT 7), none, none⟩,
  ⟨(some 136), oMv (rT 8), none, none⟩,
  ⟨(some 137), oNilCheck (rT 136), none, none⟩,
  ⟨(some 138), oFieldAddr 0 (rT 137), none, none⟩,
  ⟨(some 139), oLoad1 (rT 138), none, none⟩,
  ⟨(some 140), oLookup (.int .i64) (.int .i64 0) false (.tmp 135) (.tmp 139), none, none⟩,
  ⟨(some 141), oBinBy (arithBy .add nAdd) (.tmp 140) (.const (.int .i64 1)), none, none⟩,
  ⟨none, oMapUpdate (.int .i64) (.tmp 132) (.tmp 134) (.tmp 141), none, none⟩] 0 [])
 (.region [⟨(some 142), oMv (rT 6), none, none⟩,
  ⟨(some 143), oFieldAddr 1 (rT 10), none, none⟩,
  ⟨(some 144), oLoad1 (rT 143), none, none⟩,
  ⟨(some 145), oBuildSlice false 1 1 [(.int .i64 0)] [(0, (.tmp 144))], none, none⟩,
  ⟨(some 146), oAppend 1 8 (.tmp 142) (.tmp 145), none, none⟩,
  ⟨(some 6), oMv (rT 146), none, none⟩])))
 .skip)))))))
 (.region [⟨(some 147), oBinBy (arithBy .add nAdd) (.tmp 98) (.const (.int .i64 1)), none, none⟩,
  ⟨(some 98), oMv (rT 147), none, none⟩])))))))))))))
 (.seq (.seq (.region [⟨(some 148), oFieldAddr 1 (rT 1), none, none⟩,
  ⟨(some 149), oLoad1 (rT 148), none, none⟩,
  ⟨(some 150), oLenS 227 (rT 149), none, none⟩,
  ⟨(some 151), oMv (rC (.int .i64 0)), none, none⟩])
 (.block 6 (.loop (.seq (.region [⟨(some 152), oBinBy (cmpBy .lss cLss) (.tmp 151) (.tmp 150), none, none⟩])
 (.seq (.cond (.tmp 152) .skip
 (.exit 6))
 (.seq (.block 7 (.seq (.region [⟨(some 153), oIndexAddr 5 (rT 149) (rT 151), none, none⟩,
  ⟨(some 154), oLoadN 5 (rT 153), none, none⟩,
  ⟨(some 13), oAlloc [(.int .i64 0), (.int .u8 0), (.int .i64 0), (.slice none 0 0), (.slice none 0 0)], none, (some [(.int .i64 0), (.int .u8 0), (.int .i64 0), (.slice none 0 0), (.slice none 0 0)])⟩,
  ⟨none, oStore 5 (rT 13) (rT 154), none, none⟩])
 (.seq (.region [⟨(some 155), oMv (rT 5), none, none⟩,
  ⟨(some 156), oFieldAddr 0 (rT 13), none, none⟩,
  ⟨(some 157), oLoad1 (rT 156), none, none⟩,
  ⟨(some 158), oLookup (.int .i64) (.int .i64 0) false (.tmp 155) (.tmp 157), none, none⟩,
  ⟨(some 159), oFieldAddr 2 (rT 13), none, none⟩,
  ⟨(some 160), oLoad1 (rT 159), none, none⟩,
  ⟨(some 161), oBinBy (cmpBy .neq cNeq) (.tmp 158) (.tmp 160), none, none⟩])
 (.cond (.tmp 161) (.seq (.region [⟨(some 2), oMv (rC (.bool false)), none, none⟩])
 .ret)
 .skip))))
 (.region [⟨(some 162), oBinBy (arithBy .add nAdd) (.tmp 151) (.const (.int .i64 1)), none, none⟩,
  ⟨(some 151), oMv (rT 162), none, none⟩])))))))
 (.seq (.region [⟨(some 2), oMv (rC (.bool true)), none, none⟩])
 .ret)))))))))⟩
def c74 : FFunc := ⟨[.tmp 2], (.seq (.region [⟨(some 2), oMv (rC (.bool false)), none, none⟩])
 (.seq (.block 0 (.seq (.seq (.region [⟨(some 4), oMv (rT 0), none, none⟩,
  ⟨(some 5), oBinBy (cmpBy .geq cGeq) (.tmp 4) (.const (.int .u8 97)), none, none⟩,
  ⟨(some 6), oMv (rT 5), none, none⟩,
  ⟨(some 7), oMv (rT 0), (some (6, true)), none⟩,
  ⟨(some 8), oBinBy (cmpBy .leq cLeq) (.tmp 7) (.const (.int .u8 122)), (some (6, true)), none⟩,
  ⟨(some 9), oPick (rT 6) (rT 8) (rC (.bool false)), none, none⟩,
  ⟨(some 3), oMv (rT 9), none, none⟩])
 (.cond (.tmp 3) .skip
 (.seq (.region [⟨(some 10), oMv (rT 0), none, none⟩,
  ⟨(some 11), oBinBy (cmpBy .geq cGeq) (.tmp 10) (.const (.int .u8 48)), none, none⟩,
  ⟨(some 12), oMv (rT 11), none, none⟩,
  ⟨(some 13), oMv (rT 0), (some (12, true)), none⟩,
  ⟨(some 14), oBinBy (cmpBy .leq cLeq) (.tmp 13) (.const (.int .u8 57)), (some (12, true)), none⟩,
  ⟨(some 15), oPick (rT 12) (rT 14) (rC (.bool false)), none, none⟩,
  ⟨(some 3), oMv (rT 15), none, none⟩])
 (.cond (.tmp 3) .skip
 (.seq (.region [⟨(some 16), oMv (rT 0), none, none⟩,
  ⟨(some 17), oBinBy (cmpBy .eql cEql) (.tmp 16) (.const (.int .u8 46)), none, none⟩,
  ⟨(some 3), oMv (rT 17), none, none⟩])
 (.cond (.tmp 3) .skip
 (.region [⟨(some 18), oMv (rT 0), none, none⟩,
  ⟨(some 19), oBinBy (cmpBy .eql cEql) (.tmp 18) (.const (.int .u8 45)), none, none⟩,
  ⟨(some 3), oMv (rT 19), none, none⟩])))))))
 (.cond (.tmp 3) (.seq (.region [⟨(some 2), oMv (rC (.bool true)), none, none⟩])
 .ret)
 .skip)))
 (.seq (.region [⟨(some 2), oMv (rC (.bool false)), none, none⟩])
 .ret)))⟩
def c75 : FFunc := ⟨[.tmp 2], (.seq (.region [⟨(some 2), oMv (rC (.int .i64 0)), none, none⟩])
 (.seq (.region [⟨(some 3), oMv (rC (.int .i64 0)), none, none⟩])
 (.seq (.seq (.region [⟨(some 6), oMv (rT 0), none, none⟩,
  ⟨(some 7), oLenS 3 (rT 6), none, none⟩,
  ⟨(some 8), oMv (rC (.int .i64 0)), none, none⟩])
 (.block 0 (.loop (.seq (.region [⟨(some 9), oBinBy (cmpBy .lss cLss) (.tmp 8) (.tmp 7), none, none⟩])
 (.seq (.cond (.tmp 9) .skip
 (.exit 0))
 (.seq (.block 1 (.seq (.region [⟨(some 10), oIndexAddr 1 (rT 6) (rT 8), none, none⟩,
  ⟨(some 11), oLoad1 (rT 10), none, none⟩,
  ⟨(some 5), oMv (rT 11), none, none⟩])
 (.seq (.region [⟨(some 12), oMv (rT 5), none, none⟩,
  ⟨(some 13), oMv (rT 3), none, none⟩,
  ⟨(some 14), oBinBy (cmpBy .neq cNeq) (.tmp 12) (.tmp 13), none, none⟩])
 (.cond (.tmp 14) (.seq (.region [⟨(some 15), oMv (rT 5), none, none⟩,
  ⟨(some 2), oMv (rT 15), none, none⟩])
 .ret)
 .skip))))
 (.region [⟨(some 16), oBinBy (arithBy .add nAdd) (.tmp 8) (.const (.int .i64 1)), none, none⟩,
  ⟨(some 8), oMv (rT 16), none, none⟩])))))))
 (.seq (.region [⟨(some 17), oMv (rT 3), none, none⟩,
  ⟨(some 2), oMv (rT 17), none, none⟩])
 .ret))))⟩
def c76 : FFunc := ⟨[.tmp 4], (.seq (.region [⟨(some 4), oMv (rC (.int .i64 0)), none, none⟩])
 (.seq (.region [⟨(some 7), oMv (rT 0), none, none⟩,
  ⟨(some 8), oCall 104 [(.tmp 7)], none, none⟩,
  ⟨(some 5), oMv (rT 8), none, none⟩])
 (.seq (.region [⟨(some 9), oMv (rT 1), none, none⟩,
  ⟨(some 10), oCall 104 [(.tmp 9)], none, none⟩,
  ⟨(some 6), oMv (rT 10), none, none⟩])
 (.seq (.seq (.region [⟨(some 11), oMv (rT 5), none, none⟩])
 (.cond (.tmp 11) (.seq (.seq (.region [⟨(some 12), oMv (rT 6), none, none⟩])
 (.cond (.tmp 12) (.seq (.region [⟨(some 4), oMv (rC (.int .i64 0)), none, none⟩])
 .ret)
 .skip))
 (.seq (.region [⟨(some 4), oMv (rC (.int .i64 (-1))), none, none⟩])
 .ret))
 .skip))
 (.seq (.seq (.region [⟨(some 13), oMv (rT 6), none, none⟩])
 (.cond (.tmp 13) (.seq (.region [⟨(some 4), oMv (rC (.int .i64 1)), none, none⟩])
 .ret)
 .skip))
 (.seq (.seq (.region [⟨(some 14), oMv (rT 0), none, none⟩,
  ⟨(some 15), oMv (rT 1), none, none⟩,
  ⟨(some 16), oBinBy (cmpBy .lss cLss) (.tmp 14) (.tmp 15), none, none⟩])
 (.cond (.tmp 16) (.seq (.region [⟨(some 4), oMv (rC (.int .i64 (-1))), none, none⟩])
 .ret)
 .skip))
 (.seq (.seq (.region [⟨(some 17), oMv (rT 0), none, none⟩,
  ⟨(some 18), oMv (rT 1), none, none⟩,
  ⟨(some 19), oBinBy (cmpBy .gtr cGtr) (.tmp 17) (.tmp 18), none, none⟩])
 (.cond (.tmp 19) (.seq (.region [⟨(some 4), oMv (rC (.int .i64 1)), none, none⟩])
 .ret)
 .skip))
 (.seq (.region [⟨(some 4), oMv (rC (.int .i64 0)), none, none⟩])
 .ret))))))))⟩
def c77 : FFunc := ⟨[.tmp 4], (.seq (.region [⟨(some 4), oMv (rC (.int .i64 0)), none, none⟩])
 (.seq (.region [⟨(some 7), oMv (rT 0), none, none⟩,
  ⟨(some 8), oCall 105 [(.tmp 7)], none, none⟩,
  ⟨(some 5), oMv (rT 8), none, none⟩])
 (.seq (.region [⟨(some 9), oMv (rT 1), none, none⟩,
  ⟨(some 10), oCall 105 [(.tmp 9)], none, none⟩,
  ⟨(some 6), oMv (rT 10), none, none⟩])
 (.seq (.seq (.region [⟨(some 11), oMv (rT 5), none, none⟩])
 (.cond (.tmp 11) (.seq (.seq (.region [⟨(some 12), oMv (rT 6), none, none⟩])
 (.cond (.tmp 12) (.seq (.region [⟨(some 4), oMv (rC (.int .i64 0)), none, none⟩])
 .ret)
 .skip))
 (.seq (.region [⟨(some 4), oMv (rC (.int .i64 (-1))), none, none⟩])
 .ret))
 .skip))
 (.seq (.seq (.region [⟨(some 13), oMv (rT 6), none, none⟩])
 (.cond (.tmp 13) (.seq (.region [⟨(some 4), oMv (rC (.int .i64 1)), none, none⟩])
 .ret)
 .skip))
 (.seq (.seq (.region [⟨(some 14), oMv (rT 0), none, none⟩,
  ⟨(some 15), oMv (rT 1), none, none⟩,
  ⟨(some 16), oBinBy (cmpBy .lss cLss) (.tmp 14) (.tmp 15), none, none⟩])
 (.cond (.tmp 16) (.seq (.region [⟨(some 4), oMv (rC (.int .i64 (-1))), none, none⟩])
 .ret)
 .skip))
 (.seq (.seq (.region [⟨(some 17), oMv (rT 0), none, none⟩,
  ⟨(some 18), oMv (rT 1), none, none⟩,
  ⟨(some 19), oBinBy (cmpBy .gtr cGtr) (.tmp 17) (.tmp 18), none, none⟩])
 (.cond (.tmp 19) (.seq (.region [⟨(some 4), oMv (rC (.int .i64 1)), none, none⟩])
 .ret)
 .skip))
 (.seq (.region [⟨(some 4), oMv (rC (.int .i64 0)), none, none⟩])
 .ret))))))))⟩
def c78 : FFunc := ⟨[.tmp 4], (.seq (.region [⟨(some 4), oMv (rC (.int .i64 0)), none, none⟩])
 (.seq (.region [⟨(some 7), oMv (rT 0), none, none⟩,
  ⟨(some 8), oCall 106 [(.tmp 7)], none, none⟩,
  ⟨(some 5), oMv (rT 8), none, none⟩])
 (.seq (.region [⟨(some 9), oMv (rT 1), none, none⟩,
  ⟨(some 10), oCall 106 [(.tmp 9)], none, none⟩,
  ⟨(some 6), oMv (rT 10), none, none⟩])
 (.seq (.seq (.region [⟨(some 11), oMv (rT 5), none, none⟩])
 (.cond (.tmp 11) (.seq (.seq (.region [⟨(some 12), oMv (rT 6), none, none⟩])
 (.cond (.tmp 12) (.seq (.region [⟨(some 4), oMv (rC (.int .i64 0)), none, none⟩])
 .ret)
 .skip))
 (.seq (.region [⟨(some 4), oMv (rC (.int .i64 (-1))), none, none⟩])
 .ret))
 .skip))
 (.seq (.seq (.region [⟨(some 13), oMv (rT 6), none, none⟩])
 (.cond (.tmp 13) (.seq (.region [⟨(some 4), oMv (rC (.int .i64 1)), none, none⟩])
 .ret)
 .skip))
 (.seq (.seq (.region [⟨(some 14), oMv (rT 0), none, none⟩,
  ⟨(some 15), oMv (rT 1), none, none⟩,
  ⟨(some 16), oBinBy (cmpBy .lss cLss) (.tmp 14) (.tmp 15), none, none⟩])
 (.cond (.tmp 16) (.seq (.region [⟨(some 4), oMv (rC (.int .i64 (-1))), none, none⟩])
 .ret)
 .skip))
 (.seq (.seq (.region [⟨(some 17), oMv (rT 0), none, none⟩,
  ⟨(some 18), oMv (rT 1), none, none⟩,
  ⟨(some 19), oBinBy (cmpBy .gtr cGtr) (.tmp 17) (.tmp 18), none, none⟩])
 (.cond (.tmp 19) (.seq (.region [⟨(some 4), oMv (rC (.int .i64 1)), none, none⟩])
 .ret)
 .skip))
 (.seq (.region [⟨(some 4), oMv (rC (.int .i64 0)), none, none⟩])
 .ret))))))))⟩
def c79 : FFunc := ⟨[.tmp 4, .tmp 5, .tmp 6], (.seq (.region [⟨(some 4), oMv (rC (.pointer none)), none, none⟩,
  ⟨(some 5), oMv (rC (.slice none 0 0)), none, none⟩,
  ⟨(some 6), oMv (rC (.int .i64 0)), none, none⟩])
 (.seq (.region [⟨(some 10), oMv (rT 0), none, none⟩,
  ⟨(some 11), oCall 11 [(.tmp 10)], none, none⟩,
  ⟨(some 9), oMv (rT 11), none, none⟩,
  ⟨(some 12), oExtract (rT 9) 0, none, none⟩,
  ⟨(some 13), oExtract (rT 9) 1, none, none⟩,
  ⟨(some 7), oMv (rT 12), none, none⟩,
  ⟨(some 8), oMv (rT 13), none, none⟩])
 (.seq (.block 0 (.seq (.region [⟨(some 15), oMv (rT 8), none, none⟩,
  ⟨(some 16), oBinBy (cmpBy .neq cNeq) (.tmp 15) (.const (.int .i64 0)), none, none⟩,
  ⟨(some 14), oMv (rT 16), none, none⟩])
 (.cond (.tmp 14) (.seq (.region [⟨(some 17), oMv (rT 8), none, none⟩,
  ⟨(some 4), oMv (rC (.pointer none)), none, none⟩,
  ⟨(some 5), oMv (rC (.slice none 0 0)), none, none⟩,
  ⟨(some 6), oMv (rT 17), none, none⟩])
 .ret)
 (.seq (.region [⟨(some 19), oMv (rT 1), none, none⟩,
  ⟨(some 20), oBinBy (cmpBy .eql cEql) (.tmp 19) (.const (.int .u32 0)), none, none⟩,
  ⟨(some 18), oMv (rT 20), none, none⟩])
 (.cond (.tmp 18) (.seq (.region [⟨(some 4), oMv (rC (.pointer none)), none, none⟩,
  ⟨(some 5), oMv (rC (.slice none 0 0)), none, none⟩,
  ⟨(some 6), oMv (rC (.int .i64 2)), none, none⟩])
 .ret)
 .skip)))))
 (.seq (.region [⟨(some 21), oMv (rT 7), none, none⟩,
  ⟨(some 22), oMv (rT 7), none, none⟩,
  ⟨(some 23), oMv (rT 1), none, none⟩,
  ⟨(some 24), oCall 107 [(.tmp 22), (.tmp 23)], none, none⟩,
  ⟨(some 4), oMv (rT 21), none, none⟩,
  ⟨(some 5), oMv (rT 24), none, none⟩,
  ⟨(some 6), oMv (rC (.int .i64 0)), none, none⟩])
 .ret))))⟩
def c80 : FFunc := ⟨[.tmp 4], (.seq (.region [⟨(some 4), oMv (rC (.bool false)), none, none⟩])
 (.seq (.region [⟨(some 5), oMv (rT 0), none, none⟩,
  ⟨(some 6), oMv (rT 1), none, none⟩,
  ⟨(some 7), oCall 108 [(.tmp 5), (.tmp 6)], none, none⟩,
  ⟨(some 8), oBinBy (cmpBy .geq cGeq) (.tmp 7) (.const (.int .i64 0)), none, none⟩,
  ⟨(some 4), oMv (rT 8), none, none⟩])
 .ret))⟩
def c81 : FFunc := ⟨[.tmp 2], (.seq (.region [⟨(some 1), oBox (.tmp 0), none, none⟩,
  ⟨(some 2), oMv (rC (.bool false)), none, none⟩])
 (.seq (.region [⟨(some 3), oFieldAddr 4 (rT 1), none, none⟩,
  ⟨(some 4), oLoad1 (rT 3), none, none⟩,
  ⟨(some 5), oUn .not (.tmp 4), none, none⟩,
  ⟨(some 2), oMv (rT 5), none, none⟩])
 .ret))⟩
def c82 : FFunc := ⟨[.tmp 2], (.seq (.region [⟨(some 1), oBox (.tmp 0), none, none⟩,
  ⟨(some 2), oMv (rC (.int .i64 0)), none, none⟩])
 (.seq (.region [⟨(some 16), oLoad1 (rT 1), none, none⟩,
  ⟨(some 17), oNilCheck (rT 16), none, none⟩,
  ⟨(some 18), oFieldAddr 0 (rT 17), none, none⟩,
  ⟨(some 19), oLoad1 (rT 18), none, none⟩,
  ⟨(some 20), oCall 109 [(.tmp 19)], none, none⟩,
  ⟨(some 21), oCall 25 [(.tmp 20)], none, none⟩,
  ⟨(some 22), oField false 2 1 (.tmp 21), none, none⟩,
  ⟨(some 3), oAlloc [(.int .i64 0)], none, (some [(.int .i64 0)])⟩,
  ⟨none, oStore 1 (rT 3) (rT 22), none, none⟩])
 (.seq (.draw [⟨(some 24), oLoad1 (rT 3), none, none⟩,
  ⟨(some 25), oLoad1 (rT 1), none, none⟩,
  ⟨(some 26), oNilCheck (rT 25), none, none⟩,
  ⟨(some 27), oFieldAddr 2 (rT 26), none, none⟩,
  ⟨(some 28), oLoad1 (rT 27), none, none⟩,
  ⟨(some 29), oCall 110 [(.tmp 24), (.tmp 28)], none, none⟩,
  ⟨(some 23), oMv (rT 29), none, none⟩,
  ⟨(some 30), oExtract (rT 23) 0, none, none⟩,
  ⟨(some 31), oExtract (rT 23) 1, none, none⟩,
  ⟨(some 4), oMv (rT 30), none, none⟩,
  ⟨(some 5), oMv (rT 31), none, none⟩] 0 [])
 (.seq (.seq (.region [⟨(some 32), oMv (rT 5), none, none⟩,
  ⟨(some 33), oBinBy (cmpBy .neq cNeq) (.tmp 32) (.const (.int .i64 0)), none, none⟩])
 (.cond (.tmp 33) (.seq (.region [⟨(some 34), oMv (rT 5), none, none⟩,
  ⟨(some 2), oMv (rT 34), none, none⟩])
 .ret)
 .skip))
 (.seq (.region [⟨(some 6), oAlloc [(.int .u64 0)], none, (some [(.int .u64 0)])⟩,
  ⟨none, oStore 1 (rT 6) (rC (.int .u64 0)), none, none⟩])
 (.seq (.region [⟨(some 35), oMkFunc (.func 111) [] [(.tmp 1), (.tmp 6)], none, none⟩,
  ⟨(some 36), oBuildSlice false 1 1 [.nilFunc] [(0, (.tmp 35))], none, none⟩,
  ⟨(some 7), oMv (rT 36), none, none⟩])
 (.seq (.seq (.region [⟨(some 37), oMv (rT 4), none, none⟩,
  ⟨(some 38), oLenS 46 (rT 37), none, none⟩,
  ⟨(some 39), oMv (rC (.int .i64 0)), none, none⟩])
 (.block 0 (.loop (.seq (.region [⟨(some 40), oBinBy (cmpBy .lss cLss) (.tmp 39) (.tmp 38), none, none⟩])
 (.seq (.cond (.tmp 40) .skip
 (.exit 0))
 (.seq (.block 1 (.seq (.region [⟨(some 41), oIndexAddr 1 (rT 37) (rT 39), none, none⟩,
  ⟨(some 42), oLoad1 (rT 41), none, none⟩,
  ⟨(some 9), oAlloc [(.slice none 0 0)], none, (some [(.slice none 0 0)])⟩,
  ⟨none, oStore 1 (rT 9) (rT 42), none, none⟩])
 (.region [⟨(some 43), oMv (rT 7), none, none⟩,
  ⟨(some 44), oMkFunc (.func 114) [] [(.tmp 1), (.tmp 9)], none, none⟩,
  ⟨(some 45), oBuildSlice false 1 1 [.nilFunc] [(0, (.tmp 44))], none, none⟩,
  ⟨(some 46), oAppend 1 8 (.tmp 43) (.tmp 45), none, none⟩,
  ⟨(some 7), oMv (rT 46), none, none⟩])))
 (.region [⟨(some 47), oBinBy (arithBy .add nAdd) (.tmp 39) (.const (.int .i64 1)), none, none⟩,
  ⟨(some 39), oMv (rT 47), none, none⟩])))))))
 (.seq (.region [⟨(some 48), oMv (rT 7), none, none⟩,
  ⟨(some 49), oMkFunc (.func 116) [] [(.tmp 3), (.tmp 6), (.tmp 1)], none, none⟩,
  ⟨(some 50), oBuildSlice false 1 1 [.nilFunc] [(0, (.tmp 49))], none, none⟩,
  ⟨(some 51), oAppend 1 8 (.tmp 48) (.tmp 50), none, none⟩,
  ⟨(some 7), oMv (rT 51), none, none⟩])
 (.seq (.seq (.region [⟨(some 52), oMv (rT 7), none, none⟩,
  ⟨(some 53), oLenS 117 (rT 52), none, none⟩,
  ⟨(some 54), oMv (rC (.int .i64 0)), none, none⟩])
 (.block 2 (.loop (.seq (.region [⟨(some 55), oBinBy (cmpBy .lss cLss) (.tmp 54) (.tmp 53), none, none⟩])
 (.seq (.cond (.tmp 55) .skip
 (.exit 2))
 (.seq (.block 3 (.seq (.region [⟨(some 56), oIndexAddr 1 (rT 52) (rT 54), none, none⟩,
  ⟨(some 57), oLoad1 (rT 56), none, none⟩,
  ⟨(some 11), oMv (rT 57), none, none⟩])
 (.seq (.region [⟨(some 58), oMv (rT 11), none, none⟩,
  ⟨(some 59), oCallV (.tmp 58) [], none, none⟩,
  ⟨(some 12), oMv (rT 59), none, none⟩])
 (.seq (.region [⟨(some 60), oMv (rT 12), none, none⟩,
  ⟨(some 61), oBinBy (cmpBy .neq cNeq) (.tmp 60) (.const (.int .i64 0)), none, none⟩])
 (.cond (.tmp 61) (.seq (.region [⟨(some 62), oMv (rT 12), none, none⟩,
  ⟨(some 2), oMv (rT 62), none, none⟩])
 .ret)
 .skip)))))
 (.region [⟨(some 63), oBinBy (arithBy .add nAdd) (.tmp 54) (.const (.int .i64 1)), none, none⟩,
  ⟨(some 54), oMv (rT 63), none, none⟩])))))))
 (.seq (.seq (.draw [⟨(some 64), oLoad1 (rT 1), none, none⟩,
  ⟨(some 65), oNilCheck (rT 64), none, none⟩,
  ⟨(some 66), oFieldAddr 0 (rT 65), none, none⟩,
  ⟨(some 67), oLoad1 (rT 66), none, none⟩,
  ⟨(some 68), oLoad1 (rT 1), none, none⟩,
  ⟨(some 69), oNilCheck (rT 68), none, none⟩,
  ⟨(some 70), oFieldAddr 1 (rT 69), none, none⟩,
  ⟨(some 71), oLoad1 (rT 70), none, none⟩,
  ⟨(some 72), oCall 107 [(.tmp 67), (.tmp 71)], none, none⟩,
  ⟨(some 73), oLenS 88 (rT 72), none, none⟩,
  ⟨(some 74), oMv (rC (.int .i64 0)), none, none⟩] 0 [])
 (.block 4 (.loop (.seq (.region [⟨(some 75), oBinBy (cmpBy .lss cLss) (.tmp 74) (.tmp 73), none, none⟩])
 (.seq (.cond (.tmp 75) .skip
 (.exit 4))
 (.seq (.block 5 (.seq (.region [⟨(some 76), oIndexAddr 5 (rT 72) (rT 74), none, none⟩,
  ⟨(some 77), oLoadN 5 (rT 76), none, none⟩,
  ⟨(some 14), oAlloc [(.int .i64 0), (.int .u8 0), (.int .u32 0), (.int .u64 0), (.bool false)], none, (some [(.int .i64 0), (.int .u8 0), (.int .u32 0), (.int .u64 0), (.bool false)])⟩,
  ⟨none, oStore 5 (rT 14) (rT 77), none, none⟩])
 (.seq (.seq (.region [⟨(some 78), oFieldAddr 1 (rT 14), none, none⟩,
  ⟨(some 79), oFieldAddr 2 (rT 78), none, none⟩,
  ⟨(some 80), oLoad1 (rT 79), none, none⟩,
  ⟨(some 81), oLoad1 (rT 6), none, none⟩,
  ⟨(some 82), oBinBy (cmpBy .geq cGeq) (.tmp 80) (.tmp 81), none, none⟩,
  ⟨(some 83), oMv (rT 82), none, none⟩,
  ⟨(some 84), oFieldAddr 4 (rT 14), (some (83, false)), none⟩,
  ⟨(some 85), oLoad1 (rT 84), (some (83, false)), none⟩,
  ⟨(some 86), oPick (rT 83) (rC (.bool true)) (rT 85), none, none⟩])
 (.cond (.tmp 86) (.exit 5)
 .skip))
 (.seq (.draw [⟨(some 87), oLoad1 (rT 1), none, none⟩,
  ⟨(some 88), oNilCheck (rT 87), none, none⟩,
  ⟨(some 89), oFieldAddr 0 (rT 88), none, none⟩,
  ⟨(some 90), oLoad1 (rT 89), none, none⟩,
  ⟨(some 91), oFieldAddr 0 (rT 14), none, none⟩,
  ⟨(some 92), oLoad1 (rT 91), none, none⟩,
  ⟨(some 93), oCall 118 [(.tmp 90), (.tmp 92)], none, none⟩,
  ⟨(some 15), oMv (rT 93), none, none⟩] 0 [])
 (.seq (.region [⟨(some 94), oMv (rT 15), none, none⟩,
  ⟨(some 95), oBinBy (cmpBy .neq cNeq) (.tmp 94) (.const (.int .i64 0)), none, none⟩])
 (.cond (.tmp 95) (.seq (.region [⟨(some 96), oMv (rT 15), none, none⟩,
  ⟨(some 2), oMv (rT 96), none, none⟩])
 .ret)
 .skip))))))
 (.region [⟨(some 97), oBinBy (arithBy .add nAdd) (.tmp 74) (.const (.int .i64 1)), none, none⟩,
  ⟨(some 74), oMv (rT 97), none, none⟩])))))))
 (.seq (.region [⟨(some 2), oMv (rC (.int .i64 0)), none, none⟩])
 .ret)))))))))))⟩
def c83 : FFunc := ⟨[.tmp 2, .tmp 3], (.seq (.region [⟨(some 2), oMv (rC (.slice none 0 0)), none, none⟩,
  ⟨(some 3), oMv (rC (.slice none 0 0)), none, none⟩])
 (.seq (.seq (.region [⟨(some 6), oMv (rT 0), none, none⟩,
  ⟨(some 7), oNilCheck (rT 6), none, none⟩,
  ⟨(some 8), oFieldAddr 0 (rT 7), none, none⟩,
  ⟨(some 9), oLoad1 (rT 8), none, none⟩,
  ⟨(some 10), oCall 28 [(.tmp 9)], none, none⟩,
  ⟨(some 11), oLenS 88 (rT 10), none, none⟩,
  ⟨(some 12), oMv (rC (.int .i64 0)), none, none⟩])
 (.block 0 (.loop (.seq (.region [⟨(some 13), oBinBy (cmpBy .lss cLss) (.tmp 12) (.tmp 11), none, none⟩])
 (.seq (.cond (.tmp 13) .skip
 (.exit 0))
 (.seq (.block 1 (.seq (.region [⟨(some 14), oIndexAddr 5 (rT 10) (rT 12), none, none⟩,
  ⟨(some 15), oLoadN 5 (rT 14), none, none⟩,
  ⟨(some 5), oAlloc [(.int .i64 0), (.int .u8 0), (.int .u32 0), (.int .u64 0), (.bool false)], none, (some [(.int .i64 0), (.int .u8 0), (.int .u32 0), (.int .u64 0), (.bool false)])⟩,
  ⟨none, oStore 5 (rT 5) (rT 15), none, none⟩])
 (.seq (.draw [⟨(some 16), oFieldAddr 1 (rT 5), none, none⟩,
  ⟨(some 17), oFieldAddr 0 (rT 16), none, none⟩,
  ⟨(some 18), oLoad1 (rT 17), none, none⟩,
  ⟨(some 19), oBinBy (cmpBy .eql cEql) (.tmp 18) (.const (.int .u8 2)), none, none⟩,
  ⟨(some 20), oMv (rT 19), none, none⟩,
  ⟨(some 21), oFieldAddr 1 (rT 5), (some (20, true)), none⟩,
  ⟨(some 22), oFieldAddr 1 (rT 21), (some (20, true)), none⟩,
  ⟨(some 23), oLoad1 (rT 22), (some (20, true)), none⟩,
  ⟨(some 24), oMv (rT 0), (some (20, true)), none⟩,
  ⟨(some 25), oNilCheck (rT 24), (some (20, true)), none⟩,
  ⟨(some 26), oFieldAddr 1 (rT 25), (some (20, true)), none⟩,
  ⟨(some 27), oLoad1 (rT 26), (some (20, true)), none⟩,
  ⟨(some 28), oBinBy (cmpBy .eql cEql) (.tmp 23) (.tmp 27), (some (20, true)), none⟩,
  ⟨(some 29), oPick (rT 20) (rT 28) (rC (.bool false)), none, none⟩] 0 [])
 (.cond (.tmp 29) (.seq (.region [⟨(some 30), oMv (rT 2), none, none⟩,
  ⟨(some 31), oFieldAddr 0 (rT 5), none, none⟩,
  ⟨(some 32), oLoad1 (rT 31), none, none⟩,
  ⟨(some 33), oBuildSlice false 1 1 [(.int .i64 0)] [(0, (.tmp 32))], none, none⟩,
  ⟨(some 34), oAppend 1 8 (.tmp 30) (.tmp 33), none, none⟩,
  ⟨(some 2), oMv (rT 34), none, none⟩])
 (.seq (.region [⟨(some 35), oFieldAddr 4 (rT 5), none, none⟩,
  ⟨(some 36), oLoad1 (rT 35), none, none⟩,
  ⟨(some 37), oUn .not (.tmp 36), none, none⟩])
 (.cond (.tmp 37) (.region [⟨(some 38), oMv (rT 3), none, none⟩,
  ⟨(some 39), oFieldAddr 0 (rT 5), none, none⟩,
  ⟨(some 40), oLoad1 (rT 39), none, none⟩,
  ⟨(some 41), oBuildSlice false 1 1 [(.int .i64 0)] [(0, (.tmp 40))], none, none⟩,
  ⟨(some 42), oAppend 1 8 (.tmp 38) (.tmp 41), none, none⟩,
  ⟨(some 3), oMv (rT 42), none, none⟩])
 .skip)))
 .skip))))
 (.region [⟨(some 43), oBinBy (arithBy .add nAdd) (.tmp 12) (.const (.int .i64 1)), none, none⟩,
  ⟨(some 12), oMv (rT 43), none, none⟩])))))))
 (.seq (.region [⟨(some 44), oMv (rT 2), none, none⟩,
  ⟨(some 45), oMv (rT 3), none, none⟩,
  ⟨(some 2), oMv (rT 44), none, none⟩,
  ⟨(some 3), oMv (rT 45), none, none⟩])
 .ret)))⟩
def c84 : FFunc := ⟨[.tmp 4], (.seq (.region [⟨(some 4), oMv (rC (.int .u64 0)), none, none⟩])
 (.seq (.region [⟨(some 5), oMv (rC (.int .u64 0)), none, none⟩])
 (.seq (.seq (.region [⟨(some 16), oMv (rT 1), none, none⟩,
  ⟨(some 17), oLenS 3 (rT 16), none, none⟩,
  ⟨(some 18), oMv (rC (.int .i64 0)), none, none⟩])
 (.block 0 (.loop (.seq (.region [⟨(some 19), oBinBy (cmpBy .lss cLss) (.tmp 18) (.tmp 17), none, none⟩])
 (.seq (.cond (.tmp 19) .skip
 (.exit 0))
 (.seq (.block 1 (.seq (.region [⟨(some 20), oIndexAddr 1 (rT 16) (rT 18), none, none⟩,
  ⟨(some 21), oLoad1 (rT 20), none, none⟩,
  ⟨(some 7), oMv (rT 21), none, none⟩])
 (.seq (.region [⟨(some 8), oMv (rC (.int .i64 1)), none, none⟩])
 (.block 2 (.loop (.seq (.seq (.region [⟨(some 22), oMv (rT 8), none, none⟩,
  ⟨(some 23), oMv (rT 0), none, none⟩,
  ⟨(some 24), oCall 25 [(.tmp 23)], none, none⟩,
  ⟨(some 25), oField false 1 1 (.tmp 24), none, none⟩,
  ⟨(some 26), oBinBy (cmpBy .lss cLss) (.tmp 22) (.tmp 25), none, none⟩])
 (.cond (.tmp 26) .skip
 (.exit 2)))
 (.seq (.block 3 (.seq (.region [⟨(some 30), oMv (rT 0), none, none⟩,
  ⟨(some 31), oMv (rT 7), none, none⟩,
  ⟨(some 32), oMv (rT 8), none, none⟩,
  ⟨(some 33), oCall 26 [(.tmp 30), (.tmp 31), (.tmp 32)], none, none⟩,
  ⟨(some 29), oMv (rT 33), none, none⟩,
  ⟨(some 34), oExtract (rT 29) 0, none, none⟩,
  ⟨(some 35), oExtract (rT 29) 1, none, none⟩,
  ⟨(some 9), oMv (rT 34), none, none⟩,
  ⟨(some 10), oMv (rT 35), none, none⟩])
 (.seq (.region [⟨(some 37), oMv (rT 9), none, none⟩,
  ⟨(some 38), oCall 45 [(.tmp 37)], none, none⟩,
  ⟨(some 36), oMv (rT 38), none, none⟩,
  ⟨(some 39), oExtract (rT 36) 0, none, none⟩,
  ⟨(some 40), oExtract (rT 36) 1, none, none⟩,
  ⟨(some 41), oExtract (rT 36) 2, none, none⟩,
  ⟨(some 11), oMv (rT 39), none, none⟩,
  ⟨(some 12), oMv (rT 40), none, none⟩,
  ⟨(some 13), oMv (rT 41), none, none⟩])
 (.seq (.seq (.region [⟨(some 42), oMv (rT 13), none, none⟩,
  ⟨(some 43), oBinBy (cmpBy .neq cNeq) (.tmp 42) (.const (.int .i64 0)), none, none⟩,
  ⟨(some 44), oMv (rT 43), none, none⟩,
  ⟨(some 45), oMv (rT 11), (some (44, false)), none⟩,
  ⟨(some 46), oBinBy (cmpBy .neq cNeq) (.tmp 45) (.const (.int .u8 6)), (some (44, false)), none⟩,
  ⟨(some 47), oPick (rT 44) (rC (.bool true)) (rT 46), none, none⟩])
 (.cond (.tmp 47) (.exit 3)
 .skip))
 (.seq (.region [⟨(some 49), oMv (rT 12), none, none⟩,
  ⟨(some 50), oCall 119 [(.tmp 49)], none, none⟩,
  ⟨(some 48), oMv (rT 50), none, none⟩,
  ⟨(some 51), oExtract (rT 48) 0, none, none⟩,
  ⟨(some 52), oExtract (rT 48) 1, none, none⟩,
  ⟨(some 14), oAlloc [(.int .u64 0), (.int .i64 0), (.int .i64 0), (.int .i64 0)], none, (some [(.int .u64 0), (.int .i64 0), (.int .i64 0), (.int .i64 0)])⟩,
  ⟨none, oStore 4 (rT 14) (rT 51), none, none⟩,
  ⟨(some 15), oMv (rT 52), none, none⟩])
 (.seq (.region [⟨(some 53), oMv (rT 15), none, none⟩,
  ⟨(some 54), oBinBy (cmpBy .eql cEql) (.tmp 53) (.const (.int .i64 0)), none, none⟩])
 (.cond (.tmp 54) (.region [⟨(some 55), oMv (rT 5), none, none⟩,
  ⟨(some 56), oFieldAddr 0 (rT 14), none, none⟩,
  ⟨(some 57), oLoad1 (rT 56), none, none⟩,
  ⟨(some 58), oMax [(.tmp 55), (.tmp 57)], none, none⟩,
  ⟨(some 5), oMv (rT 58), none, none⟩])
 .skip)))))))
 (.region [⟨(some 27), oMv (rT 8), none, none⟩,
  ⟨(some 28), oBinBy (arithBy .add nAdd) (.tmp 27) (.const (.int .i64 1)), none, none⟩,
  ⟨(some 8), oMv (rT 28), none, none⟩]))))))))
 (.region [⟨(some 59), oBinBy (arithBy .add nAdd) (.tmp 18) (.const (.int .i64 1)), none, none⟩,
  ⟨(some 18), oMv (rT 59), none, none⟩])))))))
 (.seq (.region [⟨(some 60), oMv (rT 5), none, none⟩,
  ⟨(some 4), oMv (rT 60), none, none⟩])
 .ret))))⟩
def c85 : FFunc := ⟨[.tmp 6], (.seq (.region [⟨(some 4), oBox (.tmp 1), none, none⟩,
  ⟨(some 6), oMv (rC (.int .i64 0)), none, none⟩])
 (.seq (.region [⟨(some 10), oMv (rT 0), none, none⟩,
  ⟨(some 11), oNilCheck (rT 10), none, none⟩,
  ⟨(some 12), oFieldAddr 7 (rT 11), none, none⟩,
  ⟨(some 13), oLoad1 (rT 12), none, none⟩,
  ⟨(some 14), oBinBy (arithBy .add nAdd) (.tmp 13) (.const (.int .u64 1)), none, none⟩,
  ⟨(some 15), oNilCheck (rT 10), none, none⟩,
  ⟨(some 16), oFieldAddr 7 (rT 15), none, none⟩,
  ⟨none, oStore 1 (rT 16) (rT 14), none, none⟩])
 (.seq (.draw [⟨(some 18), oMv (rT 0), none, none⟩,
  ⟨(some 19), oNilCheck (rT 18), none, none⟩,
  ⟨(some 20), oFieldAddr 0 (rT 19), none, none⟩,
  ⟨(some 21), oLoad1 (rT 20), none, none⟩,
  ⟨(some 22), oCall 109 [(.tmp 21)], none, none⟩,
  ⟨(some 23), oCall 25 [(.tmp 22)], none, none⟩,
  ⟨(some 24), oField false 2 1 (.tmp 23), none, none⟩,
  ⟨(some 25), oMv (rT 0), none, none⟩,
  ⟨(some 26), oNilCheck (rT 25), none, none⟩,
  ⟨(some 27), oFieldAddr 7 (rT 26), none, none⟩,
  ⟨(some 28), oLoad1 (rT 27), none, none⟩,
  ⟨(some 29), oFieldAddr 0 (rT 4), none, none⟩,
  ⟨(some 30), oLoad1 (rT 29), none, none⟩,
  ⟨(some 31), oFieldAddr 1 (rT 4), none, none⟩,
  ⟨(some 32), oLoad1 (rT 31), none, none⟩,
  ⟨(some 33), oMv (rT 2), none, none⟩,
  ⟨(some 34), oBuild #[(.int .u64 0), (.int .i64 0), (.int .i64 0), (.int .i64 0)] [(0, 1), (1, 1), (2, 1), (3, 1)] [(0, (.tmp 28)), (1, (.tmp 30)), (2, (.tmp 32)), (3, (.tmp 33))], none, none⟩,
  ⟨(some 35), oCall 120 [(.tmp 24), (.tmp 34)], none, none⟩,
  ⟨(some 17), oMv (rT 35), none, none⟩,
  ⟨(some 36), oExtract (rT 17) 0, none, none⟩,
  ⟨(some 37), oExtract (rT 17) 1, none, none⟩,
  ⟨(some 7), oMv (rT 36), none, none⟩,
  ⟨(some 8), oMv (rT 37), none, none⟩] 0 [(10, 4), (10, 5), (12, 4), (12, 5), (14, 4), (14, 5)])
 (.seq (.seq (.region [⟨(some 38), oMv (rT 8), none, none⟩,
  ⟨(some 39), oBinBy (cmpBy .neq cNeq) (.tmp 38) (.const (.int .i64 0)), none, none⟩])
 (.cond (.tmp 39) (.seq (.region [⟨(some 40), oMv (rT 8), none, none⟩,
  ⟨(some 6), oMv (rT 40), none, none⟩])
 .ret)
 .skip))
 (.seq (.region [⟨(some 42), oMv (rT 0), none, none⟩,
  ⟨(some 43), oMv (rT 7), none, none⟩,
  ⟨(some 44), oCall 121 [(.tmp 42), (.tmp 43)], none, none⟩,
  ⟨(some 41), oMv (rT 44), none, none⟩,
  ⟨(some 45), oExtract (rT 41) 0, none, none⟩,
  ⟨(some 46), oExtract (rT 41) 1, none, none⟩,
  ⟨(some 9), oAlloc [(.int .i64 0), (.int .i64 0)], none, (some [(.int .i64 0), (.int .i64 0)])⟩,
  ⟨none, oStore 2 (rT 9) (rT 45), none, none⟩,
  ⟨(some 8), oMv (rT 46), none, none⟩])
 (.seq (.seq (.region [⟨(some 47), oMv (rT 8), none, none⟩,
  ⟨(some 48), oBinBy (cmpBy .eql cEql) (.tmp 47) (.const (.int .i64 0)), none, none⟩])
 (.cond (.tmp 48) (.region [⟨(some 49), oMv (rT 0), none, none⟩,
  ⟨(some 50), oLoadN 2 (rT 9), none, none⟩,
  ⟨(some 51), oNilCheck (rT 49), none, none⟩,
  ⟨(some 52), oFieldAddr 5 (rT 51), none, none⟩,
  ⟨none, oStore 2 (rT 52) (rT 50), none, none⟩])
 .skip))
 (.seq (.region [⟨(some 53), oMv (rT 8), none, none⟩,
  ⟨(some 6), oMv (rT 53), none, none⟩])
 .ret)))))))⟩
def c86 : FFunc := ⟨[.tmp 2], (.seq (.region [⟨(some 2), oMv (rC (.bool false)), none, none⟩])
 (.seq (.region [⟨(some 3), oMv (rT 0), none, none⟩,
  ⟨(some 4), oEqNil false true (.pointer 191) (.tmp 3) (.const (.pointer none)), none, none⟩,
  ⟨(some 5), oMv (rT 4), none, none⟩,
  ⟨(some 6), oMv (rT 0), (some (5, false)), none⟩,
  ⟨(some 7), oNilCheck (rT 6), (some (5, false)), none⟩,
  ⟨(some 8), oFieldAddr 0 (rT 7), (some (5, false)), none⟩,
  ⟨(some 9), oLoad1 (rT 8), (some (5, false)), none⟩,
  ⟨(some 10), oUn .not (.tmp 9), (some (5, false)), none⟩,
  ⟨(some 11), oPick (rT 5) (rC (.bool true)) (rT 10), none, none⟩,
  ⟨(some 2), oMv (rT 11), none, none⟩])
 .ret))⟩
def c87 : FFunc := ⟨[.tmp 2], (.seq (.region [⟨(some 2), oMv (rC (.bool false)), none, none⟩])
 (.seq (.region [⟨(some 3), oMv (rT 0), none, none⟩,
  ⟨(some 4), oBinBy (cmpBy .eql cEql) (.tmp 3) (.const (.int .i64 1)), none, none⟩,
  ⟨(some 5), oMv (rT 4), none, none⟩,
  ⟨(some 6), oMv (rT 0), (some (5, false)), none⟩,
  ⟨(some 7), oBinBy (cmpBy .eql cEql) (.tmp 6) (.const (.int .i64 2)), (some (5, false)), none⟩,
  ⟨(some 8), oPick (rT 5) (rC (.bool true)) (rT 7), none, none⟩,
  ⟨(some 9), oMv (rT 8), none, none⟩,
  ⟨(some 10), oMv (rT 0), (some (9, false)), none⟩,
  ⟨(some 11), oBinBy (cmpBy .eql cEql) (.tmp 10) (.const (.int .i64 4)), (some (9, false)), none⟩,
  ⟨(some 12), oPick (rT 9) (rC (.bool true)) (rT 11), none, none⟩,
  ⟨(some 13), oMv (rT 12), none, none⟩,
  ⟨(some 14), oMv (rT 0), (some (13, false)), none⟩,
  ⟨(some 15), oBinBy (cmpBy .eql cEql) (.tmp 14) (.const (.int .i64 8)), (some (13, false)), none⟩,
  ⟨(some 16), oPick (rT 13) (rC (.bool true)) (rT 15), none, none⟩,
  ⟨(some 2), oMv (rT 16), none, none⟩])
 .ret))⟩
def c88 : FFunc := ⟨[.tmp 4, .tmp 5], (.seq (.region [⟨(some 4), oMv (rC (.slice none 0 0)), none, none⟩,
  ⟨(some 5), oMv (rC (.int .i64 0)), none, none⟩])
 (.seq (.seq (.region [⟨(some 7), oMv (rT 0), none, none⟩,
  ⟨(some 8), oNilCheck (rT 7), none, none⟩,
  ⟨(some 9), oFieldAddr 2 (rT 8), none, none⟩,
  ⟨(some 10), oLoad1 (rT 9), none, none⟩,
  ⟨(some 11), oMv (rT 10), none, none⟩,
  ⟨(some 12), oMv (rT 0), (some (11, false)), none⟩,
  ⟨(some 13), oNilCheck (rT 12), (some (11, false)), none⟩,
  ⟨(some 14), oFieldAddr 1 (rT 13), (some (11, false)), none⟩,
  ⟨(some 15), oLoad1 (rT 14), (some (11, false)), none⟩,
  ⟨(some 16), oLenS 5 (rT 15), (some (11, false)), none⟩,
  ⟨(some 17), oMv (rT 1), (some (11, false)), none⟩,
  ⟨(some 18), oBinBy (cmpBy .lss cLss) (.tmp 16) (.tmp 17), (some (11, false)), none⟩,
  ⟨(some 19), oPick (rT 11) (rC (.bool true)) (rT 18), none, none⟩])
 (.cond (.tmp 19) (.seq (.region [⟨(some 20), oMv (rT 0), none, none⟩,
  ⟨(some 21), oNilCheck (rT 20), none, none⟩,
  ⟨(some 22), oFieldAddr 2 (rT 21), none, none⟩,
  ⟨none, oStore 1 (rT 22) (rC (.bool true)), none, none⟩])
 (.seq (.region [⟨(some 4), oMv (rC (.slice none 0 0)), none, none⟩,
  ⟨(some 5), oMv (rC (.int .i64 4)), none, none⟩])
 .ret))
 .skip))
 (.seq (.region [⟨(some 23), oMv (rT 0), none, none⟩,
  ⟨(some 24), oNilCheck (rT 23), none, none⟩,
  ⟨(some 25), oFieldAddr 1 (rT 24), none, none⟩,
  ⟨(some 26), oLoad1 (rT 25), none, none⟩,
  ⟨(some 27), oMv (rT 1), none, none⟩,
  ⟨(some 28), oMv (rT 1), none, none⟩,
  ⟨(some 29), oSlice 1 (.tmp 26) none (some (.tmp 27)) (some (.tmp 28)), none, none⟩,
  ⟨(some 6), oMv (rT 29), none, none⟩])
 (.seq (.region [⟨(some 30), oMv (rT 0), none, none⟩,
  ⟨(some 31), oMv (rT 0), none, none⟩,
  ⟨(some 32), oNilCheck (rT 31), none, none⟩,
  ⟨(some 33), oFieldAddr 1 (rT 32), none, none⟩,
  ⟨(some 34), oLoad1 (rT 33), none, none⟩,
  ⟨(some 35), oMv (rT 1), none, none⟩,
  ⟨(some 36), oSlice 1 (.tmp 34) (some (.tmp 35)) none none, none, none⟩,
  ⟨(some 37), oNilCheck (rT 30), none, none⟩,
  ⟨(some 38), oFieldAddr 1 (rT 37), none, none⟩,
  ⟨none, oStore 1 (rT 38) (rT 36), none, none⟩])
 (.seq (.region [⟨(some 39), oMv (rT 6), none, none⟩,
  ⟨(some 4), oMv (rT 39), none, none⟩,
  ⟨(some 5), oMv (rC (.int .i64 0)), none, none⟩])
 .ret)))))⟩
def c89 : FFunc := ⟨[.tmp 4, .tmp 5], (.seq (.region [⟨(some 4), oMv (rC (.slice none 0 0)), none, none⟩,
  ⟨(some 5), oMv (rC (.int .i64 0)), none, none⟩])
 (.seq (.seq (.region [⟨(some 8), oMv (rT 1), none, none⟩,
  ⟨(some 9), oCall 87 [(.tmp 8)], none, none⟩,
  ⟨(some 10), oUn .not (.tmp 9), none, none⟩,
  ⟨(some 11), oMv (rT 10), none, none⟩,
  ⟨(some 12), oMv (rT 1), (some (11, false)), none⟩,
  ⟨(some 13), oBinBy (cmpBy .lss cLss) (.tmp 12) (.const (.int .i64 8)), (some (11, false)), none⟩,
  ⟨(some 14), oMv (rT 13), (some (11, false)), none⟩,
  ⟨(some 15), oMv (rT 0), (some (14, true)), none⟩,
  ⟨(some 16), oMv (rT 1), (some (14, true)), none⟩,
  ⟨(some 17), oBinBy (arithBy .mul nMul) (.const (.int .i64 8)) (.tmp 16), (some (14, true)), none⟩,
  ⟨(some 18), oToInt .u64 (.tmp 17), (some (14, true)), none⟩,
  ⟨(some 19), oBinBy (abin .shr) (.tmp 15) (.tmp 18), (some (14, true)), none⟩,
  ⟨(some 20), oBinBy (cmpBy .neq cNeq) (.tmp 19) (.const (.int .u64 0)), (some (14, true)), none⟩,
  ⟨(some 21), oPick (rT 14) (rT 20) (rC (.bool false)), (some (11, false)), none⟩,
  ⟨(some 22), oPick (rT 11) (rC (.bool true)) (rT 21), none, none⟩])
 (.cond (.tmp 22) (.seq (.region [⟨(some 4), oMv (rC (.slice none 0 0)), none, none⟩,
  ⟨(some 5), oMv (rC (.int .i64 2)), none, none⟩])
 .ret)
 .skip))
 (.seq (.region [⟨(some 23), oMv (rT 1), none, none⟩,
  ⟨(some 24), oMkSlice true 1 1 [(.int .u8 0)] (.tmp 23) (.tmp 23), none, none⟩,
  ⟨(some 6), oMv (rT 24), none, none⟩])
 (.seq (.seq (.region [⟨(some 25), oMv (rT 6), none, none⟩,
  ⟨(some 26), oLenS 5 (rT 25), none, none⟩,
  ⟨(some 27), oMv (rC (.int .i64 0)), none, none⟩])
 (.block 0 (.loop (.seq (.region [⟨(some 28), oBinBy (cmpBy .lss cLss) (.tmp 27) (.tmp 26), none, none⟩])
 (.seq (.cond (.tmp 28) .skip
 (.exit 0))
 (.seq (.block 1 (.seq (.region [⟨(some 29), oMv (rT 27), none, none⟩,
  ⟨(some 7), oMv (rT 29), none, none⟩])
 (.region [⟨(some 30), oMv (rT 6), none, none⟩,
  ⟨(some 31), oMv (rT 7), none, none⟩,
  ⟨(some 32), oMv (rT 0), none, none⟩,
  ⟨(some 33), oMv (rT 7), none, none⟩,
  ⟨(some 34), oBinBy (arithBy .mul nMul) (.const (.int .i64 8)) (.tmp 33), none, none⟩,
  ⟨(some 35), oToInt .u64 (.tmp 34), none, none⟩,
  ⟨(some 36), oBinBy (abin .shr) (.tmp 32) (.tmp 35), none, none⟩,
  ⟨(some 37), oToInt .u8 (.tmp 36), none, none⟩,
  ⟨(some 38), oIndexAddr 1 (rT 30) (rT 31), none, none⟩,
  ⟨none, oStore 1 (rT 38) (rT 37), none, none⟩])))
 (.region [⟨(some 39), oBinBy (arithBy .add nAdd) (.tmp 27) (.const (.int .i64 1)), none, none⟩,
  ⟨(some 27), oMv (rT 39), none, none⟩])))))))
 (.seq (.region [⟨(some 40), oMv (rT 6), none, none⟩,
  ⟨(some 4), oMv (rT 40), none, none⟩,
  ⟨(some 5), oMv (rC (.int .i64 0)), none, none⟩])
 .ret)))))⟩
def c90 : FFunc := ⟨[.tmp 6, .tmp 7], (.seq (.region [⟨(some 6), oMv (rC (.slice none 0 0)), none, none⟩,
  ⟨(some 7), oMv (rC (.int .i64 0)), none, none⟩])
 (.seq (.block 0 (.seq (.region [⟨(some 15), oMv (rT 0), none, none⟩,
  ⟨(some 16), oCall 61 [(.tmp 15)], none, none⟩,
  ⟨(some 17), oUn .not (.tmp 16), none, none⟩,
  ⟨(some 18), oMv (rT 17), none, none⟩,
  ⟨(some 19), oMv (rT 1), (some (18, false)), none⟩,
  ⟨(some 20), oBinBy (cmpBy .lss cLss) (.tmp 19) (.const (.int .u8 1)), (some (18, false)), none⟩,
  ⟨(some 21), oPick (rT 18) (rC (.bool true)) (rT 20), none, none⟩,
  ⟨(some 22), oMv (rT 21), none, none⟩,
  ⟨(some 23), oMv (rT 1), (some (22, false)), none⟩,
  ⟨(some 24), oBinBy (cmpBy .gtr cGtr) (.tmp 23) (.const (.int .u8 7)), (some (22, false)), none⟩,
  ⟨(some 25), oPick (rT 22) (rC (.bool true)) (rT 24), none, none⟩,
  ⟨(some 14), oMv (rT 25), none, none⟩])
 (.cond (.tmp 14) (.seq (.region [⟨(some 6), oMv (rC (.slice none 0 0)), none, none⟩,
  ⟨(some 7), oMv (rC (.int .i64 2)), none, none⟩])
 .ret)
 (.seq (.region [⟨(some 27), oMv (rT 2), none, none⟩,
  ⟨(some 28), oLenS 5 (rT 27), none, none⟩,
  ⟨(some 29), oMv (rT 0), none, none⟩,
  ⟨(some 30), oCall 63 [(.tmp 29)], none, none⟩,
  ⟨(some 31), oBinBy (cmpBy .gtr cGtr) (.tmp 28) (.tmp 30), none, none⟩,
  ⟨(some 26), oMv (rT 31), none, none⟩])
 (.cond (.tmp 26) (.seq (.region [⟨(some 6), oMv (rC (.slice none 0 0)), none, none⟩,
  ⟨(some 7), oMv (rC (.int .i64 3)), none, none⟩])
 .ret)
 .skip)))))
 (.seq (.region [⟨(some 32), oMv (rT 0), none, none⟩,
  ⟨(some 33), oMkSlice true 1 1 [(.int .u8 0)] (.tmp 32) (.tmp 32), none, none⟩,
  ⟨(some 8), oMv (rT 33), none, none⟩])
 (.seq (.seq (.region [⟨(some 34), oMv (rT 8), none, none⟩,
  ⟨(some 35), oLenS 5 (rT 34), none, none⟩,
  ⟨(some 36), oMv (rC (.int .i64 0)), none, none⟩])
 (.block 1 (.loop (.seq (.region [⟨(some 37), oBinBy (cmpBy .lss cLss) (.tmp 36) (.tmp 35), none, none⟩])
 (.seq (.cond (.tmp 37) .skip
 (.exit 1))
 (.seq (.block 2 (.seq (.region [⟨(some 38), oMv (rT 36), none, none⟩,
  ⟨(some 9), oMv (rT 38), none, none⟩])
 (.region [⟨(some 39), oMv (rT 8), none, none⟩,
  ⟨(some 40), oMv (rT 9), none, none⟩,
  ⟨(some 41), oIndexAddr 1 (rT 39) (rT 40), none, none⟩,
  ⟨none, oStore 1 (rT 41) (rC (.int .u8 255)), none, none⟩])))
 (.region [⟨(some 42), oBinBy (arithBy .add nAdd) (.tmp 36) (.const (.int .i64 1)), none, none⟩,
  ⟨(some 36), oMv (rT 42), none, none⟩])))))))
 (.seq (.region [⟨(some 44), oMv (rT 2), none, none⟩,
  ⟨(some 45), oLenS 5 (rT 44), none, none⟩,
  ⟨(some 46), oToInt .u64 (.tmp 45), none, none⟩,
  ⟨(some 47), oCall 89 [(.tmp 46), (.const (.int .i64 2))], none, none⟩,
  ⟨(some 43), oMv (rT 47), none, none⟩,
  ⟨(some 48), oExtract (rT 43) 0, none, none⟩,
  ⟨(some 49), oExtract (rT 43) 1, none, none⟩,
  ⟨(some 10), oMv (rT 48), none, none⟩,
  ⟨(some 11), oMv (rT 49), none, none⟩])
 (.seq (.region [⟨(some 50), oMv (rT 8), none, none⟩,
  ⟨(some 51), oMv (rT 1), none, none⟩,
  ⟨(some 52), oIndexAddr 1 (rT 50) (rC (.int .i64 2)), none, none⟩,
  ⟨none, oStore 1 (rT 52) (rT 51), none, none⟩])
 (.seq (.region [⟨(some 53), oMv (rT 8), none, none⟩,
  ⟨(some 54), oSlice 1 (.tmp 53) (some (.const (.int .i64 3))) none none, none, none⟩,
  ⟨(some 55), oMv (rT 10), none, none⟩,
  ⟨(some 56), oCopy 1 (.tmp 54) (.tmp 55), none, none⟩])
 (.seq (.region [⟨(some 57), oMv (rT 8), none, none⟩,
  ⟨(some 58), oSlice 1 (.tmp 57) (some (.const (.int .i64 5))) none none, none, none⟩,
  ⟨(some 59), oMv (rT 2), none, none⟩,
  ⟨(some 60), oCopy 1 (.tmp 58) (.tmp 59), none, none⟩])
 (.seq (.region [⟨(some 62), oMv (rT 8), none, none⟩,
  ⟨(some 63), oSlice 1 (.tmp 62) (some (.const (.int .i64 2))) none none, none, none⟩,
  ⟨(some 64), oCall 62 [(.tmp 63)], none, none⟩,
  ⟨(some 65), oToInt .u64 (.tmp 64), none, none⟩,
  ⟨(some 66), oCall 89 [(.tmp 65), (.const (.int .i64 2))], none, none⟩,
  ⟨(some 61), oMv (rT 66), none, none⟩,
  ⟨(some 67), oExtract (rT 61) 0, none, none⟩,
  ⟨(some 68), oExtract (rT 61) 1, none, none⟩,
  ⟨(some 12), oMv (rT 67), none, none⟩,
  ⟨(some 13), oMv (rT 68), none, none⟩])
 (.seq (.region [⟨(some 69), oMv (rT 8), none, none⟩,
  ⟨(some 70), oMv (rT 12), none, none⟩,
  ⟨(some 71), oCopy 1 (.tmp 69) (.tmp 70), none, none⟩])
 (.seq (.region [⟨(some 72), oMv (rT 8), none, none⟩,
  ⟨(some 6), oMv (rT 72), none, none⟩,
  ⟨(some 7), oMv (rC (.int .i64 0)), none, none⟩])
 .ret)))))))))))⟩
def c91 : FFunc := ⟨[.tmp 2], (.seq (.region [⟨(some 2), oMv (rC (.slice none 0 0)), none, none⟩])
 (.seq (.region [⟨(some 3), oMv (rC (.int .i64 0)), none, none⟩])
 (.seq (.seq (.region [⟨(some 9), oMv (rT 0), none, none⟩,
  ⟨(some 10), oLenS 46 (rT 9), none, none⟩,
  ⟨(some 11), oMv (rC (.int .i64 0)), none, none⟩])
 (.block 0 (.loop (.seq (.region [⟨(some 12), oBinBy (cmpBy .lss cLss) (.tmp 11) (.tmp 10), none, none⟩])
 (.seq (.cond (.tmp 12) .skip
 (.exit 0))
 (.seq (.block 1 (.seq (.region [⟨(some 13), oIndexAddr 1 (rT 9) (rT 11), none, none⟩,
  ⟨(some 14), oLoad1 (rT 13), none, none⟩,
  ⟨(some 5), oMv (rT 14), none, none⟩])
 (.seq (.region [⟨(some 15), oMv (rT 3), none, none⟩,
  ⟨(some 16), oMv (rT 5), none, none⟩,
  ⟨(some 17), oLenS 5 (rT 16), none, none⟩,
  ⟨(some 18), oBinBy (arithBy .add nAdd) (.tmp 15) (.tmp 17), none, none⟩,
  ⟨(some 3), oMv (rT 18), none, none⟩])
 (.seq (.region [⟨(some 19), oMv (rT 3), none, none⟩,
  ⟨(some 20), oBinBy (cmpBy .lss cLss) (.tmp 19) (.const (.int .i64 0)), none, none⟩])
 (.cond (.tmp 20) (.region [⟨(some 21), oMkIface 9 (.const (.string ⟨#[108, 101, 110, 32, 111, 117, 116, 32, 111, 102, 32, 114, 97, 110, 103, 101]⟩)), none, none⟩,
  ⟨none, oPanic (.tmp 21), none, none⟩])
 .skip)))))
 (.region [⟨(some 22), oBinBy (arithBy .add nAdd) (.tmp 11) (.const (.int .i64 1)), none, none⟩,
  ⟨(some 11), oMv (rT 22), none, none⟩])))))))
 (.seq (.region [⟨(some 23), oMv (rT 3), none, none⟩,
  ⟨(some 24), oCall 122 [(.const (.slice none 0 0)), (.tmp 23)], none, none⟩,
  ⟨(some 6), oMv (rT 24), none, none⟩])
 (.seq (.seq (.region [⟨(some 25), oMv (rT 0), none, none⟩,
  ⟨(some 26), oLenS 46 (rT 25), none, none⟩,
  ⟨(some 27), oMv (rC (.int .i64 0)), none, none⟩])
 (.block 2 (.loop (.seq (.region [⟨(some 28), oBinBy (cmpBy .lss cLss) (.tmp 27) (.tmp 26), none, none⟩])
 (.seq (.cond (.tmp 28) .skip
 (.exit 2))
 (.seq (.block 3 (.seq (.region [⟨(some 29), oIndexAddr 1 (rT 25) (rT 27), none, none⟩,
  ⟨(some 30), oLoad1 (rT 29), none, none⟩,
  ⟨(some 8), oMv (rT 30), none, none⟩])
 (.region [⟨(some 31), oMv (rT 6), none, none⟩,
  ⟨(some 32), oMv (rT 8), none, none⟩,
  ⟨(some 33), oAppend 1 1 (.tmp 31) (.tmp 32), none, none⟩,
  ⟨(some 6), oMv (rT 33), none, none⟩])))
 (.region [⟨(some 34), oBinBy (arithBy .add nAdd) (.tmp 27) (.const (.int .i64 1)), none, none⟩,
  ⟨(some 27), oMv (rT 34), none, none⟩])))))))
 (.seq (.region [⟨(some 35), oMv (rT 6), none, none⟩,
  ⟨(some 2), oMv (rT 35), none, none⟩])
 .ret))))))⟩
def c92 : FFunc := ⟨[], (.seq (.region [⟨(some 10), oMv (rT 1), none, none⟩,
  ⟨(some 11), oBinBy (arithBy .add nAdd) (.tmp 10) (.const (.int .i64 1)), none, none⟩,
  ⟨(some 8), oMv (rT 11), none, none⟩])
 (.block 0 (.loop (.seq (.seq (.region [⟨(some 12), oMv (rT 8), none, none⟩,
  ⟨(some 13), oMv (rT 2), none, none⟩,
  ⟨(some 14), oBinBy (cmpBy .lss cLss) (.tmp 12) (.tmp 13), none, none⟩])
 (.cond (.tmp 14) .skip
 (.exit 0)))
 (.seq (.block 1 (.seq (.region [⟨(some 17), oMv (rT 8), none, none⟩,
  ⟨(some 9), oMv (rT 17), none, none⟩])
 (.block 2 (.loop (.seq (.seq (.draw [⟨(some 18), oMv (rT 9), none, none⟩,
  ⟨(some 19), oMv (rT 1), none, none⟩,
  ⟨(some 20), oBinBy (cmpBy .gtr cGtr) (.tmp 18) (.tmp 19), none, none⟩,
  ⟨(some 21), oMv (rT 20), none, none⟩,
  ⟨(some 22), oMv (rT 3), (some (21, true)), none⟩,
  ⟨(some 23), oMv (rT 0), (some (21, true)), none⟩,
  ⟨(some 24), oMv (rT 9), (some (21, true)), none⟩,
  ⟨(some 25), oIndexAddr 5 (rT 23) (rT 24), (some (21, true)), none⟩,
  ⟨(some 26), oLoadN 5 (rT 25), (some (21, true)), none⟩,
  ⟨(some 27), oMv (rT 0), (some (21, true)), none⟩,
  ⟨(some 28), oMv (rT 9), (some (21, true)), none⟩,
  ⟨(some 29), oBinBy (arithBy .sub nSub) (.tmp 28) (.const (.int .i64 1)), (some (21, true)), none⟩,
  ⟨(some 30), oIndexAddr 5 (rT 27) (rT 29), (some (21, true)), none⟩,
  ⟨(some 31), oLoadN 5 (rT 30), (some (21, true)), none⟩,
  ⟨(some 32), oCallV (.tmp 22) [(.tmp 26), (.tmp 31)], (some (21, true)), none⟩,
  ⟨(some 33), oBinBy (cmpBy .lss cLss) (.tmp 32) (.const (.int .i64 0)), (some (21, true)), none⟩,
  ⟨(some 34), oPick (rT 21) (rT 33) (rC (.bool false)), none, none⟩] 0 [])
 (.cond (.tmp 34) .skip
 (.exit 2)))
 (.seq (.block 3 (.draw [⟨(some 37), oMv (rT 0), none, none⟩,
  ⟨(some 38), oMv (rT 9), none, none⟩,
  ⟨(some 39), oMv (rT 0), none, none⟩,
  ⟨(some 40), oMv (rT 9), none, none⟩,
  ⟨(some 41), oBinBy (arithBy .sub nSub) (.tmp 40) (.const (.int .i64 1)), none, none⟩,
  ⟨(some 42), oMv (rT 0), none, none⟩,
  ⟨(some 43), oMv (rT 9), none, none⟩,
  ⟨(some 44), oBinBy (arithBy .sub nSub) (.tmp 43) (.const (.int .i64 1)), none, none⟩,
  ⟨(some 45), oIndexAddr 5 (rT 42) (rT 44), none, none⟩,
  ⟨(some 46), oLoadN 5 (rT 45), none, none⟩,
  ⟨(some 47), oMv (rT 0), none, none⟩,
  ⟨(some 48), oMv (rT 9), none, none⟩,
  ⟨(some 49), oIndexAddr 5 (rT 47) (rT 48), none, none⟩,
  ⟨(some 50), oLoadN 5 (rT 49), none, none⟩,
  ⟨(some 51), oIndexAddr 5 (rT 37) (rT 38), none, none⟩,
  ⟨none, oStore 5 (rT 51) (rT 46), none, none⟩,
  ⟨(some 52), oIndexAddr 5 (rT 39) (rT 41), none, none⟩,
  ⟨none, oStore 5 (rT 52) (rT 50), none, none⟩] 0 []))
 (.region [⟨(some 35), oMv (rT 9), none, none⟩,
  ⟨(some 36), oBinBy (arithBy .sub nSub) (.tmp 35) (.const (.int .i64 1)), none, none⟩,
  ⟨(some 9), oMv (rT 36), none, none⟩])))))))
 (.region [⟨(some 15), oMv (rT 8), none, none⟩,
  ⟨(some 16), oBinBy (arithBy .add nAdd) (.tmp 15) (.const (.int .i64 1)), none, none⟩,
  ⟨(some 8), oMv (rT 16), none, none⟩]))))))⟩
def c93 : FFunc := ⟨[], (.seq (.seq (.region [⟨(some 25), oMv (rT 2), none, none⟩,
  ⟨(some 26), oMv (rT 1), none, none⟩,
  ⟨(some 27), oBinBy (arithBy .sub nSub) (.tmp 25) (.tmp 26), none, none⟩,
  ⟨(some 28), oBinBy (cmpBy .eql cEql) (.tmp 27) (.const (.int .i64 1)), none, none⟩])
 (.cond (.tmp 28) (.seq (.region [⟨(some 29), oMv (rT 2), none, none⟩,
  ⟨(some 10), oMv (rT 29), none, none⟩])
 (.seq (.region [⟨(some 30), oMv (rT 3), none, none⟩,
  ⟨(some 11), oMv (rT 30), none, none⟩])
 (.seq (.block 0 (.loop (.seq (.seq (.region [⟨(some 31), oMv (rT 10), none, none⟩,
  ⟨(some 32), oMv (rT 11), none, none⟩,
  ⟨(some 33), oBinBy (cmpBy .lss cLss) (.tmp 31) (.tmp 32), none, none⟩])
 (.cond (.tmp 33) .skip
 (.exit 0)))
 (.block 1 (.seq (.region [⟨(some 34), oMv (rT 10), none, none⟩,
  ⟨(some 35), oMv (rT 11), none, none⟩,
  ⟨(some 36), oBinBy (arithBy .add nAdd) (.tmp 34) (.tmp 35), none, none⟩,
  ⟨(some 37), oToInt .u64 (.tmp 36), none, none⟩,
  ⟨(some 38), oBinBy (abin .shr) (.tmp 37) (.const (.int .u64 1)), none, none⟩,
  ⟨(some 39), oToInt .i64 (.tmp 38), none, none⟩,
  ⟨(some 12), oMv (rT 39), none, none⟩])
 (.seq (.draw [⟨(some 40), oMv (rT 4), none, none⟩,
  ⟨(some 41), oMv (rT 0), none, none⟩,
  ⟨(some 42), oMv (rT 12), none, none⟩,
  ⟨(some 43), oIndexAddr 5 (rT 41) (rT 42), none, none⟩,
  ⟨(some 44), oLoadN 5 (rT 43), none, none⟩,
  ⟨(some 45), oMv (rT 0), none, none⟩,
  ⟨(some 46), oMv (rT 1), none, none⟩,
  ⟨(some 47), oIndexAddr 5 (rT 45) (rT 46), none, none⟩,
  ⟨(some 48), oLoadN 5 (rT 47), none, none⟩,
  ⟨(some 49), oCallV (.tmp 40) [(.tmp 44), (.tmp 48)], none, none⟩,
  ⟨(some 50), oBinBy (cmpBy .lss cLss) (.tmp 49) (.const (.int .i64 0)), none, none⟩] 0 [])
 (.cond (.tmp 50) (.region [⟨(some 51), oMv (rT 12), none, none⟩,
  ⟨(some 52), oBinBy (arithBy .add nAdd) (.tmp 51) (.const (.int .i64 1)), none, none⟩,
  ⟨(some 10), oMv (rT 52), none, none⟩])
 (.region [⟨(some 53), oMv (rT 12), none, none⟩,
  ⟨(some 11), oMv (rT 53), none, none⟩]))))))))
 (.seq (.seq (.region [⟨(some 54), oMv (rT 1), none, none⟩,
  ⟨(some 13), oMv (rT 54), none, none⟩])
 (.block 2 (.loop (.seq (.seq (.region [⟨(some 55), oMv (rT 13), none, none⟩,
  ⟨(some 56), oMv (rT 10), none, none⟩,
  ⟨(some 57), oBinBy (arithBy .sub nSub) (.tmp 56) (.const (.int .i64 1)), none, none⟩,
  ⟨(some 58), oBinBy (cmpBy .lss cLss) (.tmp 55) (.tmp 57), none, none⟩])
 (.cond (.tmp 58) .skip
 (.exit 2)))
 (.seq (.block 3 (.draw [⟨(some 61), oMv (rT 0), none, none⟩,
  ⟨(some 62), oMv (rT 13), none, none⟩,
  ⟨(some 63), oMv (rT 0), none, none⟩,
  ⟨(some 64), oMv (rT 13), none, none⟩,
  ⟨(some 65), oBinBy (arithBy .add nAdd) (.tmp 64) (.const (.int .i64 1)), none, none⟩,
  ⟨(some 66), oMv (rT 0), none, none⟩,
  ⟨(some 67), oMv (rT 13), none, none⟩,
  ⟨(some 68), oBinBy (arithBy .add nAdd) (.tmp 67) (.const (.int .i64 1)), none, none⟩,
  ⟨(some 69), oIndexAddr 5 (rT 66) (rT 68), none, none⟩,
  ⟨(some 70), oLoadN 5 (rT 69), none, none⟩,
  ⟨(some 71), oMv (rT 0), none, none⟩,
  ⟨(some 72), oMv (rT 13), none, none⟩,
  ⟨(some 73), oIndexAddr 5 (rT 71) (rT 72), none, none⟩,
  ⟨(some 74), oLoadN 5 (rT 73), none, none⟩,
  ⟨(some 75), oIndexAddr 5 (rT 61) (rT 62), none, none⟩,
  ⟨none, oStore 5 (rT 75) (rT 70), none, none⟩,
  ⟨(some 76), oIndexAddr 5 (rT 63) (rT 65), none, none⟩,
  ⟨none, oStore 5 (rT 76) (rT 74), none, none⟩] 0 []))
 (.region [⟨(some 59), oMv (rT 13), none, none⟩,
  ⟨(some 60), oBinBy (arithBy .add nAdd) (.tmp 59) (.const (.int .i64 1)), none, none⟩,
  ⟨(some 13), oMv (rT 60), none, none⟩]))))))
 .ret))))
 .skip))
 (.seq (.seq (.region [⟨(some 77), oMv (rT 3), none, none⟩,
  ⟨(some 78), oMv (rT 2), none, none⟩,
  ⟨(some 79), oBinBy (arithBy .sub nSub) (.tmp 77) (.tmp 78), none, none⟩,
  ⟨(some 80), oBinBy (cmpBy .eql cEql) (.tmp 79) (.const (.int .i64 1)), none, none⟩])
 (.cond (.tmp 80) (.seq (.region [⟨(some 81), oMv (rT 1), none, none⟩,
  ⟨(some 14), oMv (rT 81), none, none⟩])
 (.seq (.region [⟨(some 82), oMv (rT 2), none, none⟩,
  ⟨(some 15), oMv (rT 82), none, none⟩])
 (.seq (.block 4 (.loop (.seq (.seq (.region [⟨(some 83), oMv (rT 14), none, none⟩,
  ⟨(some 84), oMv (rT 15), none, none⟩,
  ⟨(some 85), oBinBy (cmpBy .lss cLss) (.tmp 83) (.tmp 84), none, none⟩])
 (.cond (.tmp 85) .skip
 (.exit 4)))
 (.block 5 (.seq (.region [⟨(some 86), oMv (rT 14), none, none⟩,
  ⟨(some 87), oMv (rT 15), none, none⟩,
  ⟨(some 88), oBinBy (arithBy .add nAdd) (.tmp 86) (.tmp 87), none, none⟩,
  ⟨(some 89), oToInt .u64 (.tmp 88), none, none⟩,
  ⟨(some 90), oBinBy (abin .shr) (.tmp 89) (.const (.int .u64 1)), none, none⟩,
  ⟨(some 91), oToInt .i64 (.tmp 90), none, none⟩,
  ⟨(some 16), oMv (rT 91), none, none⟩])
 (.seq (.draw [⟨(some 92), oMv (rT 4), none, none⟩,
  ⟨(some 93), oMv (rT 0), none, none⟩,
  ⟨(some 94), oMv (rT 2), none, none⟩,
  ⟨(some 95), oIndexAddr 5 (rT 93) (rT 94), none, none⟩,
  ⟨(some 96), oLoadN 5 (rT 95), none, none⟩,
  ⟨(some 97), oMv (rT 0), none, none⟩,
  ⟨(some 98), oMv (rT 16), none, none⟩,
  ⟨(some 99), oIndexAddr 5 (rT 97) (rT 98), none, none⟩,
  ⟨(some 100), oLoadN 5 (rT 99), none, none⟩,
  ⟨(some 101), oCallV (.tmp 92) [(.tmp 96), (.tmp 100)], none, none⟩,
  ⟨(some 102), oBinBy (cmpBy .lss cLss) (.tmp 101) (.const (.int .i64 0)), none, none⟩,
  ⟨(some 103), oUn .not (.tmp 102), none, none⟩] 0 [])
 (.cond (.tmp 103) (.region [⟨(some 104), oMv (rT 16), none, none⟩,
  ⟨(some 105), oBinBy (arithBy .add nAdd) (.tmp 104) (.const (.int .i64 1)), none, none⟩,
  ⟨(some 14), oMv (rT 105), none, none⟩])
 (.region [⟨(some 106), oMv (rT 16), none, none⟩,
  ⟨(some 15), oMv (rT 106), none, none⟩]))))))))
 (.seq (.seq (.region [⟨(some 107), oMv (rT 2), none, none⟩,
  ⟨(some 17), oMv (rT 107), none, none⟩])
 (.block 6 (.loop (.seq (.seq (.region [⟨(some 108), oMv (rT 17), none, none⟩,
  ⟨(some 109), oMv (rT 14), none, none⟩,
  ⟨(some 110), oBinBy (cmpBy .gtr cGtr) (.tmp 108) (.tmp 109), none, none⟩])
 (.cond (.tmp 110) .skip
 (.exit 6)))
 (.seq (.block 7 (.draw [⟨(some 113), oMv (rT 0), none, none⟩,
  ⟨(some 114), oMv (rT 17), none, none⟩,
  ⟨(some 115), oMv (rT 0), none, none⟩,
  ⟨(some 116), oMv (rT 17), none, none⟩,
  ⟨(some 117), oBinBy (arithBy .sub nSub) (.tmp 116) (.const (.int .i64 1)), none, none⟩,
  ⟨(some 118), oMv (rT 0), none, none⟩,
  ⟨(some 119), oMv (rT 17), none, none⟩,
  ⟨(some 120), oBinBy (arithBy .sub nSub) (.tmp 119) (.const (.int .i64 1)), none, none⟩,
  ⟨(some 121), oIndexAddr 5 (rT 118) (rT 120), none, none⟩,
  ⟨(some 122), oLoadN 5 (rT 121), none, none⟩,
  ⟨(some 123), oMv (rT 0), none, none⟩,
  ⟨(some 124), oMv (rT 17), none, none⟩,
  ⟨(some 125), oIndexAddr 5 (rT 123) (rT 124), none, none⟩,
  ⟨(some 126), oLoadN 5 (rT 125), none, none⟩,
  ⟨(some 127), oIndexAddr 5 (rT 113) (rT 114), none, none⟩,
  ⟨none, oStore 5 (rT 127) (rT 122), none, none⟩,
  ⟨(some 128), oIndexAddr 5 (rT 115) (rT 117), none, none⟩,
  ⟨none, oStore 5 (rT 128) (rT 126), none, none⟩] 0 []))
 (.region [⟨(some 111), oMv (rT 17), none, none⟩,
  ⟨(some 112), oBinBy (arithBy .sub nSub) (.tmp 111) (.const (.int .i64 1)), none, none⟩,
  ⟨(some 17), oMv (rT 112), none, none⟩]))))))
 .ret))))
 .skip))
 (.seq (.region [⟨(some 129), oMv (rT 1), none, none⟩,
  ⟨(some 130), oMv (rT 3), none, none⟩,
  ⟨(some 131), oBinBy (arithBy .add nAdd) (.tmp 129) (.tmp 130), none, none⟩,
  ⟨(some 132), oToInt .u64 (.tmp 131), none, none⟩,
  ⟨(some 133), oBinBy (abin .shr) (.tmp 132) (.const (.int .u64 1)), none, none⟩,
  ⟨(some 134), oToInt .i64 (.tmp 133), none, none⟩,
  ⟨(some 18), oMv (rT 134), none, none⟩])
 (.seq (.region [⟨(some 135), oMv (rT 18), none, none⟩,
  ⟨(some 136), oMv (rT 2), none, none⟩,
  ⟨(some 137), oBinBy (arithBy .add nAdd) (.tmp 135) (.tmp 136), none, none⟩,
  ⟨(some 19), oMv (rT 137), none, none⟩])
 (.seq (.region [⟨(some 20), oMv (rC (.int .i64 0)), none, none⟩,
  ⟨(some 21), oMv (rC (.int .i64 0)), none, none⟩])
 (.seq (.seq (.region [⟨(some 138), oMv (rT 2), none, none⟩,
  ⟨(some 139), oMv (rT 18), none, none⟩,
  ⟨(some 140), oBinBy (cmpBy .gtr cGtr) (.tmp 138) (.tmp 139), none, none⟩])
 (.cond (.tmp 140) (.seq (.region [⟨(some 141), oMv (rT 19), none, none⟩,
  ⟨(some 142), oMv (rT 3), none, none⟩,
  ⟨(some 143), oBinBy (arithBy .sub nSub) (.tmp 141) (.tmp 142), none, none⟩,
  ⟨(some 20), oMv (rT 143), none, none⟩])
 (.region [⟨(some 144), oMv (rT 18), none, none⟩,
  ⟨(some 21), oMv (rT 144), none, none⟩]))
 (.seq (.region [⟨(some 145), oMv (rT 1), none, none⟩,
  ⟨(some 20), oMv (rT 145), none, none⟩])
 (.region [⟨(some 146), oMv (rT 2), none, none⟩,
  ⟨(some 21), oMv (rT 146), none, none⟩]))))
 (.seq (.region [⟨(some 147), oMv (rT 19), none, none⟩,
  ⟨(some 148), oBinBy (arithBy .sub nSub) (.tmp 147) (.const (.int .i64 1)), none, none⟩,
  ⟨(some 22), oMv (rT 148), none, none⟩])
 (.seq (.block 8 (.loop (.seq (.seq (.region [⟨(some 149), oMv (rT 20), none, none⟩,
  ⟨(some 150), oMv (rT 21), none, none⟩,
  ⟨(some 151), oBinBy (cmpBy .lss cLss) (.tmp 149) (.tmp 150), none, none⟩])
 (.cond (.tmp 151) .skip
 (.exit 8)))
 (.block 9 (.seq (.region [⟨(some 152), oMv (rT 20), none, none⟩,
  ⟨(some 153), oMv (rT 21), none, none⟩,
  ⟨(some 154), oBinBy (arithBy .add nAdd) (.tmp 152) (.tmp 153), none, none⟩,
  ⟨(some 155), oToInt .u64 (.tmp 154), none, none⟩,
  ⟨(some 156), oBinBy (abin .shr) (.tmp 155) (.const (.int .u64 1)), none, none⟩,
  ⟨(some 157), oToInt .i64 (.tmp 156), none, none⟩,
  ⟨(some 23), oMv (rT 157), none, none⟩])
 (.seq (.draw [⟨(some 158), oMv (rT 4), none, none⟩,
  ⟨(some 159), oMv (rT 0), none, none⟩,
  ⟨(some 160), oMv (rT 22), none, none⟩,
  ⟨(some 161), oMv (rT 23), none, none⟩,
  ⟨(some 162), oBinBy (arithBy .sub nSub) (.tmp 160) (.tmp 161), none, none⟩,
  ⟨(some 163), oIndexAddr 5 (rT 159) (rT 162), none, none⟩,
  ⟨(some 164), oLoadN 5 (rT 163), none, none⟩,
  ⟨(some 165), oMv (rT 0), none, none⟩,
  ⟨(some 166), oMv (rT 23), none, none⟩,
  ⟨(some 167), oIndexAddr 5 (rT 165) (rT 166), none, none⟩,
  ⟨(some 168), oLoadN 5 (rT 167), none, none⟩,
  ⟨(some 169), oCallV (.tmp 158) [(.tmp 164), (.tmp 168)], none, none⟩,
  ⟨(some 170), oBinBy (cmpBy .lss cLss) (.tmp 169) (.const (.int .i64 0)), none, none⟩,
  ⟨(some 171), oUn .not (.tmp 170), none, none⟩] 0 [])
 (.cond (.tmp 171) (.region [⟨(some 172), oMv (rT 23), none, none⟩,
  ⟨(some 173), oBinBy (arithBy .add nAdd) (.tmp 172) (.const (.int .i64 1)), none, none⟩,
  ⟨(some 20), oMv (rT 173), none, none⟩])
 (.region [⟨(some 174), oMv (rT 23), none, none⟩,
  ⟨(some 21), oMv (rT 174), none, none⟩]))))))))
 (.seq (.region [⟨(some 175), oMv (rT 19), none, none⟩,
  ⟨(some 176), oMv (rT 20), none, none⟩,
  ⟨(some 177), oBinBy (arithBy .sub nSub) (.tmp 175) (.tmp 176), none, none⟩,
  ⟨(some 24), oMv (rT 177), none, none⟩])
 (.seq (.seq (.region [⟨(some 178), oMv (rT 20), none, none⟩,
  ⟨(some 179), oMv (rT 2), none, none⟩,
  ⟨(some 180), oBinBy (cmpBy .lss cLss) (.tmp 178) (.tmp 179), none, none⟩,
  ⟨(some 181), oMv (rT 180), none, none⟩,
  ⟨(some 182), oMv (rT 2), (some (181, true)), none⟩,
  ⟨(some 183), oMv (rT 24), (some (181, true)), none⟩,
  ⟨(some 184), oBinBy (cmpBy .lss cLss) (.tmp 182) (.tmp 183), (some (181, true)), none⟩,
  ⟨(some 185), oPick (rT 181) (rT 184) (rC (.bool false)), none, none⟩])
 (.cond (.tmp 185) (.region [⟨(some 186), oMv (rT 0), none, none⟩,
  ⟨(some 187), oMv (rT 20), none, none⟩,
  ⟨(some 188), oMv (rT 2), none, none⟩,
  ⟨(some 189), oMv (rT 24), none, none⟩,
  ⟨(some 190), oMv (rT 4), none, none⟩,
  ⟨(some 191), oCall 123 [(.tmp 186), (.tmp 187), (.tmp 188), (.tmp 189), (.tmp 190)], none, none⟩])
 .skip))
 (.seq (.seq (.region [⟨(some 192), oMv (rT 1), none, none⟩,
  ⟨(some 193), oMv (rT 20), none, none⟩,
  ⟨(some 194), oBinBy (cmpBy .lss cLss) (.tmp 192) (.tmp 193), none, none⟩,
  ⟨(some 195), oMv (rT 194), none, none⟩,
  ⟨(some 196), oMv (rT 20), (some (195, true)), none⟩,
  ⟨(some 197), oMv (rT 18), (some (195, true)), none⟩,
  ⟨(some 198), oBinBy (cmpBy .lss cLss) (.tmp 196) (.tmp 197), (some (195, true)), none⟩,
  ⟨(some 199), oPick (rT 195) (rT 198) (rC (.bool false)), none, none⟩])
 (.cond (.tmp 199) (.region [⟨(some 200), oMv (rT 0), none, none⟩,
  ⟨(some 201), oMv (rT 1), none, none⟩,
  ⟨(some 202), oMv (rT 20), none, none⟩,
  ⟨(some 203), oMv (rT 18), none, none⟩,
  ⟨(some 204), oMv (rT 4), none, none⟩,
  ⟨(some 205), oCall 93 [(.tmp 200), (.tmp 201), (.tmp 202), (.tmp 203), (.tmp 204)], none, none⟩])
 .skip))
 (.seq (.region [⟨(some 206), oMv (rT 18), none, none⟩,
  ⟨(some 207), oMv (rT 24), none, none⟩,
  ⟨(some 208), oBinBy (cmpBy .lss cLss) (.tmp 206) (.tmp 207), none, none⟩,
  ⟨(some 209), oMv (rT 208), none, none⟩,
  ⟨(some 210), oMv (rT 24), (some (209, true)), none⟩,
  ⟨(some 211), oMv (rT 3), (some (209, true)), none⟩,
  ⟨(some 212), oBinBy (cmpBy .lss cLss) (.tmp 210) (.tmp 211), (some (209, true)), none⟩,
  ⟨(some 213), oPick (rT 209) (rT 212) (rC (.bool false)), none, none⟩])
 (.cond (.tmp 213) (.region [⟨(some 214), oMv (rT 0), none, none⟩,
  ⟨(some 215), oMv (rT 18), none, none⟩,
  ⟨(some 216), oMv (rT 24), none, none⟩,
  ⟨(some 217), oMv (rT 3), none, none⟩,
  ⟨(some 218), oMv (rT 4), none, none⟩,
  ⟨(some 219), oCall 93 [(.tmp 214), (.tmp 215), (.tmp 216), (.tmp 217), (.tmp 218)], none, none⟩])
 .skip)))))))))))))⟩
def c94 : FFunc := ⟨[.tmp 2], (.seq (.region [⟨(some 2), oMv (rC (.int .i64 0)), none, none⟩])
 (.seq (.region [⟨(some 3), oMv (rT 0), none, none⟩,
  ⟨(some 4), oIndexS (.const (.string ⟨#[0, 1, 1, 2, 1, 2, 2, 3, 1, 2, 2, 3, 2, 3, 3, 4, 1, 2, 2, 3, 2, 3, 3, 4, 2, 3, 3, 4, 3, 4, 4, 5, 1, 2, 2, 3, 2, 3, 3, 4, 2, 3, 3, 4, 3, 4, 4, 5, 2, 3, 3, 4, 3, 4, 4, 5, 3, 4, 4, 5, 4, 5, 5, 6, 1, 2, 2, 3, 2, 3, 3, 4, 2, 3, 3, 4, 3, 4, 4, 5, 2, 3, 3, 4, 3, 4, 4, 5, 3, 4, 4, 5, 4, 5, 5, 6, 2, 3, 3, 4, 3, 4, 4, 5, 3, 4, 4, 5, 4, 5, 5, 6, 3, 4, 4, 5, 4, 5, 5, 6, 4, 5, 5, 6, 5, 6, 6, 7, 1, 2, 2, 3, 2, 3, 3, 4, 2, 3, 3, 4, 3, 4, 4, 5, 2, 3, 3, 4, 3, 4, 4, 5, 3, 4, 4, 5, 4, 5, 5, 6, 2, 3, 3, 4, 3, 4, 4, 5, 3, 4, 4, 5, 4, 5, 5, 6, 3, 4, 4, 5, 4, 5, 5, 6, 4, 5, 5, 6, 5, 6, 6, 7, 2, 3, 3, 4, 3, 4, 4, 5, 3, 4, 4, 5, 4, 5, 5, 6, 3, 4, 4, 5, 4, 5, 5, 6, 4, 5, 5, 6, 5, 6, 6, 7, 3, 4, 4, 5, 4, 5, 5, 6, 4, 5, 5, 6, 5, 6, 6, 7, 4, 5, 5, 6, 5, 6, 6, 7, 5, 6, 6, 7, 6, 7, 7, 8]⟩)) (.tmp 3), none, none⟩,
  ⟨(some 5), oToInt .i64 (.tmp 4), none, none⟩,
  ⟨(some 2), oMv (rT 5), none, none⟩])
 .ret))⟩
def c95 : FFunc := ⟨[.tmp 4, .tmp 5, .tmp 6], (.seq (.region [⟨(some 4), oMv (rC (.slice none 0 0)), none, none⟩,
  ⟨(some 5), oMv (rC (.int .u64 0)), none, none⟩,
  ⟨(some 6), oMv (rC (.int .i64 0)), none, none⟩])
 (.seq (.region [⟨(some 14), oMv (rT 0), none, none⟩,
  ⟨(some 15), oCall 11 [(.tmp 14)], none, none⟩,
  ⟨(some 13), oMv (rT 15), none, none⟩,
  ⟨(some 16), oExtract (rT 13) 0, none, none⟩,
  ⟨(some 17), oExtract (rT 13) 1, none, none⟩,
  ⟨(some 7), oMv (rT 16), none, none⟩,
  ⟨(some 6), oMv (rT 17), none, none⟩])
 (.seq (.block 0 (.seq (.region [⟨(some 19), oMv (rT 6), none, none⟩,
  ⟨(some 20), oBinBy (cmpBy .neq cNeq) (.tmp 19) (.const (.int .i64 0)), none, none⟩,
  ⟨(some 18), oMv (rT 20), none, none⟩])
 (.cond (.tmp 18) (.seq (.region [⟨(some 21), oMv (rT 6), none, none⟩,
  ⟨(some 4), oMv (rC (.slice none 0 0)), none, none⟩,
  ⟨(some 5), oMv (rC (.int .u64 0)), none, none⟩,
  ⟨(some 6), oMv (rT 21), none, none⟩])
 .ret)
 (.seq (.region [⟨(some 23), oMv (rT 1), none, none⟩,
  ⟨(some 24), oBinBy (cmpBy .eql cEql) (.tmp 23) (.const (.int .u32 0)), none, none⟩,
  ⟨(some 22), oMv (rT 24), none, none⟩])
 (.cond (.tmp 22) (.seq (.region [⟨(some 4), oMv (rC (.slice none 0 0)), none, none⟩,
  ⟨(some 5), oMv (rC (.int .u64 0)), none, none⟩,
  ⟨(some 6), oMv (rC (.int .i64 2)), none, none⟩])
 .ret)
 .skip)))))
 (.seq (.seq (.region [⟨(some 25), oMv (rT 7), none, none⟩,
  ⟨(some 26), oCall 28 [(.tmp 25)], none, none⟩,
  ⟨(some 27), oLenS 88 (rT 26), none, none⟩,
  ⟨(some 28), oMv (rC (.int .i64 0)), none, none⟩])
 (.block 1 (.loop (.seq (.region [⟨(some 29), oBinBy (cmpBy .lss cLss) (.tmp 28) (.tmp 27), none, none⟩])
 (.seq (.cond (.tmp 29) .skip
 (.exit 1))
 (.seq (.block 2 (.seq (.region [⟨(some 30), oIndexAddr 5 (rT 26) (rT 28), none, none⟩,
  ⟨(some 31), oLoadN 5 (rT 30), none, none⟩,
  ⟨(some 9), oAlloc [(.int .i64 0), (.int .u8 0), (.int .u32 0), (.int .u64 0), (.bool false)], none, (some [(.int .i64 0), (.int .u8 0), (.int .u32 0), (.int .u64 0), (.bool false)])⟩,
  ⟨none, oStore 5 (rT 9) (rT 31), none, none⟩])
 (.seq (.seq (.region [⟨(some 32), oFieldAddr 1 (rT 9), none, none⟩,
  ⟨(some 33), oFieldAddr 0 (rT 32), none, none⟩,
  ⟨(some 34), oLoad1 (rT 33), none, none⟩,
  ⟨(some 35), oBinBy (cmpBy .neq cNeq) (.tmp 34) (.const (.int .u8 1)), none, none⟩,
  ⟨(some 36), oMv (rT 35), none, none⟩,
  ⟨(some 37), oFieldAddr 1 (rT 9), (some (36, false)), none⟩,
  ⟨(some 38), oFieldAddr 1 (rT 37), (some (36, false)), none⟩,
  ⟨(some 39), oLoad1 (rT 38), (some (36, false)), none⟩,
  ⟨(some 40), oMv (rT 1), (some (36, false)), none⟩,
  ⟨(some 41), oBinBy (cmpBy .neq cNeq) (.tmp 39) (.tmp 40), (some (36, false)), none⟩,
  ⟨(some 42), oPick (rT 36) (rC (.bool true)) (rT 41), none, none⟩])
 (.cond (.tmp 42) (.exit 2)
 .skip))
 (.seq (.region [⟨(some 43), oFieldAddr 0 (rT 9), none, none⟩,
  ⟨(some 44), oLoad1 (rT 43), none, none⟩,
  ⟨(some 45), oFieldAddr 1 (rT 9), none, none⟩,
  ⟨(some 46), oFieldAddr 2 (rT 45), none, none⟩,
  ⟨(some 47), oLoad1 (rT 46), none, none⟩,
  ⟨(some 48), oBuild #[(.int .i64 0), (.int .u64 0), (.slice none 0 0)] [(0, 1), (1, 1), (2, 1)] [(0, (.tmp 44)), (1, (.tmp 47))], none, none⟩,
  ⟨(some 10), oAlloc [(.int .i64 0), (.int .u64 0), (.slice none 0 0)], none, (some [(.int .i64 0), (.int .u64 0), (.slice none 0 0)])⟩,
  ⟨none, oStore 3 (rT 10) (rT 48), none, none⟩])
 (.seq (.region [⟨(some 50), oMv (rT 0), none, none⟩,
  ⟨(some 51), oFieldAddr 0 (rT 9), none, none⟩,
  ⟨(some 52), oLoad1 (rT 51), none, none⟩,
  ⟨(some 53), oCall 124 [(.tmp 50), (.tmp 52)], none, none⟩,
  ⟨(some 49), oMv (rT 53), none, none⟩,
  ⟨(some 54), oExtract (rT 49) 0, none, none⟩,
  ⟨(some 55), oExtract (rT 49) 1, none, none⟩,
  ⟨(some 56), oFieldAddr 2 (rT 10), none, none⟩,
  ⟨none, oStore 1 (rT 56) (rT 54), none, none⟩])
 (.seq (.seq (.region [⟨(some 57), oFieldAddr 2 (rT 10), none, none⟩,
  ⟨(some 58), oLoad1 (rT 57), none, none⟩,
  ⟨(some 59), oLenS 206 (rT 58), none, none⟩,
  ⟨(some 60), oMv (rC (.int .i64 0)), none, none⟩])
 (.block 3 (.loop (.seq (.region [⟨(some 61), oBinBy (cmpBy .lss cLss) (.tmp 60) (.tmp 59), none, none⟩])
 (.seq (.cond (.tmp 61) .skip
 (.exit 3))
 (.seq (.block 4 (.seq (.region [⟨(some 62), oIndexAddr 3 (rT 58) (rT 60), none, none⟩,
  ⟨(some 63), oLoadN 3 (rT 62), none, none⟩,
  ⟨(some 12), oAlloc [(.int .i64 0), (.slice none 0 0), (.int .u64 0)], none, (some [(.int .i64 0), (.slice none 0 0), (.int .u64 0)])⟩,
  ⟨none, oStore 3 (rT 12) (rT 63), none, none⟩])
 (.region [⟨(some 64), oMv (rT 5), none, none⟩,
  ⟨(some 65), oFieldAddr 2 (rT 12), none, none⟩,
  ⟨(some 66), oLoad1 (rT 65), none, none⟩,
  ⟨(some 67), oMax [(.tmp 64), (.tmp 66)], none, none⟩,
  ⟨(some 5), oMv (rT 67), none, none⟩])))
 (.region [⟨(some 68), oBinBy (arithBy .add nAdd) (.tmp 60) (.const (.int .i64 1)), none, none⟩,
  ⟨(some 60), oMv (rT 68), none, none⟩])))))))
 (.region [⟨(some 69), oMv (rT 4), none, none⟩,
  ⟨(some 70), oLoadN 3 (rT 10), none, none⟩,
  ⟨(some 71), oBuildSlice false 3 1 [(.int .i64 0), (.int .u64 0), (.slice none 0 0)] [(0, (.tmp 70))], none, none⟩,
  ⟨(some 72), oAppend 3 40 (.tmp 69) (.tmp 71), none, none⟩,
  ⟨(some 4), oMv (rT 72), none, none⟩])))))))
 (.region [⟨(some 73), oBinBy (arithBy .add nAdd) (.tmp 28) (.const (.int .i64 1)), none, none⟩,
  ⟨(some 28), oMv (rT 73), none, none⟩])))))))
 (.seq (.region [⟨(some 74), oMv (rT 4), none, none⟩,
  ⟨(some 75), oMv (rT 5), none, none⟩,
  ⟨(some 4), oMv (rT 74), none, none⟩,
  ⟨(some 5), oMv (rT 75), none, none⟩,
  ⟨(some 6), oMv (rC (.int .i64 0)), none, none⟩])
 .ret)))))⟩
def c97 : FFunc := ⟨[.tmp 4, .tmp 5, .tmp 6], (.seq (.region [⟨(some 4), oMv (rC (.slice none 0 0)), none, none⟩,
  ⟨(some 5), oMv (rC (.slice none 0 0)), none, none⟩,
  ⟨(some 6), oMv (rC (.int .i64 0)), none, none⟩])
 (.seq (.region [⟨(some 12), oMv (rT 0), none, none⟩,
  ⟨(some 13), oMv (rT 1), none, none⟩,
  ⟨(some 14), oCall 95 [(.tmp 12), (.tmp 13)], none, none⟩,
  ⟨(some 11), oMv (rT 14), none, none⟩,
  ⟨(some 15), oExtract (rT 11) 0, none, none⟩,
  ⟨(some 16), oExtract (rT 11) 1, none, none⟩,
  ⟨(some 17), oExtract (rT 11) 2, none, none⟩,
  ⟨(some 7), oMv (rT 15), none, none⟩,
  ⟨(some 8), oMv (rT 16), none, none⟩,
  ⟨(some 6), oMv (rT 17), none, none⟩])
 (.seq (.seq (.region [⟨(some 18), oMv (rT 7), none, none⟩,
  ⟨(some 19), oLenS 204 (rT 18), none, none⟩,
  ⟨(some 20), oMv (rC (.int .i64 0)), none, none⟩])
 (.block 0 (.loop (.seq (.region [⟨(some 21), oBinBy (cmpBy .lss cLss) (.tmp 20) (.tmp 19), none, none⟩])
 (.seq (.cond (.tmp 21) .skip
 (.exit 0))
 (.seq (.block 1 (.seq (.region [⟨(some 22), oIndexAddr 3 (rT 18) (rT 20), none, none⟩,
  ⟨(some 23), oLoadN 3 (rT 22), none, none⟩,
  ⟨(some 10), oAlloc [(.int .i64 0), (.int .u64 0), (.slice none 0 0)], none, (some [(.int .i64 0), (.int .u64 0), (.slice none 0 0)])⟩,
  ⟨none, oStore 3 (rT 10) (rT 23), none, none⟩])
 (.seq (.region [⟨(some 24), oFieldAddr 1 (rT 10), none, none⟩,
  ⟨(some 25), oLoad1 (rT 24), none, none⟩,
  ⟨(some 26), oMv (rT 8), none, none⟩,
  ⟨(some 27), oBinBy (cmpBy .geq cGeq) (.tmp 25) (.tmp 26), none, none⟩])
 (.cond (.tmp 27) (.region [⟨(some 28), oMv (rT 4), none, none⟩,
  ⟨(some 29), oFieldAddr 0 (rT 10), none, none⟩,
  ⟨(some 30), oLoad1 (rT 29), none, none⟩,
  ⟨(some 31), oBuildSlice false 1 1 [(.int .i64 0)] [(0, (.tmp 30))], none, none⟩,
  ⟨(some 32), oAppend 1 8 (.tmp 28) (.tmp 31), none, none⟩,
  ⟨(some 4), oMv (rT 32), none, none⟩])
 (.region [⟨(some 33), oMv (rT 5), none, none⟩,
  ⟨(some 34), oFieldAddr 0 (rT 10), none, none⟩,
  ⟨(some 35), oLoad1 (rT 34), none, none⟩,
  ⟨(some 36), oBuildSlice false 1 1 [(.int .i64 0)] [(0, (.tmp 35))], none, none⟩,
  ⟨(some 37), oAppend 1 8 (.tmp 33) (.tmp 36), none, none⟩,
  ⟨(some 5), oMv (rT 37), none, none⟩])))))
 (.region [⟨(some 38), oBinBy (arithBy .add nAdd) (.tmp 20) (.const (.int .i64 1)), none, none⟩,
  ⟨(some 20), oMv (rT 38), none, none⟩])))))))
 (.seq (.region [⟨(some 39), oMv (rT 4), none, none⟩,
  ⟨(some 40), oMv (rT 5), none, none⟩,
  ⟨(some 41), oMv (rT 6), none, none⟩,
  ⟨(some 4), oMv (rT 39), none, none⟩,
  ⟨(some 5), oMv (rT 40), none, none⟩,
  ⟨(some 6), oMv (rT 41), none, none⟩])
 .ret))))⟩
def c98 : FFunc := ⟨[.tmp 4, .tmp 5], (.seq (.region [⟨(some 4), oMv (rC (.pointer none)), none, none⟩,
  ⟨(some 5), oMv (rC (.int .i64 0)), none, none⟩])
 (.seq (.region [⟨(some 15), oMv (rT 0), none, none⟩,
  ⟨(some 16), oMv (rT 1), none, none⟩,
  ⟨(some 17), oCall 130 [(.tmp 15), (.tmp 16)], none, none⟩,
  ⟨(some 14), oMv (rT 17), none, none⟩,
  ⟨(some 18), oExtract (rT 14) 0, none, none⟩,
  ⟨(some 19), oExtract (rT 14) 1, none, none⟩,
  ⟨(some 20), oExtract (rT 14) 2, none, none⟩,
  ⟨(some 21), oExtract (rT 14) 3, none, none⟩,
  ⟨(some 6), oAlloc [(.int .u64 0), (.int .i64 0), (.int .i64 0), (.int .i64 0)], none, (some [(.int .u64 0), (.int .i64 0), (.int .i64 0), (.int .i64 0)])⟩,
  ⟨none, oStore 4 (rT 6) (rT 18), none, none⟩,
  ⟨(some 7), oMv (rT 19), none, none⟩,
  ⟨(some 8), oMv (rT 20), none, none⟩,
  ⟨(some 9), oMv (rT 21), none, none⟩])
 (.seq (.seq (.region [⟨(some 22), oMv (rT 9), none, none⟩,
  ⟨(some 23), oBinBy (cmpBy .neq cNeq) (.tmp 22) (.const (.int .i64 0)), none, none⟩])
 (.cond (.tmp 23) (.seq (.region [⟨(some 24), oMv (rT 9), none, none⟩,
  ⟨(some 4), oMv (rC (.pointer none)), none, none⟩,
  ⟨(some 5), oMv (rT 24), none, none⟩])
 .ret)
 .skip))
 (.seq (.region [⟨(some 26), oMv (rT 0), none, none⟩,
  ⟨(some 27), oMv (rT 1), none, none⟩,
  ⟨(some 28), oCall 131 [(.tmp 26), (.tmp 27)], none, none⟩,
  ⟨(some 25), oMv (rT 28), none, none⟩,
  ⟨(some 29), oExtract (rT 25) 0, none, none⟩,
  ⟨(some 30), oExtract (rT 25) 1, none, none⟩,
  ⟨(some 10), oMv (rT 29), none, none⟩,
  ⟨(some 11), oMv (rT 30), none, none⟩])
 (.seq (.region [⟨(some 31), oMv (rT 0), none, none⟩,
  ⟨(some 32), oMv (rT 10), none, none⟩,
  ⟨(some 33), oMkMap, none, none⟩,
  ⟨(some 34), oBuild #[(.pointer none), (.slice none 0 0), (.map none), (.slice none 0 0), (.slice none 0 0), (.int .i64 0)] [(0, 1), (1, 1), (2, 1), (3, 1), (4, 1), (5, 1)] [(0, (.tmp 31)), (1, (.tmp 32)), (2, (.tmp 33))], none, none⟩,
  ⟨(some 35), oBox (.tmp 34), none, none⟩,
  ⟨(some 12), oMv (rT 35), none, none⟩])
 (.seq (.seq (.region [⟨(some 36), oMv (rT 12), none, none⟩,
  ⟨(some 37), oLoadN 4 (rT 6), none, none⟩,
  ⟨(some 38), oCall 132 [(.tmp 36), (.tmp 37)], none, none⟩,
  ⟨(some 13), oMv (rT 38), none, none⟩])
 (.seq (.region [⟨(some 39), oMv (rT 13), none, none⟩,
  ⟨(some 40), oBinBy (cmpBy .neq cNeq) (.tmp 39) (.const (.int .i64 0)), none, none⟩])
 (.cond (.tmp 40) (.seq (.region [⟨(some 41), oMv (rT 13), none, none⟩,
  ⟨(some 4), oMv (rC (.pointer none)), none, none⟩,
  ⟨(some 5), oMv (rT 41), none, none⟩])
 .ret)
 .skip)))
 (.seq (.region [⟨(some 42), oMv (rT 12), none, none⟩,
  ⟨(some 4), oMv (rT 42), none, none⟩,
  ⟨(some 5), oMv (rC (.int .i64 0)), none, none⟩])
 .ret)))))))⟩
def c99 : FFunc := ⟨[.tmp 4, .tmp 5], (.seq (.region [⟨(some 4), oMv (rC (.slice none 0 0)), none, none⟩,
  ⟨(some 5), oMv (rC (.int .i64 0)), none, none⟩])
 (.seq (.region [⟨(some 9), oMv (rT 0), none, none⟩,
  ⟨(some 10), oMv (rT 1), none, none⟩,
  ⟨(some 11), oCall 98 [(.tmp 9), (.tmp 10)], none, none⟩,
  ⟨(some 8), oMv (rT 11), none, none⟩,
  ⟨(some 12), oExtract (rT 8) 0, none, none⟩,
  ⟨(some 13), oExtract (rT 8) 1, none, none⟩,
  ⟨(some 6), oMv (rT 12), none, none⟩,
  ⟨(some 7), oMv (rT 13), none, none⟩])
 (.seq (.seq (.region [⟨(some 14), oMv (rT 7), none, none⟩,
  ⟨(some 15), oBinBy (cmpBy .neq cNeq) (.tmp 14) (.const (.int .i64 0)), none, none⟩])
 (.cond (.tmp 15) (.seq (.region [⟨(some 16), oMv (rT 7), none, none⟩,
  ⟨(some 4), oMv (rC (.slice none 0 0)), none, none⟩,
  ⟨(some 5), oMv (rT 16), none, none⟩])
 .ret)
 .skip))
 (.seq (.region [⟨(some 17), oMv (rT 6), none, none⟩,
  ⟨(some 18), oNilCheck (rT 17), none, none⟩,
  ⟨(some 19), oFieldAddr 3 (rT 18), none, none⟩,
  ⟨(some 20), oLoad1 (rT 19), none, none⟩,
  ⟨(some 4), oMv (rT 20), none, none⟩,
  ⟨(some 5), oMv (rC (.int .i64 0)), none, none⟩])
 .ret))))⟩
def c100 : FFunc := ⟨[.cells 2 3, .tmp 3], (.seq (.region [⟨(some 2), oAlloc [(.int .u8 0), (.int .i64 0), (.int .i64 0)], none, (some [(.int .u8 0), (.int .i64 0), (.int .i64 0)])⟩,
  ⟨(some 3), oMv (rC (.int .i64 0)), none, none⟩])
 (.seq (.seq (.region [⟨(some 4), oMv (rT 0), none, none⟩,
  ⟨(some 5), oLenS 5 (rT 4), none, none⟩,
  ⟨(some 6), oBinBy (cmpBy .neq cNeq) (.tmp 5) (.const (.int .i64 4)), none, none⟩,
  ⟨(some 7), oMv (rT 6), none, none⟩,
  ⟨(some 8), oMv (rT 0), (some (7, false)), none⟩,
  ⟨(some 9), oIndexAddr 1 (rT 8) (rC (.int .i64 0)), (some (7, false)), none⟩,
  ⟨(some 10), oLoad1 (rT 9), (some (7, false)), none⟩,
  ⟨(some 11), oBinBy (cmpBy .neq cNeq) (.tmp 10) (.const (.int .u8 1)), (some (7, false)), none⟩,
  ⟨(some 12), oMv (rT 11), (some (7, false)), none⟩,
  ⟨(some 13), oMv (rT 0), (some (12, true)), none⟩,
  ⟨(some 14), oIndexAddr 1 (rT 13) (rC (.int .i64 0)), (some (12, true)), none⟩,
  ⟨(some 15), oLoad1 (rT 14), (some (12, true)), none⟩,
  ⟨(some 16), oBinBy (cmpBy .neq cNeq) (.tmp 15) (.const (.int .u8 2)), (some (12, true)), none⟩,
  ⟨(some 17), oPick (rT 12) (rT 16) (rC (.bool false)), (some (7, false)), none⟩,
  ⟨(some 18), oPick (rT 7) (rC (.bool true)) (rT 17), none, none⟩])
 (.cond (.tmp 18) (.seq (.region [⟨(some 19), oBuild #[(.int .u8 0), (.int .i64 0), (.int .i64 0)] [(0, 1), (1, 1), (2, 1)] [], none, none⟩,
  ⟨none, oStore 3 (rT 2) (rT 19), none, none⟩,
  ⟨(some 3), oMv (rC (.int .i64 5)), none, none⟩])
 .ret)
 .skip))
 (.seq (.draw [⟨(some 20), oMv (rT 0), none, none⟩,
  ⟨(some 21), oIndexAddr 1 (rT 20) (rC (.int .i64 0)), none, none⟩,
  ⟨(some 22), oLoad1 (rT 21), none, none⟩,
  ⟨(some 23), oMv (rT 0), none, none⟩,
  ⟨(some 24), oIndexAddr 1 (rT 23) (rC (.int .i64 1)), none, none⟩,
  ⟨(some 25), oLoad1 (rT 24), none, none⟩,
  ⟨(some 26), oToInt .i64 (.tmp 25), none, none⟩,
  ⟨(some 27), oMv (rT 0), none, none⟩,
  ⟨(some 28), oIndexAddr 1 (rT 27) (rC (.int .i64 2)), none, none⟩,
  ⟨(some 29), oLoad1 (rT 28), none, none⟩,
  ⟨(some 30), oToInt .i64 (.tmp 29), none, none⟩,
  ⟨(some 31), oMv (rT 0), none, none⟩,
  ⟨(some 32), oIndexAddr 1 (rT 31) (rC (.int .i64 3)), none, none⟩,
  ⟨(some 33), oLoad1 (rT 32), none, none⟩,
  ⟨(some 34), oToInt .i64 (.tmp 33), none, none⟩,
  ⟨(some 35), oBinBy (abin .shl) (.tmp 34) (.const (.int .u64 8)), none, none⟩,
  ⟨(some 36), oBinBy (abin .or) (.tmp 30) (.tmp 35), none, none⟩,
  ⟨(some 37), oBuild #[(.int .u8 0), (.int .i64 0), (.int .i64 0)] [(0, 1), (1, 1), (2, 1)] [(0, (.tmp 22)), (1, (.tmp 26)), (2, (.tmp 36))], none, none⟩,
  ⟨none, oStore 3 (rT 2) (rT 37), none, none⟩,
  ⟨(some 3), oMv (rC (.int .i64 0)), none, none⟩] 0 [])
 .ret)))⟩
def c101 : FFunc := ⟨[.tmp 2, .tmp 3], (.seq (.region [⟨(some 2), oMv (rC (.int .i64 0)), none, none⟩,
  ⟨(some 3), oMv (rC (.int .i64 0)), none, none⟩])
 (.seq (.region [⟨(some 7), oMv (rT 0), none, none⟩,
  ⟨(some 8), oCall 57 [(.tmp 7)], none, none⟩,
  ⟨(some 9), oCall 58 [(.tmp 8), (.const (.int .i64 2))], none, none⟩,
  ⟨(some 6), oMv (rT 9), none, none⟩,
  ⟨(some 10), oExtract (rT 6) 0, none, none⟩,
  ⟨(some 11), oExtract (rT 6) 1, none, none⟩,
  ⟨(some 4), oMv (rT 10), none, none⟩,
  ⟨(some 5), oMv (rT 11), none, none⟩])
 (.seq (.seq (.region [⟨(some 12), oMv (rT 5), none, none⟩,
  ⟨(some 13), oBinBy (cmpBy .neq cNeq) (.tmp 12) (.const (.int .i64 0)), none, none⟩,
  ⟨(some 14), oMv (rT 13), none, none⟩,
  ⟨(some 15), oMv (rT 0), (some (14, false)), none⟩,
  ⟨(some 16), oLenS 5 (rT 15), (some (14, false)), none⟩,
  ⟨(some 17), oBinBy (cmpBy .neq cNeq) (.tmp 16) (.const (.int .i64 2)), (some (14, false)), none⟩,
  ⟨(some 18), oPick (rT 14) (rC (.bool true)) (rT 17), none, none⟩,
  ⟨(some 19), oMv (rT 18), none, none⟩,
  ⟨(some 20), oMv (rT 4), (some (19, false)), none⟩,
  ⟨(some 21), oBinBy (cmpBy .eql cEql) (.tmp 20) (.const (.int .u64 0)), (some (19, false)), none⟩,
  ⟨(some 22), oPick (rT 19) (rC (.bool true)) (rT 21), none, none⟩])
 (.cond (.tmp 22) (.seq (.region [⟨(some 2), oMv (rC (.int .i64 0)), none, none⟩,
  ⟨(some 3), oMv (rC (.int .i64 5)), none, none⟩])
 .ret)
 .skip))
 (.seq (.region [⟨(some 23), oMv (rT 4), none, none⟩,
  ⟨(some 24), oToInt .i64 (.tmp 23), none, none⟩,
  ⟨(some 2), oMv (rT 24), none, none⟩,
  ⟨(some 3), oMv (rC (.int .i64 0)), none, none⟩])
 .ret))))⟩
def c102 : FFunc := ⟨[.tmp 4], (.seq (.region [⟨(some 2), oBox (.tmp 0), none, none⟩,
  ⟨(some 3), oBox (.tmp 1), none, none⟩,
  ⟨(some 4), oMv (rC (.bool false)), none, none⟩])
 (.seq (.seq (.region [⟨(some 7), oFieldAddr 0 (rT 3), none, none⟩,
  ⟨(some 8), oLoad1 (rT 7), none, none⟩,
  ⟨(some 9), oBinBy (cmpBy .lss cLss) (.tmp 8) (.const (.int .i64 1)), none, none⟩,
  ⟨(some 10), oMv (rT 9), none, none⟩,
  ⟨(some 11), oFieldAddr 0 (rT 3), (some (10, false)), none⟩,
  ⟨(some 12), oLoad1 (rT 11), (some (10, false)), none⟩,
  ⟨(some 13), oBinBy (cmpBy .gtr cGtr) (.tmp 12) (.const (.int .i64 65535)), (some (10, false)), none⟩,
  ⟨(some 14), oPick (rT 10) (rC (.bool true)) (rT 13), none, none⟩])
 (.cond (.tmp 14) (.seq (.region [⟨(some 4), oMv (rC (.bool false)), none, none⟩])
 .ret)
 .skip))
 (.seq (.seq (.region [⟨(some 15), oFieldAddr 3 (rT 3), none, none⟩,
  ⟨(some 16), oLoad1 (rT 15), none, none⟩,
  ⟨(some 17), oLenS 233 (rT 16), none, none⟩,
  ⟨(some 18), oMv (rC (.int .i64 0)), none, none⟩])
 (.block 0 (.loop (.seq (.region [⟨(some 19), oBinBy (cmpBy .lss cLss) (.tmp 18) (.tmp 17), none, none⟩])
 (.seq (.cond (.tmp 19) .skip
 (.exit 0))
 (.seq (.block 1 (.seq (.region [⟨(some 20), oMv (rT 18), none, none⟩,
  ⟨(some 21), oIndexAddr 2 (rT 16) (rT 18), none, none⟩,
  ⟨(some 22), oLoadN 2 (rT 21), none, none⟩,
  ⟨(some 6), oAlloc [(.string ⟨#[]⟩), (.int .i64 0)], none, (some [(.string ⟨#[]⟩), (.int .i64 0)])⟩,
  ⟨(some 5), oMv (rT 20), none, none⟩,
  ⟨none, oStore 2 (rT 6) (rT 22), none, none⟩])
 (.seq (.draw [⟨(some 23), oFieldAddr 0 (rT 6), none, none⟩,
  ⟨(some 24), oLoad1 (rT 23), none, none⟩,
  ⟨(some 25), oCall 53 [(.tmp 24)], none, none⟩,
  ⟨(some 26), oUn .not (.tmp 25), none, none⟩,
  ⟨(some 27), oMv (rT 26), none, none⟩,
  ⟨(some 28), oMv (rT 5), (some (27, false)), none⟩,
  ⟨(some 29), oBinBy (cmpBy .gtr cGtr) (.tmp 28) (.const (.int .i64 0)), (some (27, false)), none⟩,
  ⟨(some 30), oMv (rT 29), (some (27, false)), none⟩,
  ⟨(some 31), oFieldAddr 3 (rT 3), (some (30, true)), none⟩,
  ⟨(some 32), oLoad1 (rT 31), (some (30, true)), none⟩,
  ⟨(some 33), oMv (rT 5), (some (30, true)), none⟩,
  ⟨(some 34), oBinBy (arithBy .sub nSub) (.tmp 33) (.const (.int .i64 1)), (some (30, true)), none⟩,
  ⟨(some 35), oIndexAddr 2 (rT 32) (rT 34), (some (30, true)), none⟩,
  ⟨(some 36), oFieldAddr 0 (rT 35), (some (30, true)), none⟩,
  ⟨(some 37), oLoad1 (rT 36), (some (30, true)), none⟩,
  ⟨(some 38), oFieldAddr 0 (rT 6), (some (30, true)), none⟩,
  ⟨(some 39), oLoad1 (rT 38), (some (30, true)), none⟩,
  ⟨(some 40), oBinBy (cmpBy .geq cGeq) (.tmp 37) (.tmp 39), (some (30, true)), none⟩,
  ⟨(some 41), oPick (rT 30) (rT 40) (rC (.bool false)), (some (27, false)), none⟩,
  ⟨(some 42), oPick (rT 27) (rC (.bool true)) (rT 41), none, none⟩] 0 [])
 (.cond (.tmp 42) (.seq (.region [⟨(some 4), oMv (rC (.bool false)), none, none⟩])
 .ret)
 .skip))))
 (.region [⟨(some 43), oBinBy (arithBy .add nAdd) (.tmp 18) (.const (.int .i64 1)), none, none⟩,
  ⟨(some 18), oMv (rT 43), none, none⟩])))))))
 (.seq (.seq (.region [⟨(some 44), oFieldAddr 1 (rT 3), none, none⟩,
  ⟨(some 45), oLoad1 (rT 44), none, none⟩])
 (.block 2 (.seq (.region [⟨(some 47), oBinBy (cmpBy .eql cEql) (.tmp 45) (.const (.int .u8 1)), none, none⟩,
  ⟨(some 46), oMv (rT 47), none, none⟩])
 (.cond (.tmp 46) (.seq (.region [⟨(some 48), oFieldAddr 2 (rT 3), none, none⟩,
  ⟨(some 49), oLoad1 (rT 48), none, none⟩,
  ⟨(some 50), oBinBy (cmpBy .eql cEql) (.tmp 49) (.const (.int .i64 1)), none, none⟩,
  ⟨(some 51), oMv (rT 50), none, none⟩,
  ⟨(some 52), oFieldAddr 4 (rT 3), (some (51, true)), none⟩,
  ⟨(some 53), oLoad1 (rT 52), (some (51, true)), none⟩,
  ⟨(some 54), oLenS 5 (rT 53), (some (51, true)), none⟩,
  ⟨(some 55), oBinBy (cmpBy .eql cEql) (.tmp 54) (.const (.int .i64 0)), (some (51, true)), none⟩,
  ⟨(some 56), oPick (rT 51) (rT 55) (rC (.bool false)), none, none⟩,
  ⟨(some 4), oMv (rT 56), none, none⟩])
 .ret)
 (.seq (.region [⟨(some 58), oBinBy (cmpBy .eql cEql) (.tmp 45) (.const (.int .u8 2)), none, none⟩,
  ⟨(some 57), oMv (rT 58), none, none⟩])
 (.cond (.tmp 57) (.seq (.region [⟨(some 59), oFieldAddr 2 (rT 3), none, none⟩,
  ⟨(some 60), oLoad1 (rT 59), none, none⟩,
  ⟨(some 61), oBinBy (cmpBy .geq cGeq) (.tmp 60) (.const (.int .i64 1)), none, none⟩,
  ⟨(some 62), oMv (rT 61), none, none⟩,
  ⟨(some 63), oFieldAddr 2 (rT 3), (some (62, true)), none⟩,
  ⟨(some 64), oLoad1 (rT 63), (some (62, true)), none⟩,
  ⟨(some 65), oBinBy (cmpBy .leq cLeq) (.tmp 64) (.const (.int .i64 6)), (some (62, true)), none⟩,
  ⟨(some 66), oPick (rT 62) (rT 65) (rC (.bool false)), none, none⟩,
  ⟨(some 67), oMv (rT 66), none, none⟩,
  ⟨(some 68), oFieldAddr 3 (rT 3), (some (67, true)), none⟩,
  ⟨(some 69), oLoad1 (rT 68), (some (67, true)), none⟩,
  ⟨(some 70), oLenS 233 (rT 69), (some (67, true)), none⟩,
  ⟨(some 71), oBinBy (cmpBy .eql cEql) (.tmp 70) (.const (.int .i64 0)), (some (67, true)), none⟩,
  ⟨(some 72), oPick (rT 67) (rT 71) (rC (.bool false)), none, none⟩,
  ⟨(some 73), oMv (rT 72), none, none⟩,
  ⟨(some 74), oFieldAddr 4 (rT 3), (some (73, true)), none⟩,
  ⟨(some 75), oLoad1 (rT 74), (some (73, true)), none⟩,
  ⟨(some 76), oLenS 5 (rT 75), (some (73, true)), none⟩,
  ⟨(some 77), oFieldAddr 0 (rT 2), (some (73, true)), none⟩,
  ⟨(some 78), oLoad1 (rT 77), (some (73, true)), none⟩,
  ⟨(some 79), oBinBy (arithBy .mul nMul) (.const (.int .i64 8)) (.tmp 78), (some (73, true)), none⟩,
  ⟨(some 80), oBinBy (cmpBy .leq cLeq) (.tmp 76) (.tmp 79), (some (73, true)), none⟩,
  ⟨(some 81), oPick (rT 73) (rT 80) (rC (.bool false)), none, none⟩,
  ⟨(some 4), oMv (rT 81), none, none⟩])
 .ret)
 .skip))))))
 (.seq (.region [⟨(some 4), oMv (rC (.bool false)), none, none⟩])
 .ret)))))⟩
def c103 : FFunc := ⟨[.tmp 4], (.seq (.region [⟨(some 2), oBox (.tmp 0), none, none⟩,
  ⟨(some 4), oMv (rC (.pointer none)), none, none⟩])
 (.seq (.region [⟨(some 8), oLoadN 2 (rT 2), none, none⟩,
  ⟨(some 9), oMv (rT 1), none, none⟩,
  ⟨(some 10), oCall 133 [(.tmp 8), (.tmp 9)], none, none⟩,
  ⟨(some 7), oMv (rT 10), none, none⟩,
  ⟨(some 11), oExtract (rT 7) 0, none, none⟩,
  ⟨(some 12), oExtract (rT 7) 1, none, none⟩,
  ⟨(some 5), oMv (rT 11), none, none⟩,
  ⟨(some 6), oMv (rT 12), none, none⟩])
 (.seq (.seq (.region [⟨(some 13), oMv (rT 6), none, none⟩,
  ⟨(some 14), oUn .not (.tmp 13), none, none⟩])
 (.cond (.tmp 14) (.seq (.region [⟨(some 4), oMv (rC (.pointer none)), none, none⟩])
 .ret)
 .skip))
 (.seq (.region [⟨(some 15), oFieldAddr 1 (rT 2), none, none⟩,
  ⟨(some 16), oLoad1 (rT 15), none, none⟩,
  ⟨(some 17), oMv (rT 5), none, none⟩,
  ⟨(some 18), oIndexAddr 5 (rT 16) (rT 17), none, none⟩,
  ⟨(some 4), oMv (rT 18), none, none⟩])
 .ret))))⟩
def c104 : FFunc := ⟨[.tmp 2], (.seq (.region [⟨(some 2), oMv (rC (.bool false)), none, none⟩])
 (.seq (.region [⟨(some 3), oMv (rT 0), none, none⟩,
  ⟨(some 4), oMv (rT 0), none, none⟩,
  ⟨(some 5), oBinBy (cmpBy .neq cNeq) (.tmp 3) (.tmp 4), none, none⟩,
  ⟨(some 2), oMv (rT 5), none, none⟩])
 .ret))⟩
def c105 : FFunc := ⟨[.tmp 2], (.seq (.region [⟨(some 2), oMv (rC (.bool false)), none, none⟩])
 (.seq (.region [⟨(some 3), oMv (rT 0), none, none⟩,
  ⟨(some 4), oMv (rT 0), none, none⟩,
  ⟨(some 5), oBinBy (cmpBy .neq cNeq) (.tmp 3) (.tmp 4), none, none⟩,
  ⟨(some 2), oMv (rT 5), none, none⟩])
 .ret))⟩
def c106 : FFunc := ⟨[.tmp 2], (.seq (.region [⟨(some 2), oMv (rC (.bool false)), none, none⟩])
 (.seq (.region [⟨(some 3), oMv (rT 0), none, none⟩,
  ⟨(some 4), oMv (rT 0), none, none⟩,
  ⟨(some 5), oBinBy (cmpBy .neq cNeq) (.tmp 3) (.tmp 4), none, none⟩,
  ⟨(some 2), oMv (rT 5), none, none⟩])
 .ret))⟩
def c107 : FFunc := ⟨[.tmp 4], (.seq (.region [⟨(some 3), oBox (.tmp 1), none, none⟩,
  ⟨(some 4), oMv (rC (.slice none 0 0)), none, none⟩])
 (.seq (.region [⟨(some 5), oMv (rT 0), none, none⟩,
  ⟨(some 6), oCall 28 [(.tmp 5)], none, none⟩,
  ⟨(some 7), oMkFunc (.func 135) [] [(.tmp 3)], none, none⟩,
  ⟨(some 8), oCall 134 [(.tmp 6), (.tmp 7)], none, none⟩,
  ⟨(some 4), oMv (rT 8), none, none⟩])
 .ret))⟩
def c108 : FFunc := ⟨[.tmp 4], (.seq (.region [⟨(some 4), oMv (rC (.int .i64 0)), none, none⟩])
 (.seq (.seq (.region [⟨(some 6), oMv (rT 0), none, none⟩,
  ⟨(some 7), oLenS 88 (rT 6), none, none⟩,
  ⟨(some 8), oMv (rC (.int .i64 0)), none, none⟩])
 (.block 0 (.loop (.seq (.region [⟨(some 9), oBinBy (cmpBy .lss cLss) (.tmp 8) (.tmp 7), none, none⟩])
 (.seq (.cond (.tmp 9) .skip
 (.exit 0))
 (.seq (.block 1 (.seq (.region [⟨(some 10), oMv (rT 8), none, none⟩,
  ⟨(some 5), oMv (rT 10), none, none⟩])
 (.seq (.region [⟨(some 11), oMv (rT 1), none, none⟩,
  ⟨(some 12), oMv (rT 0), none, none⟩,
  ⟨(some 13), oMv (rT 5), none, none⟩,
  ⟨(some 14), oIndexAddr 5 (rT 12) (rT 13), none, none⟩,
  ⟨(some 15), oLoadN 5 (rT 14), none, none⟩,
  ⟨(some 16), oCallV (.tmp 11) [(.tmp 15)], none, none⟩])
 (.cond (.tmp 16) (.seq (.region [⟨(some 17), oMv (rT 5), none, none⟩,
  ⟨(some 4), oMv (rT 17), none, none⟩])
 .ret)
 .skip))))
 (.region [⟨(some 18), oBinBy (arithBy .add nAdd) (.tmp 8) (.const (.int .i64 1)), none, none⟩,
  ⟨(some 8), oMv (rT 18), none, none⟩])))))))
 (.seq (.region [⟨(some 4), oMv (rC (.int .i64 (-1))), none, none⟩])
 .ret)))⟩
def c109 : FFunc := ⟨[.tmp 2], (.seq (.region [⟨(some 2), oMv (rC (.pointer none)), none, none⟩])
 (.seq (.seq (.region [⟨(some 3), oMv (rT 0), none, none⟩,
  ⟨(some 4), oCall 41 [(.tmp 3)], none, none⟩])
 (.cond (.tmp 4) (.seq (.region [⟨(some 2), oMv (rC (.pointer none)), none, none⟩])
 .ret)
 .skip))
 (.seq (.region [⟨(some 5), oMv (rT 0), none, none⟩,
  ⟨(some 6), oNilCheck (rT 5), none, none⟩,
  ⟨(some 7), oFieldAddr 0 (rT 6), none, none⟩,
  ⟨(some 8), oLoad1 (rT 7), none, none⟩,
  ⟨(some 2), oMv (rT 8), none, none⟩])
 .ret)))⟩

end
end Go.Ads
