/- Part AdsK of the proof. -/
import Derived.Test.YtfcfdmpgmnnfeaaGreatDoorAdsJ
set_option linter.unusedSimpArgs false
set_option linter.unusedVariables false
namespace Go.Ads
noncomputable section
def c110 : FFunc := ⟨[.tmp 4, .tmp 5], (.seq (.region [⟨(some 4), oMv (rC (.slice none 0 0)), none, none⟩,
  ⟨(some 5), oMv (rC (.int .i64 0)), none, none⟩])
 (.seq (.region [⟨(some 18), oMv (rT 0), none, none⟩,
  ⟨(some 19), oMv (rT 1), none, none⟩,
  ⟨(some 20), oCall 136 [(.tmp 18), (.tmp 19)], none, none⟩,
  ⟨(some 17), oMv (rT 20), none, none⟩,
  ⟨(some 21), oExtract (rT 17) 0, none, none⟩,
  ⟨(some 22), oExtract (rT 17) 1, none, none⟩,
  ⟨(some 6), oMv (rT 21), none, none⟩,
  ⟨(some 7), oMv (rT 22), none, none⟩])
 (.seq (.seq (.region [⟨(some 23), oMv (rT 7), none, none⟩,
  ⟨(some 24), oBinBy (cmpBy .neq cNeq) (.tmp 23) (.const (.int .i64 0)), none, none⟩])
 (.cond (.tmp 24) (.seq (.region [⟨(some 25), oMv (rT 7), none, none⟩,
  ⟨(some 4), oMv (rC (.slice none 0 0)), none, none⟩,
  ⟨(some 5), oMv (rT 25), none, none⟩])
 .ret)
 .skip))
 (.seq (.region [⟨(some 8), oMv (rC (.slice none 0 0)), none, none⟩])
 (.seq (.seq (.region [⟨(some 26), oMv (rT 1), none, none⟩,
  ⟨(some 27), oLenS 106 (rT 26), none, none⟩,
  ⟨(some 28), oMv (rC (.int .i64 0)), none, none⟩])
 (.block 0 (.loop (.seq (.region [⟨(some 29), oBinBy (cmpBy .lss cLss) (.tmp 28) (.tmp 27), none, none⟩])
 (.seq (.cond (.tmp 29) .skip
 (.exit 0))
 (.seq (.block 1 (.seq (.region [⟨(some 30), oIndexAddr 5 (rT 26) (rT 28), none, none⟩,
  ⟨(some 31), oLoadN 5 (rT 30), none, none⟩,
  ⟨(some 10), oAlloc [(.int .i64 0), (.int .u8 0), (.string ⟨#[]⟩), (.int .i64 0), (.slice none 0 0)], none, (some [(.int .i64 0), (.int .u8 0), (.string ⟨#[]⟩), (.int .i64 0), (.slice none 0 0)])⟩,
  ⟨none, oStore 5 (rT 10) (rT 31), none, none⟩])
 (.region [⟨(some 32), oMv (rT 8), none, none⟩,
  ⟨(some 33), oFieldAddr 0 (rT 10), none, none⟩,
  ⟨(some 34), oLoadN 4 (rT 33), none, none⟩,
  ⟨(some 35), oFieldAddr 4 (rT 10), none, none⟩,
  ⟨(some 36), oLoad1 (rT 35), none, none⟩,
  ⟨(some 37), oBuild #[(.int .i64 0), (.int .u8 0), (.string ⟨#[]⟩), (.int .i64 0), (.slice none 0 0), (.bool false)] [(0, 4), (4, 1), (5, 1)] [(0, (.tmp 34)), (1, (.tmp 36))], none, none⟩,
  ⟨(some 38), oBuildSlice false 6 1 [(.int .i64 0), (.int .u8 0), (.string ⟨#[]⟩), (.int .i64 0), (.slice none 0 0), (.bool false)] [(0, (.tmp 37))], none, none⟩,
  ⟨(some 39), oAppend 6 72 (.tmp 32) (.tmp 38), none, none⟩,
  ⟨(some 8), oMv (rT 39), none, none⟩])))
 (.region [⟨(some 40), oBinBy (arithBy .add nAdd) (.tmp 28) (.const (.int .i64 1)), none, none⟩,
  ⟨(some 28), oMv (rT 40), none, none⟩])))))))
 (.seq (.region [⟨(some 11), oMv (rC (.slice none 0 0)), none, none⟩])
 (.seq (.seq (.region [⟨(some 41), oMv (rT 6), none, none⟩,
  ⟨(some 42), oLenS 3 (rT 41), none, none⟩,
  ⟨(some 43), oMv (rC (.int .i64 0)), none, none⟩])
 (.block 2 (.loop (.seq (.region [⟨(some 44), oBinBy (cmpBy .lss cLss) (.tmp 43) (.tmp 42), none, none⟩])
 (.seq (.cond (.tmp 44) .skip
 (.exit 2))
 (.seq (.block 3 (.seq (.region [⟨(some 45), oMv (rT 43), none, none⟩,
  ⟨(some 46), oIndexAddr 1 (rT 41) (rT 43), none, none⟩,
  ⟨(some 47), oLoad1 (rT 46), none, none⟩,
  ⟨(some 12), oMv (rT 45), none, none⟩,
  ⟨(some 13), oMv (rT 47), none, none⟩])
 (.seq (.region [⟨(some 48), oMv (rT 1), none, none⟩,
  ⟨(some 49), oLenS 106 (rT 48), none, none⟩,
  ⟨(some 14), oMv (rT 49), none, none⟩])
 (.seq (.seq (.region [⟨(some 50), oMv (rT 12), none, none⟩,
  ⟨(some 51), oBinBy (arithBy .add nAdd) (.tmp 50) (.const (.int .i64 1)), none, none⟩,
  ⟨(some 52), oMv (rT 6), none, none⟩,
  ⟨(some 53), oLenS 3 (rT 52), none, none⟩,
  ⟨(some 54), oBinBy (cmpBy .lss cLss) (.tmp 51) (.tmp 53), none, none⟩])
 (.cond (.tmp 54) (.region [⟨(some 55), oMv (rT 6), none, none⟩,
  ⟨(some 56), oMv (rT 12), none, none⟩,
  ⟨(some 57), oBinBy (arithBy .add nAdd) (.tmp 56) (.const (.int .i64 1)), none, none⟩,
  ⟨(some 58), oIndexAddr 1 (rT 55) (rT 57), none, none⟩,
  ⟨(some 59), oLoad1 (rT 58), none, none⟩,
  ⟨(some 14), oMv (rT 59), none, none⟩])
 .skip))
 (.seq (.region [⟨(some 61), oMv (rT 0), none, none⟩,
  ⟨(some 62), oMv (rT 8), none, none⟩,
  ⟨(some 63), oMv (rT 13), none, none⟩,
  ⟨(some 64), oMv (rT 14), none, none⟩,
  ⟨(some 65), oMv (rT 14), none, none⟩,
  ⟨(some 66), oSlice 6 (.tmp 62) (some (.tmp 63)) (some (.tmp 64)) (some (.tmp 65)), none, none⟩,
  ⟨(some 67), oCall 137 [(.tmp 61), (.tmp 66)], none, none⟩,
  ⟨(some 60), oMv (rT 67), none, none⟩,
  ⟨(some 68), oExtract (rT 60) 0, none, none⟩,
  ⟨(some 69), oExtract (rT 60) 1, none, none⟩,
  ⟨(some 15), oMv (rT 68), none, none⟩,
  ⟨(some 16), oMv (rT 69), none, none⟩])
 (.seq (.seq (.region [⟨(some 70), oMv (rT 16), none, none⟩,
  ⟨(some 71), oBinBy (cmpBy .neq cNeq) (.tmp 70) (.const (.int .i64 0)), none, none⟩])
 (.cond (.tmp 71) (.seq (.region [⟨(some 72), oMv (rT 16), none, none⟩,
  ⟨(some 4), oMv (rC (.slice none 0 0)), none, none⟩,
  ⟨(some 5), oMv (rT 72), none, none⟩])
 .ret)
 .skip))
 (.region [⟨(some 73), oMv (rT 11), none, none⟩,
  ⟨(some 74), oMv (rT 15), none, none⟩,
  ⟨(some 75), oBuildSlice false 1 1 [(.slice none 0 0)] [(0, (.tmp 74))], none, none⟩,
  ⟨(some 76), oAppend 1 24 (.tmp 73) (.tmp 75), none, none⟩,
  ⟨(some 11), oMv (rT 76), none, none⟩])))))))
 (.region [⟨(some 77), oBinBy (arithBy .add nAdd) (.tmp 43) (.const (.int .i64 1)), none, none⟩,
  ⟨(some 43), oMv (rT 77), none, none⟩])))))))
 (.seq (.region [⟨(some 78), oMv (rT 11), none, none⟩,
  ⟨(some 4), oMv (rT 78), none, none⟩,
  ⟨(some 5), oMv (rC (.int .i64 0)), none, none⟩])
 .ret))))))))⟩
def c111 : FFunc := ⟨[.tmp 2], (.seq (.region [⟨(some 2), oMv (rC (.int .i64 0)), none, none⟩])
 (.seq (.region [⟨(some 4), oLoad1 (rT 0), none, none⟩,
  ⟨(some 5), oCall 112 [(.tmp 4)], none, none⟩,
  ⟨(some 3), oMv (rT 5), none, none⟩])
 (.seq (.region [⟨(some 6), oLoad1 (rT 0), none, none⟩,
  ⟨(some 7), oNilCheck (rT 6), none, none⟩,
  ⟨(some 8), oFieldAddr 0 (rT 7), none, none⟩,
  ⟨(some 9), oLoad1 (rT 8), none, none⟩,
  ⟨(some 10), oCall 113 [(.tmp 9)], none, none⟩,
  ⟨none, oStore 1 (rT 1) (rT 10), none, none⟩])
 (.seq (.region [⟨(some 11), oMv (rT 3), none, none⟩,
  ⟨(some 2), oMv (rT 11), none, none⟩])
 .ret))))⟩
def c112 : FFunc := ⟨[.tmp 2], (.seq (.region [⟨(some 2), oMv (rC (.int .i64 0)), none, none⟩])
 (.seq (.draw [⟨(some 6), oMv (rT 0), none, none⟩,
  ⟨(some 7), oNilCheck (rT 6), none, none⟩,
  ⟨(some 8), oFieldAddr 0 (rT 7), none, none⟩,
  ⟨(some 9), oLoad1 (rT 8), none, none⟩,
  ⟨(some 10), oMv (rT 0), none, none⟩,
  ⟨(some 11), oNilCheck (rT 10), none, none⟩,
  ⟨(some 12), oFieldAddr 1 (rT 11), none, none⟩,
  ⟨(some 13), oLoad1 (rT 12), none, none⟩,
  ⟨(some 14), oCall 138 [(.tmp 9), (.const (.int .u8 1)), (.tmp 13)], none, none⟩,
  ⟨(some 5), oMv (rT 14), none, none⟩,
  ⟨(some 15), oExtract (rT 5) 0, none, none⟩,
  ⟨(some 16), oExtract (rT 5) 1, none, none⟩,
  ⟨(some 3), oMv (rT 15), none, none⟩,
  ⟨(some 4), oMv (rT 16), none, none⟩] 0 [])
 (.seq (.seq (.region [⟨(some 17), oMv (rT 4), none, none⟩,
  ⟨(some 18), oBinBy (cmpBy .eql cEql) (.tmp 17) (.const (.int .i64 0)), none, none⟩])
 (.cond (.tmp 18) (.region [⟨(some 19), oMv (rT 0), none, none⟩,
  ⟨(some 20), oMv (rT 0), none, none⟩,
  ⟨(some 21), oMv (rT 3), none, none⟩,
  ⟨(some 22), oNilCheck (rT 19), none, none⟩,
  ⟨(some 23), oFieldAddr 3 (rT 22), none, none⟩,
  ⟨none, oStore 1 (rT 23) (rT 21), none, none⟩,
  ⟨(some 24), oNilCheck (rT 20), none, none⟩,
  ⟨(some 25), oFieldAddr 4 (rT 24), none, none⟩,
  ⟨none, oStore 1 (rT 25) (rC (.int .i64 1)), none, none⟩])
 .skip))
 (.seq (.region [⟨(some 26), oMv (rT 4), none, none⟩,
  ⟨(some 2), oMv (rT 26), none, none⟩])
 .ret))))⟩
def c113 : FFunc := ⟨[.tmp 2], (.seq (.region [⟨(some 2), oMv (rC (.int .u64 0)), none, none⟩])
 (.seq (.seq (.region [⟨(some 3), oMv (rT 0), none, none⟩,
  ⟨(some 4), oCall 41 [(.tmp 3)], none, none⟩])
 (.cond (.tmp 4) (.seq (.region [⟨(some 2), oMv (rC (.int .u64 0)), none, none⟩])
 .ret)
 .skip))
 (.seq (.region [⟨(some 5), oMv (rT 0), none, none⟩,
  ⟨(some 6), oNilCheck (rT 5), none, none⟩,
  ⟨(some 7), oFieldAddr 2 (rT 6), none, none⟩,
  ⟨(some 8), oLoad1 (rT 7), none, none⟩,
  ⟨(some 2), oMv (rT 8), none, none⟩])
 .ret)))⟩
def c114 : FFunc := ⟨[.tmp 2], (.seq (.region [⟨(some 2), oMv (rC (.int .i64 0)), none, none⟩])
 (.seq (.region [⟨(some 3), oLoad1 (rT 0), none, none⟩,
  ⟨(some 4), oLoad1 (rT 1), none, none⟩,
  ⟨(some 5), oCall 115 [(.tmp 3), (.tmp 4)], none, none⟩,
  ⟨(some 2), oMv (rT 5), none, none⟩])
 .ret))⟩
def c115 : FFunc := ⟨[.tmp 4], (.seq (.region [⟨(some 4), oMv (rC (.int .i64 0)), none, none⟩])
 (.seq (.region [⟨(some 8), oMv (rT 0), none, none⟩,
  ⟨(some 9), oNilCheck (rT 8), none, none⟩,
  ⟨(some 10), oFieldAddr 0 (rT 9), none, none⟩,
  ⟨(some 11), oLoad1 (rT 10), none, none⟩,
  ⟨(some 12), oCall 109 [(.tmp 11)], none, none⟩,
  ⟨(some 5), oMv (rT 12), none, none⟩])
 (.block 0 (.loop (.block 1 (.seq (.seq (.draw [⟨(some 13), oMv (rT 0), none, none⟩,
  ⟨(some 14), oNilCheck (rT 13), none, none⟩,
  ⟨(some 15), oFieldAddr 3 (rT 14), none, none⟩,
  ⟨(some 16), oLoad1 (rT 15), none, none⟩,
  ⟨(some 17), oBinBy (cmpBy .eql cEql) (.tmp 16) (.const (.int .i64 (-1))), none, none⟩,
  ⟨(some 18), oMv (rT 17), none, none⟩,
  ⟨(some 19), oMv (rT 0), (some (18, false)), none⟩,
  ⟨(some 20), oNilCheck (rT 19), (some (18, false)), none⟩,
  ⟨(some 21), oFieldAddr 4 (rT 20), (some (18, false)), none⟩,
  ⟨(some 22), oLoad1 (rT 21), (some (18, false)), none⟩,
  ⟨(some 23), oMv (rT 5), (some (18, false)), none⟩,
  ⟨(some 24), oCall 25 [(.tmp 23)], (some (18, false)), none⟩,
  ⟨(some 25), oField false 1 1 (.tmp 24), (some (18, false)), none⟩,
  ⟨(some 26), oBinBy (cmpBy .geq cGeq) (.tmp 22) (.tmp 25), (some (18, false)), none⟩,
  ⟨(some 27), oPick (rT 18) (rC (.bool true)) (rT 26), none, none⟩] 0 [(9, 11)])
 (.cond (.tmp 27) (.seq (.region [⟨(some 28), oMv (rT 0), none, none⟩,
  ⟨(some 29), oCall 112 [(.tmp 28)], none, none⟩,
  ⟨(some 6), oMv (rT 29), none, none⟩])
 (.seq (.region [⟨(some 30), oMv (rT 6), none, none⟩,
  ⟨(some 31), oBinBy (cmpBy .neq cNeq) (.tmp 30) (.const (.int .i64 0)), none, none⟩])
 (.cond (.tmp 31) (.seq (.region [⟨(some 32), oMv (rT 6), none, none⟩,
  ⟨(some 4), oMv (rT 32), none, none⟩])
 .ret)
 .skip)))
 .skip))
 (.seq (.draw [⟨(some 33), oMv (rT 5), none, none⟩,
  ⟨(some 34), oMv (rT 0), none, none⟩,
  ⟨(some 35), oNilCheck (rT 34), none, none⟩,
  ⟨(some 36), oFieldAddr 3 (rT 35), none, none⟩,
  ⟨(some 37), oLoad1 (rT 36), none, none⟩,
  ⟨(some 38), oMv (rT 0), none, none⟩,
  ⟨(some 39), oNilCheck (rT 38), none, none⟩,
  ⟨(some 40), oFieldAddr 4 (rT 39), none, none⟩,
  ⟨(some 41), oLoad1 (rT 40), none, none⟩,
  ⟨(some 42), oMv (rT 1), none, none⟩,
  ⟨(some 43), oCall 139 [(.tmp 33), (.tmp 37), (.tmp 41), (.tmp 42)], none, none⟩,
  ⟨(some 7), oMv (rT 43), none, none⟩] 0 [])
 (.seq (.region [⟨(some 44), oMv (rT 0), none, none⟩,
  ⟨(some 45), oNilCheck (rT 44), none, none⟩,
  ⟨(some 46), oFieldAddr 4 (rT 45), none, none⟩,
  ⟨(some 47), oLoad1 (rT 46), none, none⟩,
  ⟨(some 48), oBinBy (arithBy .add nAdd) (.tmp 47) (.const (.int .i64 1)), none, none⟩,
  ⟨(some 49), oNilCheck (rT 44), none, none⟩,
  ⟨(some 50), oFieldAddr 4 (rT 49), none, none⟩,
  ⟨none, oStore 1 (rT 50) (rT 48), none, none⟩])
 (.seq (.seq (.region [⟨(some 51), oMv (rT 7), none, none⟩,
  ⟨(some 52), oBinBy (cmpBy .neq cNeq) (.tmp 51) (.const (.int .i64 9)), none, none⟩])
 (.cond (.tmp 52) (.seq (.region [⟨(some 53), oMv (rT 7), none, none⟩,
  ⟨(some 4), oMv (rT 53), none, none⟩])
 .ret)
 .skip))
 (.region [⟨(some 54), oMv (rT 0), none, none⟩,
  ⟨(some 55), oNilCheck (rT 54), none, none⟩,
  ⟨(some 56), oFieldAddr 3 (rT 55), none, none⟩,
  ⟨none, oStore 1 (rT 56) (rC (.int .i64 (-1))), none, none⟩]))))))))))⟩
def c116 : FFunc := ⟨[.tmp 3], (.seq (.region [⟨(some 3), oMv (rC (.int .i64 0)), none, none⟩])
 (.seq (.region [⟨(some 7), oLoad1 (rT 0), none, none⟩,
  ⟨(some 8), oLoad1 (rT 1), none, none⟩,
  ⟨(some 9), oCall 117 [(.tmp 7), (.tmp 8)], none, none⟩,
  ⟨(some 6), oMv (rT 9), none, none⟩,
  ⟨(some 10), oExtract (rT 6) 0, none, none⟩,
  ⟨(some 11), oExtract (rT 6) 1, none, none⟩,
  ⟨(some 4), oMv (rT 10), none, none⟩,
  ⟨(some 5), oMv (rT 11), none, none⟩])
 (.seq (.region [⟨(some 12), oLoad1 (rT 2), none, none⟩,
  ⟨(some 13), oMv (rT 4), none, none⟩,
  ⟨(some 14), oCall 115 [(.tmp 12), (.tmp 13)], none, none⟩,
  ⟨(some 3), oMv (rT 14), none, none⟩])
 .ret)))⟩
def c117 : FFunc := ⟨[.tmp 4, .tmp 5], (.seq (.region [⟨(some 4), oMv (rC (.slice none 0 0)), none, none⟩,
  ⟨(some 5), oMv (rC (.int .i64 0)), none, none⟩])
 (.seq (.seq (.region [⟨(some 8), oMv (rT 1), none, none⟩,
  ⟨(some 9), oBinBy (cmpBy .eql cEql) (.tmp 8) (.const (.int .u64 0)), none, none⟩])
 (.cond (.tmp 9) (.seq (.region [⟨(some 4), oMv (rC (.slice none 0 0)), none, none⟩,
  ⟨(some 5), oMv (rC (.int .i64 2)), none, none⟩])
 .ret)
 .skip))
 (.seq (.region [⟨(some 11), oMv (rT 1), none, none⟩,
  ⟨(some 12), oCall 89 [(.tmp 11), (.const (.int .i64 8))], none, none⟩,
  ⟨(some 10), oMv (rT 12), none, none⟩,
  ⟨(some 13), oExtract (rT 10) 0, none, none⟩,
  ⟨(some 14), oExtract (rT 10) 1, none, none⟩,
  ⟨(some 6), oMv (rT 13), none, none⟩,
  ⟨(some 7), oMv (rT 14), none, none⟩])
 (.seq (.region [⟨(some 15), oMv (rT 0), none, none⟩,
  ⟨(some 16), oMv (rT 6), none, none⟩,
  ⟨(some 17), oCall 90 [(.tmp 15), (.const (.int .u8 3)), (.tmp 16)], none, none⟩,
  ⟨(some 18), oExtract (rT 17) 0, none, none⟩,
  ⟨(some 19), oExtract (rT 17) 1, none, none⟩,
  ⟨(some 4), oMv (rT 18), none, none⟩,
  ⟨(some 5), oMv (rT 19), none, none⟩])
 .ret))))⟩
def c118 : FFunc := ⟨[.tmp 4], (.seq (.region [⟨(some 4), oMv (rC (.int .i64 0)), none, none⟩])
 (.seq (.block 0 (.seq (.region [⟨(some 7), oMv (rT 0), none, none⟩,
  ⟨(some 8), oCall 41 [(.tmp 7)], none, none⟩,
  ⟨(some 6), oMv (rT 8), none, none⟩])
 (.cond (.tmp 6) (.seq (.region [⟨(some 4), oMv (rC (.int .i64 1)), none, none⟩])
 .ret)
 (.seq (.region [⟨(some 10), oMv (rT 1), none, none⟩,
  ⟨(some 11), oBinBy (cmpBy .lss cLss) (.tmp 10) (.const (.int .i64 0)), none, none⟩,
  ⟨(some 12), oMv (rT 11), none, none⟩,
  ⟨(some 13), oMv (rT 1), (some (12, false)), none⟩,
  ⟨(some 14), oMv (rT 0), (some (12, false)), none⟩,
  ⟨(some 15), oNilCheck (rT 14), (some (12, false)), none⟩,
  ⟨(some 16), oFieldAddr 1 (rT 15), (some (12, false)), none⟩,
  ⟨(some 17), oLoad1 (rT 16), (some (12, false)), none⟩,
  ⟨(some 18), oLenS 84 (rT 17), (some (12, false)), none⟩,
  ⟨(some 19), oBinBy (cmpBy .geq cGeq) (.tmp 13) (.tmp 18), (some (12, false)), none⟩,
  ⟨(some 20), oPick (rT 12) (rC (.bool true)) (rT 19), none, none⟩,
  ⟨(some 21), oMv (rT 20), none, none⟩,
  ⟨(some 22), oMv (rT 0), (some (21, false)), none⟩,
  ⟨(some 23), oNilCheck (rT 22), (some (21, false)), none⟩,
  ⟨(some 24), oFieldAddr 1 (rT 23), (some (21, false)), none⟩,
  ⟨(some 25), oLoad1 (rT 24), (some (21, false)), none⟩,
  ⟨(some 26), oMv (rT 1), (some (21, false)), none⟩,
  ⟨(some 27), oIndexAddr 4 (rT 25) (rT 26), (some (21, false)), none⟩,
  ⟨(some 28), oFieldAddr 0 (rT 27), (some (21, false)), none⟩,
  ⟨(some 29), oLoad1 (rT 28), (some (21, false)), none⟩,
  ⟨(some 30), oBinBy (cmpBy .neq cNeq) (.tmp 29) (.const (.int .i64 2)), (some (21, false)), none⟩,
  ⟨(some 31), oPick (rT 21) (rC (.bool true)) (rT 30), none, none⟩,
  ⟨(some 32), oMv (rT 31), none, none⟩,
  ⟨(some 33), oMv (rT 0), (some (32, false)), none⟩,
  ⟨(some 34), oNilCheck (rT 33), (some (32, false)), none⟩,
  ⟨(some 35), oFieldAddr 0 (rT 34), (some (32, false)), none⟩,
  ⟨(some 36), oLoad1 (rT 35), (some (32, false)), none⟩,
  ⟨(some 37), oMv (rT 1), (some (32, false)), none⟩,
  ⟨(some 38), oCall 42 [(.tmp 36), (.tmp 37)], (some (32, false)), none⟩,
  ⟨(some 39), oPick (rT 32) (rC (.bool true)) (rT 38), none, none⟩,
  ⟨(some 9), oMv (rT 39), none, none⟩])
 (.cond (.tmp 9) (.seq (.region [⟨(some 4), oMv (rC (.int .i64 12)), none, none⟩])
 .ret)
 .skip)))))
 (.seq (.region [⟨(some 40), oMv (rT 0), none, none⟩,
  ⟨(some 41), oNilCheck (rT 40), none, none⟩,
  ⟨(some 42), oFieldAddr 0 (rT 41), none, none⟩,
  ⟨(some 43), oLoad1 (rT 42), none, none⟩,
  ⟨(some 44), oMv (rT 1), none, none⟩,
  ⟨(some 45), oCall 9 [(.tmp 43), (.tmp 44)], none, none⟩,
  ⟨(some 5), oMv (rT 45), none, none⟩])
 (.seq (.region [⟨(some 46), oMv (rT 0), none, none⟩,
  ⟨(some 47), oMv (rT 1), none, none⟩,
  ⟨(some 48), oCall 27 [(.tmp 46), (.tmp 47)], none, none⟩])
 (.seq (.seq (.region [⟨(some 49), oMv (rT 5), none, none⟩,
  ⟨(some 50), oBinBy (cmpBy .eql cEql) (.tmp 49) (.const (.int .i64 9)), none, none⟩])
 (.cond (.tmp 50) (.region [⟨(some 5), oMv (rC (.int .i64 0)), none, none⟩])
 .skip))
 (.seq (.region [⟨(some 51), oMv (rT 5), none, none⟩,
  ⟨(some 4), oMv (rT 51), none, none⟩])
 .ret))))))⟩
def c119 : FFunc := ⟨[.cells 2 4, .tmp 3], (.seq (.region [⟨(some 2), oAlloc [(.int .u64 0), (.int .i64 0), (.int .i64 0), (.int .i64 0)], none, (some [(.int .u64 0), (.int .i64 0), (.int .i64 0), (.int .i64 0)])⟩,
  ⟨(some 3), oMv (rC (.int .i64 0)), none, none⟩])
 (.seq (.region [⟨(some 11), oMv (rT 0), none, none⟩,
  ⟨(some 12), oCall 57 [(.tmp 11)], none, none⟩,
  ⟨(some 4), oMv (rT 12), none, none⟩])
 (.seq (.region [⟨(some 5), oAlloc [(.int .u64 0), (.int .u64 0), (.int .u64 0), (.int .u64 0)], none, (some [(.int .u64 0), (.int .u64 0), (.int .u64 0), (.int .u64 0)])⟩])
 (.seq (.seq (.region [⟨(some 13), oBuildArr #[(.int .i64 0), (.int .i64 0), (.int .i64 0), (.int .i64 0)] 1 [(0, (.const (.int .i64 8))), (1, (.const (.int .i64 1))), (2, (.const (.int .i64 1))), (3, (.const (.int .i64 2)))], none, none⟩,
  ⟨(some 14), oMv (rC (.int .i64 0)), none, none⟩])
 (.block 0 (.loop (.seq (.region [⟨(some 15), oBinBy (cmpBy .lss cLss) (.tmp 14) (.const (.int .i64 4)), none, none⟩])
 (.seq (.cond (.tmp 15) .skip
 (.exit 0))
 (.seq (.block 1 (.seq (.region [⟨(some 16), oMv (rT 14), none, none⟩,
  ⟨(some 17), oIndexA false 4 1 (.tmp 13) (.tmp 14), none, none⟩,
  ⟨(some 6), oMv (rT 16), none, none⟩,
  ⟨(some 7), oMv (rT 17), none, none⟩])
 (.seq (.region [⟨(some 19), oMv (rT 4), none, none⟩,
  ⟨(some 20), oMv (rT 7), none, none⟩,
  ⟨(some 21), oCall 58 [(.tmp 19), (.tmp 20)], none, none⟩,
  ⟨(some 18), oMv (rT 21), none, none⟩,
  ⟨(some 22), oExtract (rT 18) 0, none, none⟩,
  ⟨(some 23), oExtract (rT 18) 1, none, none⟩,
  ⟨(some 8), oMv (rT 22), none, none⟩,
  ⟨(some 9), oMv (rT 23), none, none⟩])
 (.seq (.seq (.region [⟨(some 24), oMv (rT 9), none, none⟩,
  ⟨(some 25), oBinBy (cmpBy .neq cNeq) (.tmp 24) (.const (.int .i64 0)), none, none⟩])
 (.cond (.tmp 25) (.seq (.region [⟨(some 26), oBuild #[(.int .u64 0), (.int .i64 0), (.int .i64 0), (.int .i64 0)] [(0, 1), (1, 1), (2, 1), (3, 1)] [], none, none⟩,
  ⟨(some 27), oMv (rT 9), none, none⟩,
  ⟨none, oStore 4 (rT 2) (rT 26), none, none⟩,
  ⟨(some 3), oMv (rT 27), none, none⟩])
 .ret)
 .skip))
 (.region [⟨(some 28), oMv (rT 6), none, none⟩,
  ⟨(some 29), oMv (rT 8), none, none⟩,
  ⟨(some 30), oIndexAddrA 4 1 (.tmp 5) (.tmp 28), none, none⟩,
  ⟨none, oStore 1 (rT 30) (rT 29), none, none⟩])))))
 (.region [⟨(some 31), oBinBy (arithBy .add nAdd) (.tmp 14) (.const (.int .i64 1)), none, none⟩,
  ⟨(some 14), oMv (rT 31), none, none⟩])))))))
 (.seq (.region [⟨(some 32), oIndexAddrA 4 1 (.tmp 5) (.const (.int .i64 0)), none, none⟩,
  ⟨(some 33), oLoad1 (rT 32), none, none⟩,
  ⟨(some 34), oIndexAddrA 4 1 (.tmp 5) (.const (.int .i64 1)), none, none⟩,
  ⟨(some 35), oLoad1 (rT 34), none, none⟩,
  ⟨(some 36), oToInt .i64 (.tmp 35), none, none⟩,
  ⟨(some 37), oIndexAddrA 4 1 (.tmp 5) (.const (.int .i64 2)), none, none⟩,
  ⟨(some 38), oLoad1 (rT 37), none, none⟩,
  ⟨(some 39), oToInt .i64 (.tmp 38), none, none⟩,
  ⟨(some 40), oIndexAddrA 4 1 (.tmp 5) (.const (.int .i64 3)), none, none⟩,
  ⟨(some 41), oLoad1 (rT 40), none, none⟩,
  ⟨(some 42), oToInt .i64 (.tmp 41), none, none⟩,
  ⟨(some 43), oBuild #[(.int .u64 0), (.int .i64 0), (.int .i64 0), (.int .i64 0)] [(0, 1), (1, 1), (2, 1), (3, 1)] [(0, (.tmp 33)), (1, (.tmp 36)), (2, (.tmp 39)), (3, (.tmp 42))], none, none⟩,
  ⟨(some 10), oAlloc [(.int .u64 0), (.int .i64 0), (.int .i64 0), (.int .i64 0)], none, (some [(.int .u64 0), (.int .i64 0), (.int .i64 0), (.int .i64 0)])⟩,
  ⟨none, oStore 4 (rT 10) (rT 43), none, none⟩])
 (.seq (.seq (.region [⟨(some 44), oLoadN 4 (rT 10), none, none⟩,
  ⟨(some 45), oCall 140 [(.tmp 44)], none, none⟩,
  ⟨(some 46), oUn .not (.tmp 45), none, none⟩,
  ⟨(some 47), oMv (rT 46), none, none⟩,
  ⟨(some 48), oMv (rT 4), (some (47, false)), none⟩,
  ⟨(some 49), oCall 141 [(.tmp 48)], (some (47, false)), none⟩,
  ⟨(some 50), oBinBy (cmpBy .gtr cGtr) (.tmp 49) (.const (.int .i64 0)), (some (47, false)), none⟩,
  ⟨(some 51), oPick (rT 47) (rC (.bool true)) (rT 50), none, none⟩])
 (.cond (.tmp 51) (.seq (.region [⟨(some 52), oBuild #[(.int .u64 0), (.int .i64 0), (.int .i64 0), (.int .i64 0)] [(0, 1), (1, 1), (2, 1), (3, 1)] [], none, none⟩,
  ⟨none, oStore 4 (rT 2) (rT 52), none, none⟩,
  ⟨(some 3), oMv (rC (.int .i64 5)), none, none⟩])
 .ret)
 .skip))
 (.seq (.region [⟨(some 53), oLoadN 4 (rT 10), none, none⟩,
  ⟨none, oStore 4 (rT 2) (rT 53), none, none⟩,
  ⟨(some 3), oMv (rC (.int .i64 0)), none, none⟩])
 .ret)))))))⟩
def c120 : FFunc := ⟨[.tmp 4, .tmp 5], (.seq (.region [⟨(some 3), oBox (.tmp 1), none, none⟩,
  ⟨(some 4), oMv (rC (.slice none 0 0)), none, none⟩,
  ⟨(some 5), oMv (rC (.int .i64 0)), none, none⟩])
 (.seq (.seq (.region [⟨(some 6), oLoadN 4 (rT 3), none, none⟩,
  ⟨(some 7), oCall 140 [(.tmp 6)], none, none⟩,
  ⟨(some 8), oUn .not (.tmp 7), none, none⟩])
 (.cond (.tmp 8) (.seq (.region [⟨(some 4), oMv (rC (.slice none 0 0)), none, none⟩,
  ⟨(some 5), oMv (rC (.int .i64 2)), none, none⟩])
 .ret)
 .skip))
 (.seq (.region [⟨(some 9), oMv (rT 0), none, none⟩,
  ⟨(some 10), oFieldAddr 0 (rT 3), none, none⟩,
  ⟨(some 11), oLoad1 (rT 10), none, none⟩,
  ⟨(some 12), oBuild #[(.int .u64 0), (.int .i64 0)] [(0, 1), (1, 1)] [(0, (.tmp 11)), (1, (.const (.int .i64 8)))], none, none⟩,
  ⟨(some 13), oFieldAddr 1 (rT 3), none, none⟩,
  ⟨(some 14), oLoad1 (rT 13), none, none⟩,
  ⟨(some 15), oToInt .u64 (.tmp 14), none, none⟩,
  ⟨(some 16), oBuild #[(.int .u64 0), (.int .i64 0)] [(0, 1), (1, 1)] [(0, (.tmp 15)), (1, (.const (.int .i64 1)))], none, none⟩,
  ⟨(some 17), oFieldAddr 2 (rT 3), none, none⟩,
  ⟨(some 18), oLoad1 (rT 17), none, none⟩,
  ⟨(some 19), oToInt .u64 (.tmp 18), none, none⟩,
  ⟨(some 20), oBuild #[(.int .u64 0), (.int .i64 0)] [(0, 1), (1, 1)] [(0, (.tmp 19)), (1, (.const (.int .i64 1)))], none, none⟩,
  ⟨(some 21), oFieldAddr 3 (rT 3), none, none⟩,
  ⟨(some 22), oLoad1 (rT 21), none, none⟩,
  ⟨(some 23), oToInt .u64 (.tmp 22), none, none⟩,
  ⟨(some 24), oBuild #[(.int .u64 0), (.int .i64 0)] [(0, 1), (1, 1)] [(0, (.tmp 23)), (1, (.const (.int .i64 2)))], none, none⟩,
  ⟨(some 25), oBuildSlice false 2 4 [(.int .u64 0), (.int .i64 0)] [(0, (.tmp 12)), (1, (.tmp 16)), (2, (.tmp 20)), (3, (.tmp 24))], none, none⟩,
  ⟨(some 26), oCall 142 [(.tmp 25)], none, none⟩,
  ⟨(some 27), oCall 90 [(.tmp 9), (.const (.int .u8 6)), (.tmp 26)], none, none⟩,
  ⟨(some 28), oExtract (rT 27) 0, none, none⟩,
  ⟨(some 29), oExtract (rT 27) 1, none, none⟩,
  ⟨(some 4), oMv (rT 28), none, none⟩,
  ⟨(some 5), oMv (rT 29), none, none⟩])
 .ret)))⟩
def c121 : FFunc := ⟨[.cells 4 2, .tmp 5], (.seq (.region [⟨(some 4), oAlloc [(.int .i64 0), (.int .i64 0)], none, (some [(.int .i64 0), (.int .i64 0)])⟩,
  ⟨(some 5), oMv (rC (.int .i64 0)), none, none⟩])
 (.block 0 (.loop (.block 1 (.seq (.seq (.draw [⟨(some 10), oMv (rT 0), none, none⟩,
  ⟨(some 11), oNilCheck (rT 10), none, none⟩,
  ⟨(some 12), oFieldAddr 8 (rT 11), none, none⟩,
  ⟨(some 13), oLoad1 (rT 12), none, none⟩,
  ⟨(some 14), oBinBy (cmpBy .lss cLss) (.tmp 13) (.const (.int .i64 0)), none, none⟩,
  ⟨(some 15), oMv (rT 14), none, none⟩,
  ⟨(some 16), oMv (rT 0), (some (15, false)), none⟩,
  ⟨(some 17), oNilCheck (rT 16), (some (15, false)), none⟩,
  ⟨(some 18), oFieldAddr 9 (rT 17), (some (15, false)), none⟩,
  ⟨(some 19), oLoad1 (rT 18), (some (15, false)), none⟩,
  ⟨(some 20), oMv (rT 0), (some (15, false)), none⟩,
  ⟨(some 21), oNilCheck (rT 20), (some (15, false)), none⟩,
  ⟨(some 22), oFieldAddr 0 (rT 21), (some (15, false)), none⟩,
  ⟨(some 23), oLoad1 (rT 22), (some (15, false)), none⟩,
  ⟨(some 24), oCall 109 [(.tmp 23)], (some (15, false)), none⟩,
  ⟨(some 25), oCall 25 [(.tmp 24)], (some (15, false)), none⟩,
  ⟨(some 26), oField false 1 1 (.tmp 25), (some (15, false)), none⟩,
  ⟨(some 27), oBinBy (cmpBy .geq cGeq) (.tmp 19) (.tmp 26), (some (15, false)), none⟩,
  ⟨(some 28), oPick (rT 15) (rC (.bool true)) (rT 27), none, none⟩] 0 [(9, 14), (9, 15)])
 (.cond (.tmp 28) (.seq (.draw [⟨(some 30), oMv (rT 0), none, none⟩,
  ⟨(some 31), oNilCheck (rT 30), none, none⟩,
  ⟨(some 32), oFieldAddr 0 (rT 31), none, none⟩,
  ⟨(some 33), oLoad1 (rT 32), none, none⟩,
  ⟨(some 34), oMv (rT 0), none, none⟩,
  ⟨(some 35), oNilCheck (rT 34), none, none⟩,
  ⟨(some 36), oFieldAddr 1 (rT 35), none, none⟩,
  ⟨(some 37), oLoad1 (rT 36), none, none⟩,
  ⟨(some 38), oCall 138 [(.tmp 33), (.const (.int .u8 2)), (.tmp 37)], none, none⟩,
  ⟨(some 29), oMv (rT 38), none, none⟩,
  ⟨(some 39), oExtract (rT 29) 0, none, none⟩,
  ⟨(some 40), oExtract (rT 29) 1, none, none⟩,
  ⟨(some 6), oMv (rT 39), none, none⟩,
  ⟨(some 7), oMv (rT 40), none, none⟩] 0 [])
 (.seq (.seq (.region [⟨(some 41), oMv (rT 7), none, none⟩,
  ⟨(some 42), oBinBy (cmpBy .neq cNeq) (.tmp 41) (.const (.int .i64 0)), none, none⟩])
 (.cond (.tmp 42) (.seq (.region [⟨(some 43), oBuild #[(.int .i64 0), (.int .i64 0)] [(0, 1), (1, 1)] [], none, none⟩,
  ⟨(some 44), oMv (rT 7), none, none⟩,
  ⟨none, oStore 2 (rT 4) (rT 43), none, none⟩,
  ⟨(some 5), oMv (rT 44), none, none⟩])
 .ret)
 .skip))
 (.region [⟨(some 45), oMv (rT 0), none, none⟩,
  ⟨(some 46), oMv (rT 0), none, none⟩,
  ⟨(some 47), oMv (rT 6), none, none⟩,
  ⟨(some 48), oNilCheck (rT 45), none, none⟩,
  ⟨(some 49), oFieldAddr 8 (rT 48), none, none⟩,
  ⟨none, oStore 1 (rT 49) (rT 47), none, none⟩,
  ⟨(some 50), oNilCheck (rT 46), none, none⟩,
  ⟨(some 51), oFieldAddr 9 (rT 50), none, none⟩,
  ⟨none, oStore 1 (rT 51) (rC (.int .i64 1)), none, none⟩])))
 .skip))
 (.seq (.draw [⟨(some 52), oMv (rT 0), none, none⟩,
  ⟨(some 53), oNilCheck (rT 52), none, none⟩,
  ⟨(some 54), oFieldAddr 8 (rT 53), none, none⟩,
  ⟨(some 55), oLoad1 (rT 54), none, none⟩,
  ⟨(some 56), oMv (rT 0), none, none⟩,
  ⟨(some 57), oNilCheck (rT 56), none, none⟩,
  ⟨(some 58), oFieldAddr 9 (rT 57), none, none⟩,
  ⟨(some 59), oLoad1 (rT 58), none, none⟩,
  ⟨(some 60), oBuild #[(.int .i64 0), (.int .i64 0)] [(0, 1), (1, 1)] [(0, (.tmp 55)), (1, (.tmp 59))], none, none⟩,
  ⟨(some 8), oAlloc [(.int .i64 0), (.int .i64 0)], none, (some [(.int .i64 0), (.int .i64 0)])⟩,
  ⟨none, oStore 2 (rT 8) (rT 60), none, none⟩] 1 [(3, 9), (7, 9)])
 (.seq (.draw [⟨(some 61), oMv (rT 0), none, none⟩,
  ⟨(some 62), oNilCheck (rT 61), none, none⟩,
  ⟨(some 63), oFieldAddr 0 (rT 62), none, none⟩,
  ⟨(some 64), oLoad1 (rT 63), none, none⟩,
  ⟨(some 65), oCall 109 [(.tmp 64)], none, none⟩,
  ⟨(some 66), oFieldAddr 0 (rT 8), none, none⟩,
  ⟨(some 67), oLoad1 (rT 66), none, none⟩,
  ⟨(some 68), oFieldAddr 1 (rT 8), none, none⟩,
  ⟨(some 69), oLoad1 (rT 68), none, none⟩,
  ⟨(some 70), oMv (rT 1), none, none⟩,
  ⟨(some 71), oCall 139 [(.tmp 65), (.tmp 67), (.tmp 69), (.tmp 70)], none, none⟩,
  ⟨(some 9), oMv (rT 71), none, none⟩] 0 [(6, 4), (8, 4)])
 (.seq (.region [⟨(some 72), oMv (rT 0), none, none⟩,
  ⟨(some 73), oNilCheck (rT 72), none, none⟩,
  ⟨(some 74), oFieldAddr 9 (rT 73), none, none⟩,
  ⟨(some 75), oLoad1 (rT 74), none, none⟩,
  ⟨(some 76), oBinBy (arithBy .add nAdd) (.tmp 75) (.const (.int .i64 1)), none, none⟩,
  ⟨(some 77), oNilCheck (rT 72), none, none⟩,
  ⟨(some 78), oFieldAddr 9 (rT 77), none, none⟩,
  ⟨none, oStore 1 (rT 78) (rT 76), none, none⟩])
 (.seq (.seq (.region [⟨(some 79), oMv (rT 9), none, none⟩])
 (.block 2 (.seq (.region [⟨(some 81), oBinBy (cmpBy .eql cEql) (.tmp 79) (.const (.int .i64 0)), none, none⟩,
  ⟨(some 80), oMv (rT 81), none, none⟩])
 (.cond (.tmp 80) (.seq (.region [⟨(some 82), oLoadN 2 (rT 8), none, none⟩,
  ⟨none, oStore 2 (rT 4) (rT 82), none, none⟩,
  ⟨(some 5), oMv (rC (.int .i64 0)), none, none⟩])
 .ret)
 (.seq (.region [⟨(some 84), oBinBy (cmpBy .eql cEql) (.tmp 79) (.const (.int .i64 10)), none, none⟩,
  ⟨(some 83), oMv (rT 84), none, none⟩])
 (.cond (.tmp 83) (.seq (.region [⟨(some 85), oBuild #[(.int .i64 0), (.int .i64 0)] [(0, 1), (1, 1)] [], none, none⟩,
  ⟨(some 86), oMv (rT 9), none, none⟩,
  ⟨none, oStore 2 (rT 4) (rT 85), none, none⟩,
  ⟨(some 5), oMv (rT 86), none, none⟩])
 .ret)
 .skip))))))
 (.region [⟨(some 87), oMv (rT 0), none, none⟩,
  ⟨(some 88), oNilCheck (rT 87), none, none⟩,
  ⟨(some 89), oFieldAddr 8 (rT 88), none, none⟩,
  ⟨none, oStore 1 (rT 89) (rC (.int .i64 (-1))), none, none⟩]))))))))))⟩
def c122 : FFunc := ⟨[.tmp 4], (.seq (.region [⟨(some 4), oMv (rC (.slice none 0 0)), none, none⟩])
 (.seq (.seq (.region [⟨(some 5), oMv (rT 1), none, none⟩,
  ⟨(some 6), oBinBy (cmpBy .lss cLss) (.tmp 5) (.const (.int .i64 0)), none, none⟩])
 (.cond (.tmp 6) (.region [⟨(some 7), oMkIface 9 (.const (.string ⟨#[99, 97, 110, 110, 111, 116, 32, 98, 101, 32, 110, 101, 103, 97, 116, 105, 118, 101]⟩)), none, none⟩,
  ⟨none, oPanic (.tmp 7), none, none⟩])
 .skip))
 (.seq (.seq (.region [⟨(some 8), oMv (rT 1), none, none⟩,
  ⟨(some 9), oMv (rT 0), none, none⟩,
  ⟨(some 10), oCap (.tmp 9), none, none⟩,
  ⟨(some 11), oMv (rT 0), none, none⟩,
  ⟨(some 12), oLenS 5 (rT 11), none, none⟩,
  ⟨(some 13), oBinBy (arithBy .sub nSub) (.tmp 10) (.tmp 12), none, none⟩,
  ⟨(some 14), oBinBy (arithBy .sub nSub) (.tmp 8) (.tmp 13), none, none⟩,
  ⟨(some 1), oMv (rT 14), none, none⟩])
 (.seq (.region [⟨(some 15), oMv (rT 1), none, none⟩,
  ⟨(some 16), oBinBy (cmpBy .gtr cGtr) (.tmp 15) (.const (.int .i64 0)), none, none⟩])
 (.cond (.tmp 16) (.region [⟨(some 17), oMv (rT 0), none, none⟩,
  ⟨(some 18), oMv (rT 0), none, none⟩,
  ⟨(some 19), oCap (.tmp 18), none, none⟩,
  ⟨(some 20), oSlice 1 (.tmp 17) none (some (.tmp 19)) none, none, none⟩,
  ⟨(some 21), oMv (rT 1), none, none⟩,
  ⟨(some 22), oAppendN true 1 1 [(.int .u8 0)] (.tmp 20) (.tmp 21), none, none⟩,
  ⟨(some 23), oMv (rT 0), none, none⟩,
  ⟨(some 24), oLenS 5 (rT 23), none, none⟩,
  ⟨(some 25), oSlice 1 (.tmp 22) none (some (.tmp 24)) none, none, none⟩,
  ⟨(some 0), oMv (rT 25), none, none⟩])
 .skip)))
 (.seq (.region [⟨(some 26), oMv (rT 0), none, none⟩,
  ⟨(some 4), oMv (rT 26), none, none⟩])
 .ret))))⟩
def c123 : FFunc := ⟨[], (.seq (.region [⟨(some 12), oMv (rT 2), none, none⟩,
  ⟨(some 13), oMv (rT 1), none, none⟩,
  ⟨(some 14), oBinBy (arithBy .sub nSub) (.tmp 12) (.tmp 13), none, none⟩,
  ⟨(some 10), oMv (rT 14), none, none⟩])
 (.seq (.region [⟨(some 15), oMv (rT 3), none, none⟩,
  ⟨(some 16), oMv (rT 2), none, none⟩,
  ⟨(some 17), oBinBy (arithBy .sub nSub) (.tmp 15) (.tmp 16), none, none⟩,
  ⟨(some 11), oMv (rT 17), none, none⟩])
 (.seq (.block 0 (.loop (.seq (.seq (.region [⟨(some 18), oMv (rT 10), none, none⟩,
  ⟨(some 19), oMv (rT 11), none, none⟩,
  ⟨(some 20), oBinBy (cmpBy .neq cNeq) (.tmp 18) (.tmp 19), none, none⟩])
 (.cond (.tmp 20) .skip
 (.exit 0)))
 (.block 1 (.seq (.region [⟨(some 21), oMv (rT 10), none, none⟩,
  ⟨(some 22), oMv (rT 11), none, none⟩,
  ⟨(some 23), oBinBy (cmpBy .gtr cGtr) (.tmp 21) (.tmp 22), none, none⟩])
 (.cond (.tmp 23) (.seq (.region [⟨(some 24), oMv (rT 0), none, none⟩,
  ⟨(some 25), oMv (rT 2), none, none⟩,
  ⟨(some 26), oMv (rT 10), none, none⟩,
  ⟨(some 27), oBinBy (arithBy .sub nSub) (.tmp 25) (.tmp 26), none, none⟩,
  ⟨(some 28), oMv (rT 2), none, none⟩,
  ⟨(some 29), oMv (rT 11), none, none⟩,
  ⟨(some 30), oMv (rT 4), none, none⟩,
  ⟨(some 31), oCall 143 [(.tmp 24), (.tmp 27), (.tmp 28), (.tmp 29), (.tmp 30)], none, none⟩])
 (.region [⟨(some 32), oMv (rT 10), none, none⟩,
  ⟨(some 33), oMv (rT 11), none, none⟩,
  ⟨(some 34), oBinBy (arithBy .sub nSub) (.tmp 32) (.tmp 33), none, none⟩,
  ⟨(some 10), oMv (rT 34), none, none⟩]))
 (.seq (.region [⟨(some 35), oMv (rT 0), none, none⟩,
  ⟨(some 36), oMv (rT 2), none, none⟩,
  ⟨(some 37), oMv (rT 10), none, none⟩,
  ⟨(some 38), oBinBy (arithBy .sub nSub) (.tmp 36) (.tmp 37), none, none⟩,
  ⟨(some 39), oMv (rT 2), none, none⟩,
  ⟨(some 40), oMv (rT 11), none, none⟩,
  ⟨(some 41), oBinBy (arithBy .add nAdd) (.tmp 39) (.tmp 40), none, none⟩,
  ⟨(some 42), oMv (rT 10), none, none⟩,
  ⟨(some 43), oBinBy (arithBy .sub nSub) (.tmp 41) (.tmp 42), none, none⟩,
  ⟨(some 44), oMv (rT 10), none, none⟩,
  ⟨(some 45), oMv (rT 4), none, none⟩,
  ⟨(some 46), oCall 143 [(.tmp 35), (.tmp 38), (.tmp 43), (.tmp 44), (.tmp 45)], none, none⟩])
 (.region [⟨(some 47), oMv (rT 11), none, none⟩,
  ⟨(some 48), oMv (rT 10), none, none⟩,
  ⟨(some 49), oBinBy (arithBy .sub nSub) (.tmp 47) (.tmp 48), none, none⟩,
  ⟨(some 11), oMv (rT 49), none, none⟩]))))))))
 (.region [⟨(some 50), oMv (rT 0), none, none⟩,
  ⟨(some 51), oMv (rT 2), none, none⟩,
  ⟨(some 52), oMv (rT 10), none, none⟩,
  ⟨(some 53), oBinBy (arithBy .sub nSub) (.tmp 51) (.tmp 52), none, none⟩,
  ⟨(some 54), oMv (rT 2), none, none⟩,
  ⟨(some 55), oMv (rT 10), none, none⟩,
  ⟨(some 56), oMv (rT 4), none, none⟩,
  ⟨(some 57), oCall 143 [(.tmp 50), (.tmp 53), (.tmp 54), (.tmp 55), (.tmp 56)], none, none⟩]))))⟩
def c124 : FFunc := ⟨[.tmp 4, .tmp 5], (.seq (.region [⟨(some 4), oMv (rC (.slice none 0 0)), none, none⟩,
  ⟨(some 5), oMv (rC (.int .i64 0)), none, none⟩])
 (.seq (.seq (.region [⟨(some 15), oMv (rT 0), none, none⟩,
  ⟨(some 16), oMv (rT 1), none, none⟩,
  ⟨(some 17), oCall 26 [(.tmp 15), (.tmp 16), (.const (.int .i64 0))], none, none⟩,
  ⟨(some 14), oMv (rT 17), none, none⟩,
  ⟨(some 18), oExtract (rT 14) 0, none, none⟩,
  ⟨(some 19), oExtract (rT 14) 1, none, none⟩,
  ⟨(some 6), oMv (rT 18), none, none⟩,
  ⟨(some 7), oMv (rT 19), none, none⟩])
 (.seq (.region [⟨(some 20), oMv (rT 7), none, none⟩,
  ⟨(some 21), oBinBy (cmpBy .neq cNeq) (.tmp 20) (.const (.int .i64 0)), none, none⟩])
 (.cond (.tmp 21) (.seq (.region [⟨(some 22), oMv (rT 7), none, none⟩,
  ⟨(some 4), oMv (rC (.slice none 0 0)), none, none⟩,
  ⟨(some 5), oMv (rT 22), none, none⟩])
 .ret)
 .skip)))
 (.seq (.region [⟨(some 8), oMv (rC (.slice none 0 0)), none, none⟩])
 (.seq (.seq (.region [⟨(some 9), oMv (rC (.int .i64 1)), none, none⟩])
 (.block 0 (.loop (.seq (.seq (.region [⟨(some 23), oMv (rT 9), none, none⟩,
  ⟨(some 24), oMv (rT 0), none, none⟩,
  ⟨(some 25), oCall 25 [(.tmp 24)], none, none⟩,
  ⟨(some 26), oField false 1 1 (.tmp 25), none, none⟩,
  ⟨(some 27), oBinBy (cmpBy .lss cLss) (.tmp 23) (.tmp 26), none, none⟩])
 (.cond (.tmp 27) .skip
 (.exit 0)))
 (.seq (.block 1 (.seq (.region [⟨(some 31), oMv (rT 0), none, none⟩,
  ⟨(some 32), oMv (rT 1), none, none⟩,
  ⟨(some 33), oMv (rT 9), none, none⟩,
  ⟨(some 34), oCall 26 [(.tmp 31), (.tmp 32), (.tmp 33)], none, none⟩,
  ⟨(some 30), oMv (rT 34), none, none⟩,
  ⟨(some 35), oExtract (rT 30) 0, none, none⟩,
  ⟨(some 36), oExtract (rT 30) 1, none, none⟩,
  ⟨(some 10), oMv (rT 35), none, none⟩,
  ⟨(some 11), oMv (rT 36), none, none⟩])
 (.seq (.region [⟨(some 38), oMv (rT 9), none, none⟩,
  ⟨(some 39), oMv (rT 10), none, none⟩,
  ⟨(some 40), oCall 144 [(.tmp 38), (.tmp 39)], none, none⟩,
  ⟨(some 37), oMv (rT 40), none, none⟩,
  ⟨(some 41), oExtract (rT 37) 0, none, none⟩,
  ⟨(some 42), oExtract (rT 37) 1, none, none⟩,
  ⟨(some 12), oAlloc [(.int .i64 0), (.slice none 0 0), (.int .u64 0)], none, (some [(.int .i64 0), (.slice none 0 0), (.int .u64 0)])⟩,
  ⟨none, oStore 3 (rT 12) (rT 41), none, none⟩,
  ⟨(some 13), oMv (rT 42), none, none⟩])
 (.seq (.region [⟨(some 43), oMv (rT 13), none, none⟩])
 (.cond (.tmp 43) (.region [⟨(some 44), oMv (rT 8), none, none⟩,
  ⟨(some 45), oLoadN 3 (rT 12), none, none⟩,
  ⟨(some 46), oBuildSlice false 3 1 [(.int .i64 0), (.slice none 0 0), (.int .u64 0)] [(0, (.tmp 45))], none, none⟩,
  ⟨(some 47), oAppend 3 40 (.tmp 44) (.tmp 46), none, none⟩,
  ⟨(some 8), oMv (rT 47), none, none⟩])
 .skip)))))
 (.region [⟨(some 28), oMv (rT 9), none, none⟩,
  ⟨(some 29), oBinBy (arithBy .add nAdd) (.tmp 28) (.const (.int .i64 1)), none, none⟩,
  ⟨(some 9), oMv (rT 29), none, none⟩]))))))
 (.seq (.region [⟨(some 48), oMv (rT 8), none, none⟩,
  ⟨(some 4), oMv (rT 48), none, none⟩,
  ⟨(some 5), oMv (rC (.int .i64 0)), none, none⟩])
 .ret)))))⟩
def c125 : FFunc := ⟨[.tmp 2], (.seq (.region [⟨(some 2), oMv (rC (.bool false)), none, none⟩])
 (.seq (.seq (.region [⟨(some 3), oMv (rC (.int .i64 1)), none, none⟩])
 (.block 0 (.loop (.seq (.seq (.region [⟨(some 4), oMv (rT 3), none, none⟩,
  ⟨(some 5), oMv (rT 0), none, none⟩,
  ⟨(some 6), oLenS 106 (rT 5), none, none⟩,
  ⟨(some 7), oBinBy (cmpBy .lss cLss) (.tmp 4) (.tmp 6), none, none⟩])
 (.cond (.tmp 7) .skip
 (.exit 0)))
 (.seq (.block 1 (.seq (.draw [⟨(some 10), oMv (rT 0), none, none⟩,
  ⟨(some 11), oMv (rT 3), none, none⟩,
  ⟨(some 12), oBinBy (arithBy .sub nSub) (.tmp 11) (.const (.int .i64 1)), none, none⟩,
  ⟨(some 13), oIndexAddr 5 (rT 10) (rT 12), none, none⟩,
  ⟨(some 14), oFieldAddr 0 (rT 13), none, none⟩,
  ⟨(some 15), oLoadN 4 (rT 14), none, none⟩,
  ⟨(some 16), oMv (rT 0), none, none⟩,
  ⟨(some 17), oMv (rT 3), none, none⟩,
  ⟨(some 18), oIndexAddr 5 (rT 16) (rT 17), none, none⟩,
  ⟨(some 19), oFieldAddr 0 (rT 18), none, none⟩,
  ⟨(some 20), oLoadN 4 (rT 19), none, none⟩,
  ⟨(some 21), oCall 36 [(.tmp 15), (.tmp 20)], none, none⟩,
  ⟨(some 22), oUn .not (.tmp 21), none, none⟩] 0 [])
 (.cond (.tmp 22) (.seq (.region [⟨(some 2), oMv (rC (.bool false)), none, none⟩])
 .ret)
 .skip)))
 (.region [⟨(some 8), oMv (rT 3), none, none⟩,
  ⟨(some 9), oBinBy (arithBy .add nAdd) (.tmp 8) (.const (.int .i64 1)), none, none⟩,
  ⟨(some 3), oMv (rT 9), none, none⟩]))))))
 (.seq (.region [⟨(some 2), oMv (rC (.bool true)), none, none⟩])
 .ret)))⟩
def c126 : FFunc := ⟨[.tmp 2], (.seq (.region [⟨(some 1), oBox (.tmp 0), none, none⟩,
  ⟨(some 2), oMv (rC .nilFunc), none, none⟩])
 (.seq (.region [⟨(some 3), oMkFunc (.func 145) [] [(.tmp 1)], none, none⟩,
  ⟨(some 2), oMv (rT 3), none, none⟩])
 .ret))⟩
def c127 : FFunc := ⟨[.tmp 4, .tmp 5], (.seq (.region [⟨(some 2), oBox (.tmp 0), none, none⟩,
  ⟨(some 3), oBox (.tmp 1), none, none⟩,
  ⟨(some 4), oMv (rC (.int .i64 0)), none, none⟩,
  ⟨(some 5), oMv (rC (.bool false)), none, none⟩])
 (.seq (.region [⟨(some 7), oLoad1 (rT 2), none, none⟩,
  ⟨(some 8), oLenS 106 (rT 7), none, none⟩,
  ⟨(some 9), oMkFunc (.func 147) [] [(.tmp 2), (.tmp 3)], none, none⟩,
  ⟨(some 10), oCall 146 [(.tmp 8), (.tmp 9)], none, none⟩,
  ⟨(some 6), oMv (rT 10), none, none⟩])
 (.seq (.draw [⟨(some 11), oMv (rT 6), none, none⟩,
  ⟨(some 12), oMv (rT 6), none, none⟩,
  ⟨(some 13), oLoad1 (rT 2), none, none⟩,
  ⟨(some 14), oLenS 106 (rT 13), none, none⟩,
  ⟨(some 15), oBinBy (cmpBy .lss cLss) (.tmp 12) (.tmp 14), none, none⟩,
  ⟨(some 16), oMv (rT 15), none, none⟩,
  ⟨(some 17), oLoad1 (rT 2), (some (16, true)), none⟩,
  ⟨(some 18), oMv (rT 6), (some (16, true)), none⟩,
  ⟨(some 19), oIndexAddr 5 (rT 17) (rT 18), (some (16, true)), none⟩,
  ⟨(some 20), oFieldAddr 0 (rT 19), (some (16, true)), none⟩,
  ⟨(some 21), oLoadN 4 (rT 20), (some (16, true)), none⟩,
  ⟨(some 22), oLoadN 4 (rT 3), (some (16, true)), none⟩,
  ⟨(some 23), oEqFlat false [(0, (.int .i64)), (1, (.int .u8)), (2, .string), (3, (.int .i64))] (.tmp 21) (.tmp 22), (some (16, true)), none⟩,
  ⟨(some 24), oPick (rT 16) (rT 23) (rC (.bool false)), none, none⟩,
  ⟨(some 4), oMv (rT 11), none, none⟩,
  ⟨(some 5), oMv (rT 24), none, none⟩] 0 [])
 .ret)))⟩
def c128 : FFunc := ⟨[.tmp 6], (.seq (.region [⟨(some 6), oMv (rC (.slice none 0 0)), none, none⟩])
 (.seq (.region [⟨(some 8), oMv (rT 0), none, none⟩,
  ⟨(some 9), oMv (rT 1), none, none⟩,
  ⟨(some 10), oMv (rT 2), none, none⟩,
  ⟨(some 11), oMv (rT 0), none, none⟩,
  ⟨(some 12), oLenS 106 (rT 11), none, none⟩,
  ⟨(some 13), oSlice 5 (.tmp 8) (some (.tmp 9)) (some (.tmp 10)) (some (.tmp 12)), none, none⟩])
 (.seq (.seq (.region [⟨(some 14), oMv (rT 1), none, none⟩,
  ⟨(some 15), oMv (rT 2), none, none⟩,
  ⟨(some 16), oBinBy (cmpBy .eql cEql) (.tmp 14) (.tmp 15), none, none⟩])
 (.cond (.tmp 16) (.seq (.region [⟨(some 17), oMv (rT 0), none, none⟩,
  ⟨(some 6), oMv (rT 17), none, none⟩])
 .ret)
 .skip))
 (.seq (.region [⟨(some 18), oMv (rT 0), none, none⟩,
  ⟨(some 19), oLenS 106 (rT 18), none, none⟩,
  ⟨(some 7), oMv (rT 19), none, none⟩])
 (.seq (.draw [⟨(some 20), oMv (rT 0), none, none⟩,
  ⟨(some 21), oMv (rT 1), none, none⟩,
  ⟨(some 22), oSlice 5 (.tmp 20) none (some (.tmp 21)) none, none, none⟩,
  ⟨(some 23), oMv (rT 0), none, none⟩,
  ⟨(some 24), oMv (rT 2), none, none⟩,
  ⟨(some 25), oSlice 5 (.tmp 23) (some (.tmp 24)) none none, none, none⟩,
  ⟨(some 26), oAppend 5 64 (.tmp 22) (.tmp 25), none, none⟩,
  ⟨(some 0), oMv (rT 26), none, none⟩] 0 [])
 (.seq (.region [⟨(some 27), oMv (rT 0), none, none⟩,
  ⟨(some 28), oMv (rT 0), none, none⟩,
  ⟨(some 29), oLenS 106 (rT 28), none, none⟩,
  ⟨(some 30), oMv (rT 7), none, none⟩,
  ⟨(some 31), oSlice 5 (.tmp 27) (some (.tmp 29)) (some (.tmp 30)) none, none, none⟩,
  ⟨none, oClear [(.int .i64 0), (.int .u8 0), (.string ⟨#[]⟩), (.int .i64 0), (.slice none 0 0)] (.tmp 31), none, none⟩])
 (.seq (.region [⟨(some 32), oMv (rT 0), none, none⟩,
  ⟨(some 6), oMv (rT 32), none, none⟩])
 .ret)))))))⟩
def c129 : FFunc := ⟨[.tmp 6], (.seq (.region [⟨(some 6), oMv (rC (.slice none 0 0)), none, none⟩])
 (.seq (.region [⟨(some 10), oMv (rT 0), none, none⟩,
  ⟨(some 11), oMv (rT 1), none, none⟩,
  ⟨(some 12), oSlice 5 (.tmp 10) (some (.tmp 11)) none none, none, none⟩])
 (.seq (.region [⟨(some 13), oMv (rT 2), none, none⟩,
  ⟨(some 14), oLenS 106 (rT 13), none, none⟩,
  ⟨(some 7), oMv (rT 14), none, none⟩])
 (.seq (.seq (.region [⟨(some 15), oMv (rT 7), none, none⟩,
  ⟨(some 16), oBinBy (cmpBy .eql cEql) (.tmp 15) (.const (.int .i64 0)), none, none⟩])
 (.cond (.tmp 16) (.seq (.region [⟨(some 17), oMv (rT 0), none, none⟩,
  ⟨(some 6), oMv (rT 17), none, none⟩])
 .ret)
 .skip))
 (.seq (.region [⟨(some 18), oMv (rT 0), none, none⟩,
  ⟨(some 19), oLenS 106 (rT 18), none, none⟩,
  ⟨(some 8), oMv (rT 19), none, none⟩])
 (.seq (.seq (.region [⟨(some 20), oMv (rT 1), none, none⟩,
  ⟨(some 21), oMv (rT 8), none, none⟩,
  ⟨(some 22), oBinBy (cmpBy .eql cEql) (.tmp 20) (.tmp 21), none, none⟩])
 (.cond (.tmp 22) (.seq (.region [⟨(some 23), oMv (rT 0), none, none⟩,
  ⟨(some 24), oMv (rT 2), none, none⟩,
  ⟨(some 25), oAppend 5 64 (.tmp 23) (.tmp 24), none, none⟩,
  ⟨(some 6), oMv (rT 25), none, none⟩])
 .ret)
 .skip))
 (.seq (.seq (.region [⟨(some 26), oMv (rT 8), none, none⟩,
  ⟨(some 27), oMv (rT 7), none, none⟩,
  ⟨(some 28), oBinBy (arithBy .add nAdd) (.tmp 26) (.tmp 27), none, none⟩,
  ⟨(some 29), oMv (rT 0), none, none⟩,
  ⟨(some 30), oCap (.tmp 29), none, none⟩,
  ⟨(some 31), oBinBy (cmpBy .gtr cGtr) (.tmp 28) (.tmp 30), none, none⟩])
 (.cond (.tmp 31) (.seq (.region [⟨(some 32), oMv (rT 0), none, none⟩,
  ⟨(some 33), oMv (rT 1), none, none⟩,
  ⟨(some 34), oSlice 5 (.tmp 32) none (some (.tmp 33)) none, none, none⟩,
  ⟨(some 35), oMv (rT 8), none, none⟩,
  ⟨(some 36), oMv (rT 7), none, none⟩,
  ⟨(some 37), oBinBy (arithBy .add nAdd) (.tmp 35) (.tmp 36), none, none⟩,
  ⟨(some 38), oMv (rT 1), none, none⟩,
  ⟨(some 39), oBinBy (arithBy .sub nSub) (.tmp 37) (.tmp 38), none, none⟩,
  ⟨(some 40), oAppendN false 5 64 [(.int .i64 0), (.int .u8 0), (.string ⟨#[]⟩), (.int .i64 0), (.slice none 0 0)] (.tmp 34) (.tmp 39), none, none⟩,
  ⟨(some 9), oMv (rT 40), none, none⟩])
 (.seq (.region [⟨(some 41), oMv (rT 9), none, none⟩,
  ⟨(some 42), oMv (rT 1), none, none⟩,
  ⟨(some 43), oSlice 5 (.tmp 41) (some (.tmp 42)) none none, none, none⟩,
  ⟨(some 44), oMv (rT 2), none, none⟩,
  ⟨(some 45), oCopy 5 (.tmp 43) (.tmp 44), none, none⟩])
 (.seq (.draw [⟨(some 46), oMv (rT 9), none, none⟩,
  ⟨(some 47), oMv (rT 1), none, none⟩,
  ⟨(some 48), oMv (rT 7), none, none⟩,
  ⟨(some 49), oBinBy (arithBy .add nAdd) (.tmp 47) (.tmp 48), none, none⟩,
  ⟨(some 50), oSlice 5 (.tmp 46) (some (.tmp 49)) none none, none, none⟩,
  ⟨(some 51), oMv (rT 0), none, none⟩,
  ⟨(some 52), oMv (rT 1), none, none⟩,
  ⟨(some 53), oSlice 5 (.tmp 51) (some (.tmp 52)) none none, none, none⟩,
  ⟨(some 54), oCopy 5 (.tmp 50) (.tmp 53), none, none⟩] 0 [])
 (.seq (.region [⟨(some 55), oMv (rT 9), none, none⟩,
  ⟨(some 6), oMv (rT 55), none, none⟩])
 .ret))))
 .skip))
 (.seq (.region [⟨(some 56), oMv (rT 0), none, none⟩,
  ⟨(some 57), oMv (rT 8), none, none⟩,
  ⟨(some 58), oMv (rT 7), none, none⟩,
  ⟨(some 59), oBinBy (arithBy .add nAdd) (.tmp 57) (.tmp 58), none, none⟩,
  ⟨(some 60), oSlice 5 (.tmp 56) none (some (.tmp 59)) none, none, none⟩,
  ⟨(some 0), oMv (rT 60), none, none⟩])
 (.seq (.seq (.region [⟨(some 61), oMv (rT 2), none, none⟩,
  ⟨(some 62), oMv (rT 0), none, none⟩,
  ⟨(some 63), oMv (rT 1), none, none⟩,
  ⟨(some 64), oMv (rT 7), none, none⟩,
  ⟨(some 65), oBinBy (arithBy .add nAdd) (.tmp 63) (.tmp 64), none, none⟩,
  ⟨(some 66), oSlice 5 (.tmp 62) (some (.tmp 65)) none none, none, none⟩,
  ⟨(some 67), oExtract (rC (.tuple #[])) 0, none, none⟩,
  ⟨(some 68), oUn .not (.tmp 67), none, none⟩])
 (.cond (.tmp 68) (.seq (.draw [⟨(some 69), oMv (rT 0), none, none⟩,
  ⟨(some 70), oMv (rT 1), none, none⟩,
  ⟨(some 71), oMv (rT 7), none, none⟩,
  ⟨(some 72), oBinBy (arithBy .add nAdd) (.tmp 70) (.tmp 71), none, none⟩,
  ⟨(some 73), oSlice 5 (.tmp 69) (some (.tmp 72)) none none, none, none⟩,
  ⟨(some 74), oMv (rT 0), none, none⟩,
  ⟨(some 75), oMv (rT 1), none, none⟩,
  ⟨(some 76), oSlice 5 (.tmp 74) (some (.tmp 75)) none none, none, none⟩,
  ⟨(some 77), oCopy 5 (.tmp 73) (.tmp 76), none, none⟩] 0 [])
 (.seq (.region [⟨(some 78), oMv (rT 0), none, none⟩,
  ⟨(some 79), oMv (rT 1), none, none⟩,
  ⟨(some 80), oSlice 5 (.tmp 78) (some (.tmp 79)) none none, none, none⟩,
  ⟨(some 81), oMv (rT 2), none, none⟩,
  ⟨(some 82), oCopy 5 (.tmp 80) (.tmp 81), none, none⟩])
 (.seq (.region [⟨(some 83), oMv (rT 0), none, none⟩,
  ⟨(some 6), oMv (rT 83), none, none⟩])
 .ret)))
 .skip))
 (.seq (.region [⟨(some 84), oMv (rT 0), none, none⟩,
  ⟨(some 85), oMv (rT 8), none, none⟩,
  ⟨(some 86), oSlice 5 (.tmp 84) (some (.tmp 85)) none none, none, none⟩,
  ⟨(some 87), oMv (rT 2), none, none⟩,
  ⟨(some 88), oCopy 5 (.tmp 86) (.tmp 87), none, none⟩])
 (.seq (.region [⟨(some 89), oMv (rT 0), none, none⟩,
  ⟨(some 90), oMv (rT 1), none, none⟩,
  ⟨(some 91), oSlice 5 (.tmp 89) (some (.tmp 90)) none none, none, none⟩,
  ⟨(some 92), oMv (rT 7), none, none⟩,
  ⟨(some 93), oCall 149 [(.tmp 91), (.tmp 92)], none, none⟩])
 (.seq (.region [⟨(some 94), oMv (rT 0), none, none⟩,
  ⟨(some 6), oMv (rT 94), none, none⟩])
 .ret))))))))))))⟩
def c130 : FFunc := ⟨[.cells 4 4, .tmp 5, .tmp 6, .tmp 7], (.seq (.region [⟨(some 4), oAlloc [(.int .u64 0), (.int .i64 0), (.int .i64 0), (.int .i64 0)], none, (some [(.int .u64 0), (.int .i64 0), (.int .i64 0), (.int .i64 0)])⟩,
  ⟨(some 5), oMv (rC (.int .i64 0)), none, none⟩,
  ⟨(some 6), oMv (rC (.int .i64 0)), none, none⟩,
  ⟨(some 7), oMv (rC (.int .i64 0)), none, none⟩])
 (.seq (.region [⟨(some 20), oMv (rT 0), none, none⟩,
  ⟨(some 21), oMv (rT 1), none, none⟩,
  ⟨(some 22), oCall 131 [(.tmp 20), (.tmp 21)], none, none⟩,
  ⟨(some 19), oMv (rT 22), none, none⟩,
  ⟨(some 23), oExtract (rT 19) 0, none, none⟩,
  ⟨(some 24), oExtract (rT 19) 1, none, none⟩,
  ⟨(some 8), oMv (rT 23), none, none⟩,
  ⟨(some 7), oMv (rT 24), none, none⟩])
 (.seq (.seq (.region [⟨(some 25), oMv (rT 7), none, none⟩,
  ⟨(some 26), oBinBy (cmpBy .neq cNeq) (.tmp 25) (.const (.int .i64 0)), none, none⟩])
 (.cond (.tmp 26) (.seq (.region [⟨(some 27), oBuild #[(.int .u64 0), (.int .i64 0), (.int .i64 0), (.int .i64 0)] [(0, 1), (1, 1), (2, 1), (3, 1)] [], none, none⟩,
  ⟨(some 28), oMv (rT 7), none, none⟩,
  ⟨none, oStore 4 (rT 4) (rT 27), none, none⟩,
  ⟨(some 5), oMv (rC (.int .i64 0)), none, none⟩,
  ⟨(some 6), oMv (rC (.int .i64 0)), none, none⟩,
  ⟨(some 7), oMv (rT 28), none, none⟩])
 .ret)
 .skip))
 (.seq (.region [⟨(some 9), oMv (rC (.bool false)), none, none⟩])
 (.seq (.seq (.region [⟨(some 29), oMv (rT 8), none, none⟩,
  ⟨(some 30), oLenS 3 (rT 29), none, none⟩,
  ⟨(some 31), oMv (rC (.int .i64 0)), none, none⟩])
 (.block 0 (.loop (.seq (.region [⟨(some 32), oBinBy (cmpBy .lss cLss) (.tmp 31) (.tmp 30), none, none⟩])
 (.seq (.cond (.tmp 32) .skip
 (.exit 0))
 (.seq (.block 1 (.seq (.region [⟨(some 33), oIndexAddr 1 (rT 29) (rT 31), none, none⟩,
  ⟨(some 34), oLoad1 (rT 33), none, none⟩,
  ⟨(some 11), oMv (rT 34), none, none⟩])
 (.seq (.region [⟨(some 12), oMv (rC (.int .i64 1)), none, none⟩])
 (.block 2 (.loop (.seq (.seq (.region [⟨(some 35), oMv (rT 12), none, none⟩,
  ⟨(some 36), oMv (rT 0), none, none⟩,
  ⟨(some 37), oCall 25 [(.tmp 36)], none, none⟩,
  ⟨(some 38), oField false 1 1 (.tmp 37), none, none⟩,
  ⟨(some 39), oBinBy (cmpBy .lss cLss) (.tmp 35) (.tmp 38), none, none⟩])
 (.cond (.tmp 39) .skip
 (.exit 2)))
 (.seq (.block 3 (.seq (.region [⟨(some 43), oMv (rT 0), none, none⟩,
  ⟨(some 44), oMv (rT 11), none, none⟩,
  ⟨(some 45), oMv (rT 12), none, none⟩,
  ⟨(some 46), oCall 26 [(.tmp 43), (.tmp 44), (.tmp 45)], none, none⟩,
  ⟨(some 42), oMv (rT 46), none, none⟩,
  ⟨(some 47), oExtract (rT 42) 0, none, none⟩,
  ⟨(some 48), oExtract (rT 42) 1, none, none⟩,
  ⟨(some 13), oMv (rT 47), none, none⟩,
  ⟨(some 14), oMv (rT 48), none, none⟩])
 (.seq (.region [⟨(some 50), oMv (rT 13), none, none⟩,
  ⟨(some 51), oCall 45 [(.tmp 50)], none, none⟩,
  ⟨(some 49), oMv (rT 51), none, none⟩,
  ⟨(some 52), oExtract (rT 49) 0, none, none⟩,
  ⟨(some 53), oExtract (rT 49) 1, none, none⟩,
  ⟨(some 54), oExtract (rT 49) 2, none, none⟩,
  ⟨(some 15), oMv (rT 52), none, none⟩,
  ⟨(some 16), oMv (rT 53), none, none⟩,
  ⟨(some 17), oMv (rT 54), none, none⟩])
 (.seq (.seq (.region [⟨(some 55), oMv (rT 17), none, none⟩,
  ⟨(some 56), oBinBy (cmpBy .neq cNeq) (.tmp 55) (.const (.int .i64 0)), none, none⟩,
  ⟨(some 57), oMv (rT 56), none, none⟩,
  ⟨(some 58), oMv (rT 15), (some (57, false)), none⟩,
  ⟨(some 59), oBinBy (cmpBy .neq cNeq) (.tmp 58) (.const (.int .u8 6)), (some (57, false)), none⟩,
  ⟨(some 60), oPick (rT 57) (rC (.bool true)) (rT 59), none, none⟩])
 (.cond (.tmp 60) (.exit 3)
 .skip))
 (.seq (.region [⟨(some 62), oMv (rT 16), none, none⟩,
  ⟨(some 63), oCall 119 [(.tmp 62)], none, none⟩,
  ⟨(some 61), oMv (rT 63), none, none⟩,
  ⟨(some 64), oExtract (rT 61) 0, none, none⟩,
  ⟨(some 65), oExtract (rT 61) 1, none, none⟩,
  ⟨(some 18), oAlloc [(.int .u64 0), (.int .i64 0), (.int .i64 0), (.int .i64 0)], none, (some [(.int .u64 0), (.int .i64 0), (.int .i64 0), (.int .i64 0)])⟩,
  ⟨none, oStore 4 (rT 18) (rT 64), none, none⟩,
  ⟨(some 17), oMv (rT 65), none, none⟩])
 (.seq (.region [⟨(some 66), oMv (rT 17), none, none⟩,
  ⟨(some 67), oBinBy (cmpBy .eql cEql) (.tmp 66) (.const (.int .i64 0)), none, none⟩,
  ⟨(some 68), oMv (rT 67), none, none⟩,
  ⟨(some 69), oMv (rT 9), (some (68, true)), none⟩,
  ⟨(some 70), oUn .not (.tmp 69), (some (68, true)), none⟩,
  ⟨(some 71), oMv (rT 70), (some (68, true)), none⟩,
  ⟨(some 72), oLoadN 4 (rT 4), (some (71, false)), none⟩,
  ⟨(some 73), oLoadN 4 (rT 18), (some (71, false)), none⟩,
  ⟨(some 74), oCall 150 [(.tmp 72), (.tmp 73)], (some (71, false)), none⟩,
  ⟨(some 75), oUn .not (.tmp 74), (some (71, false)), none⟩,
  ⟨(some 76), oPick (rT 71) (rC (.bool true)) (rT 75), (some (68, true)), none⟩,
  ⟨(some 77), oPick (rT 68) (rT 76) (rC (.bool false)), none, none⟩])
 (.cond (.tmp 77) (.region [⟨(some 78), oLoadN 4 (rT 18), none, none⟩,
  ⟨(some 79), oMv (rT 11), none, none⟩,
  ⟨(some 80), oMv (rT 12), none, none⟩,
  ⟨none, oStore 4 (rT 4) (rT 78), none, none⟩,
  ⟨(some 5), oMv (rT 79), none, none⟩,
  ⟨(some 6), oMv (rT 80), none, none⟩,
  ⟨(some 9), oMv (rC (.bool true)), none, none⟩])
 .skip)))))))
 (.region [⟨(some 40), oMv (rT 12), none, none⟩,
  ⟨(some 41), oBinBy (arithBy .add nAdd) (.tmp 40) (.const (.int .i64 1)), none, none⟩,
  ⟨(some 12), oMv (rT 41), none, none⟩]))))))))
 (.region [⟨(some 81), oBinBy (arithBy .add nAdd) (.tmp 31) (.const (.int .i64 1)), none, none⟩,
  ⟨(some 31), oMv (rT 81), none, none⟩])))))))
 (.seq (.seq (.region [⟨(some 82), oMv (rT 9), none, none⟩,
  ⟨(some 83), oUn .not (.tmp 82), none, none⟩])
 (.cond (.tmp 83) (.seq (.region [⟨(some 84), oBuild #[(.int .u64 0), (.int .i64 0), (.int .i64 0), (.int .i64 0)] [(0, 1), (1, 1), (2, 1), (3, 1)] [], none, none⟩,
  ⟨none, oStore 4 (rT 4) (rT 84), none, none⟩,
  ⟨(some 5), oMv (rC (.int .i64 0)), none, none⟩,
  ⟨(some 6), oMv (rC (.int .i64 0)), none, none⟩,
  ⟨(some 7), oMv (rC (.int .i64 12)), none, none⟩])
 .ret)
 .skip))
 (.seq (.region [⟨(some 85), oLoadN 4 (rT 4), none, none⟩,
  ⟨(some 86), oMv (rT 5), none, none⟩,
  ⟨(some 87), oMv (rT 6), none, none⟩,
  ⟨none, oStore 4 (rT 4) (rT 85), none, none⟩,
  ⟨(some 5), oMv (rT 86), none, none⟩,
  ⟨(some 6), oMv (rT 87), none, none⟩,
  ⟨(some 7), oMv (rC (.int .i64 0)), none, none⟩])
 .ret)))))))⟩
def c131 : FFunc := ⟨[.tmp 4, .tmp 5], (.seq (.region [⟨(some 4), oMv (rC (.slice none 0 0)), none, none⟩,
  ⟨(some 5), oMv (rC (.int .i64 0)), none, none⟩])
 (.seq (.region [⟨(some 12), oMv (rT 0), none, none⟩,
  ⟨(some 13), oMv (rT 1), none, none⟩,
  ⟨(some 14), oCall 151 [(.tmp 12), (.tmp 13)], none, none⟩,
  ⟨(some 11), oMv (rT 14), none, none⟩,
  ⟨(some 15), oExtract (rT 11) 0, none, none⟩,
  ⟨(some 16), oExtract (rT 11) 1, none, none⟩,
  ⟨(some 6), oMv (rT 15), none, none⟩,
  ⟨(some 7), oMv (rT 16), none, none⟩])
 (.seq (.seq (.region [⟨(some 17), oMv (rT 7), none, none⟩,
  ⟨(some 18), oBinBy (cmpBy .neq cNeq) (.tmp 17) (.const (.int .i64 0)), none, none⟩])
 (.cond (.tmp 18) (.seq (.region [⟨(some 19), oMv (rT 7), none, none⟩,
  ⟨(some 4), oMv (rC (.slice none 0 0)), none, none⟩,
  ⟨(some 5), oMv (rT 19), none, none⟩])
 .ret)
 .skip))
 (.seq (.region [⟨(some 8), oMv (rC (.slice none 0 0)), none, none⟩])
 (.seq (.seq (.region [⟨(some 20), oMv (rT 6), none, none⟩,
  ⟨(some 21), oCall 28 [(.tmp 20)], none, none⟩,
  ⟨(some 22), oLenS 88 (rT 21), none, none⟩,
  ⟨(some 23), oMv (rC (.int .i64 0)), none, none⟩])
 (.block 0 (.loop (.seq (.region [⟨(some 24), oBinBy (cmpBy .lss cLss) (.tmp 23) (.tmp 22), none, none⟩])
 (.seq (.cond (.tmp 24) .skip
 (.exit 0))
 (.seq (.block 1 (.seq (.region [⟨(some 25), oIndexAddr 5 (rT 21) (rT 23), none, none⟩,
  ⟨(some 26), oLoadN 5 (rT 25), none, none⟩,
  ⟨(some 10), oAlloc [(.int .i64 0), (.int .u8 0), (.int .u32 0), (.int .u64 0), (.bool false)], none, (some [(.int .i64 0), (.int .u8 0), (.int .u32 0), (.int .u64 0), (.bool false)])⟩,
  ⟨none, oStore 5 (rT 10) (rT 26), none, none⟩])
 (.seq (.region [⟨(some 27), oFieldAddr 1 (rT 10), none, none⟩,
  ⟨(some 28), oFieldAddr 0 (rT 27), none, none⟩,
  ⟨(some 29), oLoad1 (rT 28), none, none⟩,
  ⟨(some 30), oBinBy (cmpBy .eql cEql) (.tmp 29) (.const (.int .u8 2)), none, none⟩,
  ⟨(some 31), oMv (rT 30), none, none⟩,
  ⟨(some 32), oFieldAddr 1 (rT 10), (some (31, true)), none⟩,
  ⟨(some 33), oFieldAddr 1 (rT 32), (some (31, true)), none⟩,
  ⟨(some 34), oLoad1 (rT 33), (some (31, true)), none⟩,
  ⟨(some 35), oMv (rT 1), (some (31, true)), none⟩,
  ⟨(some 36), oBinBy (cmpBy .eql cEql) (.tmp 34) (.tmp 35), (some (31, true)), none⟩,
  ⟨(some 37), oPick (rT 31) (rT 36) (rC (.bool false)), none, none⟩])
 (.cond (.tmp 37) (.region [⟨(some 38), oMv (rT 8), none, none⟩,
  ⟨(some 39), oFieldAddr 0 (rT 10), none, none⟩,
  ⟨(some 40), oLoad1 (rT 39), none, none⟩,
  ⟨(some 41), oBuildSlice false 1 1 [(.int .i64 0)] [(0, (.tmp 40))], none, none⟩,
  ⟨(some 42), oAppend 1 8 (.tmp 38) (.tmp 41), none, none⟩,
  ⟨(some 8), oMv (rT 42), none, none⟩])
 .skip))))
 (.region [⟨(some 43), oBinBy (arithBy .add nAdd) (.tmp 23) (.const (.int .i64 1)), none, none⟩,
  ⟨(some 23), oMv (rT 43), none, none⟩])))))))
 (.seq (.region [⟨(some 44), oMv (rT 8), none, none⟩,
  ⟨(some 4), oMv (rT 44), none, none⟩,
  ⟨(some 5), oMv (rC (.int .i64 0)), none, none⟩])
 .ret))))))⟩
def c133 : FFunc := ⟨[.tmp 4, .tmp 5], (.seq (.region [⟨(some 2), oBox (.tmp 0), none, none⟩,
  ⟨(some 4), oMv (rC (.int .i64 0)), none, none⟩,
  ⟨(some 5), oMv (rC (.bool false)), none, none⟩])
 (.seq (.region [⟨(some 6), oFieldAddr 1 (rT 2), none, none⟩,
  ⟨(some 7), oLoad1 (rT 6), none, none⟩,
  ⟨(some 8), oMv (rT 1), none, none⟩,
  ⟨(some 9), oCall 158 [(.tmp 7), (.tmp 8), (.func 159)], none, none⟩,
  ⟨(some 10), oExtract (rT 9) 0, none, none⟩,
  ⟨(some 11), oExtract (rT 9) 1, none, none⟩,
  ⟨(some 4), oMv (rT 10), none, none⟩,
  ⟨(some 5), oMv (rT 11), none, none⟩])
 .ret))⟩
def c134 : FFunc := ⟨[.tmp 4], (.seq (.region [⟨(some 4), oMv (rC (.slice none 0 0)), none, none⟩])
 (.seq (.region [⟨(some 8), oMv (rT 0), none, none⟩,
  ⟨(some 9), oMv (rT 1), none, none⟩,
  ⟨(some 10), oCall 108 [(.tmp 8), (.tmp 9)], none, none⟩,
  ⟨(some 5), oMv (rT 10), none, none⟩])
 (.seq (.seq (.region [⟨(some 11), oMv (rT 5), none, none⟩,
  ⟨(some 12), oBinBy (cmpBy .eql cEql) (.tmp 11) (.const (.int .i64 (-1))), none, none⟩])
 (.cond (.tmp 12) (.seq (.region [⟨(some 13), oMv (rT 0), none, none⟩,
  ⟨(some 4), oMv (rT 13), none, none⟩])
 .ret)
 .skip))
 (.seq (.seq (.region [⟨(some 14), oMv (rT 5), none, none⟩,
  ⟨(some 15), oBinBy (arithBy .add nAdd) (.tmp 14) (.const (.int .i64 1)), none, none⟩,
  ⟨(some 6), oMv (rT 15), none, none⟩])
 (.block 0 (.loop (.seq (.seq (.region [⟨(some 16), oMv (rT 6), none, none⟩,
  ⟨(some 17), oMv (rT 0), none, none⟩,
  ⟨(some 18), oLenS 88 (rT 17), none, none⟩,
  ⟨(some 19), oBinBy (cmpBy .lss cLss) (.tmp 16) (.tmp 18), none, none⟩])
 (.cond (.tmp 19) .skip
 (.exit 0)))
 (.seq (.block 1 (.seq (.region [⟨(some 22), oMv (rT 0), none, none⟩,
  ⟨(some 23), oMv (rT 6), none, none⟩,
  ⟨(some 24), oIndexAddr 5 (rT 22) (rT 23), none, none⟩,
  ⟨(some 25), oLoadN 5 (rT 24), none, none⟩,
  ⟨(some 7), oAlloc [(.int .i64 0), (.int .u8 0), (.int .u32 0), (.int .u64 0), (.bool false)], none, (some [(.int .i64 0), (.int .u8 0), (.int .u32 0), (.int .u64 0), (.bool false)])⟩,
  ⟨none, oStore 5 (rT 7) (rT 25), none, none⟩])
 (.seq (.region [⟨(some 26), oMv (rT 1), none, none⟩,
  ⟨(some 27), oLoadN 5 (rT 7), none, none⟩,
  ⟨(some 28), oCallV (.tmp 26) [(.tmp 27)], none, none⟩,
  ⟨(some 29), oUn .not (.tmp 28), none, none⟩])
 (.cond (.tmp 29) (.seq (.region [⟨(some 30), oMv (rT 0), none, none⟩,
  ⟨(some 31), oMv (rT 5), none, none⟩,
  ⟨(some 32), oLoadN 5 (rT 7), none, none⟩,
  ⟨(some 33), oIndexAddr 5 (rT 30) (rT 31), none, none⟩,
  ⟨none, oStore 5 (rT 33) (rT 32), none, none⟩])
 (.region [⟨(some 34), oMv (rT 5), none, none⟩,
  ⟨(some 35), oBinBy (arithBy .add nAdd) (.tmp 34) (.const (.int .i64 1)), none, none⟩,
  ⟨(some 5), oMv (rT 35), none, none⟩]))
 .skip))))
 (.region [⟨(some 20), oMv (rT 6), none, none⟩,
  ⟨(some 21), oBinBy (arithBy .add nAdd) (.tmp 20) (.const (.int .i64 1)), none, none⟩,
  ⟨(some 6), oMv (rT 21), none, none⟩]))))))
 (.seq (.region [⟨(some 36), oMv (rT 0), none, none⟩,
  ⟨(some 37), oMv (rT 5), none, none⟩,
  ⟨(some 38), oSlice 5 (.tmp 36) (some (.tmp 37)) none none, none, none⟩,
  ⟨none, oClear [(.int .i64 0), (.int .u8 0), (.int .u32 0), (.int .u64 0), (.bool false)] (.tmp 38), none, none⟩])
 (.seq (.region [⟨(some 39), oMv (rT 0), none, none⟩,
  ⟨(some 40), oMv (rT 5), none, none⟩,
  ⟨(some 41), oSlice 5 (.tmp 39) none (some (.tmp 40)) none, none, none⟩,
  ⟨(some 4), oMv (rT 41), none, none⟩])
 .ret))))))⟩
def c135 : FFunc := ⟨[.tmp 3], (.seq (.region [⟨(some 2), oBox (.tmp 0), none, none⟩,
  ⟨(some 3), oMv (rC (.bool false)), none, none⟩])
 (.seq (.region [⟨(some 4), oFieldAddr 1 (rT 2), none, none⟩,
  ⟨(some 5), oFieldAddr 0 (rT 4), none, none⟩,
  ⟨(some 6), oLoad1 (rT 5), none, none⟩,
  ⟨(some 7), oBinBy (cmpBy .neq cNeq) (.tmp 6) (.const (.int .u8 1)), none, none⟩,
  ⟨(some 8), oMv (rT 7), none, none⟩,
  ⟨(some 9), oFieldAddr 1 (rT 2), (some (8, false)), none⟩,
  ⟨(some 10), oFieldAddr 1 (rT 9), (some (8, false)), none⟩,
  ⟨(some 11), oLoad1 (rT 10), (some (8, false)), none⟩,
  ⟨(some 12), oLoad1 (rT 1), (some (8, false)), none⟩,
  ⟨(some 13), oBinBy (cmpBy .neq cNeq) (.tmp 11) (.tmp 12), (some (8, false)), none⟩,
  ⟨(some 14), oPick (rT 8) (rC (.bool true)) (rT 13), none, none⟩,
  ⟨(some 3), oMv (rT 14), none, none⟩])
 .ret))⟩
def c136 : FFunc := ⟨[.tmp 4, .tmp 5], (.seq (.region [⟨(some 4), oMv (rC (.slice none 0 0)), none, none⟩,
  ⟨(some 5), oMv (rC (.int .i64 0)), none, none⟩])
 (.seq (.region [⟨(some 17), oMv (rT 0), none, none⟩,
  ⟨(some 18), oCall 63 [(.tmp 17)], none, none⟩,
  ⟨(some 19), oBinBy (arithBy .sub nSub) (.tmp 18) (.const (.int .i64 1)), none, none⟩,
  ⟨(some 6), oMv (rT 19), none, none⟩])
 (.seq (.seq (.region [⟨(some 20), oMv (rT 6), none, none⟩,
  ⟨(some 21), oBinBy (cmpBy .lss cLss) (.tmp 20) (.const (.int .i64 0)), none, none⟩])
 (.cond (.tmp 21) (.seq (.region [⟨(some 4), oMv (rC (.slice none 0 0)), none, none⟩,
  ⟨(some 5), oMv (rC (.int .i64 2)), none, none⟩])
 .ret)
 .skip))
 (.seq (.region [⟨(some 7), oMv (rC (.bool false)), none, none⟩])
 (.seq (.seq (.region [⟨(some 22), oMv (rT 1), none, none⟩,
  ⟨(some 23), oLenS 106 (rT 22), none, none⟩,
  ⟨(some 24), oMv (rC (.int .i64 0)), none, none⟩])
 (.block 0 (.loop (.seq (.region [⟨(some 25), oBinBy (cmpBy .lss cLss) (.tmp 24) (.tmp 23), none, none⟩])
 (.seq (.cond (.tmp 25) .skip
 (.exit 0))
 (.seq (.block 1 (.seq (.region [⟨(some 26), oMv (rT 24), none, none⟩,
  ⟨(some 27), oIndexAddr 5 (rT 22) (rT 24), none, none⟩,
  ⟨(some 28), oLoadN 5 (rT 27), none, none⟩,
  ⟨(some 9), oAlloc [(.int .i64 0), (.int .u8 0), (.string ⟨#[]⟩), (.int .i64 0), (.slice none 0 0)], none, (some [(.int .i64 0), (.int .u8 0), (.string ⟨#[]⟩), (.int .i64 0), (.slice none 0 0)])⟩,
  ⟨(some 8), oMv (rT 26), none, none⟩,
  ⟨none, oStore 5 (rT 9) (rT 28), none, none⟩])
 (.seq (.region [⟨(some 29), oLoadN 5 (rT 9), none, none⟩,
  ⟨(some 30), oCall 160 [(.tmp 29)], none, none⟩,
  ⟨(some 10), oMv (rT 30), none, none⟩])
 (.seq (.seq (.draw [⟨(some 31), oMv (rT 10), none, none⟩,
  ⟨(some 32), oBinBy (cmpBy .eql cEql) (.tmp 31) (.const (.int .i64 0)), none, none⟩,
  ⟨(some 33), oMv (rT 32), none, none⟩,
  ⟨(some 34), oFieldAddr 4 (rT 9), (some (33, false)), none⟩,
  ⟨(some 35), oLoad1 (rT 34), (some (33, false)), none⟩,
  ⟨(some 36), oLenS 5 (rT 35), (some (33, false)), none⟩,
  ⟨(some 37), oBinBy (cmpBy .lss cLss) (.tmp 36) (.const (.int .i64 1)), (some (33, false)), none⟩,
  ⟨(some 38), oPick (rT 33) (rC (.bool true)) (rT 37), none, none⟩,
  ⟨(some 39), oMv (rT 38), none, none⟩,
  ⟨(some 40), oFieldAddr 4 (rT 9), (some (39, false)), none⟩,
  ⟨(some 41), oLoad1 (rT 40), (some (39, false)), none⟩,
  ⟨(some 42), oLenS 5 (rT 41), (some (39, false)), none⟩,
  ⟨(some 43), oBinBy (cmpBy .gtr cGtr) (.tmp 42) (.const (.int .i64 255)), (some (39, false)), none⟩,
  ⟨(some 44), oPick (rT 39) (rC (.bool true)) (rT 43), none, none⟩,
  ⟨(some 45), oMv (rT 44), none, none⟩,
  ⟨(some 46), oMv (rT 8), (some (45, false)), none⟩,
  ⟨(some 47), oBinBy (cmpBy .gtr cGtr) (.tmp 46) (.const (.int .i64 0)), (some (45, false)), none⟩,
  ⟨(some 48), oMv (rT 47), (some (45, false)), none⟩,
  ⟨(some 49), oMv (rT 1), (some (48, true)), none⟩,
  ⟨(some 50), oMv (rT 8), (some (48, true)), none⟩,
  ⟨(some 51), oBinBy (arithBy .sub nSub) (.tmp 50) (.const (.int .i64 1)), (some (48, true)), none⟩,
  ⟨(some 52), oIndexAddr 5 (rT 49) (rT 51), (some (48, true)), none⟩,
  ⟨(some 53), oFieldAddr 0 (rT 52), (some (48, true)), none⟩,
  ⟨(some 54), oLoadN 4 (rT 53), (some (48, true)), none⟩,
  ⟨(some 55), oFieldAddr 0 (rT 9), (some (48, true)), none⟩,
  ⟨(some 56), oLoadN 4 (rT 55), (some (48, true)), none⟩,
  ⟨(some 57), oCall 36 [(.tmp 54), (.tmp 56)], (some (48, true)), none⟩,
  ⟨(some 58), oUn .not (.tmp 57), (some (48, true)), none⟩,
  ⟨(some 59), oPick (rT 48) (rT 58) (rC (.bool false)), (some (45, false)), none⟩,
  ⟨(some 60), oPick (rT 45) (rC (.bool true)) (rT 59), none, none⟩] 0 [])
 (.cond (.tmp 60) (.seq (.region [⟨(some 4), oMv (rC (.slice none 0 0)), none, none⟩,
  ⟨(some 5), oMv (rC (.int .i64 2)), none, none⟩])
 .ret)
 .skip))
 (.region [⟨(some 61), oMv (rT 7), none, none⟩,
  ⟨(some 62), oMv (rT 61), none, none⟩,
  ⟨(some 63), oMv (rT 10), (some (62, false)), none⟩,
  ⟨(some 64), oMv (rT 6), (some (62, false)), none⟩,
  ⟨(some 65), oBinBy (cmpBy .gtr cGtr) (.tmp 63) (.tmp 64), (some (62, false)), none⟩,
  ⟨(some 66), oPick (rT 62) (rC (.bool true)) (rT 65), none, none⟩,
  ⟨(some 7), oMv (rT 66), none, none⟩])))))
 (.region [⟨(some 67), oBinBy (arithBy .add nAdd) (.tmp 24) (.const (.int .i64 1)), none, none⟩,
  ⟨(some 24), oMv (rT 67), none, none⟩])))))))
 (.seq (.seq (.region [⟨(some 68), oMv (rT 7), none, none⟩])
 (.cond (.tmp 68) (.seq (.region [⟨(some 4), oMv (rC (.slice none 0 0)), none, none⟩,
  ⟨(some 5), oMv (rC (.int .i64 3)), none, none⟩])
 .ret)
 .skip))
 (.seq (.region [⟨(some 11), oMv (rC (.slice none 0 0)), none, none⟩])
 (.seq (.region [⟨(some 12), oMv (rC (.int .i64 0)), none, none⟩,
  ⟨(some 13), oMv (rC (.int .i64 0)), none, none⟩])
 (.seq (.seq (.region [⟨(some 69), oMv (rT 1), none, none⟩,
  ⟨(some 70), oLenS 106 (rT 69), none, none⟩,
  ⟨(some 71), oMv (rC (.int .i64 0)), none, none⟩])
 (.block 2 (.loop (.seq (.region [⟨(some 72), oBinBy (cmpBy .lss cLss) (.tmp 71) (.tmp 70), none, none⟩])
 (.seq (.cond (.tmp 72) .skip
 (.exit 2))
 (.seq (.block 3 (.seq (.region [⟨(some 73), oMv (rT 71), none, none⟩,
  ⟨(some 74), oIndexAddr 5 (rT 69) (rT 71), none, none⟩,
  ⟨(some 75), oLoadN 5 (rT 74), none, none⟩,
  ⟨(some 15), oAlloc [(.int .i64 0), (.int .u8 0), (.string ⟨#[]⟩), (.int .i64 0), (.slice none 0 0)], none, (some [(.int .i64 0), (.int .u8 0), (.string ⟨#[]⟩), (.int .i64 0), (.slice none 0 0)])⟩,
  ⟨(some 14), oMv (rT 73), none, none⟩,
  ⟨none, oStore 5 (rT 15) (rT 75), none, none⟩])
 (.seq (.region [⟨(some 76), oLoadN 5 (rT 15), none, none⟩,
  ⟨(some 77), oCall 160 [(.tmp 76)], none, none⟩,
  ⟨(some 16), oMv (rT 77), none, none⟩])
 (.seq (.seq (.region [⟨(some 78), oMv (rT 14), none, none⟩,
  ⟨(some 79), oBinBy (cmpBy .eql cEql) (.tmp 78) (.const (.int .i64 0)), none, none⟩,
  ⟨(some 80), oMv (rT 79), none, none⟩,
  ⟨(some 81), oMv (rT 13), (some (80, false)), none⟩,
  ⟨(some 82), oMv (rT 16), (some (80, false)), none⟩,
  ⟨(some 83), oBinBy (arithBy .add nAdd) (.tmp 81) (.tmp 82), (some (80, false)), none⟩,
  ⟨(some 84), oMv (rT 6), (some (80, false)), none⟩,
  ⟨(some 85), oBinBy (cmpBy .gtr cGtr) (.tmp 83) (.tmp 84), (some (80, false)), none⟩,
  ⟨(some 86), oPick (rT 80) (rC (.bool true)) (rT 85), none, none⟩,
  ⟨(some 87), oMv (rT 86), none, none⟩,
  ⟨(some 88), oMv (rT 14), (some (87, false)), none⟩,
  ⟨(some 89), oMv (rT 12), (some (87, false)), none⟩,
  ⟨(some 90), oBinBy (arithBy .sub nSub) (.tmp 88) (.tmp 89), (some (87, false)), none⟩,
  ⟨(some 91), oBinBy (cmpBy .eql cEql) (.tmp 90) (.const (.int .i64 255)), (some (87, false)), none⟩,
  ⟨(some 92), oPick (rT 87) (rC (.bool true)) (rT 91), none, none⟩])
 (.cond (.tmp 92) (.seq (.region [⟨(some 93), oMv (rT 11), none, none⟩,
  ⟨(some 94), oMv (rT 14), none, none⟩,
  ⟨(some 95), oBuildSlice false 1 1 [(.int .i64 0)] [(0, (.tmp 94))], none, none⟩,
  ⟨(some 96), oAppend 1 8 (.tmp 93) (.tmp 95), none, none⟩,
  ⟨(some 11), oMv (rT 96), none, none⟩])
 (.region [⟨(some 97), oMv (rT 14), none, none⟩,
  ⟨(some 12), oMv (rT 97), none, none⟩,
  ⟨(some 13), oMv (rC (.int .i64 0)), none, none⟩]))
 .skip))
 (.region [⟨(some 98), oMv (rT 13), none, none⟩,
  ⟨(some 99), oMv (rT 16), none, none⟩,
  ⟨(some 100), oBinBy (arithBy .add nAdd) (.tmp 98) (.tmp 99), none, none⟩,
  ⟨(some 13), oMv (rT 100), none, none⟩])))))
 (.region [⟨(some 101), oBinBy (arithBy .add nAdd) (.tmp 71) (.const (.int .i64 1)), none, none⟩,
  ⟨(some 71), oMv (rT 101), none, none⟩])))))))
 (.seq (.region [⟨(some 102), oMv (rT 11), none, none⟩,
  ⟨(some 4), oMv (rT 102), none, none⟩,
  ⟨(some 5), oMv (rC (.int .i64 0)), none, none⟩])
 .ret))))))))))⟩
def c137 : FFunc := ⟨[.tmp 4, .tmp 5], (.seq (.region [⟨(some 4), oMv (rC (.slice none 0 0)), none, none⟩,
  ⟨(some 5), oMv (rC (.int .i64 0)), none, none⟩])
 (.seq (.region [⟨(some 9), oMv (rT 1), none, none⟩,
  ⟨(some 10), oCall 161 [(.tmp 9)], none, none⟩,
  ⟨(some 8), oMv (rT 10), none, none⟩,
  ⟨(some 11), oExtract (rT 8) 0, none, none⟩,
  ⟨(some 12), oExtract (rT 8) 1, none, none⟩,
  ⟨(some 6), oMv (rT 11), none, none⟩,
  ⟨(some 7), oMv (rT 12), none, none⟩])
 (.seq (.seq (.region [⟨(some 13), oMv (rT 7), none, none⟩,
  ⟨(some 14), oUn .not (.tmp 13), none, none⟩])
 (.cond (.tmp 14) (.seq (.region [⟨(some 4), oMv (rC (.slice none 0 0)), none, none⟩,
  ⟨(some 5), oMv (rC (.int .i64 2)), none, none⟩])
 .ret)
 .skip))
 (.seq (.region [⟨(some 15), oMv (rT 0), none, none⟩,
  ⟨(some 16), oMv (rT 6), none, none⟩,
  ⟨(some 17), oCall 90 [(.tmp 15), (.const (.int .u8 2)), (.tmp 16)], none, none⟩,
  ⟨(some 18), oExtract (rT 17) 0, none, none⟩,
  ⟨(some 19), oExtract (rT 17) 1, none, none⟩,
  ⟨(some 4), oMv (rT 18), none, none⟩,
  ⟨(some 5), oMv (rT 19), none, none⟩])
 .ret))))⟩
def c138 : FFunc := ⟨[.tmp 6, .tmp 7], (.seq (.region [⟨(some 6), oMv (rC (.int .i64 0)), none, none⟩,
  ⟨(some 7), oMv (rC (.int .i64 0)), none, none⟩])
 (.seq (.seq (.region [⟨(some 13), oMv (rT 0), none, none⟩,
  ⟨(some 14), oCall 41 [(.tmp 13)], none, none⟩])
 (.cond (.tmp 14) (.seq (.region [⟨(some 6), oMv (rC (.int .i64 0)), none, none⟩,
  ⟨(some 7), oMv (rC (.int .i64 1)), none, none⟩])
 .ret)
 .skip))
 (.seq (.seq (.region [⟨(some 15), oMv (rT 1), none, none⟩,
  ⟨(some 16), oBinBy (cmpBy .lss cLss) (.tmp 15) (.const (.int .u8 1)), none, none⟩,
  ⟨(some 17), oMv (rT 16), none, none⟩,
  ⟨(some 18), oMv (rT 1), (some (17, false)), none⟩,
  ⟨(some 19), oBinBy (cmpBy .gtr cGtr) (.tmp 18) (.const (.int .u8 3)), (some (17, false)), none⟩,
  ⟨(some 20), oPick (rT 17) (rC (.bool true)) (rT 19), none, none⟩,
  ⟨(some 21), oMv (rT 20), none, none⟩,
  ⟨(some 22), oMv (rT 2), (some (21, false)), none⟩,
  ⟨(some 23), oBinBy (cmpBy .lss cLss) (.tmp 22) (.const (.int .u32 1)), (some (21, false)), none⟩,
  ⟨(some 24), oPick (rT 21) (rC (.bool true)) (rT 23), none, none⟩])
 (.cond (.tmp 24) (.seq (.region [⟨(some 6), oMv (rC (.int .i64 0)), none, none⟩,
  ⟨(some 7), oMv (rC (.int .i64 2)), none, none⟩])
 .ret)
 .skip))
 (.seq (.seq (.region [⟨(some 25), oMv (rT 0), none, none⟩,
  ⟨(some 26), oCall 162 [(.tmp 25)], none, none⟩,
  ⟨(some 8), oMv (rT 26), none, none⟩])
 (.seq (.region [⟨(some 27), oMv (rT 8), none, none⟩,
  ⟨(some 28), oBinBy (cmpBy .neq cNeq) (.tmp 27) (.const (.int .i64 0)), none, none⟩])
 (.cond (.tmp 28) (.seq (.region [⟨(some 29), oMv (rT 8), none, none⟩,
  ⟨(some 6), oMv (rC (.int .i64 0)), none, none⟩,
  ⟨(some 7), oMv (rT 29), none, none⟩])
 .ret)
 .skip)))
 (.seq (.region [⟨(some 30), oMv (rT 0), none, none⟩,
  ⟨(some 31), oNilCheck (rT 30), none, none⟩,
  ⟨(some 32), oFieldAddr 1 (rT 31), none, none⟩,
  ⟨(some 33), oLoad1 (rT 32), none, none⟩,
  ⟨(some 34), oLenS 84 (rT 33), none, none⟩,
  ⟨(some 9), oMv (rT 34), none, none⟩])
 (.seq (.seq (.region [⟨(some 35), oMv (rT 9), none, none⟩,
  ⟨(some 36), oMv (rC (.int .i64 0)), none, none⟩])
 (.block 0 (.loop (.seq (.region [⟨(some 37), oBinBy (cmpBy .lss cLss) (.tmp 36) (.tmp 35), none, none⟩])
 (.seq (.cond (.tmp 37) .skip
 (.exit 0))
 (.seq (.block 1 (.seq (.region [⟨(some 38), oMv (rT 36), none, none⟩,
  ⟨(some 10), oMv (rT 38), none, none⟩])
 (.seq (.region [⟨(some 39), oMv (rT 0), none, none⟩,
  ⟨(some 40), oNilCheck (rT 39), none, none⟩,
  ⟨(some 41), oFieldAddr 3 (rT 40), none, none⟩,
  ⟨(some 42), oLoad1 (rT 41), none, none⟩,
  ⟨(some 43), oMv (rT 10), none, none⟩,
  ⟨(some 44), oBinBy (arithBy .add nAdd) (.tmp 42) (.tmp 43), none, none⟩,
  ⟨(some 45), oMv (rT 9), none, none⟩,
  ⟨(some 46), oBinBy (arithBy .rem nRem) (.tmp 44) (.tmp 45), none, none⟩,
  ⟨(some 11), oMv (rT 46), none, none⟩])
 (.seq (.seq (.region [⟨(some 47), oMv (rT 0), none, none⟩,
  ⟨(some 48), oNilCheck (rT 47), none, none⟩,
  ⟨(some 49), oFieldAddr 0 (rT 48), none, none⟩,
  ⟨(some 50), oLoad1 (rT 49), none, none⟩,
  ⟨(some 51), oMv (rT 11), none, none⟩,
  ⟨(some 52), oCall 42 [(.tmp 50), (.tmp 51)], none, none⟩,
  ⟨(some 53), oMv (rT 52), none, none⟩,
  ⟨(some 54), oMv (rT 0), (some (53, false)), none⟩,
  ⟨(some 55), oNilCheck (rT 54), (some (53, false)), none⟩,
  ⟨(some 56), oFieldAddr 1 (rT 55), (some (53, false)), none⟩,
  ⟨(some 57), oLoad1 (rT 56), (some (53, false)), none⟩,
  ⟨(some 58), oMv (rT 11), (some (53, false)), none⟩,
  ⟨(some 59), oIndexAddr 4 (rT 57) (rT 58), (some (53, false)), none⟩,
  ⟨(some 60), oFieldAddr 0 (rT 59), (some (53, false)), none⟩,
  ⟨(some 61), oLoad1 (rT 60), (some (53, false)), none⟩,
  ⟨(some 62), oBinBy (cmpBy .eql cEql) (.tmp 61) (.const (.int .i64 2)), (some (53, false)), none⟩,
  ⟨(some 63), oPick (rT 53) (rC (.bool true)) (rT 62), none, none⟩])
 (.cond (.tmp 63) (.exit 1)
 .skip))
 (.seq (.region [⟨(some 64), oMv (rT 0), none, none⟩,
  ⟨(some 65), oMv (rT 11), none, none⟩,
  ⟨(some 66), oMv (rT 1), none, none⟩,
  ⟨(some 67), oMv (rT 2), none, none⟩,
  ⟨(some 68), oCall 163 [(.tmp 64), (.tmp 65), (.tmp 66), (.tmp 67)], none, none⟩,
  ⟨(some 12), oMv (rT 68), none, none⟩])
 (.seq (.region [⟨(some 69), oMv (rT 12), none, none⟩])
 (.block 2 (.seq (.region [⟨(some 71), oBinBy (cmpBy .eql cEql) (.tmp 69) (.const (.int .i64 0)), none, none⟩,
  ⟨(some 70), oMv (rT 71), none, none⟩])
 (.cond (.tmp 70) (.seq (.region [⟨(some 72), oMv (rT 0), none, none⟩,
  ⟨(some 73), oMv (rT 11), none, none⟩,
  ⟨(some 74), oBinBy (arithBy .add nAdd) (.tmp 73) (.const (.int .i64 1)), none, none⟩,
  ⟨(some 75), oNilCheck (rT 72), none, none⟩,
  ⟨(some 76), oFieldAddr 3 (rT 75), none, none⟩,
  ⟨none, oStore 1 (rT 76) (rT 74), none, none⟩])
 (.seq (.region [⟨(some 77), oMv (rT 11), none, none⟩,
  ⟨(some 6), oMv (rT 77), none, none⟩,
  ⟨(some 7), oMv (rC (.int .i64 0)), none, none⟩])
 .ret))
 (.seq (.region [⟨(some 79), oBinBy (cmpBy .eql cEql) (.tmp 69) (.const (.int .i64 10)), none, none⟩,
  ⟨(some 78), oMv (rT 79), none, none⟩])
 (.cond (.tmp 78) (.seq (.region [⟨(some 80), oMv (rT 12), none, none⟩,
  ⟨(some 6), oMv (rC (.int .i64 0)), none, none⟩,
  ⟨(some 7), oMv (rT 80), none, none⟩])
 .ret)
 .skip)))))))))))
 (.region [⟨(some 81), oBinBy (arithBy .add nAdd) (.tmp 36) (.const (.int .i64 1)), none, none⟩,
  ⟨(some 36), oMv (rT 81), none, none⟩])))))))
 (.seq (.region [⟨(some 6), oMv (rC (.int .i64 0)), none, none⟩,
  ⟨(some 7), oMv (rC (.int .i64 11)), none, none⟩])
 .ret)))))))⟩
def c139 : FFunc := ⟨[.tmp 8], (.seq (.region [⟨(some 7), oBox (.tmp 3), none, none⟩,
  ⟨(some 8), oMv (rC (.int .i64 0)), none, none⟩])
 (.seq (.seq (.region [⟨(some 10), oMv (rT 0), none, none⟩,
  ⟨(some 11), oMv (rT 1), none, none⟩,
  ⟨(some 12), oMv (rT 2), none, none⟩,
  ⟨(some 13), oCall 20 [(.tmp 10), (.tmp 11), (.tmp 12)], none, none⟩,
  ⟨(some 9), oMv (rT 13), none, none⟩])
 (.seq (.region [⟨(some 14), oMv (rT 9), none, none⟩,
  ⟨(some 15), oBinBy (cmpBy .neq cNeq) (.tmp 14) (.const (.int .i64 0)), none, none⟩])
 (.cond (.tmp 15) (.seq (.region [⟨(some 16), oMv (rT 9), none, none⟩,
  ⟨(some 8), oMv (rT 16), none, none⟩])
 .ret)
 .skip)))
 (.seq (.block 0 (.seq (.draw [⟨(some 18), oLoad1 (rT 7), none, none⟩,
  ⟨(some 19), oLenS 5 (rT 18), none, none⟩,
  ⟨(some 20), oMv (rT 0), none, none⟩,
  ⟨(some 21), oNilCheck (rT 20), none, none⟩,
  ⟨(some 22), oFieldAddr 0 (rT 21), none, none⟩,
  ⟨(some 23), oFieldAddr 2 (rT 22), none, none⟩,
  ⟨(some 24), oLoad1 (rT 23), none, none⟩,
  ⟨(some 25), oBinBy (cmpBy .neq cNeq) (.tmp 19) (.tmp 24), none, none⟩,
  ⟨(some 17), oMv (rT 25), none, none⟩] 0 [])
 (.cond (.tmp 17) (.seq (.region [⟨(some 8), oMv (rC (.int .i64 2)), none, none⟩])
 .ret)
 (.seq (.region [⟨(some 27), oMv (rT 0), none, none⟩,
  ⟨(some 28), oNilCheck (rT 27), none, none⟩,
  ⟨(some 29), oFieldAddr 5 (rT 28), none, none⟩,
  ⟨(some 30), oLoad1 (rT 29), none, none⟩,
  ⟨(some 31), oMv (rT 1), none, none⟩,
  ⟨(some 32), oIndexAddr 1 (rT 30) (rT 31), none, none⟩,
  ⟨(some 33), oLoad1 (rT 32), none, none⟩,
  ⟨(some 26), oMv (rT 33), none, none⟩])
 (.cond (.tmp 26) (.seq (.region [⟨(some 8), oMv (rC (.int .i64 9)), none, none⟩])
 .ret)
 (.seq (.draw [⟨(some 35), oMv (rT 0), none, none⟩,
  ⟨(some 36), oNilCheck (rT 35), none, none⟩,
  ⟨(some 37), oFieldAddr 4 (rT 36), none, none⟩,
  ⟨(some 38), oLoad1 (rT 37), none, none⟩,
  ⟨(some 39), oMv (rT 1), none, none⟩,
  ⟨(some 40), oIndexAddr 1 (rT 38) (rT 39), none, none⟩,
  ⟨(some 41), oLoad1 (rT 40), none, none⟩,
  ⟨(some 42), oMv (rT 2), none, none⟩,
  ⟨(some 43), oMv (rT 0), none, none⟩,
  ⟨(some 44), oNilCheck (rT 43), none, none⟩,
  ⟨(some 45), oFieldAddr 0 (rT 44), none, none⟩,
  ⟨(some 46), oFieldAddr 2 (rT 45), none, none⟩,
  ⟨(some 47), oLoad1 (rT 46), none, none⟩,
  ⟨(some 48), oBinBy (arithBy .mul nMul) (.tmp 42) (.tmp 47), none, none⟩,
  ⟨(some 49), oSlice 1 (.tmp 41) (some (.tmp 48)) none none, none, none⟩,
  ⟨(some 50), oCall 40 [(.tmp 49)], none, none⟩,
  ⟨(some 51), oUn .not (.tmp 50), none, none⟩,
  ⟨(some 34), oMv (rT 51), none, none⟩] 0 [])
 (.cond (.tmp 34) (.seq (.region [⟨(some 8), oMv (rC (.int .i64 8)), none, none⟩])
 .ret)
 .skip)))))))
 (.seq (.region [⟨(some 52), oMv (rT 0), none, none⟩,
  ⟨(some 53), oMv (rT 1), none, none⟩,
  ⟨(some 54), oMv (rT 0), none, none⟩,
  ⟨(some 55), oMv (rT 1), none, none⟩,
  ⟨(some 56), oMv (rT 2), none, none⟩,
  ⟨(some 57), oCall 38 [(.tmp 54), (.tmp 55), (.tmp 56)], none, none⟩,
  ⟨(some 58), oMkFunc (.func 164) [] [(.tmp 7)], none, none⟩,
  ⟨(some 59), oCall 21 [(.tmp 52), (.tmp 53), (.tmp 57), (.tmp 58)], none, none⟩,
  ⟨(some 8), oMv (rT 59), none, none⟩])
 .ret))))⟩
def c140 : FFunc := ⟨[.tmp 2], (.seq (.region [⟨(some 1), oBox (.tmp 0), none, none⟩,
  ⟨(some 2), oMv (rC (.bool false)), none, none⟩])
 (.seq (.block 0 (.seq (.seq (.region [⟨(some 4), oFieldAddr 0 (rT 1), none, none⟩,
  ⟨(some 5), oLoad1 (rT 4), none, none⟩,
  ⟨(some 6), oBinBy (cmpBy .lss cLss) (.tmp 5) (.const (.int .u64 1)), none, none⟩,
  ⟨(some 3), oMv (rT 6), none, none⟩])
 (.cond (.tmp 3) .skip
 (.seq (.region [⟨(some 7), oFieldAddr 3 (rT 1), none, none⟩,
  ⟨(some 8), oLoad1 (rT 7), none, none⟩,
  ⟨(some 9), oBinBy (cmpBy .lss cLss) (.tmp 8) (.const (.int .i64 0)), none, none⟩,
  ⟨(some 3), oMv (rT 9), none, none⟩])
 (.cond (.tmp 3) .skip
 (.seq (.region [⟨(some 10), oFieldAddr 3 (rT 1), none, none⟩,
  ⟨(some 11), oLoad1 (rT 10), none, none⟩,
  ⟨(some 12), oBinBy (cmpBy .gtr cGtr) (.tmp 11) (.const (.int .i64 65535)), none, none⟩,
  ⟨(some 3), oMv (rT 12), none, none⟩])
 (.cond (.tmp 3) .skip
 (.seq (.region [⟨(some 13), oFieldAddr 1 (rT 1), none, none⟩,
  ⟨(some 14), oLoad1 (rT 13), none, none⟩,
  ⟨(some 15), oBinBy (cmpBy .lss cLss) (.tmp 14) (.const (.int .i64 0)), none, none⟩,
  ⟨(some 3), oMv (rT 15), none, none⟩])
 (.cond (.tmp 3) .skip
 (.seq (.region [⟨(some 16), oFieldAddr 1 (rT 1), none, none⟩,
  ⟨(some 17), oLoad1 (rT 16), none, none⟩,
  ⟨(some 18), oBinBy (cmpBy .gtr cGtr) (.tmp 17) (.const (.int .i64 255)), none, none⟩,
  ⟨(some 3), oMv (rT 18), none, none⟩])
 (.cond (.tmp 3) .skip
 (.seq (.region [⟨(some 19), oFieldAddr 2 (rT 1), none, none⟩,
  ⟨(some 20), oLoad1 (rT 19), none, none⟩,
  ⟨(some 21), oBinBy (cmpBy .lss cLss) (.tmp 20) (.const (.int .i64 0)), none, none⟩,
  ⟨(some 3), oMv (rT 21), none, none⟩])
 (.cond (.tmp 3) .skip
 (.seq (.region [⟨(some 22), oFieldAddr 2 (rT 1), none, none⟩,
  ⟨(some 23), oLoad1 (rT 22), none, none⟩,
  ⟨(some 24), oBinBy (cmpBy .gtr cGtr) (.tmp 23) (.const (.int .i64 255)), none, none⟩,
  ⟨(some 3), oMv (rT 24), none, none⟩])
 (.cond (.tmp 3) .skip
 (.region [⟨(some 25), oFieldAddr 2 (rT 1), none, none⟩,
  ⟨(some 26), oLoad1 (rT 25), none, none⟩,
  ⟨(some 27), oBinBy (cmpBy .eql cEql) (.tmp 26) (.const (.int .i64 0)), none, none⟩,
  ⟨(some 28), oFieldAddr 3 (rT 1), none, none⟩,
  ⟨(some 29), oLoad1 (rT 28), none, none⟩,
  ⟨(some 30), oBinBy (cmpBy .eql cEql) (.tmp 29) (.const (.int .i64 0)), none, none⟩,
  ⟨(some 31), oEqNil true false .bool (.tmp 27) (.tmp 30), none, none⟩,
  ⟨(some 3), oMv (rT 31), none, none⟩])))))))))))))))
 (.cond (.tmp 3) (.seq (.region [⟨(some 2), oMv (rC (.bool false)), none, none⟩])
 .ret)
 .skip)))
 (.seq (.region [⟨(some 32), oFieldAddr 3 (rT 1), none, none⟩,
  ⟨(some 33), oLoad1 (rT 32), none, none⟩,
  ⟨(some 34), oBinBy (cmpBy .gtr cGtr) (.tmp 33) (.const (.int .i64 0)), none, none⟩,
  ⟨(some 35), oMv (rT 34), none, none⟩,
  ⟨(some 36), oLoadN 4 (rT 1), (some (35, false)), none⟩,
  ⟨(some 37), oFieldAddr 0 (rT 1), (some (35, false)), none⟩,
  ⟨(some 38), oLoad1 (rT 37), (some (35, false)), none⟩,
  ⟨(some 39), oBuild #[(.int .u64 0), (.int .i64 0), (.int .i64 0), (.int .i64 0)] [(0, 1), (1, 1), (2, 1), (3, 1)] [(0, (.tmp 38))], (some (35, false)), none⟩,
  ⟨(some 40), oEqFlat false [(0, (.int .u64)), (1, (.int .i64)), (2, (.int .i64)), (3, (.int .i64))] (.tmp 36) (.tmp 39), (some (35, false)), none⟩,
  ⟨(some 41), oPick (rT 35) (rC (.bool true)) (rT 40), none, none⟩,
  ⟨(some 2), oMv (rT 41), none, none⟩])
 .ret)))⟩
def c141 : FFunc := ⟨[.tmp 2], (.seq (.region [⟨(some 2), oMv (rC (.int .i64 0)), none, none⟩])
 (.seq (.seq (.region [⟨(some 3), oMv (rT 0), none, none⟩,
  ⟨(some 4), oCall 86 [(.tmp 3)], none, none⟩,
  ⟨(some 5), oMv (rT 4), none, none⟩,
  ⟨(some 6), oMv (rT 0), (some (5, false)), none⟩,
  ⟨(some 7), oNilCheck (rT 6), (some (5, false)), none⟩,
  ⟨(some 8), oFieldAddr 2 (rT 7), (some (5, false)), none⟩,
  ⟨(some 9), oLoad1 (rT 8), (some (5, false)), none⟩,
  ⟨(some 10), oPick (rT 5) (rC (.bool true)) (rT 9), none, none⟩])
 (.cond (.tmp 10) (.seq (.region [⟨(some 2), oMv (rC (.int .i64 0)), none, none⟩])
 .ret)
 .skip))
 (.seq (.region [⟨(some 11), oMv (rT 0), none, none⟩,
  ⟨(some 12), oNilCheck (rT 11), none, none⟩,
  ⟨(some 13), oFieldAddr 1 (rT 12), none, none⟩,
  ⟨(some 14), oLoad1 (rT 13), none, none⟩,
  ⟨(some 15), oLenS 5 (rT 14), none, none⟩,
  ⟨(some 2), oMv (rT 15), none, none⟩])
 .ret)))⟩
def c142 : FFunc := ⟨[.tmp 2], (.seq (.region [⟨(some 2), oMv (rC (.slice none 0 0)), none, none⟩])
 (.seq (.region [⟨(some 3), oMv (rC (.slice none 0 0)), none, none⟩])
 (.seq (.seq (.region [⟨(some 8), oMv (rT 0), none, none⟩,
  ⟨(some 9), oLenS 277 (rT 8), none, none⟩,
  ⟨(some 10), oMv (rC (.int .i64 0)), none, none⟩])
 (.block 0 (.loop (.seq (.region [⟨(some 11), oBinBy (cmpBy .lss cLss) (.tmp 10) (.tmp 9), none, none⟩])
 (.seq (.cond (.tmp 11) .skip
 (.exit 0))
 (.seq (.block 1 (.seq (.region [⟨(some 12), oIndexAddr 2 (rT 8) (rT 10), none, none⟩,
  ⟨(some 13), oLoadN 2 (rT 12), none, none⟩,
  ⟨(some 5), oAlloc [(.int .u64 0), (.int .i64 0)], none, (some [(.int .u64 0), (.int .i64 0)])⟩,
  ⟨none, oStore 2 (rT 5) (rT 13), none, none⟩])
 (.seq (.region [⟨(some 15), oFieldAddr 0 (rT 5), none, none⟩,
  ⟨(some 16), oLoad1 (rT 15), none, none⟩,
  ⟨(some 17), oFieldAddr 1 (rT 5), none, none⟩,
  ⟨(some 18), oLoad1 (rT 17), none, none⟩,
  ⟨(some 19), oCall 89 [(.tmp 16), (.tmp 18)], none, none⟩,
  ⟨(some 14), oMv (rT 19), none, none⟩,
  ⟨(some 20), oExtract (rT 14) 0, none, none⟩,
  ⟨(some 21), oExtract (rT 14) 1, none, none⟩,
  ⟨(some 6), oMv (rT 20), none, none⟩,
  ⟨(some 7), oMv (rT 21), none, none⟩])
 (.region [⟨(some 22), oMv (rT 3), none, none⟩,
  ⟨(some 23), oMv (rT 6), none, none⟩,
  ⟨(some 24), oAppend 1 1 (.tmp 22) (.tmp 23), none, none⟩,
  ⟨(some 3), oMv (rT 24), none, none⟩]))))
 (.region [⟨(some 25), oBinBy (arithBy .add nAdd) (.tmp 10) (.const (.int .i64 1)), none, none⟩,
  ⟨(some 10), oMv (rT 25), none, none⟩])))))))
 (.seq (.region [⟨(some 26), oMv (rT 3), none, none⟩,
  ⟨(some 2), oMv (rT 26), none, none⟩])
 .ret))))⟩
def c143 : FFunc := ⟨[], (.seq (.region [⟨(some 10), oMv (rC (.int .i64 0)), none, none⟩])
 (.block 0 (.loop (.seq (.seq (.region [⟨(some 11), oMv (rT 10), none, none⟩,
  ⟨(some 12), oMv (rT 3), none, none⟩,
  ⟨(some 13), oBinBy (cmpBy .lss cLss) (.tmp 11) (.tmp 12), none, none⟩])
 (.cond (.tmp 13) .skip
 (.exit 0)))
 (.seq (.block 1 (.draw [⟨(some 16), oMv (rT 0), none, none⟩,
  ⟨(some 17), oMv (rT 1), none, none⟩,
  ⟨(some 18), oMv (rT 10), none, none⟩,
  ⟨(some 19), oBinBy (arithBy .add nAdd) (.tmp 17) (.tmp 18), none, none⟩,
  ⟨(some 20), oMv (rT 0), none, none⟩,
  ⟨(some 21), oMv (rT 2), none, none⟩,
  ⟨(some 22), oMv (rT 10), none, none⟩,
  ⟨(some 23), oBinBy (arithBy .add nAdd) (.tmp 21) (.tmp 22), none, none⟩,
  ⟨(some 24), oMv (rT 0), none, none⟩,
  ⟨(some 25), oMv (rT 2), none, none⟩,
  ⟨(some 26), oMv (rT 10), none, none⟩,
  ⟨(some 27), oBinBy (arithBy .add nAdd) (.tmp 25) (.tmp 26), none, none⟩,
  ⟨(some 28), oIndexAddr 5 (rT 24) (rT 27), none, none⟩,
  ⟨(some 29), oLoadN 5 (rT 28), none, none⟩,
  ⟨(some 30), oMv (rT 0), none, none⟩,
  ⟨(some 31), oMv (rT 1), none, none⟩,
  ⟨(some 32), oMv (rT 10), none, none⟩,
  ⟨(some 33), oBinBy (arithBy .add nAdd) (.tmp 31) (.tmp 32), none, none⟩,
  ⟨(some 34), oIndexAddr 5 (rT 30) (rT 33), none, none⟩,
  ⟨(some 35), oLoadN 5 (rT 34), none, none⟩,
  ⟨(some 36), oIndexAddr 5 (rT 16) (rT 19), none, none⟩,
  ⟨none, oStore 5 (rT 36) (rT 29), none, none⟩,
  ⟨(some 37), oIndexAddr 5 (rT 20) (rT 23), none, none⟩,
  ⟨none, oStore 5 (rT 37) (rT 35), none, none⟩] 0 []))
 (.region [⟨(some 14), oMv (rT 10), none, none⟩,
  ⟨(some 15), oBinBy (arithBy .add nAdd) (.tmp 14) (.const (.int .i64 1)), none, none⟩,
  ⟨(some 10), oMv (rT 15), none, none⟩]))))))⟩
def c144 : FFunc := ⟨[.cells 4 3, .tmp 5], (.seq (.region [⟨(some 4), oAlloc [(.int .i64 0), (.slice none 0 0), (.int .u64 0)], none, (some [(.int .i64 0), (.slice none 0 0), (.int .u64 0)])⟩,
  ⟨(some 5), oMv (rC (.bool false)), none, none⟩])
 (.seq (.region [⟨(some 11), oMv (rT 1), none, none⟩,
  ⟨(some 12), oCall 45 [(.tmp 11)], none, none⟩,
  ⟨(some 10), oMv (rT 12), none, none⟩,
  ⟨(some 13), oExtract (rT 10) 0, none, none⟩,
  ⟨(some 14), oExtract (rT 10) 1, none, none⟩,
  ⟨(some 15), oExtract (rT 10) 2, none, none⟩,
  ⟨(some 6), oMv (rT 13), none, none⟩,
  ⟨(some 7), oMv (rT 14), none, none⟩,
  ⟨(some 8), oMv (rT 15), none, none⟩])
 (.seq (.region [⟨(some 16), oMv (rT 0), none, none⟩,
  ⟨(some 17), oBuild #[(.int .i64 0), (.slice none 0 0), (.int .u64 0)] [(0, 1), (1, 1), (2, 1)] [(0, (.tmp 16))], none, none⟩,
  ⟨(some 9), oAlloc [(.int .i64 0), (.slice none 0 0), (.int .u64 0)], none, (some [(.int .i64 0), (.slice none 0 0), (.int .u64 0)])⟩,
  ⟨none, oStore 3 (rT 9) (rT 17), none, none⟩])
 (.seq (.block 0 (.seq (.region [⟨(some 20), oMv (rT 8), none, none⟩,
  ⟨(some 21), oBinBy (cmpBy .neq cNeq) (.tmp 20) (.const (.int .i64 0)), none, none⟩,
  ⟨(some 19), oMv (rT 21), none, none⟩])
 (.cond (.tmp 19) .skip
 (.seq (.region [⟨(some 23), oMv (rT 6), none, none⟩,
  ⟨(some 24), oBinBy (cmpBy .eql cEql) (.tmp 23) (.const (.int .u8 2)), none, none⟩,
  ⟨(some 22), oMv (rT 24), none, none⟩])
 (.cond (.tmp 22) (.region [⟨(some 26), oMv (rT 7), none, none⟩,
  ⟨(some 27), oCall 165 [(.tmp 26)], none, none⟩,
  ⟨(some 25), oMv (rT 27), none, none⟩,
  ⟨(some 28), oExtract (rT 25) 0, none, none⟩,
  ⟨(some 29), oExtract (rT 25) 1, none, none⟩,
  ⟨(some 30), oFieldAddr 1 (rT 9), none, none⟩,
  ⟨none, oStore 1 (rT 30) (rT 28), none, none⟩,
  ⟨(some 8), oMv (rT 29), none, none⟩])
 (.seq (.region [⟨(some 32), oMv (rT 6), none, none⟩,
  ⟨(some 33), oBinBy (cmpBy .eql cEql) (.tmp 32) (.const (.int .u8 3)), none, none⟩,
  ⟨(some 31), oMv (rT 33), none, none⟩])
 (.cond (.tmp 31) (.region [⟨(some 35), oMv (rT 7), none, none⟩,
  ⟨(some 36), oCall 166 [(.tmp 35)], none, none⟩,
  ⟨(some 34), oMv (rT 36), none, none⟩,
  ⟨(some 37), oExtract (rT 34) 0, none, none⟩,
  ⟨(some 38), oExtract (rT 34) 1, none, none⟩,
  ⟨(some 39), oFieldAddr 2 (rT 9), none, none⟩,
  ⟨none, oStore 1 (rT 39) (rT 37), none, none⟩,
  ⟨(some 8), oMv (rT 38), none, none⟩])
 (.seq (.region [⟨(some 18), oLoadN 3 (rT 9), none, none⟩,
  ⟨none, oStore 3 (rT 4) (rT 18), none, none⟩,
  ⟨(some 5), oMv (rC (.bool false)), none, none⟩])
 .ret))))))))
 (.seq (.region [⟨(some 40), oLoadN 3 (rT 9), none, none⟩,
  ⟨(some 41), oMv (rT 8), none, none⟩,
  ⟨(some 42), oBinBy (cmpBy .eql cEql) (.tmp 41) (.const (.int .i64 0)), none, none⟩,
  ⟨none, oStore 3 (rT 4) (rT 40), none, none⟩,
  ⟨(some 5), oMv (rT 42), none, none⟩])
 .ret)))))⟩
def c145 : FFunc := ⟨[], (.seq (.region [⟨(some 5), oLoad1 (rT 1), none, none⟩,
  ⟨(some 6), oLenS 106 (rT 5), none, none⟩,
  ⟨(some 7), oMv (rC (.int .i64 0)), none, none⟩])
 (.block 0 (.loop (.seq (.region [⟨(some 8), oBinBy (cmpBy .lss cLss) (.tmp 7) (.tmp 6), none, none⟩])
 (.seq (.cond (.tmp 8) .skip
 (.exit 0))
 (.seq (.block 1 (.seq (.region [⟨(some 9), oIndexAddr 5 (rT 5) (rT 7), none, none⟩,
  ⟨(some 10), oLoadN 5 (rT 9), none, none⟩,
  ⟨(some 4), oAlloc [(.int .i64 0), (.int .u8 0), (.string ⟨#[]⟩), (.int .i64 0), (.slice none 0 0)], none, (some [(.int .i64 0), (.int .u8 0), (.string ⟨#[]⟩), (.int .i64 0), (.slice none 0 0)])⟩,
  ⟨none, oStore 5 (rT 4) (rT 10), none, none⟩])
 (.seq (.draw [⟨(some 11), oMv (rT 0), none, none⟩,
  ⟨(some 12), oFieldAddr 0 (rT 4), none, none⟩,
  ⟨(some 13), oLoadN 4 (rT 12), none, none⟩,
  ⟨(some 14), oFieldAddr 4 (rT 4), none, none⟩,
  ⟨(some 15), oLoad1 (rT 14), none, none⟩,
  ⟨(some 16), oCall 19 [(.tmp 15)], none, none⟩,
  ⟨(some 17), oBuild #[(.int .i64 0), (.int .u8 0), (.string ⟨#[]⟩), (.int .i64 0), (.slice none 0 0)] [(0, 4), (4, 1)] [(0, (.tmp 13)), (1, (.tmp 16))], none, none⟩,
  ⟨(some 18), oCallV (.tmp 11) [(.tmp 17)], none, none⟩,
  ⟨(some 19), oUn .not (.tmp 18), none, none⟩] 0 [(2, 5)])
 (.cond (.tmp 19) .ret
 .skip))))
 (.region [⟨(some 20), oBinBy (arithBy .add nAdd) (.tmp 7) (.const (.int .i64 1)), none, none⟩,
  ⟨(some 7), oMv (rT 20), none, none⟩])))))))⟩
def c146 : FFunc := ⟨[.tmp 4], (.seq (.region [⟨(some 4), oMv (rC (.int .i64 0)), none, none⟩])
 (.seq (.region [⟨(some 8), oMv (rT 0), none, none⟩,
  ⟨(some 5), oMv (rC (.int .i64 0)), none, none⟩,
  ⟨(some 6), oMv (rT 8), none, none⟩])
 (.seq (.block 0 (.loop (.seq (.seq (.region [⟨(some 9), oMv (rT 5), none, none⟩,
  ⟨(some 10), oMv (rT 6), none, none⟩,
  ⟨(some 11), oBinBy (cmpBy .lss cLss) (.tmp 9) (.tmp 10), none, none⟩])
 (.cond (.tmp 11) .skip
 (.exit 0)))
 (.block 1 (.seq (.region [⟨(some 12), oMv (rT 5), none, none⟩,
  ⟨(some 13), oMv (rT 6), none, none⟩,
  ⟨(some 14), oBinBy (arithBy .add nAdd) (.tmp 12) (.tmp 13), none, none⟩,
  ⟨(some 15), oToInt .u64 (.tmp 14), none, none⟩,
  ⟨(some 16), oBinBy (abin .shr) (.tmp 15) (.const (.int .u64 1)), none, none⟩,
  ⟨(some 17), oToInt .i64 (.tmp 16), none, none⟩,
  ⟨(some 7), oMv (rT 17), none, none⟩])
 (.seq (.region [⟨(some 18), oMv (rT 1), none, none⟩,
  ⟨(some 19), oMv (rT 7), none, none⟩,
  ⟨(some 20), oCallV (.tmp 18) [(.tmp 19)], none, none⟩,
  ⟨(some 21), oUn .not (.tmp 20), none, none⟩])
 (.cond (.tmp 21) (.region [⟨(some 22), oMv (rT 7), none, none⟩,
  ⟨(some 23), oBinBy (arithBy .add nAdd) (.tmp 22) (.const (.int .i64 1)), none, none⟩,
  ⟨(some 5), oMv (rT 23), none, none⟩])
 (.region [⟨(some 24), oMv (rT 7), none, none⟩,
  ⟨(some 6), oMv (rT 24), none, none⟩]))))))))
 (.seq (.region [⟨(some 25), oMv (rT 5), none, none⟩,
  ⟨(some 4), oMv (rT 25), none, none⟩])
 .ret))))⟩
def c147 : FFunc := ⟨[.tmp 4], (.seq (.region [⟨(some 4), oMv (rC (.bool false)), none, none⟩])
 (.seq (.draw [⟨(some 5), oLoad1 (rT 1), none, none⟩,
  ⟨(some 6), oMv (rT 0), none, none⟩,
  ⟨(some 7), oIndexAddr 5 (rT 5) (rT 6), none, none⟩,
  ⟨(some 8), oFieldAddr 0 (rT 7), none, none⟩,
  ⟨(some 9), oLoadN 4 (rT 8), none, none⟩,
  ⟨(some 10), oLoadN 4 (rT 2), none, none⟩,
  ⟨(some 11), oCall 36 [(.tmp 9), (.tmp 10)], none, none⟩,
  ⟨(some 12), oUn .not (.tmp 11), none, none⟩,
  ⟨(some 4), oMv (rT 12), none, none⟩] 0 [])
 .ret))⟩
def c149 : FFunc := ⟨[], (.region [⟨(some 4), oMv (rT 0), none, none⟩,
  ⟨(some 5), oMv (rT 0), none, none⟩,
  ⟨(some 6), oLenS 106 (rT 5), none, none⟩,
  ⟨(some 7), oMv (rT 1), none, none⟩,
  ⟨(some 8), oBinBy (arithBy .sub nSub) (.tmp 6) (.tmp 7), none, none⟩,
  ⟨(some 9), oCall 167 [(.tmp 4), (.tmp 8)], none, none⟩])⟩
def c150 : FFunc := ⟨[.tmp 4], (.seq (.region [⟨(some 2), oBox (.tmp 0), none, none⟩,
  ⟨(some 3), oBox (.tmp 1), none, none⟩,
  ⟨(some 4), oMv (rC (.bool false)), none, none⟩])
 (.seq (.region [⟨(some 5), oFieldAddr 0 (rT 2), none, none⟩,
  ⟨(some 6), oLoad1 (rT 5), none, none⟩,
  ⟨(some 7), oFieldAddr 0 (rT 3), none, none⟩,
  ⟨(some 8), oLoad1 (rT 7), none, none⟩,
  ⟨(some 9), oBinBy (cmpBy .gtr cGtr) (.tmp 6) (.tmp 8), none, none⟩,
  ⟨(some 4), oMv (rT 9), none, none⟩])
 .ret))⟩
def c151 : FFunc := ⟨[.tmp 4, .tmp 5], (.seq (.region [⟨(some 4), oMv (rC (.pointer none)), none, none⟩,
  ⟨(some 5), oMv (rC (.int .i64 0)), none, none⟩])
 (.seq (.region [⟨(some 9), oMv (rT 0), none, none⟩,
  ⟨(some 10), oCall 11 [(.tmp 9)], none, none⟩,
  ⟨(some 8), oMv (rT 10), none, none⟩,
  ⟨(some 11), oExtract (rT 8) 0, none, none⟩,
  ⟨(some 12), oExtract (rT 8) 1, none, none⟩,
  ⟨(some 6), oMv (rT 11), none, none⟩,
  ⟨(some 7), oMv (rT 12), none, none⟩])
 (.seq (.block 0 (.seq (.region [⟨(some 14), oMv (rT 7), none, none⟩,
  ⟨(some 15), oBinBy (cmpBy .neq cNeq) (.tmp 14) (.const (.int .i64 0)), none, none⟩,
  ⟨(some 13), oMv (rT 15), none, none⟩])
 (.cond (.tmp 13) (.seq (.region [⟨(some 16), oMv (rT 7), none, none⟩,
  ⟨(some 4), oMv (rC (.pointer none)), none, none⟩,
  ⟨(some 5), oMv (rT 16), none, none⟩])
 .ret)
 (.seq (.region [⟨(some 18), oMv (rT 1), none, none⟩,
  ⟨(some 19), oBinBy (cmpBy .eql cEql) (.tmp 18) (.const (.int .u32 0)), none, none⟩,
  ⟨(some 17), oMv (rT 19), none, none⟩])
 (.cond (.tmp 17) (.seq (.region [⟨(some 4), oMv (rC (.pointer none)), none, none⟩,
  ⟨(some 5), oMv (rC (.int .i64 2)), none, none⟩])
 .ret)
 .skip)))))
 (.seq (.region [⟨(some 20), oMv (rT 6), none, none⟩,
  ⟨(some 4), oMv (rT 20), none, none⟩,
  ⟨(some 5), oMv (rC (.int .i64 0)), none, none⟩])
 .ret))))⟩
def c154 : FFunc := ⟨[], (.seq (.region [⟨(some 2), oMv (rT 0), none, none⟩,
  ⟨(some 3), oUn .not (.tmp 2), none, none⟩])
 (.cond (.tmp 3) (.region [⟨(some 4), oBuild #[] [] [], none, none⟩,
  ⟨(some 5), oMkIface 286 (.tmp 4), none, none⟩,
  ⟨none, oPanic (.tmp 5), none, none⟩])
 .skip))⟩
def c155 : FFunc := ⟨[.tmp 4], (.seq (.region [⟨(some 4), oMv (rC (.bool false)), none, none⟩])
 (.seq (.region [⟨(some 5), oMv (rT 0), none, none⟩,
  ⟨(some 6), oMv (rT 1), none, none⟩,
  ⟨(some 7), oCall 168 [(.tmp 5), (.tmp 6)], none, none⟩,
  ⟨(some 8), oBinBy (cmpBy .geq cGeq) (.tmp 7) (.const (.int .i64 0)), none, none⟩,
  ⟨(some 4), oMv (rT 8), none, none⟩])
 .ret))⟩
def c156 : FFunc := ⟨[.cells 6 4], (.seq (.region [⟨(some 6), oAlloc [(.int .i64 0), (.int .u8 0), (.string ⟨#[]⟩), (.int .i64 0)], none, (some [(.int .i64 0), (.int .u8 0), (.string ⟨#[]⟩), (.int .i64 0)])⟩])
 (.seq (.region [⟨(some 10), oMv (rT 1), none, none⟩,
  ⟨(some 11), oCall 169 [(.tmp 10)], none, none⟩,
  ⟨(some 9), oMv (rT 11), none, none⟩,
  ⟨(some 12), oExtract (rT 9) 0, none, none⟩,
  ⟨(some 13), oExtract (rT 9) 1, none, none⟩,
  ⟨(some 7), oMv (rT 12), none, none⟩,
  ⟨(some 8), oMv (rT 13), none, none⟩])
 (.seq (.region [⟨(some 14), oMv (rT 8), none, none⟩,
  ⟨(some 15), oBinBy (cmpBy .eql cEql) (.tmp 14) (.const (.int .i64 0)), none, none⟩,
  ⟨(some 16), oMv (rT 15), none, none⟩,
  ⟨(some 17), oMv (rT 0), (some (16, true)), none⟩,
  ⟨(some 18), oNilCheck (rT 17), (some (16, true)), none⟩,
  ⟨(some 19), oFieldAddr 5 (rT 18), (some (16, true)), none⟩,
  ⟨(some 20), oLoad1 (rT 19), (some (16, true)), none⟩,
  ⟨(some 21), oBinBy (cmpBy .eql cEql) (.tmp 20) (.const (.int .i64 0)), (some (16, true)), none⟩,
  ⟨(some 22), oMv (rT 21), (some (16, true)), none⟩,
  ⟨(some 23), oMv (rT 0), (some (22, false)), none⟩,
  ⟨(some 24), oNilCheck (rT 23), (some (22, false)), none⟩,
  ⟨(some 25), oFieldAddr 5 (rT 24), (some (22, false)), none⟩,
  ⟨(some 26), oLoad1 (rT 25), (some (22, false)), none⟩,
  ⟨(some 27), oMv (rT 2), (some (22, false)), none⟩,
  ⟨(some 28), oBinBy (cmpBy .eql cEql) (.tmp 26) (.tmp 27), (some (22, false)), none⟩,
  ⟨(some 29), oPick (rT 22) (rC (.bool true)) (rT 28), (some (16, true)), none⟩,
  ⟨(some 30), oPick (rT 16) (rT 29) (rC (.bool false)), none, none⟩,
  ⟨(some 31), oCall 154 [(.tmp 30)], none, none⟩])
 (.seq (.draw [⟨(some 32), oMv (rT 0), none, none⟩,
  ⟨(some 33), oNilCheck (rT 32), none, none⟩,
  ⟨(some 34), oFieldAddr 4 (rT 33), none, none⟩,
  ⟨(some 35), oLoad1 (rT 34), none, none⟩,
  ⟨(some 36), oLenS 106 (rT 35), none, none⟩,
  ⟨(some 37), oBinBy (cmpBy .eql cEql) (.tmp 36) (.const (.int .i64 0)), none, none⟩,
  ⟨(some 38), oMv (rT 37), none, none⟩,
  ⟨(some 39), oMv (rT 0), (some (38, false)), none⟩,
  ⟨(some 40), oNilCheck (rT 39), (some (38, false)), none⟩,
  ⟨(some 41), oFieldAddr 4 (rT 40), (some (38, false)), none⟩,
  ⟨(some 42), oLoad1 (rT 41), (some (38, false)), none⟩,
  ⟨(some 43), oMv (rT 0), (some (38, false)), none⟩,
  ⟨(some 44), oNilCheck (rT 43), (some (38, false)), none⟩,
  ⟨(some 45), oFieldAddr 4 (rT 44), (some (38, false)), none⟩,
  ⟨(some 46), oLoad1 (rT 45), (some (38, false)), none⟩,
  ⟨(some 47), oLenS 106 (rT 46), (some (38, false)), none⟩,
  ⟨(some 48), oBinBy (arithBy .sub nSub) (.tmp 47) (.const (.int .i64 1)), (some (38, false)), none⟩,
  ⟨(some 49), oIndexAddr 5 (rT 42) (rT 48), (some (38, false)), none⟩,
  ⟨(some 50), oFieldAddr 0 (rT 49), (some (38, false)), none⟩,
  ⟨(some 51), oLoadN 4 (rT 50), (some (38, false)), none⟩,
  ⟨(some 52), oMv (rT 7), (some (38, false)), none⟩,
  ⟨(some 53), oIndexAddr 5 (rT 52) (rC (.int .i64 0)), (some (38, false)), none⟩,
  ⟨(some 54), oFieldAddr 0 (rT 53), (some (38, false)), none⟩,
  ⟨(some 55), oLoadN 4 (rT 54), (some (38, false)), none⟩,
  ⟨(some 56), oCall 36 [(.tmp 51), (.tmp 55)], (some (38, false)), none⟩,
  ⟨(some 57), oPick (rT 38) (rC (.bool true)) (rT 56), none, none⟩,
  ⟨(some 58), oCall 154 [(.tmp 57)], none, none⟩] 0 [])
 (.seq (.region [⟨(some 59), oMv (rT 0), none, none⟩,
  ⟨(some 60), oMv (rT 2), none, none⟩,
  ⟨(some 61), oNilCheck (rT 59), none, none⟩,
  ⟨(some 62), oFieldAddr 5 (rT 61), none, none⟩,
  ⟨none, oStore 1 (rT 62) (rT 60), none, none⟩])
 (.seq (.region [⟨(some 63), oMv (rT 0), none, none⟩,
  ⟨(some 64), oMv (rT 0), none, none⟩,
  ⟨(some 65), oNilCheck (rT 64), none, none⟩,
  ⟨(some 66), oFieldAddr 4 (rT 65), none, none⟩,
  ⟨(some 67), oLoad1 (rT 66), none, none⟩,
  ⟨(some 68), oMv (rT 7), none, none⟩,
  ⟨(some 69), oAppend 5 64 (.tmp 67) (.tmp 68), none, none⟩,
  ⟨(some 70), oNilCheck (rT 63), none, none⟩,
  ⟨(some 71), oFieldAddr 4 (rT 70), none, none⟩,
  ⟨none, oStore 1 (rT 71) (rT 69), none, none⟩])
 (.seq (.region [⟨(some 72), oMv (rT 7), none, none⟩,
  ⟨(some 73), oIndexAddr 5 (rT 72) (rC (.int .i64 0)), none, none⟩,
  ⟨(some 74), oFieldAddr 0 (rT 73), none, none⟩,
  ⟨(some 75), oLoadN 4 (rT 74), none, none⟩,
  ⟨none, oStore 4 (rT 6) (rT 75), none, none⟩])
 .ret)))))))⟩
def c157 : FFunc := ⟨[.tmp 2, .tmp 3], (.seq (.region [⟨(some 2), oMv (rC (.slice none 0 0)), none, none⟩,
  ⟨(some 3), oMv (rC (.int .i64 0)), none, none⟩])
 (.seq (.region [⟨(some 4), oAlloc [], none, (some [])⟩])
 (.seq (.region [⟨(some 5), oMv (rT 0), none, none⟩,
  ⟨(some 6), oLoadN 0 (rT 4), none, none⟩,
  ⟨(some 7), oMkFunc (.func 172) [(.tmp 6)] [], none, none⟩,
  ⟨(some 8), oCall 170 [(.tmp 5), (.func 171), (.tmp 7)], none, none⟩,
  ⟨(some 9), oExtract (rT 8) 0, none, none⟩,
  ⟨(some 10), oExtract (rT 8) 1, none, none⟩,
  ⟨(some 2), oMv (rT 9), none, none⟩,
  ⟨(some 3), oMv (rT 10), none, none⟩])
 .ret)))⟩
def c158 : FFunc := ⟨[.tmp 6, .tmp 7], (.seq (.region [⟨(some 6), oMv (rC (.int .i64 0)), none, none⟩,
  ⟨(some 7), oMv (rC (.bool false)), none, none⟩])
 (.seq (.region [⟨(some 12), oMv (rT 0), none, none⟩,
  ⟨(some 13), oLenS 227 (rT 12), none, none⟩,
  ⟨(some 8), oMv (rT 13), none, none⟩])
 (.seq (.region [⟨(some 14), oMv (rT 8), none, none⟩,
  ⟨(some 9), oMv (rC (.int .i64 0)), none, none⟩,
  ⟨(some 10), oMv (rT 14), none, none⟩])
 (.seq (.block 0 (.loop (.seq (.seq (.region [⟨(some 15), oMv (rT 9), none, none⟩,
  ⟨(some 16), oMv (rT 10), none, none⟩,
  ⟨(some 17), oBinBy (cmpBy .lss cLss) (.tmp 15) (.tmp 16), none, none⟩])
 (.cond (.tmp 17) .skip
 (.exit 0)))
 (.block 1 (.seq (.region [⟨(some 18), oMv (rT 9), none, none⟩,
  ⟨(some 19), oMv (rT 10), none, none⟩,
  ⟨(some 20), oBinBy (arithBy .add nAdd) (.tmp 18) (.tmp 19), none, none⟩,
  ⟨(some 21), oToInt .u64 (.tmp 20), none, none⟩,
  ⟨(some 22), oBinBy (abin .shr) (.tmp 21) (.const (.int .u64 1)), none, none⟩,
  ⟨(some 23), oToInt .i64 (.tmp 22), none, none⟩,
  ⟨(some 11), oMv (rT 23), none, none⟩])
 (.seq (.region [⟨(some 24), oMv (rT 2), none, none⟩,
  ⟨(some 25), oMv (rT 0), none, none⟩,
  ⟨(some 26), oMv (rT 11), none, none⟩,
  ⟨(some 27), oIndexAddr 5 (rT 25) (rT 26), none, none⟩,
  ⟨(some 28), oLoadN 5 (rT 27), none, none⟩,
  ⟨(some 29), oMv (rT 1), none, none⟩,
  ⟨(some 30), oCallV (.tmp 24) [(.tmp 28), (.tmp 29)], none, none⟩,
  ⟨(some 31), oBinBy (cmpBy .lss cLss) (.tmp 30) (.const (.int .i64 0)), none, none⟩])
 (.cond (.tmp 31) (.region [⟨(some 32), oMv (rT 11), none, none⟩,
  ⟨(some 33), oBinBy (arithBy .add nAdd) (.tmp 32) (.const (.int .i64 1)), none, none⟩,
  ⟨(some 9), oMv (rT 33), none, none⟩])
 (.region [⟨(some 34), oMv (rT 11), none, none⟩,
  ⟨(some 10), oMv (rT 34), none, none⟩]))))))))
 (.seq (.region [⟨(some 35), oMv (rT 9), none, none⟩,
  ⟨(some 36), oMv (rT 9), none, none⟩,
  ⟨(some 37), oMv (rT 8), none, none⟩,
  ⟨(some 38), oBinBy (cmpBy .lss cLss) (.tmp 36) (.tmp 37), none, none⟩,
  ⟨(some 39), oMv (rT 38), none, none⟩,
  ⟨(some 40), oMv (rT 2), (some (39, true)), none⟩,
  ⟨(some 41), oMv (rT 0), (some (39, true)), none⟩,
  ⟨(some 42), oMv (rT 9), (some (39, true)), none⟩,
  ⟨(some 43), oIndexAddr 5 (rT 41) (rT 42), (some (39, true)), none⟩,
  ⟨(some 44), oLoadN 5 (rT 43), (some (39, true)), none⟩,
  ⟨(some 45), oMv (rT 1), (some (39, true)), none⟩,
  ⟨(some 46), oCallV (.tmp 40) [(.tmp 44), (.tmp 45)], (some (39, true)), none⟩,
  ⟨(some 47), oBinBy (cmpBy .eql cEql) (.tmp 46) (.const (.int .i64 0)), (some (39, true)), none⟩,
  ⟨(some 48), oPick (rT 39) (rT 47) (rC (.bool false)), none, none⟩,
  ⟨(some 6), oMv (rT 35), none, none⟩,
  ⟨(some 7), oMv (rT 48), none, none⟩])
 .ret)))))⟩
def c159 : FFunc := ⟨[.tmp 4], (.seq (.region [⟨(some 2), oBox (.tmp 0), none, none⟩,
  ⟨(some 4), oMv (rC (.int .i64 0)), none, none⟩])
 (.seq (.region [⟨(some 5), oFieldAddr 0 (rT 2), none, none⟩,
  ⟨(some 6), oLoad1 (rT 5), none, none⟩,
  ⟨(some 7), oMv (rT 1), none, none⟩,
  ⟨(some 8), oCall 76 [(.tmp 6), (.tmp 7)], none, none⟩,
  ⟨(some 4), oMv (rT 8), none, none⟩])
 .ret))⟩
def c160 : FFunc := ⟨[.tmp 2], (.seq (.region [⟨(some 1), oBox (.tmp 0), none, none⟩,
  ⟨(some 2), oMv (rC (.int .i64 0)), none, none⟩])
 (.seq (.region [⟨(some 6), oFieldAddr 0 (rT 1), none, none⟩,
  ⟨(some 7), oLoadN 4 (rT 6), none, none⟩,
  ⟨(some 8), oCall 173 [(.tmp 7)], none, none⟩,
  ⟨(some 5), oMv (rT 8), none, none⟩,
  ⟨(some 9), oExtract (rT 5) 0, none, none⟩,
  ⟨(some 10), oExtract (rT 5) 1, none, none⟩,
  ⟨(some 3), oMv (rT 9), none, none⟩,
  ⟨(some 4), oMv (rT 10), none, none⟩])
 (.seq (.seq (.region [⟨(some 11), oMv (rT 4), none, none⟩,
  ⟨(some 12), oBinBy (cmpBy .neq cNeq) (.tmp 11) (.const (.int .i64 0)), none, none⟩])
 (.cond (.tmp 12) (.seq (.region [⟨(some 2), oMv (rC (.int .i64 0)), none, none⟩])
 .ret)
 .skip))
 (.seq (.region [⟨(some 13), oMv (rT 3), none, none⟩,
  ⟨(some 14), oLenS 5 (rT 13), none, none⟩,
  ⟨(some 15), oBinBy (arithBy .add nAdd) (.const (.int .i64 2)) (.tmp 14), none, none⟩,
  ⟨(some 16), oFieldAddr 4 (rT 1), none, none⟩,
  ⟨(some 17), oLoad1 (rT 16), none, none⟩,
  ⟨(some 18), oLenS 5 (rT 17), none, none⟩,
  ⟨(some 19), oBinBy (arithBy .add nAdd) (.tmp 15) (.tmp 18), none, none⟩,
  ⟨(some 2), oMv (rT 19), none, none⟩])
 .ret))))⟩
def c161 : FFunc := ⟨[.tmp 2, .tmp 3], (.seq (.region [⟨(some 2), oMv (rC (.slice none 0 0)), none, none⟩,
  ⟨(some 3), oMv (rC (.bool false)), none, none⟩])
 (.seq (.seq (.region [⟨(some 9), oMv (rT 0), none, none⟩,
  ⟨(some 10), oLenS 115 (rT 9), none, none⟩,
  ⟨(some 11), oBinBy (cmpBy .lss cLss) (.tmp 10) (.const (.int .i64 1)), none, none⟩,
  ⟨(some 12), oMv (rT 11), none, none⟩,
  ⟨(some 13), oMv (rT 0), (some (12, false)), none⟩,
  ⟨(some 14), oLenS 115 (rT 13), (some (12, false)), none⟩,
  ⟨(some 15), oBinBy (cmpBy .gtr cGtr) (.tmp 14) (.const (.int .i64 255)), (some (12, false)), none⟩,
  ⟨(some 16), oPick (rT 12) (rC (.bool true)) (rT 15), none, none⟩])
 (.cond (.tmp 16) (.seq (.region [⟨(some 2), oMv (rC (.slice none 0 0)), none, none⟩,
  ⟨(some 3), oMv (rC (.bool false)), none, none⟩])
 .ret)
 .skip))
 (.seq (.region [⟨(some 17), oMv (rT 0), none, none⟩,
  ⟨(some 18), oLenS 115 (rT 17), none, none⟩,
  ⟨(some 19), oToInt .u8 (.tmp 18), none, none⟩,
  ⟨(some 20), oBuildSlice true 1 1 [(.int .u8 0)] [(0, (.tmp 19))], none, none⟩,
  ⟨(some 4), oMv (rT 20), none, none⟩])
 (.seq (.seq (.region [⟨(some 21), oMv (rT 0), none, none⟩,
  ⟨(some 22), oLenS 115 (rT 21), none, none⟩,
  ⟨(some 23), oMv (rC (.int .i64 0)), none, none⟩])
 (.block 0 (.loop (.seq (.region [⟨(some 24), oBinBy (cmpBy .lss cLss) (.tmp 23) (.tmp 22), none, none⟩])
 (.seq (.cond (.tmp 24) .skip
 (.exit 0))
 (.seq (.block 1 (.seq (.region [⟨(some 25), oIndexAddr 6 (rT 21) (rT 23), none, none⟩,
  ⟨(some 26), oLoadN 6 (rT 25), none, none⟩,
  ⟨(some 6), oAlloc [(.int .i64 0), (.int .u8 0), (.string ⟨#[]⟩), (.int .i64 0), (.slice none 0 0), (.bool false)], none, (some [(.int .i64 0), (.int .u8 0), (.string ⟨#[]⟩), (.int .i64 0), (.slice none 0 0), (.bool false)])⟩,
  ⟨none, oStore 6 (rT 6) (rT 26), none, none⟩])
 (.seq (.region [⟨(some 28), oLoadN 6 (rT 6), none, none⟩,
  ⟨(some 29), oCall 174 [(.tmp 28)], none, none⟩,
  ⟨(some 27), oMv (rT 29), none, none⟩,
  ⟨(some 30), oExtract (rT 27) 0, none, none⟩,
  ⟨(some 31), oExtract (rT 27) 1, none, none⟩,
  ⟨(some 7), oMv (rT 30), none, none⟩,
  ⟨(some 8), oMv (rT 31), none, none⟩])
 (.seq (.seq (.region [⟨(some 32), oMv (rT 8), none, none⟩,
  ⟨(some 33), oUn .not (.tmp 32), none, none⟩])
 (.cond (.tmp 33) (.seq (.region [⟨(some 2), oMv (rC (.slice none 0 0)), none, none⟩,
  ⟨(some 3), oMv (rC (.bool false)), none, none⟩])
 .ret)
 .skip))
 (.region [⟨(some 34), oMv (rT 4), none, none⟩,
  ⟨(some 35), oMv (rT 7), none, none⟩,
  ⟨(some 36), oAppend 1 1 (.tmp 34) (.tmp 35), none, none⟩,
  ⟨(some 4), oMv (rT 36), none, none⟩])))))
 (.region [⟨(some 37), oBinBy (arithBy .add nAdd) (.tmp 23) (.const (.int .i64 1)), none, none⟩,
  ⟨(some 23), oMv (rT 37), none, none⟩])))))))
 (.seq (.region [⟨(some 38), oMv (rT 4), none, none⟩,
  ⟨(some 2), oMv (rT 38), none, none⟩,
  ⟨(some 3), oMv (rC (.bool true)), none, none⟩])
 .ret)))))⟩
def c162 : FFunc := ⟨[.tmp 2], (.seq (.region [⟨(some 2), oMv (rC (.int .i64 0)), none, none⟩])
 (.seq (.seq (.region [⟨(some 5), oMv (rT 0), none, none⟩,
  ⟨(some 6), oCall 41 [(.tmp 5)], none, none⟩])
 (.cond (.tmp 6) (.seq (.region [⟨(some 2), oMv (rC (.int .i64 1)), none, none⟩])
 .ret)
 .skip))
 (.seq (.region [⟨(some 8), oMv (rT 0), none, none⟩,
  ⟨(some 9), oNilCheck (rT 8), none, none⟩,
  ⟨(some 10), oFieldAddr 0 (rT 9), none, none⟩,
  ⟨(some 11), oLoad1 (rT 10), none, none⟩,
  ⟨(some 12), oCall 26 [(.tmp 11), (.const (.int .i64 0)), (.const (.int .i64 0))], none, none⟩,
  ⟨(some 7), oMv (rT 12), none, none⟩,
  ⟨(some 13), oExtract (rT 7) 0, none, none⟩,
  ⟨(some 14), oExtract (rT 7) 1, none, none⟩,
  ⟨(some 3), oMv (rT 13), none, none⟩,
  ⟨(some 4), oMv (rT 14), none, none⟩])
 (.seq (.region [⟨(some 15), oMv (rT 4), none, none⟩,
  ⟨(some 2), oMv (rT 15), none, none⟩])
 .ret))))⟩
def c163 : FFunc := ⟨[.tmp 8], (.seq (.region [⟨(some 8), oMv (rC (.int .i64 0)), none, none⟩])
 (.seq (.seq (.region [⟨(some 13), oMv (rT 0), none, none⟩,
  ⟨(some 14), oNilCheck (rT 13), none, none⟩,
  ⟨(some 15), oFieldAddr 1 (rT 14), none, none⟩,
  ⟨(some 16), oLoad1 (rT 15), none, none⟩,
  ⟨(some 17), oMv (rT 1), none, none⟩,
  ⟨(some 18), oIndexAddr 4 (rT 16) (rT 17), none, none⟩,
  ⟨(some 19), oFieldAddr 0 (rT 18), none, none⟩,
  ⟨(some 20), oLoad1 (rT 19), none, none⟩,
  ⟨(some 21), oBinBy (cmpBy .eql cEql) (.tmp 20) (.const (.int .i64 1)), none, none⟩])
 (.cond (.tmp 21) (.seq (.region [⟨(some 22), oMv (rT 0), none, none⟩,
  ⟨(some 23), oNilCheck (rT 22), none, none⟩,
  ⟨(some 24), oFieldAddr 0 (rT 23), none, none⟩,
  ⟨(some 25), oLoad1 (rT 24), none, none⟩,
  ⟨(some 26), oMv (rT 1), none, none⟩,
  ⟨(some 27), oCall 9 [(.tmp 25), (.tmp 26)], none, none⟩,
  ⟨(some 9), oMv (rT 27), none, none⟩])
 (.seq (.region [⟨(some 28), oMv (rT 0), none, none⟩,
  ⟨(some 29), oMv (rT 1), none, none⟩,
  ⟨(some 30), oCall 27 [(.tmp 28), (.tmp 29)], none, none⟩])
 (.seq (.region [⟨(some 31), oMv (rT 9), none, none⟩,
  ⟨(some 32), oBinBy (cmpBy .neq cNeq) (.tmp 31) (.const (.int .i64 0)), none, none⟩])
 (.cond (.tmp 32) (.seq (.region [⟨(some 33), oMv (rT 9), none, none⟩,
  ⟨(some 8), oMv (rT 33), none, none⟩])
 .ret)
 .skip))))
 .skip))
 (.seq (.region [⟨(some 34), oMv (rT 0), none, none⟩,
  ⟨(some 35), oNilCheck (rT 34), none, none⟩,
  ⟨(some 36), oFieldAddr 2 (rT 35), none, none⟩,
  ⟨(some 37), oLoad1 (rT 36), none, none⟩,
  ⟨(some 38), oBinBy (arithBy .add nAdd) (.tmp 37) (.const (.int .u64 1)), none, none⟩,
  ⟨(some 39), oNilCheck (rT 34), none, none⟩,
  ⟨(some 40), oFieldAddr 2 (rT 39), none, none⟩,
  ⟨none, oStore 1 (rT 40) (rT 38), none, none⟩])
 (.seq (.draw [⟨(some 42), oMv (rT 0), none, none⟩,
  ⟨(some 43), oNilCheck (rT 42), none, none⟩,
  ⟨(some 44), oFieldAddr 0 (rT 43), none, none⟩,
  ⟨(some 45), oLoad1 (rT 44), none, none⟩,
  ⟨(some 46), oCall 25 [(.tmp 45)], none, none⟩,
  ⟨(some 47), oField false 2 1 (.tmp 46), none, none⟩,
  ⟨(some 48), oMv (rT 2), none, none⟩,
  ⟨(some 49), oMv (rT 3), none, none⟩,
  ⟨(some 50), oMv (rT 0), none, none⟩,
  ⟨(some 51), oNilCheck (rT 50), none, none⟩,
  ⟨(some 52), oFieldAddr 2 (rT 51), none, none⟩,
  ⟨(some 53), oLoad1 (rT 52), none, none⟩,
  ⟨(some 54), oBuild #[(.int .u8 0), (.int .u32 0), (.int .u64 0)] [(0, 1), (1, 1), (2, 1)] [(0, (.tmp 48)), (1, (.tmp 49)), (2, (.tmp 53))], none, none⟩,
  ⟨(some 55), oCall 59 [(.tmp 47), (.tmp 54)], none, none⟩,
  ⟨(some 41), oMv (rT 55), none, none⟩,
  ⟨(some 56), oExtract (rT 41) 0, none, none⟩,
  ⟨(some 57), oExtract (rT 41) 1, none, none⟩,
  ⟨(some 10), oMv (rT 56), none, none⟩,
  ⟨(some 11), oMv (rT 57), none, none⟩] 0 [(11, 4)])
 (.seq (.region [⟨(some 58), oMv (rT 0), none, none⟩,
  ⟨(some 59), oNilCheck (rT 58), none, none⟩,
  ⟨(some 60), oFieldAddr 0 (rT 59), none, none⟩,
  ⟨(some 61), oLoad1 (rT 60), none, none⟩,
  ⟨(some 62), oMv (rT 1), none, none⟩,
  ⟨(some 63), oMv (rT 10), none, none⟩,
  ⟨(some 64), oCall 139 [(.tmp 61), (.tmp 62), (.const (.int .i64 0)), (.tmp 63)], none, none⟩,
  ⟨(some 12), oMv (rT 64), none, none⟩])
 (.seq (.region [⟨(some 65), oMv (rT 0), none, none⟩,
  ⟨(some 66), oMv (rT 1), none, none⟩,
  ⟨(some 67), oCall 27 [(.tmp 65), (.tmp 66)], none, none⟩])
 (.seq (.region [⟨(some 68), oMv (rT 12), none, none⟩,
  ⟨(some 8), oMv (rT 68), none, none⟩])
 .ret)))))))⟩
def c164 : FFunc := ⟨[.tmp 3], (.seq (.region [⟨(some 3), oMv (rC (.int .u8 0)), none, none⟩])
 (.seq (.region [⟨(some 4), oLoad1 (rT 1), none, none⟩,
  ⟨(some 5), oMv (rT 0), none, none⟩,
  ⟨(some 6), oIndexAddr 1 (rT 4) (rT 5), none, none⟩,
  ⟨(some 7), oLoad1 (rT 6), none, none⟩,
  ⟨(some 3), oMv (rT 7), none, none⟩])
 .ret))⟩
def c165 : FFunc := ⟨[.tmp 2, .tmp 3], (.seq (.region [⟨(some 2), oMv (rC (.slice none 0 0)), none, none⟩,
  ⟨(some 3), oMv (rC (.int .i64 0)), none, none⟩])
 (.seq (.region [⟨(some 10), oMv (rT 0), none, none⟩,
  ⟨(some 11), oCall 57 [(.tmp 10)], none, none⟩,
  ⟨(some 12), oBuild #[(.pointer none)] [(0, 1)] [(0, (.tmp 11))], none, none⟩,
  ⟨(some 4), oAlloc [(.pointer none)], none, (some [(.pointer none)])⟩,
  ⟨none, oStore 1 (rT 4) (rT 12), none, none⟩])
 (.seq (.region [⟨(some 14), oFieldAddr 0 (rT 4), none, none⟩,
  ⟨(some 15), oLoad1 (rT 14), none, none⟩,
  ⟨(some 16), oCall 58 [(.tmp 15), (.const (.int .i64 1))], none, none⟩,
  ⟨(some 13), oMv (rT 16), none, none⟩,
  ⟨(some 17), oExtract (rT 13) 0, none, none⟩,
  ⟨(some 18), oExtract (rT 13) 1, none, none⟩,
  ⟨(some 5), oMv (rT 17), none, none⟩,
  ⟨(some 6), oMv (rT 18), none, none⟩])
 (.seq (.block 0 (.seq (.region [⟨(some 20), oMv (rT 6), none, none⟩,
  ⟨(some 21), oBinBy (cmpBy .neq cNeq) (.tmp 20) (.const (.int .i64 0)), none, none⟩,
  ⟨(some 19), oMv (rT 21), none, none⟩])
 (.cond (.tmp 19) (.seq (.region [⟨(some 22), oMv (rT 6), none, none⟩,
  ⟨(some 2), oMv (rC (.slice none 0 0)), none, none⟩,
  ⟨(some 3), oMv (rT 22), none, none⟩])
 .ret)
 (.seq (.region [⟨(some 24), oMv (rT 5), none, none⟩,
  ⟨(some 25), oBinBy (cmpBy .eql cEql) (.tmp 24) (.const (.int .u64 0)), none, none⟩,
  ⟨(some 23), oMv (rT 25), none, none⟩])
 (.cond (.tmp 23) (.seq (.region [⟨(some 2), oMv (rC (.slice none 0 0)), none, none⟩,
  ⟨(some 3), oMv (rC (.int .i64 5)), none, none⟩])
 .ret)
 .skip)))))
 (.seq (.region [⟨(some 7), oMv (rC (.slice none 0 0)), none, none⟩])
 (.seq (.seq (.region [⟨(some 26), oMv (rT 5), none, none⟩,
  ⟨(some 27), oMv (rC (.int .u64 0)), none, none⟩])
 (.block 1 (.loop (.seq (.region [⟨(some 28), oBinBy (cmpBy .lss cLss) (.tmp 27) (.tmp 26), none, none⟩])
 (.seq (.cond (.tmp 28) .skip
 (.exit 1))
 (.seq (.block 2 (.seq (.region [⟨(some 30), oLoadN 1 (rT 4), none, none⟩,
  ⟨(some 31), oCall 175 [(.tmp 30)], none, none⟩,
  ⟨(some 29), oMv (rT 31), none, none⟩,
  ⟨(some 32), oExtract (rT 29) 0, none, none⟩,
  ⟨(some 33), oExtract (rT 29) 1, none, none⟩,
  ⟨(some 8), oAlloc [(.int .i64 0), (.int .u8 0), (.string ⟨#[]⟩), (.int .i64 0), (.slice none 0 0), (.bool false)], none, (some [(.int .i64 0), (.int .u8 0), (.string ⟨#[]⟩), (.int .i64 0), (.slice none 0 0), (.bool false)])⟩,
  ⟨none, oStore 6 (rT 8) (rT 32), none, none⟩,
  ⟨(some 9), oMv (rT 33), none, none⟩])
 (.seq (.seq (.region [⟨(some 34), oMv (rT 9), none, none⟩,
  ⟨(some 35), oBinBy (cmpBy .neq cNeq) (.tmp 34) (.const (.int .i64 0)), none, none⟩])
 (.cond (.tmp 35) (.seq (.region [⟨(some 36), oMv (rT 9), none, none⟩,
  ⟨(some 2), oMv (rC (.slice none 0 0)), none, none⟩,
  ⟨(some 3), oMv (rT 36), none, none⟩])
 .ret)
 .skip))
 (.region [⟨(some 37), oMv (rT 7), none, none⟩,
  ⟨(some 38), oLoadN 6 (rT 8), none, none⟩,
  ⟨(some 39), oBuildSlice false 6 1 [(.int .i64 0), (.int .u8 0), (.string ⟨#[]⟩), (.int .i64 0), (.slice none 0 0), (.bool false)] [(0, (.tmp 38))], none, none⟩,
  ⟨(some 40), oAppend 6 72 (.tmp 37) (.tmp 39), none, none⟩,
  ⟨(some 7), oMv (rT 40), none, none⟩]))))
 (.region [⟨(some 41), oBinBy (arithBy .add nAdd) (.tmp 27) (.const (.int .u64 1)), none, none⟩,
  ⟨(some 27), oMv (rT 41), none, none⟩])))))))
 (.seq (.seq (.region [⟨(some 42), oFieldAddr 0 (rT 4), none, none⟩,
  ⟨(some 43), oLoad1 (rT 42), none, none⟩,
  ⟨(some 44), oCall 141 [(.tmp 43)], none, none⟩,
  ⟨(some 45), oBinBy (cmpBy .gtr cGtr) (.tmp 44) (.const (.int .i64 0)), none, none⟩])
 (.cond (.tmp 45) (.seq (.region [⟨(some 2), oMv (rC (.slice none 0 0)), none, none⟩,
  ⟨(some 3), oMv (rC (.int .i64 5)), none, none⟩])
 .ret)
 .skip))
 (.seq (.region [⟨(some 46), oMv (rT 7), none, none⟩,
  ⟨(some 2), oMv (rT 46), none, none⟩,
  ⟨(some 3), oMv (rC (.int .i64 0)), none, none⟩])
 .ret))))))))⟩
def c166 : FFunc := ⟨[.tmp 2, .tmp 3], (.seq (.region [⟨(some 2), oMv (rC (.int .u64 0)), none, none⟩,
  ⟨(some 3), oMv (rC (.int .i64 0)), none, none⟩])
 (.seq (.region [⟨(some 7), oMv (rT 0), none, none⟩,
  ⟨(some 8), oCall 57 [(.tmp 7)], none, none⟩,
  ⟨(some 9), oCall 58 [(.tmp 8), (.const (.int .i64 8))], none, none⟩,
  ⟨(some 6), oMv (rT 9), none, none⟩,
  ⟨(some 10), oExtract (rT 6) 0, none, none⟩,
  ⟨(some 11), oExtract (rT 6) 1, none, none⟩,
  ⟨(some 4), oMv (rT 10), none, none⟩,
  ⟨(some 5), oMv (rT 11), none, none⟩])
 (.seq (.seq (.region [⟨(some 12), oMv (rT 5), none, none⟩,
  ⟨(some 13), oBinBy (cmpBy .neq cNeq) (.tmp 12) (.const (.int .i64 0)), none, none⟩,
  ⟨(some 14), oMv (rT 13), none, none⟩,
  ⟨(some 15), oMv (rT 0), (some (14, false)), none⟩,
  ⟨(some 16), oLenS 5 (rT 15), (some (14, false)), none⟩,
  ⟨(some 17), oBinBy (cmpBy .neq cNeq) (.tmp 16) (.const (.int .i64 8)), (some (14, false)), none⟩,
  ⟨(some 18), oPick (rT 14) (rC (.bool true)) (rT 17), none, none⟩,
  ⟨(some 19), oMv (rT 18), none, none⟩,
  ⟨(some 20), oMv (rT 4), (some (19, false)), none⟩,
  ⟨(some 21), oBinBy (cmpBy .eql cEql) (.tmp 20) (.const (.int .u64 0)), (some (19, false)), none⟩,
  ⟨(some 22), oPick (rT 19) (rC (.bool true)) (rT 21), none, none⟩])
 (.cond (.tmp 22) (.seq (.region [⟨(some 2), oMv (rC (.int .u64 0)), none, none⟩,
  ⟨(some 3), oMv (rC (.int .i64 5)), none, none⟩])
 .ret)
 .skip))
 (.seq (.region [⟨(some 23), oMv (rT 4), none, none⟩,
  ⟨(some 2), oMv (rT 23), none, none⟩,
  ⟨(some 3), oMv (rC (.int .i64 0)), none, none⟩])
 .ret))))⟩
def c167 : FFunc := ⟨[], (.seq (.region [⟨(some 4), oMv (rT 0), none, none⟩,
  ⟨(some 5), oMv (rT 1), none, none⟩,
  ⟨(some 6), oSlice 5 (.tmp 4) none (some (.tmp 5)) none, none, none⟩,
  ⟨(some 7), oCall 176 [(.tmp 6)], none, none⟩])
 (.seq (.region [⟨(some 8), oMv (rT 0), none, none⟩,
  ⟨(some 9), oMv (rT 1), none, none⟩,
  ⟨(some 10), oSlice 5 (.tmp 8) (some (.tmp 9)) none none, none, none⟩,
  ⟨(some 11), oCall 176 [(.tmp 10)], none, none⟩])
 (.region [⟨(some 12), oMv (rT 0), none, none⟩,
  ⟨(some 13), oCall 176 [(.tmp 12)], none, none⟩])))⟩
def c168 : FFunc := ⟨[.tmp 4], (.seq (.region [⟨(some 4), oMv (rC (.int .i64 0)), none, none⟩])
 (.seq (.seq (.region [⟨(some 6), oMv (rT 0), none, none⟩,
  ⟨(some 7), oLenS 3 (rT 6), none, none⟩,
  ⟨(some 8), oMv (rC (.int .i64 0)), none, none⟩])
 (.block 0 (.loop (.seq (.region [⟨(some 9), oBinBy (cmpBy .lss cLss) (.tmp 8) (.tmp 7), none, none⟩])
 (.seq (.cond (.tmp 9) .skip
 (.exit 0))
 (.seq (.block 1 (.seq (.region [⟨(some 10), oMv (rT 8), none, none⟩,
  ⟨(some 5), oMv (rT 10), none, none⟩])
 (.seq (.region [⟨(some 11), oMv (rT 1), none, none⟩,
  ⟨(some 12), oMv (rT 0), none, none⟩,
  ⟨(some 13), oMv (rT 5), none, none⟩,
  ⟨(some 14), oIndexAddr 1 (rT 12) (rT 13), none, none⟩,
  ⟨(some 15), oLoad1 (rT 14), none, none⟩,
  ⟨(some 16), oBinBy (cmpBy .eql cEql) (.tmp 11) (.tmp 15), none, none⟩])
 (.cond (.tmp 16) (.seq (.region [⟨(some 17), oMv (rT 5), none, none⟩,
  ⟨(some 4), oMv (rT 17), none, none⟩])
 .ret)
 .skip))))
 (.region [⟨(some 18), oBinBy (arithBy .add nAdd) (.tmp 8) (.const (.int .i64 1)), none, none⟩,
  ⟨(some 8), oMv (rT 18), none, none⟩])))))))
 (.seq (.region [⟨(some 4), oMv (rC (.int .i64 (-1))), none, none⟩])
 .ret)))⟩
def c169 : FFunc := ⟨[.tmp 2, .tmp 3], (.seq (.region [⟨(some 2), oMv (rC (.slice none 0 0)), none, none⟩,
  ⟨(some 3), oMv (rC (.int .i64 0)), none, none⟩])
 (.seq (.region [⟨(some 4), oAlloc [], none, (some [])⟩])
 (.seq (.region [⟨(some 5), oMv (rT 0), none, none⟩,
  ⟨(some 6), oLoadN 0 (rT 4), none, none⟩,
  ⟨(some 7), oMkFunc (.func 179) [(.tmp 6)] [], none, none⟩,
  ⟨(some 8), oCall 177 [(.tmp 5), (.func 178), (.tmp 7)], none, none⟩,
  ⟨(some 9), oExtract (rT 8) 0, none, none⟩,
  ⟨(some 10), oExtract (rT 8) 1, none, none⟩,
  ⟨(some 2), oMv (rT 9), none, none⟩,
  ⟨(some 3), oMv (rT 10), none, none⟩])
 .ret)))⟩
def c170 : FFunc := ⟨[.tmp 6, .tmp 7], (.seq (.region [⟨(some 6), oMv (rC (.slice none 0 0)), none, none⟩,
  ⟨(some 7), oMv (rC (.int .i64 0)), none, none⟩])
 (.seq (.region [⟨(some 15), oMv (rT 0), none, none⟩,
  ⟨(some 16), oCall 57 [(.tmp 15)], none, none⟩,
  ⟨(some 8), oMv (rT 16), none, none⟩])
 (.seq (.region [⟨(some 18), oMv (rT 8), none, none⟩,
  ⟨(some 19), oCall 58 [(.tmp 18), (.const (.int .i64 1))], none, none⟩,
  ⟨(some 17), oMv (rT 19), none, none⟩,
  ⟨(some 20), oExtract (rT 17) 0, none, none⟩,
  ⟨(some 21), oExtract (rT 17) 1, none, none⟩,
  ⟨(some 9), oMv (rT 20), none, none⟩,
  ⟨(some 10), oMv (rT 21), none, none⟩])
 (.seq (.block 0 (.seq (.region [⟨(some 23), oMv (rT 10), none, none⟩,
  ⟨(some 24), oBinBy (cmpBy .neq cNeq) (.tmp 23) (.const (.int .i64 0)), none, none⟩,
  ⟨(some 22), oMv (rT 24), none, none⟩])
 (.cond (.tmp 22) (.seq (.region [⟨(some 25), oMv (rT 10), none, none⟩,
  ⟨(some 6), oMv (rC (.slice none 0 0)), none, none⟩,
  ⟨(some 7), oMv (rT 25), none, none⟩])
 .ret)
 (.seq (.region [⟨(some 27), oMv (rT 9), none, none⟩,
  ⟨(some 28), oBinBy (cmpBy .eql cEql) (.tmp 27) (.const (.int .u64 0)), none, none⟩,
  ⟨(some 26), oMv (rT 28), none, none⟩])
 (.cond (.tmp 26) (.seq (.region [⟨(some 6), oMv (rC (.slice none 0 0)), none, none⟩,
  ⟨(some 7), oMv (rC (.int .i64 5)), none, none⟩])
 .ret)
 .skip)))))
 (.seq (.region [⟨(some 11), oMv (rC (.slice none 0 0)), none, none⟩])
 (.seq (.seq (.region [⟨(some 29), oMv (rT 9), none, none⟩,
  ⟨(some 30), oMv (rC (.int .u64 0)), none, none⟩])
 (.block 1 (.loop (.seq (.region [⟨(some 31), oBinBy (cmpBy .lss cLss) (.tmp 30) (.tmp 29), none, none⟩])
 (.seq (.cond (.tmp 31) .skip
 (.exit 1))
 (.seq (.block 2 (.seq (.region [⟨(some 33), oMv (rT 8), none, none⟩,
  ⟨(some 34), oCall 180 [(.tmp 33)], none, none⟩,
  ⟨(some 32), oMv (rT 34), none, none⟩,
  ⟨(some 35), oExtract (rT 32) 0, none, none⟩,
  ⟨(some 36), oExtract (rT 32) 1, none, none⟩,
  ⟨(some 12), oAlloc [(.int .i64 0), (.int .u8 0), (.string ⟨#[]⟩), (.int .i64 0)], none, (some [(.int .i64 0), (.int .u8 0), (.string ⟨#[]⟩), (.int .i64 0)])⟩,
  ⟨none, oStore 4 (rT 12) (rT 35), none, none⟩,
  ⟨(some 13), oMv (rT 36), none, none⟩])
 (.seq (.seq (.region [⟨(some 37), oMv (rT 13), none, none⟩,
  ⟨(some 38), oBinBy (cmpBy .neq cNeq) (.tmp 37) (.const (.int .i64 0)), none, none⟩])
 (.cond (.tmp 38) (.seq (.region [⟨(some 39), oMv (rT 13), none, none⟩,
  ⟨(some 6), oMv (rC (.slice none 0 0)), none, none⟩,
  ⟨(some 7), oMv (rT 39), none, none⟩])
 .ret)
 .skip))
 (.seq (.region [⟨(some 41), oMv (rT 2), none, none⟩,
  ⟨(some 42), oMv (rT 8), none, none⟩,
  ⟨(some 43), oLoadN 4 (rT 12), none, none⟩,
  ⟨(some 44), oCallV (.tmp 41) [(.tmp 42), (.tmp 43)], none, none⟩,
  ⟨(some 40), oMv (rT 44), none, none⟩,
  ⟨(some 45), oExtract (rT 40) 0, none, none⟩,
  ⟨(some 46), oExtract (rT 40) 1, none, none⟩,
  ⟨(some 14), oAlloc [(.int .i64 0), (.int .u8 0), (.string ⟨#[]⟩), (.int .i64 0), (.int .i64 0), (.int .i64 0)], none, (some [(.int .i64 0), (.int .u8 0), (.string ⟨#[]⟩), (.int .i64 0), (.int .i64 0), (.int .i64 0)])⟩,
  ⟨none, oStore 6 (rT 14) (rT 45), none, none⟩,
  ⟨(some 13), oMv (rT 46), none, none⟩])
 (.seq (.seq (.region [⟨(some 47), oMv (rT 13), none, none⟩,
  ⟨(some 48), oBinBy (cmpBy .neq cNeq) (.tmp 47) (.const (.int .i64 0)), none, none⟩])
 (.cond (.tmp 48) (.seq (.region [⟨(some 49), oMv (rT 13), none, none⟩,
  ⟨(some 6), oMv (rC (.slice none 0 0)), none, none⟩,
  ⟨(some 7), oMv (rT 49), none, none⟩])
 .ret)
 .skip))
 (.seq (.seq (.draw [⟨(some 50), oMv (rT 11), none, none⟩,
  ⟨(some 51), oLenS 295 (rT 50), none, none⟩,
  ⟨(some 52), oBinBy (cmpBy .gtr cGtr) (.tmp 51) (.const (.int .i64 0)), none, none⟩,
  ⟨(some 53), oMv (rT 52), none, none⟩,
  ⟨(some 54), oMv (rT 1), (some (53, true)), none⟩,
  ⟨(some 55), oMv (rT 11), (some (53, true)), none⟩,
  ⟨(some 56), oMv (rT 11), (some (53, true)), none⟩,
  ⟨(some 57), oLenS 295 (rT 56), (some (53, true)), none⟩,
  ⟨(some 58), oBinBy (arithBy .sub nSub) (.tmp 57) (.const (.int .i64 1)), (some (53, true)), none⟩,
  ⟨(some 59), oIndexAddr 6 (rT 55) (rT 58), (some (53, true)), none⟩,
  ⟨(some 60), oLoadN 6 (rT 59), (some (53, true)), none⟩,
  ⟨(some 61), oCallV (.tmp 54) [(.tmp 60)], (some (53, true)), none⟩,
  ⟨(some 62), oLoadN 4 (rT 12), (some (53, true)), none⟩,
  ⟨(some 63), oCall 36 [(.tmp 61), (.tmp 62)], (some (53, true)), none⟩,
  ⟨(some 64), oUn .not (.tmp 63), (some (53, true)), none⟩,
  ⟨(some 65), oPick (rT 53) (rT 64) (rC (.bool false)), none, none⟩] 0 [(12, 11)])
 (.cond (.tmp 65) (.seq (.region [⟨(some 6), oMv (rC (.slice none 0 0)), none, none⟩,
  ⟨(some 7), oMv (rC (.int .i64 5)), none, none⟩])
 .ret)
 .skip))
 (.region [⟨(some 66), oMv (rT 11), none, none⟩,
  ⟨(some 67), oLoadN 6 (rT 14), none, none⟩,
  ⟨(some 68), oBuildSlice false 6 1 [(.int .i64 0), (.int .u8 0), (.string ⟨#[]⟩), (.int .i64 0), (.int .i64 0), (.int .i64 0)] [(0, (.tmp 67))], none, none⟩,
  ⟨(some 69), oAppend 6 56 (.tmp 66) (.tmp 68), none, none⟩,
  ⟨(some 11), oMv (rT 69), none, none⟩])))))))
 (.region [⟨(some 70), oBinBy (arithBy .add nAdd) (.tmp 30) (.const (.int .u64 1)), none, none⟩,
  ⟨(some 30), oMv (rT 70), none, none⟩])))))))
 (.seq (.seq (.region [⟨(some 71), oMv (rT 8), none, none⟩,
  ⟨(some 72), oCall 141 [(.tmp 71)], none, none⟩,
  ⟨(some 73), oBinBy (cmpBy .gtr cGtr) (.tmp 72) (.const (.int .i64 0)), none, none⟩])
 (.cond (.tmp 73) (.seq (.region [⟨(some 6), oMv (rC (.slice none 0 0)), none, none⟩,
  ⟨(some 7), oMv (rC (.int .i64 5)), none, none⟩])
 .ret)
 .skip))
 (.seq (.region [⟨(some 74), oMv (rT 11), none, none⟩,
  ⟨(some 75), oMv (rT 11), none, none⟩,
  ⟨(some 76), oLenS 295 (rT 75), none, none⟩,
  ⟨(some 77), oMv (rT 11), none, none⟩,
  ⟨(some 78), oLenS 295 (rT 77), none, none⟩,
  ⟨(some 79), oSlice 6 (.tmp 74) none (some (.tmp 76)) (some (.tmp 78)), none, none⟩,
  ⟨(some 6), oMv (rT 79), none, none⟩,
  ⟨(some 7), oMv (rC (.int .i64 0)), none, none⟩])
 .ret))))))))⟩
def c171 : FFunc := ⟨[.cells 2 4], (.seq (.region [⟨(some 1), oBox (.tmp 0), none, none⟩,
  ⟨(some 2), oAlloc [(.int .i64 0), (.int .u8 0), (.string ⟨#[]⟩), (.int .i64 0)], none, (some [(.int .i64 0), (.int .u8 0), (.string ⟨#[]⟩), (.int .i64 0)])⟩])
 (.seq (.region [⟨(some 3), oFieldAddr 0 (rT 1), none, none⟩,
  ⟨(some 4), oLoadN 4 (rT 3), none, none⟩,
  ⟨none, oStore 4 (rT 2) (rT 4), none, none⟩])
 .ret))⟩
def c172 : FFunc := ⟨[.cells 6 6, .tmp 7], (.seq (.region [⟨(some 3), oBox (.tmp 0), none, none⟩,
  ⟨(some 5), oBox (.tmp 2), none, none⟩,
  ⟨(some 6), oAlloc [(.int .i64 0), (.int .u8 0), (.string ⟨#[]⟩), (.int .i64 0), (.int .i64 0), (.int .i64 0)], none, (some [(.int .i64 0), (.int .u8 0), (.string ⟨#[]⟩), (.int .i64 0), (.int .i64 0), (.int .i64 0)])⟩,
  ⟨(some 7), oMv (rC (.int .i64 0)), none, none⟩])
 (.seq (.region [⟨(some 12), oMv (rT 1), none, none⟩,
  ⟨(some 13), oCall 58 [(.tmp 12), (.const (.int .i64 1))], none, none⟩,
  ⟨(some 11), oMv (rT 13), none, none⟩,
  ⟨(some 14), oExtract (rT 11) 0, none, none⟩,
  ⟨(some 15), oExtract (rT 11) 1, none, none⟩,
  ⟨(some 8), oMv (rT 14), none, none⟩,
  ⟨(some 9), oMv (rT 15), none, none⟩])
 (.seq (.seq (.region [⟨(some 16), oMv (rT 9), none, none⟩,
  ⟨(some 17), oBinBy (cmpBy .neq cNeq) (.tmp 16) (.const (.int .i64 0)), none, none⟩])
 (.cond (.tmp 17) (.seq (.region [⟨(some 18), oBuild #[(.int .i64 0), (.int .u8 0), (.string ⟨#[]⟩), (.int .i64 0), (.int .i64 0), (.int .i64 0)] [(0, 4), (4, 1), (5, 1)] [], none, none⟩,
  ⟨(some 19), oMv (rT 9), none, none⟩,
  ⟨none, oStore 6 (rT 6) (rT 18), none, none⟩,
  ⟨(some 7), oMv (rT 19), none, none⟩])
 .ret)
 .skip))
 (.seq (.region [⟨(some 21), oMv (rT 1), none, none⟩,
  ⟨(some 22), oCall 58 [(.tmp 21), (.const (.int .i64 1))], none, none⟩,
  ⟨(some 20), oMv (rT 22), none, none⟩,
  ⟨(some 23), oExtract (rT 20) 0, none, none⟩,
  ⟨(some 24), oExtract (rT 20) 1, none, none⟩,
  ⟨(some 10), oMv (rT 23), none, none⟩,
  ⟨(some 9), oMv (rT 24), none, none⟩])
 (.seq (.seq (.region [⟨(some 25), oMv (rT 9), none, none⟩,
  ⟨(some 26), oBinBy (cmpBy .neq cNeq) (.tmp 25) (.const (.int .i64 0)), none, none⟩])
 (.cond (.tmp 26) (.seq (.region [⟨(some 27), oBuild #[(.int .i64 0), (.int .u8 0), (.string ⟨#[]⟩), (.int .i64 0), (.int .i64 0), (.int .i64 0)] [(0, 4), (4, 1), (5, 1)] [], none, none⟩,
  ⟨(some 28), oMv (rT 9), none, none⟩,
  ⟨none, oStore 6 (rT 6) (rT 27), none, none⟩,
  ⟨(some 7), oMv (rT 28), none, none⟩])
 .ret)
 .skip))
 (.seq (.region [⟨(some 29), oLoadN 4 (rT 5), none, none⟩,
  ⟨(some 30), oMv (rT 8), none, none⟩,
  ⟨(some 31), oToInt .i64 (.tmp 30), none, none⟩,
  ⟨(some 32), oMv (rT 10), none, none⟩,
  ⟨(some 33), oToInt .i64 (.tmp 32), none, none⟩,
  ⟨(some 34), oBuild #[(.int .i64 0), (.int .u8 0), (.string ⟨#[]⟩), (.int .i64 0), (.int .i64 0), (.int .i64 0)] [(0, 4), (4, 1), (5, 1)] [(0, (.tmp 29)), (1, (.tmp 31)), (2, (.tmp 33))], none, none⟩,
  ⟨none, oStore 6 (rT 6) (rT 34), none, none⟩,
  ⟨(some 7), oMv (rC (.int .i64 0)), none, none⟩])
 .ret))))))⟩
def c173 : FFunc := ⟨[.tmp 2, .tmp 3], (.seq (.region [⟨(some 1), oBox (.tmp 0), none, none⟩,
  ⟨(some 2), oMv (rC (.slice none 0 0)), none, none⟩,
  ⟨(some 3), oMv (rC (.int .i64 0)), none, none⟩])
 (.seq (.seq (.region [⟨(some 8), oLoadN 4 (rT 1), none, none⟩,
  ⟨(some 9), oCall 35 [(.tmp 8)], none, none⟩,
  ⟨(some 10), oUn .not (.tmp 9), none, none⟩])
 (.cond (.tmp 10) (.seq (.region [⟨(some 2), oMv (rC (.slice none 0 0)), none, none⟩,
  ⟨(some 3), oMv (rC (.int .i64 2)), none, none⟩])
 .ret)
 .skip))
 (.seq (.region [⟨(some 12), oFieldAddr 0 (rT 1), none, none⟩,
  ⟨(some 13), oLoad1 (rT 12), none, none⟩,
  ⟨(some 14), oToInt .u64 (.tmp 13), none, none⟩,
  ⟨(some 15), oCall 89 [(.tmp 14), (.const (.int .i64 2))], none, none⟩,
  ⟨(some 11), oMv (rT 15), none, none⟩,
  ⟨(some 16), oExtract (rT 11) 0, none, none⟩,
  ⟨(some 17), oExtract (rT 11) 1, none, none⟩,
  ⟨(some 4), oMv (rT 16), none, none⟩,
  ⟨(some 5), oMv (rT 17), none, none⟩])
 (.seq (.region [⟨(some 18), oMv (rT 4), none, none⟩,
  ⟨(some 19), oFieldAddr 1 (rT 1), none, none⟩,
  ⟨(some 20), oLoad1 (rT 19), none, none⟩,
  ⟨(some 21), oBuildSlice true 1 1 [(.int .u8 0)] [(0, (.tmp 20))], none, none⟩,
  ⟨(some 22), oAppend 1 1 (.tmp 18) (.tmp 21), none, none⟩,
  ⟨(some 4), oMv (rT 22), none, none⟩])
 (.seq (.seq (.region [⟨(some 23), oFieldAddr 1 (rT 1), none, none⟩,
  ⟨(some 24), oLoad1 (rT 23), none, none⟩])
 (.block 0 (.seq (.region [⟨(some 26), oBinBy (cmpBy .eql cEql) (.tmp 24) (.const (.int .u8 2)), none, none⟩,
  ⟨(some 25), oMv (rT 26), none, none⟩])
 (.cond (.tmp 25) (.seq (.region [⟨(some 28), oFieldAddr 2 (rT 1), none, none⟩,
  ⟨(some 29), oLoad1 (rT 28), none, none⟩,
  ⟨(some 30), oToBytes (.tmp 29), none, none⟩,
  ⟨(some 31), oCall 181 [(.tmp 30)], none, none⟩,
  ⟨(some 27), oMv (rT 31), none, none⟩,
  ⟨(some 32), oExtract (rT 27) 0, none, none⟩,
  ⟨(some 33), oExtract (rT 27) 1, none, none⟩,
  ⟨(some 6), oMv (rT 32), none, none⟩,
  ⟨(some 7), oMv (rT 33), none, none⟩])
 (.region [⟨(some 34), oMv (rT 4), none, none⟩,
  ⟨(some 35), oMv (rT 6), none, none⟩,
  ⟨(some 36), oAppend 1 1 (.tmp 34) (.tmp 35), none, none⟩,
  ⟨(some 4), oMv (rT 36), none, none⟩]))
 (.seq (.region [⟨(some 38), oBinBy (cmpBy .eql cEql) (.tmp 24) (.const (.int .u8 3)), none, none⟩,
  ⟨(some 37), oMv (rT 38), none, none⟩])
 (.cond (.tmp 37) (.region [⟨(some 39), oMv (rT 4), none, none⟩,
  ⟨(some 40), oFieldAddr 3 (rT 1), none, none⟩,
  ⟨(some 41), oLoad1 (rT 40), none, none⟩,
  ⟨(some 42), oToInt .u8 (.tmp 41), none, none⟩,
  ⟨(some 43), oBuildSlice true 1 1 [(.int .u8 0)] [(0, (.tmp 42))], none, none⟩,
  ⟨(some 44), oAppend 1 1 (.tmp 39) (.tmp 43), none, none⟩,
  ⟨(some 4), oMv (rT 44), none, none⟩])
 .skip))))))
 (.seq (.region [⟨(some 45), oMv (rT 4), none, none⟩,
  ⟨(some 2), oMv (rT 45), none, none⟩,
  ⟨(some 3), oMv (rC (.int .i64 0)), none, none⟩])
 .ret))))))⟩
def c174 : FFunc := ⟨[.tmp 2, .tmp 3], (.seq (.region [⟨(some 1), oBox (.tmp 0), none, none⟩,
  ⟨(some 2), oMv (rC (.slice none 0 0)), none, none⟩,
  ⟨(some 3), oMv (rC (.bool false)), none, none⟩])
 (.seq (.region [⟨(some 9), oFieldAddr 0 (rT 1), none, none⟩,
  ⟨(some 10), oLoadN 4 (rT 9), none, none⟩,
  ⟨(some 11), oCall 173 [(.tmp 10)], none, none⟩,
  ⟨(some 8), oMv (rT 11), none, none⟩,
  ⟨(some 12), oExtract (rT 8) 0, none, none⟩,
  ⟨(some 13), oExtract (rT 8) 1, none, none⟩,
  ⟨(some 4), oMv (rT 12), none, none⟩,
  ⟨(some 5), oMv (rT 13), none, none⟩])
 (.seq (.block 0 (.seq (.region [⟨(some 15), oMv (rT 5), none, none⟩,
  ⟨(some 16), oBinBy (cmpBy .neq cNeq) (.tmp 15) (.const (.int .i64 0)), none, none⟩,
  ⟨(some 17), oMv (rT 16), none, none⟩,
  ⟨(some 18), oFieldAddr 5 (rT 1), (some (17, false)), none⟩,
  ⟨(some 19), oLoad1 (rT 18), (some (17, false)), none⟩,
  ⟨(some 20), oMv (rT 19), (some (17, false)), none⟩,
  ⟨(some 21), oFieldAddr 4 (rT 1), (some (20, true)), none⟩,
  ⟨(some 22), oLoad1 (rT 21), (some (20, true)), none⟩,
  ⟨(some 23), oLenS 5 (rT 22), (some (20, true)), none⟩,
  ⟨(some 24), oBinBy (cmpBy .gtr cGtr) (.tmp 23) (.const (.int .i64 0)), (some (20, true)), none⟩,
  ⟨(some 25), oPick (rT 20) (rT 24) (rC (.bool false)), (some (17, false)), none⟩,
  ⟨(some 26), oPick (rT 17) (rC (.bool true)) (rT 25), none, none⟩,
  ⟨(some 14), oMv (rT 26), none, none⟩])
 (.cond (.tmp 14) (.seq (.region [⟨(some 2), oMv (rC (.slice none 0 0)), none, none⟩,
  ⟨(some 3), oMv (rC (.bool false)), none, none⟩])
 .ret)
 (.seq (.region [⟨(some 28), oFieldAddr 5 (rT 1), none, none⟩,
  ⟨(some 29), oLoad1 (rT 28), none, none⟩,
  ⟨(some 27), oMv (rT 29), none, none⟩])
 (.cond (.tmp 27) (.seq (.region [⟨(some 30), oBuildSlice true 1 1 [(.int .u8 0)] [(0, (.const (.int .u8 0)))], none, none⟩,
  ⟨(some 31), oMv (rT 4), none, none⟩,
  ⟨(some 32), oBuildSlice false 1 2 [(.slice none 0 0)] [(0, (.tmp 30)), (1, (.tmp 31))], none, none⟩,
  ⟨(some 33), oCall 182 [(.tmp 32)], none, none⟩,
  ⟨(some 2), oMv (rT 33), none, none⟩,
  ⟨(some 3), oMv (rC (.bool true)), none, none⟩])
 .ret)
 (.seq (.region [⟨(some 35), oFieldAddr 4 (rT 1), none, none⟩,
  ⟨(some 36), oLoad1 (rT 35), none, none⟩,
  ⟨(some 37), oLenS 5 (rT 36), none, none⟩,
  ⟨(some 38), oBinBy (cmpBy .lss cLss) (.tmp 37) (.const (.int .i64 1)), none, none⟩,
  ⟨(some 39), oMv (rT 38), none, none⟩,
  ⟨(some 40), oFieldAddr 4 (rT 1), (some (39, false)), none⟩,
  ⟨(some 41), oLoad1 (rT 40), (some (39, false)), none⟩,
  ⟨(some 42), oLenS 5 (rT 41), (some (39, false)), none⟩,
  ⟨(some 43), oBinBy (cmpBy .gtr cGtr) (.tmp 42) (.const (.int .i64 255)), (some (39, false)), none⟩,
  ⟨(some 44), oPick (rT 39) (rC (.bool true)) (rT 43), none, none⟩,
  ⟨(some 34), oMv (rT 44), none, none⟩])
 (.cond (.tmp 34) (.seq (.region [⟨(some 2), oMv (rC (.slice none 0 0)), none, none⟩,
  ⟨(some 3), oMv (rC (.bool false)), none, none⟩])
 .ret)
 .skip)))))))
 (.seq (.region [⟨(some 46), oFieldAddr 4 (rT 1), none, none⟩,
  ⟨(some 47), oLoad1 (rT 46), none, none⟩,
  ⟨(some 48), oCall 181 [(.tmp 47)], none, none⟩,
  ⟨(some 45), oMv (rT 48), none, none⟩,
  ⟨(some 49), oExtract (rT 45) 0, none, none⟩,
  ⟨(some 50), oExtract (rT 45) 1, none, none⟩,
  ⟨(some 6), oMv (rT 49), none, none⟩,
  ⟨(some 7), oMv (rT 50), none, none⟩])
 (.seq (.region [⟨(some 51), oBuildSlice true 1 1 [(.int .u8 0)] [(0, (.const (.int .u8 1)))], none, none⟩,
  ⟨(some 52), oMv (rT 4), none, none⟩,
  ⟨(some 53), oMv (rT 6), none, none⟩,
  ⟨(some 54), oBuildSlice false 1 3 [(.slice none 0 0)] [(0, (.tmp 51)), (1, (.tmp 52)), (2, (.tmp 53))], none, none⟩,
  ⟨(some 55), oCall 182 [(.tmp 54)], none, none⟩,
  ⟨(some 2), oMv (rT 55), none, none⟩,
  ⟨(some 3), oMv (rC (.bool true)), none, none⟩])
 .ret)))))⟩
def c175 : FFunc := ⟨[.cells 2 6, .tmp 3], (.seq (.region [⟨(some 1), oBox (.tmp 0), none, none⟩,
  ⟨(some 2), oAlloc [(.int .i64 0), (.int .u8 0), (.string ⟨#[]⟩), (.int .i64 0), (.slice none 0 0), (.bool false)], none, (some [(.int .i64 0), (.int .u8 0), (.string ⟨#[]⟩), (.int .i64 0), (.slice none 0 0), (.bool false)])⟩,
  ⟨(some 3), oMv (rC (.int .i64 0)), none, none⟩])
 (.seq (.region [⟨(some 9), oFieldAddr 0 (rT 1), none, none⟩,
  ⟨(some 10), oLoad1 (rT 9), none, none⟩,
  ⟨(some 11), oCall 58 [(.tmp 10), (.const (.int .i64 1))], none, none⟩,
  ⟨(some 8), oMv (rT 11), none, none⟩,
  ⟨(some 12), oExtract (rT 8) 0, none, none⟩,
  ⟨(some 13), oExtract (rT 8) 1, none, none⟩,
  ⟨(some 4), oMv (rT 12), none, none⟩,
  ⟨(some 5), oMv (rT 13), none, none⟩])
 (.seq (.block 0 (.seq (.region [⟨(some 15), oMv (rT 5), none, none⟩,
  ⟨(some 16), oBinBy (cmpBy .neq cNeq) (.tmp 15) (.const (.int .i64 0)), none, none⟩,
  ⟨(some 14), oMv (rT 16), none, none⟩])
 (.cond (.tmp 14) (.seq (.region [⟨(some 17), oBuild #[(.int .i64 0), (.int .u8 0), (.string ⟨#[]⟩), (.int .i64 0), (.slice none 0 0), (.bool false)] [(0, 4), (4, 1), (5, 1)] [], none, none⟩,
  ⟨(some 18), oMv (rT 5), none, none⟩,
  ⟨none, oStore 6 (rT 2) (rT 17), none, none⟩,
  ⟨(some 3), oMv (rT 18), none, none⟩])
 .ret)
 (.seq (.region [⟨(some 20), oMv (rT 4), none, none⟩,
  ⟨(some 21), oBinBy (cmpBy .gtr cGtr) (.tmp 20) (.const (.int .u64 1)), none, none⟩,
  ⟨(some 19), oMv (rT 21), none, none⟩])
 (.cond (.tmp 19) (.seq (.region [⟨(some 22), oBuild #[(.int .i64 0), (.int .u8 0), (.string ⟨#[]⟩), (.int .i64 0), (.slice none 0 0), (.bool false)] [(0, 4), (4, 1), (5, 1)] [], none, none⟩,
  ⟨none, oStore 6 (rT 2) (rT 22), none, none⟩,
  ⟨(some 3), oMv (rC (.int .i64 5)), none, none⟩])
 .ret)
 .skip)))))
 (.seq (.region [⟨(some 24), oFieldAddr 0 (rT 1), none, none⟩,
  ⟨(some 25), oLoad1 (rT 24), none, none⟩,
  ⟨(some 26), oCall 180 [(.tmp 25)], none, none⟩,
  ⟨(some 23), oMv (rT 26), none, none⟩,
  ⟨(some 27), oExtract (rT 23) 0, none, none⟩,
  ⟨(some 28), oExtract (rT 23) 1, none, none⟩,
  ⟨(some 6), oAlloc [(.int .i64 0), (.int .u8 0), (.string ⟨#[]⟩), (.int .i64 0)], none, (some [(.int .i64 0), (.int .u8 0), (.string ⟨#[]⟩), (.int .i64 0)])⟩,
  ⟨none, oStore 4 (rT 6) (rT 27), none, none⟩,
  ⟨(some 5), oMv (rT 28), none, none⟩])
 (.seq (.seq (.region [⟨(some 29), oMv (rT 5), none, none⟩,
  ⟨(some 30), oBinBy (cmpBy .neq cNeq) (.tmp 29) (.const (.int .i64 0)), none, none⟩,
  ⟨(some 31), oMv (rT 30), none, none⟩,
  ⟨(some 32), oMv (rT 4), (some (31, false)), none⟩,
  ⟨(some 33), oBinBy (cmpBy .eql cEql) (.tmp 32) (.const (.int .u64 0)), (some (31, false)), none⟩,
  ⟨(some 34), oPick (rT 31) (rC (.bool true)) (rT 33), none, none⟩])
 (.cond (.tmp 34) (.seq (.region [⟨(some 35), oLoadN 4 (rT 6), none, none⟩,
  ⟨(some 36), oMv (rT 5), none, none⟩,
  ⟨(some 37), oBinBy (cmpBy .eql cEql) (.tmp 36) (.const (.int .i64 0)), none, none⟩,
  ⟨(some 38), oBuild #[(.int .i64 0), (.int .u8 0), (.string ⟨#[]⟩), (.int .i64 0), (.slice none 0 0), (.bool false)] [(0, 4), (4, 1), (5, 1)] [(0, (.tmp 35)), (2, (.tmp 37))], none, none⟩,
  ⟨(some 39), oMv (rT 5), none, none⟩,
  ⟨none, oStore 6 (rT 2) (rT 38), none, none⟩,
  ⟨(some 3), oMv (rT 39), none, none⟩])
 .ret)
 .skip))
 (.seq (.region [⟨(some 41), oFieldAddr 0 (rT 1), none, none⟩,
  ⟨(some 42), oLoad1 (rT 41), none, none⟩,
  ⟨(some 43), oCall 183 [(.tmp 42)], none, none⟩,
  ⟨(some 40), oMv (rT 43), none, none⟩,
  ⟨(some 44), oExtract (rT 40) 0, none, none⟩,
  ⟨(some 45), oExtract (rT 40) 1, none, none⟩,
  ⟨(some 7), oMv (rT 44), none, none⟩,
  ⟨(some 5), oMv (rT 45), none, none⟩])
 (.seq (.seq (.region [⟨(some 46), oMv (rT 5), none, none⟩,
  ⟨(some 47), oBinBy (cmpBy .eql cEql) (.tmp 46) (.const (.int .i64 0)), none, none⟩,
  ⟨(some 48), oMv (rT 47), none, none⟩,
  ⟨(some 49), oMv (rT 7), (some (48, true)), none⟩,
  ⟨(some 50), oLenS 5 (rT 49), (some (48, true)), none⟩,
  ⟨(some 51), oBinBy (cmpBy .eql cEql) (.tmp 50) (.const (.int .i64 0)), (some (48, true)), none⟩,
  ⟨(some 52), oPick (rT 48) (rT 51) (rC (.bool false)), none, none⟩])
 (.cond (.tmp 52) (.region [⟨(some 5), oMv (rC (.int .i64 5)), none, none⟩])
 .skip))
 (.seq (.region [⟨(some 53), oLoadN 4 (rT 6), none, none⟩,
  ⟨(some 54), oMv (rT 7), none, none⟩,
  ⟨(some 55), oBuild #[(.int .i64 0), (.int .u8 0), (.string ⟨#[]⟩), (.int .i64 0), (.slice none 0 0), (.bool false)] [(0, 4), (4, 1), (5, 1)] [(0, (.tmp 53)), (1, (.tmp 54))], none, none⟩,
  ⟨(some 56), oMv (rT 5), none, none⟩,
  ⟨none, oStore 6 (rT 2) (rT 55), none, none⟩,
  ⟨(some 3), oMv (rT 56), none, none⟩])
 .ret))))))))⟩
def c176 : FFunc := ⟨[], (.seq (.region [⟨(some 4), oMv (rT 0), none, none⟩,
  ⟨(some 5), oLenS 106 (rT 4), none, none⟩,
  ⟨(some 6), oBinBy (arithBy .sub nSub) (.tmp 5) (.const (.int .i64 1)), none, none⟩,
  ⟨(some 2), oMv (rC (.int .i64 0)), none, none⟩,
  ⟨(some 3), oMv (rT 6), none, none⟩])
 (.block 0 (.loop (.seq (.seq (.region [⟨(some 7), oMv (rT 2), none, none⟩,
  ⟨(some 8), oMv (rT 3), none, none⟩,
  ⟨(some 9), oBinBy (cmpBy .lss cLss) (.tmp 7) (.tmp 8), none, none⟩])
 (.cond (.tmp 9) .skip
 (.exit 0)))
 (.seq (.block 1 (.draw [⟨(some 14), oMv (rT 0), none, none⟩,
  ⟨(some 15), oMv (rT 2), none, none⟩,
  ⟨(some 16), oMv (rT 0), none, none⟩,
  ⟨(some 17), oMv (rT 3), none, none⟩,
  ⟨(some 18), oMv (rT 0), none, none⟩,
  ⟨(some 19), oMv (rT 3), none, none⟩,
  ⟨(some 20), oIndexAddr 5 (rT 18) (rT 19), none, none⟩,
  ⟨(some 21), oLoadN 5 (rT 20), none, none⟩,
  ⟨(some 22), oMv (rT 0), none, none⟩,
  ⟨(some 23), oMv (rT 2), none, none⟩,
  ⟨(some 24), oIndexAddr 5 (rT 22) (rT 23), none, none⟩,
  ⟨(some 25), oLoadN 5 (rT 24), none, none⟩,
  ⟨(some 26), oIndexAddr 5 (rT 14) (rT 15), none, none⟩,
  ⟨none, oStore 5 (rT 26) (rT 21), none, none⟩,
  ⟨(some 27), oIndexAddr 5 (rT 16) (rT 17), none, none⟩,
  ⟨none, oStore 5 (rT 27) (rT 25), none, none⟩] 0 []))
 (.region [⟨(some 10), oMv (rT 2), none, none⟩,
  ⟨(some 11), oBinBy (arithBy .add nAdd) (.tmp 10) (.const (.int .i64 1)), none, none⟩,
  ⟨(some 12), oMv (rT 3), none, none⟩,
  ⟨(some 13), oBinBy (arithBy .sub nSub) (.tmp 12) (.const (.int .i64 1)), none, none⟩,
  ⟨(some 2), oMv (rT 11), none, none⟩,
  ⟨(some 3), oMv (rT 13), none, none⟩]))))))⟩
def c177 : FFunc := ⟨[.tmp 6, .tmp 7], (.seq (.region [⟨(some 6), oMv (rC (.slice none 0 0)), none, none⟩,
  ⟨(some 7), oMv (rC (.int .i64 0)), none, none⟩])
 (.seq (.region [⟨(some 15), oMv (rT 0), none, none⟩,
  ⟨(some 16), oCall 57 [(.tmp 15)], none, none⟩,
  ⟨(some 8), oMv (rT 16), none, none⟩])
 (.seq (.region [⟨(some 18), oMv (rT 8), none, none⟩,
  ⟨(some 19), oCall 58 [(.tmp 18), (.const (.int .i64 1))], none, none⟩,
  ⟨(some 17), oMv (rT 19), none, none⟩,
  ⟨(some 20), oExtract (rT 17) 0, none, none⟩,
  ⟨(some 21), oExtract (rT 17) 1, none, none⟩,
  ⟨(some 9), oMv (rT 20), none, none⟩,
  ⟨(some 10), oMv (rT 21), none, none⟩])
 (.seq (.block 0 (.seq (.region [⟨(some 23), oMv (rT 10), none, none⟩,
  ⟨(some 24), oBinBy (cmpBy .neq cNeq) (.tmp 23) (.const (.int .i64 0)), none, none⟩,
  ⟨(some 22), oMv (rT 24), none, none⟩])
 (.cond (.tmp 22) (.seq (.region [⟨(some 25), oMv (rT 10), none, none⟩,
  ⟨(some 6), oMv (rC (.slice none 0 0)), none, none⟩,
  ⟨(some 7), oMv (rT 25), none, none⟩])
 .ret)
 (.seq (.region [⟨(some 27), oMv (rT 9), none, none⟩,
  ⟨(some 28), oBinBy (cmpBy .eql cEql) (.tmp 27) (.const (.int .u64 0)), none, none⟩,
  ⟨(some 26), oMv (rT 28), none, none⟩])
 (.cond (.tmp 26) (.seq (.region [⟨(some 6), oMv (rC (.slice none 0 0)), none, none⟩,
  ⟨(some 7), oMv (rC (.int .i64 5)), none, none⟩])
 .ret)
 .skip)))))
 (.seq (.region [⟨(some 11), oMv (rC (.slice none 0 0)), none, none⟩])
 (.seq (.seq (.region [⟨(some 29), oMv (rT 9), none, none⟩,
  ⟨(some 30), oMv (rC (.int .u64 0)), none, none⟩])
 (.block 1 (.loop (.seq (.region [⟨(some 31), oBinBy (cmpBy .lss cLss) (.tmp 30) (.tmp 29), none, none⟩])
 (.seq (.cond (.tmp 31) .skip
 (.exit 1))
 (.seq (.block 2 (.seq (.region [⟨(some 33), oMv (rT 8), none, none⟩,
  ⟨(some 34), oCall 180 [(.tmp 33)], none, none⟩,
  ⟨(some 32), oMv (rT 34), none, none⟩,
  ⟨(some 35), oExtract (rT 32) 0, none, none⟩,
  ⟨(some 36), oExtract (rT 32) 1, none, none⟩,
  ⟨(some 12), oAlloc [(.int .i64 0), (.int .u8 0), (.string ⟨#[]⟩), (.int .i64 0)], none, (some [(.int .i64 0), (.int .u8 0), (.string ⟨#[]⟩), (.int .i64 0)])⟩,
  ⟨none, oStore 4 (rT 12) (rT 35), none, none⟩,
  ⟨(some 13), oMv (rT 36), none, none⟩])
 (.seq (.seq (.region [⟨(some 37), oMv (rT 13), none, none⟩,
  ⟨(some 38), oBinBy (cmpBy .neq cNeq) (.tmp 37) (.const (.int .i64 0)), none, none⟩])
 (.cond (.tmp 38) (.seq (.region [⟨(some 39), oMv (rT 13), none, none⟩,
  ⟨(some 6), oMv (rC (.slice none 0 0)), none, none⟩,
  ⟨(some 7), oMv (rT 39), none, none⟩])
 .ret)
 .skip))
 (.seq (.region [⟨(some 41), oMv (rT 2), none, none⟩,
  ⟨(some 42), oMv (rT 8), none, none⟩,
  ⟨(some 43), oLoadN 4 (rT 12), none, none⟩,
  ⟨(some 44), oCallV (.tmp 41) [(.tmp 42), (.tmp 43)], none, none⟩,
  ⟨(some 40), oMv (rT 44), none, none⟩,
  ⟨(some 45), oExtract (rT 40) 0, none, none⟩,
  ⟨(some 46), oExtract (rT 40) 1, none, none⟩,
  ⟨(some 14), oAlloc [(.int .i64 0), (.int .u8 0), (.string ⟨#[]⟩), (.int .i64 0), (.slice none 0 0)], none, (some [(.int .i64 0), (.int .u8 0), (.string ⟨#[]⟩), (.int .i64 0), (.slice none 0 0)])⟩,
  ⟨none, oStore 5 (rT 14) (rT 45), none, none⟩,
  ⟨(some 13), oMv (rT 46), none, none⟩])
 (.seq (.seq (.region [⟨(some 47), oMv (rT 13), none, none⟩,
  ⟨(some 48), oBinBy (cmpBy .neq cNeq) (.tmp 47) (.const (.int .i64 0)), none, none⟩])
 (.cond (.tmp 48) (.seq (.region [⟨(some 49), oMv (rT 13), none, none⟩,
  ⟨(some 6), oMv (rC (.slice none 0 0)), none, none⟩,
  ⟨(some 7), oMv (rT 49), none, none⟩])
 .ret)
 .skip))
 (.seq (.seq (.draw [⟨(some 50), oMv (rT 11), none, none⟩,
  ⟨(some 51), oLenS 106 (rT 50), none, none⟩,
  ⟨(some 52), oBinBy (cmpBy .gtr cGtr) (.tmp 51) (.const (.int .i64 0)), none, none⟩,
  ⟨(some 53), oMv (rT 52), none, none⟩,
  ⟨(some 54), oMv (rT 1), (some (53, true)), none⟩,
  ⟨(some 55), oMv (rT 11), (some (53, true)), none⟩,
  ⟨(some 56), oMv (rT 11), (some (53, true)), none⟩,
  ⟨(some 57), oLenS 106 (rT 56), (some (53, true)), none⟩,
  ⟨(some 58), oBinBy (arithBy .sub nSub) (.tmp 57) (.const (.int .i64 1)), (some (53, true)), none⟩,
  ⟨(some 59), oIndexAddr 5 (rT 55) (rT 58), (some (53, true)), none⟩,
  ⟨(some 60), oLoadN 5 (rT 59), (some (53, true)), none⟩,
  ⟨(some 61), oCallV (.tmp 54) [(.tmp 60)], (some (53, true)), none⟩,
  ⟨(some 62), oLoadN 4 (rT 12), (some (53, true)), none⟩,
  ⟨(some 63), oCall 36 [(.tmp 61), (.tmp 62)], (some (53, true)), none⟩,
  ⟨(some 64), oUn .not (.tmp 63), (some (53, true)), none⟩,
  ⟨(some 65), oPick (rT 53) (rT 64) (rC (.bool false)), none, none⟩] 0 [(12, 11)])
 (.cond (.tmp 65) (.seq (.region [⟨(some 6), oMv (rC (.slice none 0 0)), none, none⟩,
  ⟨(some 7), oMv (rC (.int .i64 5)), none, none⟩])
 .ret)
 .skip))
 (.region [⟨(some 66), oMv (rT 11), none, none⟩,
  ⟨(some 67), oLoadN 5 (rT 14), none, none⟩,
  ⟨(some 68), oBuildSlice false 5 1 [(.int .i64 0), (.int .u8 0), (.string ⟨#[]⟩), (.int .i64 0), (.slice none 0 0)] [(0, (.tmp 67))], none, none⟩,
  ⟨(some 69), oAppend 5 64 (.tmp 66) (.tmp 68), none, none⟩,
  ⟨(some 11), oMv (rT 69), none, none⟩])))))))
 (.region [⟨(some 70), oBinBy (arithBy .add nAdd) (.tmp 30) (.const (.int .u64 1)), none, none⟩,
  ⟨(some 30), oMv (rT 70), none, none⟩])))))))
 (.seq (.seq (.region [⟨(some 71), oMv (rT 8), none, none⟩,
  ⟨(some 72), oCall 141 [(.tmp 71)], none, none⟩,
  ⟨(some 73), oBinBy (cmpBy .gtr cGtr) (.tmp 72) (.const (.int .i64 0)), none, none⟩])
 (.cond (.tmp 73) (.seq (.region [⟨(some 6), oMv (rC (.slice none 0 0)), none, none⟩,
  ⟨(some 7), oMv (rC (.int .i64 5)), none, none⟩])
 .ret)
 .skip))
 (.seq (.region [⟨(some 74), oMv (rT 11), none, none⟩,
  ⟨(some 75), oMv (rT 11), none, none⟩,
  ⟨(some 76), oLenS 106 (rT 75), none, none⟩,
  ⟨(some 77), oMv (rT 11), none, none⟩,
  ⟨(some 78), oLenS 106 (rT 77), none, none⟩,
  ⟨(some 79), oSlice 5 (.tmp 74) none (some (.tmp 76)) (some (.tmp 78)), none, none⟩,
  ⟨(some 6), oMv (rT 79), none, none⟩,
  ⟨(some 7), oMv (rC (.int .i64 0)), none, none⟩])
 .ret))))))))⟩
def c178 : FFunc := ⟨[.cells 2 4], (.seq (.region [⟨(some 1), oBox (.tmp 0), none, none⟩,
  ⟨(some 2), oAlloc [(.int .i64 0), (.int .u8 0), (.string ⟨#[]⟩), (.int .i64 0)], none, (some [(.int .i64 0), (.int .u8 0), (.string ⟨#[]⟩), (.int .i64 0)])⟩])
 (.seq (.region [⟨(some 3), oFieldAddr 0 (rT 1), none, none⟩,
  ⟨(some 4), oLoadN 4 (rT 3), none, none⟩,
  ⟨none, oStore 4 (rT 2) (rT 4), none, none⟩])
 .ret))⟩
def c179 : FFunc := ⟨[.cells 6 5, .tmp 7], (.seq (.region [⟨(some 3), oBox (.tmp 0), none, none⟩,
  ⟨(some 5), oBox (.tmp 2), none, none⟩,
  ⟨(some 6), oAlloc [(.int .i64 0), (.int .u8 0), (.string ⟨#[]⟩), (.int .i64 0), (.slice none 0 0)], none, (some [(.int .i64 0), (.int .u8 0), (.string ⟨#[]⟩), (.int .i64 0), (.slice none 0 0)])⟩,
  ⟨(some 7), oMv (rC (.int .i64 0)), none, none⟩])
 (.seq (.region [⟨(some 11), oMv (rT 1), none, none⟩,
  ⟨(some 12), oCall 183 [(.tmp 11)], none, none⟩,
  ⟨(some 10), oMv (rT 12), none, none⟩,
  ⟨(some 13), oExtract (rT 10) 0, none, none⟩,
  ⟨(some 14), oExtract (rT 10) 1, none, none⟩,
  ⟨(some 8), oMv (rT 13), none, none⟩,
  ⟨(some 9), oMv (rT 14), none, none⟩])
 (.seq (.block 0 (.seq (.region [⟨(some 16), oMv (rT 9), none, none⟩,
  ⟨(some 17), oBinBy (cmpBy .neq cNeq) (.tmp 16) (.const (.int .i64 0)), none, none⟩,
  ⟨(some 15), oMv (rT 17), none, none⟩])
 (.cond (.tmp 15) (.seq (.region [⟨(some 18), oBuild #[(.int .i64 0), (.int .u8 0), (.string ⟨#[]⟩), (.int .i64 0), (.slice none 0 0)] [(0, 4), (4, 1)] [], none, none⟩,
  ⟨(some 19), oMv (rT 9), none, none⟩,
  ⟨none, oStore 5 (rT 6) (rT 18), none, none⟩,
  ⟨(some 7), oMv (rT 19), none, none⟩])
 .ret)
 (.seq (.region [⟨(some 21), oMv (rT 8), none, none⟩,
  ⟨(some 22), oLenS 5 (rT 21), none, none⟩,
  ⟨(some 23), oBinBy (cmpBy .eql cEql) (.tmp 22) (.const (.int .i64 0)), none, none⟩,
  ⟨(some 20), oMv (rT 23), none, none⟩])
 (.cond (.tmp 20) (.seq (.region [⟨(some 24), oBuild #[(.int .i64 0), (.int .u8 0), (.string ⟨#[]⟩), (.int .i64 0), (.slice none 0 0)] [(0, 4), (4, 1)] [], none, none⟩,
  ⟨none, oStore 5 (rT 6) (rT 24), none, none⟩,
  ⟨(some 7), oMv (rC (.int .i64 5)), none, none⟩])
 .ret)
 .skip)))))
 (.seq (.draw [⟨(some 25), oLoadN 4 (rT 5), none, none⟩,
  ⟨(some 26), oMv (rT 8), none, none⟩,
  ⟨(some 27), oCall 19 [(.tmp 26)], none, none⟩,
  ⟨(some 28), oBuild #[(.int .i64 0), (.int .u8 0), (.string ⟨#[]⟩), (.int .i64 0), (.slice none 0 0)] [(0, 4), (4, 1)] [(0, (.tmp 25)), (1, (.tmp 27))], none, none⟩,
  ⟨none, oStore 5 (rT 6) (rT 28), none, none⟩,
  ⟨(some 7), oMv (rC (.int .i64 0)), none, none⟩] 0 [(0, 2)])
 .ret))))⟩
def c180 : FFunc := ⟨[.cells 2 4, .tmp 3], (.seq (.region [⟨(some 2), oAlloc [(.int .i64 0), (.int .u8 0), (.string ⟨#[]⟩), (.int .i64 0)], none, (some [(.int .i64 0), (.int .u8 0), (.string ⟨#[]⟩), (.int .i64 0)])⟩,
  ⟨(some 3), oMv (rC (.int .i64 0)), none, none⟩])
 (.seq (.region [⟨(some 11), oMv (rT 0), none, none⟩,
  ⟨(some 12), oCall 58 [(.tmp 11), (.const (.int .i64 2))], none, none⟩,
  ⟨(some 10), oMv (rT 12), none, none⟩,
  ⟨(some 13), oExtract (rT 10) 0, none, none⟩,
  ⟨(some 14), oExtract (rT 10) 1, none, none⟩,
  ⟨(some 4), oMv (rT 13), none, none⟩,
  ⟨(some 5), oMv (rT 14), none, none⟩])
 (.seq (.seq (.region [⟨(some 15), oMv (rT 5), none, none⟩,
  ⟨(some 16), oBinBy (cmpBy .eql cEql) (.tmp 15) (.const (.int .i64 1)), none, none⟩])
 (.cond (.tmp 16) (.seq (.region [⟨(some 17), oBuild #[(.int .i64 0), (.int .u8 0), (.string ⟨#[]⟩), (.int .i64 0)] [(0, 1), (1, 1), (2, 1), (3, 1)] [], none, none⟩,
  ⟨(some 18), oMv (rT 5), none, none⟩,
  ⟨none, oStore 4 (rT 2) (rT 17), none, none⟩,
  ⟨(some 3), oMv (rT 18), none, none⟩])
 .ret)
 .skip))
 (.seq (.region [⟨(some 20), oMv (rT 0), none, none⟩,
  ⟨(some 21), oCall 58 [(.tmp 20), (.const (.int .i64 1))], none, none⟩,
  ⟨(some 19), oMv (rT 21), none, none⟩,
  ⟨(some 22), oExtract (rT 19) 0, none, none⟩,
  ⟨(some 23), oExtract (rT 19) 1, none, none⟩,
  ⟨(some 6), oMv (rT 22), none, none⟩,
  ⟨(some 5), oMv (rT 23), none, none⟩])
 (.seq (.region [⟨(some 24), oMv (rT 4), none, none⟩,
  ⟨(some 25), oToInt .i64 (.tmp 24), none, none⟩,
  ⟨(some 26), oMv (rT 6), none, none⟩,
  ⟨(some 27), oToInt .u8 (.tmp 26), none, none⟩,
  ⟨(some 28), oBuild #[(.int .i64 0), (.int .u8 0), (.string ⟨#[]⟩), (.int .i64 0)] [(0, 1), (1, 1), (2, 1), (3, 1)] [(0, (.tmp 25)), (1, (.tmp 27))], none, none⟩,
  ⟨(some 7), oAlloc [(.int .i64 0), (.int .u8 0), (.string ⟨#[]⟩), (.int .i64 0)], none, (some [(.int .i64 0), (.int .u8 0), (.string ⟨#[]⟩), (.int .i64 0)])⟩,
  ⟨none, oStore 4 (rT 7) (rT 28), none, none⟩])
 (.seq (.block 0 (.seq (.region [⟨(some 30), oMv (rT 5), none, none⟩,
  ⟨(some 31), oBinBy (cmpBy .neq cNeq) (.tmp 30) (.const (.int .i64 0)), none, none⟩,
  ⟨(some 29), oMv (rT 31), none, none⟩])
 (.cond (.tmp 29) .skip
 (.seq (.region [⟨(some 33), oMv (rT 6), none, none⟩,
  ⟨(some 34), oBinBy (cmpBy .eql cEql) (.tmp 33) (.const (.int .u64 2)), none, none⟩,
  ⟨(some 32), oMv (rT 34), none, none⟩])
 (.cond (.tmp 32) (.seq (.region [⟨(some 8), oMv (rC (.slice none 0 0)), none, none⟩])
 (.seq (.region [⟨(some 36), oMv (rT 0), none, none⟩,
  ⟨(some 37), oCall 183 [(.tmp 36)], none, none⟩,
  ⟨(some 35), oMv (rT 37), none, none⟩,
  ⟨(some 38), oExtract (rT 35) 0, none, none⟩,
  ⟨(some 39), oExtract (rT 35) 1, none, none⟩,
  ⟨(some 8), oMv (rT 38), none, none⟩,
  ⟨(some 5), oMv (rT 39), none, none⟩])
 (.region [⟨(some 40), oMv (rT 8), none, none⟩,
  ⟨(some 41), oFromBytes (.tmp 40), none, none⟩,
  ⟨(some 42), oFieldAddr 2 (rT 7), none, none⟩,
  ⟨none, oStore 1 (rT 42) (rT 41), none, none⟩])))
 (.seq (.region [⟨(some 44), oMv (rT 6), none, none⟩,
  ⟨(some 45), oBinBy (cmpBy .eql cEql) (.tmp 44) (.const (.int .u64 3)), none, none⟩,
  ⟨(some 43), oMv (rT 45), none, none⟩])
 (.cond (.tmp 43) (.seq (.region [⟨(some 9), oMv (rC (.int .u64 0)), none, none⟩])
 (.seq (.region [⟨(some 47), oMv (rT 0), none, none⟩,
  ⟨(some 48), oCall 58 [(.tmp 47), (.const (.int .i64 1))], none, none⟩,
  ⟨(some 46), oMv (rT 48), none, none⟩,
  ⟨(some 49), oExtract (rT 46) 0, none, none⟩,
  ⟨(some 50), oExtract (rT 46) 1, none, none⟩,
  ⟨(some 9), oMv (rT 49), none, none⟩,
  ⟨(some 5), oMv (rT 50), none, none⟩])
 (.region [⟨(some 51), oMv (rT 9), none, none⟩,
  ⟨(some 52), oToInt .i64 (.tmp 51), none, none⟩,
  ⟨(some 53), oFieldAddr 3 (rT 7), none, none⟩,
  ⟨none, oStore 1 (rT 53) (rT 52), none, none⟩])))
 .skip)))))))
 (.seq (.block 1 (.seq (.region [⟨(some 55), oMv (rT 5), none, none⟩,
  ⟨(some 56), oBinBy (cmpBy .neq cNeq) (.tmp 55) (.const (.int .i64 0)), none, none⟩,
  ⟨(some 54), oMv (rT 56), none, none⟩])
 (.cond (.tmp 54) (.seq (.region [⟨(some 57), oBuild #[(.int .i64 0), (.int .u8 0), (.string ⟨#[]⟩), (.int .i64 0)] [(0, 1), (1, 1), (2, 1), (3, 1)] [], none, none⟩,
  ⟨(some 58), oMv (rT 5), none, none⟩,
  ⟨none, oStore 4 (rT 2) (rT 57), none, none⟩,
  ⟨(some 3), oMv (rT 58), none, none⟩])
 .ret)
 (.seq (.region [⟨(some 60), oLoadN 4 (rT 7), none, none⟩,
  ⟨(some 61), oCall 35 [(.tmp 60)], none, none⟩,
  ⟨(some 62), oUn .not (.tmp 61), none, none⟩,
  ⟨(some 59), oMv (rT 62), none, none⟩])
 (.cond (.tmp 59) (.seq (.region [⟨(some 63), oBuild #[(.int .i64 0), (.int .u8 0), (.string ⟨#[]⟩), (.int .i64 0)] [(0, 1), (1, 1), (2, 1), (3, 1)] [], none, none⟩,
  ⟨none, oStore 4 (rT 2) (rT 63), none, none⟩,
  ⟨(some 3), oMv (rC (.int .i64 5)), none, none⟩])
 .ret)
 .skip)))))
 (.seq (.region [⟨(some 64), oLoadN 4 (rT 7), none, none⟩,
  ⟨none, oStore 4 (rT 2) (rT 64), none, none⟩,
  ⟨(some 3), oMv (rC (.int .i64 0)), none, none⟩])
 .ret))))))))⟩
def c181 : FFunc := ⟨[.tmp 2, .tmp 3], (.seq (.region [⟨(some 2), oMv (rC (.slice none 0 0)), none, none⟩,
  ⟨(some 3), oMv (rC (.int .i64 0)), none, none⟩])
 (.seq (.seq (.region [⟨(some 4), oMv (rT 0), none, none⟩,
  ⟨(some 5), oLenS 5 (rT 4), none, none⟩,
  ⟨(some 6), oBinBy (cmpBy .gtr cGtr) (.tmp 5) (.const (.int .i64 255)), none, none⟩])
 (.cond (.tmp 6) (.seq (.region [⟨(some 2), oMv (rC (.slice none 0 0)), none, none⟩,
  ⟨(some 3), oMv (rC (.int .i64 3)), none, none⟩])
 .ret)
 .skip))
 (.seq (.region [⟨(some 7), oMv (rT 0), none, none⟩,
  ⟨(some 8), oLenS 5 (rT 7), none, none⟩,
  ⟨(some 9), oToInt .u8 (.tmp 8), none, none⟩,
  ⟨(some 10), oBuildSlice true 1 1 [(.int .u8 0)] [(0, (.tmp 9))], none, none⟩,
  ⟨(some 11), oMv (rT 0), none, none⟩,
  ⟨(some 12), oAppend 1 1 (.tmp 10) (.tmp 11), none, none⟩,
  ⟨(some 2), oMv (rT 12), none, none⟩,
  ⟨(some 3), oMv (rC (.int .i64 0)), none, none⟩])
 .ret)))⟩
def c182 : FFunc := ⟨[.tmp 2], (.seq (.region [⟨(some 2), oMv (rC (.slice none 0 0)), none, none⟩])
 (.seq (.region [⟨(some 3), oMv (rT 0), none, none⟩,
  ⟨(some 4), oCall 91 [(.tmp 3)], none, none⟩,
  ⟨(some 2), oMv (rT 4), none, none⟩])
 .ret))⟩
def c183 : FFunc := ⟨[.tmp 2, .tmp 3], (.seq (.region [⟨(some 2), oMv (rC (.slice none 0 0)), none, none⟩,
  ⟨(some 3), oMv (rC (.int .i64 0)), none, none⟩])
 (.seq (.region [⟨(some 8), oMv (rT 0), none, none⟩,
  ⟨(some 9), oCall 58 [(.tmp 8), (.const (.int .i64 1))], none, none⟩,
  ⟨(some 7), oMv (rT 9), none, none⟩,
  ⟨(some 10), oExtract (rT 7) 0, none, none⟩,
  ⟨(some 11), oExtract (rT 7) 1, none, none⟩,
  ⟨(some 4), oMv (rT 10), none, none⟩,
  ⟨(some 5), oMv (rT 11), none, none⟩])
 (.seq (.seq (.region [⟨(some 12), oMv (rT 5), none, none⟩,
  ⟨(some 13), oBinBy (cmpBy .neq cNeq) (.tmp 12) (.const (.int .i64 0)), none, none⟩])
 (.cond (.tmp 13) (.seq (.region [⟨(some 14), oMv (rT 5), none, none⟩,
  ⟨(some 2), oMv (rC (.slice none 0 0)), none, none⟩,
  ⟨(some 3), oMv (rT 14), none, none⟩])
 .ret)
 .skip))
 (.seq (.region [⟨(some 16), oMv (rT 0), none, none⟩,
  ⟨(some 17), oMv (rT 4), none, none⟩,
  ⟨(some 18), oToInt .i64 (.tmp 17), none, none⟩,
  ⟨(some 19), oCall 88 [(.tmp 16), (.tmp 18)], none, none⟩,
  ⟨(some 15), oMv (rT 19), none, none⟩,
  ⟨(some 20), oExtract (rT 15) 0, none, none⟩,
  ⟨(some 21), oExtract (rT 15) 1, none, none⟩,
  ⟨(some 6), oMv (rT 20), none, none⟩,
  ⟨(some 5), oMv (rT 21), none, none⟩])
 (.seq (.region [⟨(some 22), oMv (rT 6), none, none⟩,
  ⟨(some 23), oAppend 1 1 (.const (.slice none 0 0)) (.tmp 22), none, none⟩,
  ⟨(some 24), oMv (rT 5), none, none⟩,
  ⟨(some 2), oMv (rT 23), none, none⟩,
  ⟨(some 3), oMv (rT 24), none, none⟩])
 .ret)))))⟩
def c201 : FFunc := ⟨[.tmp 2], (.seq (.region [⟨(some 2), oMv (rC (.int .i64 0)), none, none⟩])
 (.seq (.seq (.region [⟨(some 6), oMv (rT 0), none, none⟩,
  ⟨(some 7), oCall 41 [(.tmp 6)], none, none⟩])
 (.cond (.tmp 7) (.seq (.region [⟨(some 2), oMv (rC (.int .i64 0)), none, none⟩])
 .ret)
 .skip))
 (.seq (.region [⟨(some 3), oMv (rC (.int .i64 0)), none, none⟩])
 (.seq (.seq (.region [⟨(some 8), oMv (rT 0), none, none⟩,
  ⟨(some 9), oNilCheck (rT 8), none, none⟩,
  ⟨(some 10), oFieldAddr 1 (rT 9), none, none⟩,
  ⟨(some 11), oLoad1 (rT 10), none, none⟩,
  ⟨(some 12), oLenS 84 (rT 11), none, none⟩,
  ⟨(some 13), oMv (rC (.int .i64 0)), none, none⟩])
 (.block 0 (.loop (.seq (.region [⟨(some 14), oBinBy (cmpBy .lss cLss) (.tmp 13) (.tmp 12), none, none⟩])
 (.seq (.cond (.tmp 14) .skip
 (.exit 0))
 (.seq (.block 1 (.seq (.region [⟨(some 15), oMv (rT 13), none, none⟩,
  ⟨(some 16), oIndexAddr 4 (rT 11) (rT 13), none, none⟩,
  ⟨(some 17), oLoadN 4 (rT 16), none, none⟩,
  ⟨(some 5), oAlloc [(.int .i64 0), (.int .u8 0), (.int .u32 0), (.int .u64 0)], none, (some [(.int .i64 0), (.int .u8 0), (.int .u32 0), (.int .u64 0)])⟩,
  ⟨(some 4), oMv (rT 15), none, none⟩,
  ⟨none, oStore 4 (rT 5) (rT 17), none, none⟩])
 (.seq (.region [⟨(some 18), oFieldAddr 0 (rT 5), none, none⟩,
  ⟨(some 19), oLoad1 (rT 18), none, none⟩,
  ⟨(some 20), oBinBy (cmpBy .neq cNeq) (.tmp 19) (.const (.int .i64 2)), none, none⟩,
  ⟨(some 21), oMv (rT 20), none, none⟩,
  ⟨(some 22), oMv (rT 0), (some (21, true)), none⟩,
  ⟨(some 23), oNilCheck (rT 22), (some (21, true)), none⟩,
  ⟨(some 24), oFieldAddr 0 (rT 23), (some (21, true)), none⟩,
  ⟨(some 25), oLoad1 (rT 24), (some (21, true)), none⟩,
  ⟨(some 26), oMv (rT 4), (some (21, true)), none⟩,
  ⟨(some 27), oCall 42 [(.tmp 25), (.tmp 26)], (some (21, true)), none⟩,
  ⟨(some 28), oUn .not (.tmp 27), (some (21, true)), none⟩,
  ⟨(some 29), oPick (rT 21) (rT 28) (rC (.bool false)), none, none⟩])
 (.cond (.tmp 29) (.region [⟨(some 30), oMv (rT 3), none, none⟩,
  ⟨(some 31), oBinBy (arithBy .add nAdd) (.tmp 30) (.const (.int .i64 1)), none, none⟩,
  ⟨(some 3), oMv (rT 31), none, none⟩])
 .skip))))
 (.region [⟨(some 32), oBinBy (arithBy .add nAdd) (.tmp 13) (.const (.int .i64 1)), none, none⟩,
  ⟨(some 13), oMv (rT 32), none, none⟩])))))))
 (.seq (.region [⟨(some 33), oMv (rT 3), none, none⟩,
  ⟨(some 2), oMv (rT 33), none, none⟩])
 .ret)))))⟩
def c204 : FFunc := ⟨[.tmp 4], (.seq (.region [⟨(some 4), oMv (rC (.int .i64 0)), none, none⟩])
 (.seq (.seq (.region [⟨(some 11), oMv (rT 0), none, none⟩,
  ⟨(some 12), oCall 206 [(.tmp 11)], none, none⟩,
  ⟨(some 5), oMv (rT 12), none, none⟩])
 (.seq (.region [⟨(some 13), oMv (rT 5), none, none⟩,
  ⟨(some 14), oBinBy (cmpBy .neq cNeq) (.tmp 13) (.const (.int .i64 0)), none, none⟩])
 (.cond (.tmp 14) (.seq (.region [⟨(some 15), oMv (rT 5), none, none⟩,
  ⟨(some 4), oMv (rT 15), none, none⟩])
 .ret)
 .skip)))
 (.seq (.region [⟨(some 17), oMv (rT 0), none, none⟩,
  ⟨(some 18), oNilCheck (rT 17), none, none⟩,
  ⟨(some 19), oFieldAddr 0 (rT 18), none, none⟩,
  ⟨(some 20), oLoad1 (rT 19), none, none⟩,
  ⟨(some 21), oCall 109 [(.tmp 20)], none, none⟩,
  ⟨(some 22), oCall 25 [(.tmp 21)], none, none⟩,
  ⟨(some 23), oField false 2 1 (.tmp 22), none, none⟩,
  ⟨(some 24), oMv (rT 1), none, none⟩,
  ⟨(some 25), oCall 137 [(.tmp 23), (.tmp 24)], none, none⟩,
  ⟨(some 16), oMv (rT 25), none, none⟩,
  ⟨(some 26), oExtract (rT 16) 0, none, none⟩,
  ⟨(some 27), oExtract (rT 16) 1, none, none⟩,
  ⟨(some 6), oMv (rT 26), none, none⟩,
  ⟨(some 7), oMv (rT 27), none, none⟩])
 (.seq (.seq (.region [⟨(some 28), oMv (rT 7), none, none⟩,
  ⟨(some 29), oBinBy (cmpBy .neq cNeq) (.tmp 28) (.const (.int .i64 0)), none, none⟩])
 (.cond (.tmp 29) (.seq (.region [⟨(some 30), oMv (rT 7), none, none⟩,
  ⟨(some 4), oMv (rT 30), none, none⟩])
 .ret)
 .skip))
 (.seq (.region [⟨(some 31), oMv (rT 0), none, none⟩,
  ⟨(some 32), oNilCheck (rT 31), none, none⟩,
  ⟨(some 33), oFieldAddr 2 (rT 32), none, none⟩,
  ⟨(some 34), oLoad1 (rT 33), none, none⟩,
  ⟨(some 35), oMv (rT 1), none, none⟩,
  ⟨(some 36), oCall 96 [(.tmp 34), (.tmp 35)], none, none⟩,
  ⟨(some 8), oMv (rT 36), none, none⟩])
 (.seq (.seq (.region [⟨(some 37), oMv (rT 0), none, none⟩,
  ⟨(some 38), oMv (rT 8), none, none⟩,
  ⟨(some 39), oLenS 106 (rT 38), none, none⟩,
  ⟨(some 40), oCall 207 [(.tmp 37), (.tmp 39)], none, none⟩])
 (.cond (.tmp 40) (.seq (.region [⟨(some 41), oMv (rT 0), none, none⟩,
  ⟨(some 42), oCall 82 [(.tmp 41)], none, none⟩,
  ⟨(some 9), oMv (rT 42), none, none⟩])
 (.seq (.region [⟨(some 43), oMv (rT 9), none, none⟩,
  ⟨(some 44), oBinBy (cmpBy .eql cEql) (.tmp 43) (.const (.int .i64 10)), none, none⟩])
 (.cond (.tmp 44) (.seq (.region [⟨(some 45), oMv (rT 9), none, none⟩,
  ⟨(some 4), oMv (rT 45), none, none⟩])
 .ret)
 .skip)))
 .skip))
 (.seq (.seq (.region [⟨(some 46), oMv (rT 0), none, none⟩,
  ⟨(some 47), oMv (rT 6), none, none⟩,
  ⟨(some 48), oCall 115 [(.tmp 46), (.tmp 47)], none, none⟩,
  ⟨(some 10), oMv (rT 48), none, none⟩])
 (.seq (.region [⟨(some 49), oMv (rT 10), none, none⟩,
  ⟨(some 50), oBinBy (cmpBy .neq cNeq) (.tmp 49) (.const (.int .i64 0)), none, none⟩])
 (.cond (.tmp 50) (.seq (.region [⟨(some 51), oMv (rT 10), none, none⟩,
  ⟨(some 4), oMv (rT 51), none, none⟩])
 .ret)
 .skip)))
 (.seq (.region [⟨(some 52), oMv (rT 0), none, none⟩,
  ⟨(some 53), oMv (rT 8), none, none⟩,
  ⟨(some 54), oNilCheck (rT 52), none, none⟩,
  ⟨(some 55), oFieldAddr 2 (rT 54), none, none⟩,
  ⟨none, oStore 1 (rT 55) (rT 53), none, none⟩])
 (.seq (.region [⟨(some 4), oMv (rC (.int .i64 0)), none, none⟩])
 .ret)))))))))⟩
def c205 : FFunc := ⟨[.tmp 2], (.seq (.region [⟨(some 2), oMv (rC (.int .i64 0)), none, none⟩])
 (.seq (.region [⟨(some 3), oMv (rT 0), none, none⟩,
  ⟨(some 4), oCall 206 [(.tmp 3)], none, none⟩,
  ⟨(some 2), oMv (rT 4), none, none⟩])
 .ret))⟩
def c206 : FFunc := ⟨[.tmp 2], (.seq (.region [⟨(some 2), oMv (rC (.int .i64 0)), none, none⟩])
 (.seq (.seq (.region [⟨(some 5), oMv (rT 0), none, none⟩,
  ⟨(some 6), oCall 208 [(.tmp 5)], none, none⟩])
 (.cond (.tmp 6) (.seq (.region [⟨(some 2), oMv (rC (.int .i64 1)), none, none⟩])
 .ret)
 .skip))
 (.seq (.region [⟨(some 8), oMv (rT 0), none, none⟩,
  ⟨(some 9), oNilCheck (rT 8), none, none⟩,
  ⟨(some 10), oFieldAddr 0 (rT 9), none, none⟩,
  ⟨(some 11), oLoad1 (rT 10), none, none⟩,
  ⟨(some 12), oCall 109 [(.tmp 11)], none, none⟩,
  ⟨(some 13), oCall 26 [(.tmp 12), (.const (.int .i64 0)), (.const (.int .i64 0))], none, none⟩,
  ⟨(some 7), oMv (rT 13), none, none⟩,
  ⟨(some 14), oExtract (rT 7) 0, none, none⟩,
  ⟨(some 15), oExtract (rT 7) 1, none, none⟩,
  ⟨(some 3), oMv (rT 14), none, none⟩,
  ⟨(some 4), oMv (rT 15), none, none⟩])
 (.seq (.region [⟨(some 16), oMv (rT 4), none, none⟩,
  ⟨(some 2), oMv (rT 16), none, none⟩])
 .ret))))⟩
def c207 : FFunc := ⟨[.tmp 4], (.seq (.region [⟨(some 4), oMv (rC (.bool false)), none, none⟩])
 (.seq (.region [⟨(some 7), oMv (rT 0), none, none⟩,
  ⟨(some 8), oNilCheck (rT 7), none, none⟩,
  ⟨(some 9), oFieldAddr 0 (rT 8), none, none⟩,
  ⟨(some 10), oLoad1 (rT 9), none, none⟩,
  ⟨(some 11), oCall 109 [(.tmp 10)], none, none⟩,
  ⟨(some 12), oCall 25 [(.tmp 11)], none, none⟩,
  ⟨(some 5), oAlloc [(.int .i64 0), (.int .i64 0), (.int .i64 0), (.int .i64 0)], none, (some [(.int .i64 0), (.int .i64 0), (.int .i64 0), (.int .i64 0)])⟩,
  ⟨none, oStore 4 (rT 5) (rT 12), none, none⟩])
 (.seq (.region [⟨(some 13), oFieldAddr 1 (rT 5), none, none⟩,
  ⟨(some 14), oLoad1 (rT 13), none, none⟩,
  ⟨(some 15), oBinBy (arithBy .sub nSub) (.tmp 14) (.const (.int .i64 1)), none, none⟩,
  ⟨(some 6), oMv (rT 15), none, none⟩])
 (.seq (.draw [⟨(some 16), oMv (rT 0), none, none⟩,
  ⟨(some 17), oNilCheck (rT 16), none, none⟩,
  ⟨(some 18), oFieldAddr 0 (rT 17), none, none⟩,
  ⟨(some 19), oLoad1 (rT 18), none, none⟩,
  ⟨(some 20), oCall 201 [(.tmp 19)], none, none⟩,
  ⟨(some 21), oMv (rT 1), none, none⟩,
  ⟨(some 22), oBinBy (arithBy .add nAdd) (.tmp 21) (.const (.int .i64 2)), none, none⟩,
  ⟨(some 23), oMv (rT 6), none, none⟩,
  ⟨(some 24), oBinBy (arithBy .add nAdd) (.tmp 22) (.tmp 23), none, none⟩,
  ⟨(some 25), oBinBy (arithBy .sub nSub) (.tmp 24) (.const (.int .i64 1)), none, none⟩,
  ⟨(some 26), oMv (rT 6), none, none⟩,
  ⟨(some 27), oBinBy (arithBy .quo nQuo) (.tmp 25) (.tmp 26), none, none⟩,
  ⟨(some 28), oBinBy (arithBy .add nAdd) (.tmp 27) (.const (.int .i64 2)), none, none⟩,
  ⟨(some 29), oFieldAddr 3 (rT 5), none, none⟩,
  ⟨(some 30), oLoad1 (rT 29), none, none⟩,
  ⟨(some 31), oBinBy (arithBy .add nAdd) (.tmp 28) (.tmp 30), none, none⟩,
  ⟨(some 32), oBinBy (cmpBy .lss cLss) (.tmp 20) (.tmp 31), none, none⟩,
  ⟨(some 4), oMv (rT 32), none, none⟩] 0 [(14, 4)])
 .ret))))⟩
def c208 : FFunc := ⟨[.tmp 2], (.seq (.region [⟨(some 2), oMv (rC (.bool false)), none, none⟩])
 (.seq (.region [⟨(some 3), oMv (rT 0), none, none⟩,
  ⟨(some 4), oEqNil false true (.pointer 180) (.tmp 3) (.const (.pointer none)), none, none⟩,
  ⟨(some 5), oMv (rT 4), none, none⟩,
  ⟨(some 6), oMv (rT 0), (some (5, false)), none⟩,
  ⟨(some 7), oNilCheck (rT 6), (some (5, false)), none⟩,
  ⟨(some 8), oFieldAddr 0 (rT 7), (some (5, false)), none⟩,
  ⟨(some 9), oLoad1 (rT 8), (some (5, false)), none⟩,
  ⟨(some 10), oEqNil false true (.pointer 79) (.tmp 9) (.const (.pointer none)), (some (5, false)), none⟩,
  ⟨(some 11), oPick (rT 5) (rC (.bool true)) (rT 10), none, none⟩,
  ⟨(some 2), oMv (rT 11), none, none⟩])
 .ret))⟩
def c211 : FFunc := ⟨[.tmp 4], (.seq (.region [⟨(some 4), oMv (rC (.int .i64 0)), none, none⟩])
 (.seq (.block 0 (.seq (.region [⟨(some 8), oMv (rT 0), none, none⟩,
  ⟨(some 9), oCall 213 [(.tmp 8)], none, none⟩,
  ⟨(some 7), oMv (rT 9), none, none⟩])
 (.cond (.tmp 7) (.seq (.region [⟨(some 4), oMv (rC (.int .i64 1)), none, none⟩])
 .ret)
 (.seq (.region [⟨(some 11), oMv (rT 0), none, none⟩,
  ⟨(some 12), oCall 214 [(.tmp 11)], none, none⟩,
  ⟨(some 10), oMv (rT 12), none, none⟩])
 (.cond (.tmp 10) (.seq (.region [⟨(some 4), oMv (rC (.int .i64 10)), none, none⟩])
 .ret)
 .skip)))))
 (.seq (.seq (.region [⟨(some 14), oMv (rT 0), none, none⟩,
  ⟨(some 15), oNilCheck (rT 14), none, none⟩,
  ⟨(some 16), oFieldAddr 0 (rT 15), none, none⟩,
  ⟨(some 17), oLoad1 (rT 16), none, none⟩,
  ⟨(some 18), oCall 109 [(.tmp 17)], none, none⟩,
  ⟨(some 19), oCall 25 [(.tmp 18)], none, none⟩,
  ⟨(some 20), oField false 2 1 (.tmp 19), none, none⟩,
  ⟨(some 21), oMv (rT 1), none, none⟩,
  ⟨(some 22), oCall 137 [(.tmp 20), (.tmp 21)], none, none⟩,
  ⟨(some 13), oMv (rT 22), none, none⟩,
  ⟨(some 23), oExtract (rT 13) 0, none, none⟩,
  ⟨(some 24), oExtract (rT 13) 1, none, none⟩,
  ⟨(some 5), oMv (rT 23), none, none⟩,
  ⟨(some 6), oMv (rT 24), none, none⟩])
 (.seq (.region [⟨(some 25), oMv (rT 6), none, none⟩,
  ⟨(some 26), oBinBy (cmpBy .neq cNeq) (.tmp 25) (.const (.int .i64 0)), none, none⟩])
 (.cond (.tmp 26) (.seq (.region [⟨(some 27), oMv (rT 6), none, none⟩,
  ⟨(some 4), oMv (rT 27), none, none⟩])
 .ret)
 .skip)))
 (.seq (.region [⟨(some 28), oMv (rT 0), none, none⟩,
  ⟨(some 29), oMv (rT 0), none, none⟩,
  ⟨(some 30), oNilCheck (rT 29), none, none⟩,
  ⟨(some 31), oFieldAddr 2 (rT 30), none, none⟩,
  ⟨(some 32), oLoad1 (rT 31), none, none⟩,
  ⟨(some 33), oMv (rT 1), none, none⟩,
  ⟨(some 34), oCall 96 [(.tmp 32), (.tmp 33)], none, none⟩,
  ⟨(some 35), oNilCheck (rT 28), none, none⟩,
  ⟨(some 36), oFieldAddr 2 (rT 35), none, none⟩,
  ⟨none, oStore 1 (rT 36) (rT 34), none, none⟩])
 (.seq (.region [⟨(some 4), oMv (rC (.int .i64 0)), none, none⟩])
 .ret)))))⟩
def c212 : FFunc := ⟨[.tmp 2], (.seq (.region [⟨(some 2), oMv (rC (.int .i64 0)), none, none⟩])
 (.seq (.block 0 (.seq (.region [⟨(some 12), oMv (rT 0), none, none⟩,
  ⟨(some 13), oCall 213 [(.tmp 12)], none, none⟩,
  ⟨(some 11), oMv (rT 13), none, none⟩])
 (.cond (.tmp 11) (.seq (.region [⟨(some 2), oMv (rC (.int .i64 1)), none, none⟩])
 .ret)
 (.seq (.region [⟨(some 15), oMv (rT 0), none, none⟩,
  ⟨(some 16), oCall 214 [(.tmp 15)], none, none⟩,
  ⟨(some 14), oMv (rT 16), none, none⟩])
 (.cond (.tmp 14) (.seq (.region [⟨(some 2), oMv (rC (.int .i64 10)), none, none⟩])
 .ret)
 (.seq (.draw [⟨(some 18), oMv (rT 0), none, none⟩,
  ⟨(some 19), oNilCheck (rT 18), none, none⟩,
  ⟨(some 20), oFieldAddr 2 (rT 19), none, none⟩,
  ⟨(some 21), oLoad1 (rT 20), none, none⟩,
  ⟨(some 22), oMv (rT 0), none, none⟩,
  ⟨(some 23), oNilCheck (rT 22), none, none⟩,
  ⟨(some 24), oFieldAddr 3 (rT 23), none, none⟩,
  ⟨(some 25), oLoad1 (rT 24), none, none⟩,
  ⟨(some 26), oCall 215 [(.tmp 21), (.tmp 25)], none, none⟩,
  ⟨(some 17), oMv (rT 26), none, none⟩] 0 [])
 (.cond (.tmp 17) (.seq (.region [⟨(some 2), oMv (rC (.int .i64 0)), none, none⟩])
 .ret)
 .skip)))))))
 (.seq (.region [⟨(some 28), oMv (rT 0), none, none⟩,
  ⟨(some 29), oMv (rT 0), none, none⟩,
  ⟨(some 30), oNilCheck (rT 29), none, none⟩,
  ⟨(some 31), oFieldAddr 2 (rT 30), none, none⟩,
  ⟨(some 32), oLoad1 (rT 31), none, none⟩,
  ⟨(some 33), oCall 216 [(.tmp 28), (.tmp 32)], none, none⟩,
  ⟨(some 27), oMv (rT 33), none, none⟩,
  ⟨(some 34), oExtract (rT 27) 0, none, none⟩,
  ⟨(some 35), oExtract (rT 27) 1, none, none⟩,
  ⟨(some 3), oMv (rT 34), none, none⟩,
  ⟨(some 4), oMv (rT 35), none, none⟩])
 (.seq (.seq (.region [⟨(some 36), oMv (rT 4), none, none⟩,
  ⟨(some 37), oBinBy (cmpBy .neq cNeq) (.tmp 36) (.const (.int .i64 0)), none, none⟩])
 (.cond (.tmp 37) (.seq (.region [⟨(some 38), oMv (rT 4), none, none⟩,
  ⟨(some 2), oMv (rT 38), none, none⟩])
 .ret)
 .skip))
 (.seq (.region [⟨(some 39), oMv (rT 0), none, none⟩,
  ⟨(some 40), oNilCheck (rT 39), none, none⟩,
  ⟨(some 41), oFieldAddr 0 (rT 40), none, none⟩,
  ⟨(some 42), oLoad1 (rT 41), none, none⟩,
  ⟨(some 43), oCall 109 [(.tmp 42)], none, none⟩,
  ⟨(some 44), oCall 25 [(.tmp 43)], none, none⟩,
  ⟨(some 45), oField false 1 1 (.tmp 44), none, none⟩,
  ⟨(some 5), oMv (rT 45), none, none⟩])
 (.seq (.region [⟨(some 6), oMv (rC (.int .i64 0)), none, none⟩])
 (.seq (.seq (.region [⟨(some 46), oMv (rT 0), none, none⟩,
  ⟨(some 47), oNilCheck (rT 46), none, none⟩,
  ⟨(some 48), oFieldAddr 8 (rT 47), none, none⟩,
  ⟨(some 49), oLoad1 (rT 48), none, none⟩,
  ⟨(some 50), oBinBy (cmpBy .geq cGeq) (.tmp 49) (.const (.int .i64 0)), none, none⟩])
 (.cond (.tmp 50) (.region [⟨(some 51), oMv (rT 5), none, none⟩,
  ⟨(some 52), oMv (rT 0), none, none⟩,
  ⟨(some 53), oNilCheck (rT 52), none, none⟩,
  ⟨(some 54), oFieldAddr 9 (rT 53), none, none⟩,
  ⟨(some 55), oLoad1 (rT 54), none, none⟩,
  ⟨(some 56), oBinBy (arithBy .sub nSub) (.tmp 51) (.tmp 55), none, none⟩,
  ⟨(some 6), oMv (rT 56), none, none⟩])
 .skip))
 (.seq (.region [⟨(some 57), oMv (rT 3), none, none⟩,
  ⟨(some 58), oBinBy (arithBy .add nAdd) (.tmp 57) (.const (.int .i64 1)), none, none⟩,
  ⟨(some 59), oMv (rT 6), none, none⟩,
  ⟨(some 60), oBinBy (arithBy .sub nSub) (.tmp 58) (.tmp 59), none, none⟩,
  ⟨(some 61), oMax [(.tmp 60), (.const (.int .i64 0))], none, none⟩,
  ⟨(some 62), oMv (rT 5), none, none⟩,
  ⟨(some 63), oBinBy (arithBy .sub nSub) (.tmp 62) (.const (.int .i64 1)), none, none⟩,
  ⟨(some 64), oCall 217 [(.tmp 61), (.tmp 63)], none, none⟩,
  ⟨(some 7), oMv (rT 64), none, none⟩])
 (.seq (.region [⟨(some 65), oMv (rT 0), none, none⟩,
  ⟨(some 66), oNilCheck (rT 65), none, none⟩,
  ⟨(some 67), oFieldAddr 0 (rT 66), none, none⟩,
  ⟨(some 68), oLoad1 (rT 67), none, none⟩,
  ⟨(some 69), oCall 201 [(.tmp 68)], none, none⟩,
  ⟨(some 70), oMv (rT 7), none, none⟩,
  ⟨(some 71), oBinBy (arithBy .sub nSub) (.tmp 69) (.tmp 70), none, none⟩,
  ⟨(some 72), oMv (rT 0), none, none⟩,
  ⟨(some 73), oCall 218 [(.tmp 72)], none, none⟩,
  ⟨(some 74), oBinBy (cmpBy .lss cLss) (.tmp 71) (.tmp 73), none, none⟩,
  ⟨(some 8), oMv (rT 74), none, none⟩])
 (.seq (.seq (.region [⟨(some 75), oMv (rT 8), none, none⟩])
 (.cond (.tmp 75) (.seq (.seq (.region [⟨(some 76), oMv (rT 0), none, none⟩,
  ⟨(some 77), oCall 219 [(.tmp 76)], none, none⟩,
  ⟨(some 9), oMv (rT 77), none, none⟩])
 (.seq (.region [⟨(some 78), oMv (rT 9), none, none⟩,
  ⟨(some 79), oBinBy (cmpBy .neq cNeq) (.tmp 78) (.const (.int .i64 0)), none, none⟩])
 (.cond (.tmp 79) (.seq (.region [⟨(some 80), oMv (rT 9), none, none⟩,
  ⟨(some 2), oMv (rT 80), none, none⟩])
 .ret)
 .skip)))
 (.region [⟨(some 81), oMv (rT 0), none, none⟩,
  ⟨(some 82), oNilCheck (rT 81), none, none⟩,
  ⟨(some 83), oFieldAddr 0 (rT 82), none, none⟩,
  ⟨(some 84), oLoad1 (rT 83), none, none⟩,
  ⟨(some 85), oCall 201 [(.tmp 84)], none, none⟩,
  ⟨(some 86), oMv (rT 7), none, none⟩,
  ⟨(some 87), oBinBy (arithBy .sub nSub) (.tmp 85) (.tmp 86), none, none⟩,
  ⟨(some 88), oMv (rT 0), none, none⟩,
  ⟨(some 89), oCall 218 [(.tmp 88)], none, none⟩,
  ⟨(some 90), oBinBy (cmpBy .lss cLss) (.tmp 87) (.tmp 89), none, none⟩,
  ⟨(some 8), oMv (rT 90), none, none⟩]))
 .skip))
 (.seq (.seq (.region [⟨(some 91), oMv (rT 0), none, none⟩,
  ⟨(some 92), oMv (rT 0), none, none⟩,
  ⟨(some 93), oNilCheck (rT 92), none, none⟩,
  ⟨(some 94), oFieldAddr 2 (rT 93), none, none⟩,
  ⟨(some 95), oLoad1 (rT 94), none, none⟩,
  ⟨(some 96), oMv (rT 8), none, none⟩,
  ⟨(some 97), oCall 220 [(.tmp 91), (.tmp 95), (.tmp 96)], none, none⟩,
  ⟨(some 10), oMv (rT 97), none, none⟩])
 (.seq (.region [⟨(some 98), oMv (rT 10), none, none⟩,
  ⟨(some 99), oBinBy (cmpBy .neq cNeq) (.tmp 98) (.const (.int .i64 0)), none, none⟩])
 (.cond (.tmp 99) (.seq (.region [⟨(some 100), oMv (rT 10), none, none⟩,
  ⟨(some 2), oMv (rT 100), none, none⟩])
 .ret)
 .skip)))
 (.seq (.seq (.region [⟨(some 101), oMv (rT 8), none, none⟩])
 (.cond (.tmp 101) (.seq (.region [⟨(some 102), oMv (rT 0), none, none⟩,
  ⟨(some 103), oCall 219 [(.tmp 102)], none, none⟩,
  ⟨(some 2), oMv (rT 103), none, none⟩])
 .ret)
 .skip))
 (.seq (.region [⟨(some 2), oMv (rC (.int .i64 0)), none, none⟩])
 .ret)))))))))))))⟩
def c213 : FFunc := ⟨[.tmp 2], (.seq (.region [⟨(some 2), oMv (rC (.bool false)), none, none⟩])
 (.seq (.region [⟨(some 3), oMv (rT 0), none, none⟩,
  ⟨(some 4), oEqNil false true (.pointer 185) (.tmp 3) (.const (.pointer none)), none, none⟩,
  ⟨(some 5), oMv (rT 4), none, none⟩,
  ⟨(some 6), oMv (rT 0), (some (5, false)), none⟩,
  ⟨(some 7), oNilCheck (rT 6), (some (5, false)), none⟩,
  ⟨(some 8), oFieldAddr 0 (rT 7), (some (5, false)), none⟩,
  ⟨(some 9), oLoad1 (rT 8), (some (5, false)), none⟩,
  ⟨(some 10), oEqNil false true (.pointer 79) (.tmp 9) (.const (.pointer none)), (some (5, false)), none⟩,
  ⟨(some 11), oPick (rT 5) (rC (.bool true)) (rT 10), none, none⟩,
  ⟨(some 2), oMv (rT 11), none, none⟩])
 .ret))⟩
def c214 : FFunc := ⟨[.tmp 2], (.seq (.region [⟨(some 2), oMv (rC (.bool false)), none, none⟩])
 (.seq (.region [⟨(some 6), oMv (rT 0), none, none⟩,
  ⟨(some 7), oNilCheck (rT 6), none, none⟩,
  ⟨(some 8), oFieldAddr 0 (rT 7), none, none⟩,
  ⟨(some 9), oLoad1 (rT 8), none, none⟩,
  ⟨(some 10), oCall 109 [(.tmp 9)], none, none⟩,
  ⟨(some 11), oCall 26 [(.tmp 10), (.const (.int .i64 0)), (.const (.int .i64 0))], none, none⟩,
  ⟨(some 5), oMv (rT 11), none, none⟩,
  ⟨(some 12), oExtract (rT 5) 0, none, none⟩,
  ⟨(some 13), oExtract (rT 5) 1, none, none⟩,
  ⟨(some 3), oMv (rT 12), none, none⟩,
  ⟨(some 4), oMv (rT 13), none, none⟩])
 (.seq (.region [⟨(some 14), oMv (rT 4), none, none⟩,
  ⟨(some 15), oBinBy (cmpBy .eql cEql) (.tmp 14) (.const (.int .i64 10)), none, none⟩,
  ⟨(some 2), oMv (rT 15), none, none⟩])
 .ret)))⟩
def c215 : FFunc := ⟨[.tmp 4], (.seq (.region [⟨(some 4), oMv (rC (.bool false)), none, none⟩])
 (.seq (.region [⟨(some 5), oMv (rT 0), none, none⟩,
  ⟨(some 6), oMv (rT 1), none, none⟩,
  ⟨(some 7), oCall 221 [(.tmp 5), (.tmp 6), (.func 222)], none, none⟩,
  ⟨(some 4), oMv (rT 7), none, none⟩])
 .ret))⟩
def c216 : FFunc := ⟨[.tmp 4, .tmp 5], (.seq (.region [⟨(some 2), oBox (.tmp 0), none, none⟩,
  ⟨(some 4), oMv (rC (.int .i64 0)), none, none⟩,
  ⟨(some 5), oMv (rC (.int .i64 0)), none, none⟩])
 (.seq (.region [⟨(some 6), oAlloc [(.int .i64 0)], none, (some [(.int .i64 0)])⟩,
  ⟨none, oStore 1 (rT 6) (rC (.int .i64 0)), none, none⟩])
 (.seq (.region [⟨(some 10), oLoad1 (rT 2), none, none⟩,
  ⟨(some 11), oNilCheck (rT 10), none, none⟩,
  ⟨(some 12), oFieldAddr 0 (rT 11), none, none⟩,
  ⟨(some 13), oLoad1 (rT 12), none, none⟩,
  ⟨(some 14), oCall 109 [(.tmp 13)], none, none⟩,
  ⟨(some 15), oCall 25 [(.tmp 14)], none, none⟩,
  ⟨(some 16), oField false 2 1 (.tmp 15), none, none⟩,
  ⟨(some 17), oMv (rT 1), none, none⟩,
  ⟨(some 18), oMkFunc (.func 225) [] [(.tmp 2), (.tmp 6)], none, none⟩,
  ⟨(some 19), oCall 224 [(.tmp 16), (.tmp 17), (.tmp 18)], none, none⟩,
  ⟨(some 9), oMv (rT 19), none, none⟩,
  ⟨(some 20), oExtract (rT 9) 0, none, none⟩,
  ⟨(some 21), oExtract (rT 9) 1, none, none⟩,
  ⟨(some 7), oAlloc [(.int .i64 0), (.int .i64 0)], none, (some [(.int .i64 0), (.int .i64 0)])⟩,
  ⟨none, oStore 2 (rT 7) (rT 20), none, none⟩,
  ⟨(some 8), oMv (rT 21), none, none⟩])
 (.seq (.region [⟨(some 22), oLoad1 (rT 6), none, none⟩,
  ⟨(some 23), oMv (rT 8), none, none⟩,
  ⟨(some 4), oMv (rT 22), none, none⟩,
  ⟨(some 5), oMv (rT 23), none, none⟩])
 .ret))))⟩
def c217 : FFunc := ⟨[.tmp 4], (.seq (.region [⟨(some 4), oMv (rC (.int .i64 0)), none, none⟩])
 (.seq (.region [⟨(some 5), oMv (rT 0), none, none⟩,
  ⟨(some 6), oMv (rT 1), none, none⟩,
  ⟨(some 7), oBinBy (arithBy .add nAdd) (.tmp 5) (.tmp 6), none, none⟩,
  ⟨(some 8), oBinBy (arithBy .sub nSub) (.tmp 7) (.const (.int .i64 1)), none, none⟩,
  ⟨(some 9), oMv (rT 1), none, none⟩,
  ⟨(some 10), oBinBy (arithBy .quo nQuo) (.tmp 8) (.tmp 9), none, none⟩,
  ⟨(some 4), oMv (rT 10), none, none⟩])
 .ret))⟩
def c218 : FFunc := ⟨[.tmp 2], (.seq (.region [⟨(some 2), oMv (rC (.int .i64 0)), none, none⟩])
 (.seq (.region [⟨(some 8), oMv (rT 0), none, none⟩,
  ⟨(some 9), oNilCheck (rT 8), none, none⟩,
  ⟨(some 10), oFieldAddr 0 (rT 9), none, none⟩,
  ⟨(some 11), oLoad1 (rT 10), none, none⟩,
  ⟨(some 12), oCall 109 [(.tmp 11)], none, none⟩,
  ⟨(some 13), oCall 25 [(.tmp 12)], none, none⟩,
  ⟨(some 3), oAlloc [(.int .i64 0), (.int .i64 0), (.int .i64 0), (.int .i64 0)], none, (some [(.int .i64 0), (.int .i64 0), (.int .i64 0), (.int .i64 0)])⟩,
  ⟨none, oStore 4 (rT 3) (rT 13), none, none⟩])
 (.seq (.region [⟨(some 15), oMv (rT 0), none, none⟩,
  ⟨(some 16), oCall 83 [(.tmp 15)], none, none⟩,
  ⟨(some 14), oMv (rT 16), none, none⟩,
  ⟨(some 17), oExtract (rT 14) 0, none, none⟩,
  ⟨(some 18), oExtract (rT 14) 1, none, none⟩,
  ⟨(some 4), oMv (rT 17), none, none⟩,
  ⟨(some 5), oMv (rT 18), none, none⟩])
 (.seq (.region [⟨(some 19), oMv (rT 5), none, none⟩,
  ⟨(some 20), oLenS 3 (rT 19), none, none⟩,
  ⟨(some 21), oMv (rT 0), none, none⟩,
  ⟨(some 22), oNilCheck (rT 21), none, none⟩,
  ⟨(some 23), oFieldAddr 0 (rT 22), none, none⟩,
  ⟨(some 24), oLoad1 (rT 23), none, none⟩,
  ⟨(some 25), oCall 201 [(.tmp 24)], none, none⟩,
  ⟨(some 26), oBinBy (arithBy .add nAdd) (.tmp 20) (.tmp 25), none, none⟩,
  ⟨(some 6), oMv (rT 26), none, none⟩])
 (.seq (.region [⟨(some 7), oMv (rC (.int .i64 0)), none, none⟩])
 (.seq (.block 0 (.loop (.seq (.seq (.region [⟨(some 27), oLoadN 4 (rT 3), none, none⟩,
  ⟨(some 28), oMv (rT 7), none, none⟩,
  ⟨(some 29), oBinBy (arithBy .add nAdd) (.tmp 28) (.const (.int .i64 1)), none, none⟩,
  ⟨(some 30), oCall 226 [(.tmp 27), (.tmp 29)], none, none⟩,
  ⟨(some 31), oBinBy (cmpBy .gtr cGtr) (.tmp 30) (.const (.int .i64 0)), none, none⟩,
  ⟨(some 32), oMv (rT 31), none, none⟩,
  ⟨(some 33), oLoadN 4 (rT 3), (some (32, true)), none⟩,
  ⟨(some 34), oMv (rT 7), (some (32, true)), none⟩,
  ⟨(some 35), oBinBy (arithBy .add nAdd) (.tmp 34) (.const (.int .i64 1)), (some (32, true)), none⟩,
  ⟨(some 36), oCall 226 [(.tmp 33), (.tmp 35)], (some (32, true)), none⟩,
  ⟨(some 37), oMv (rT 6), (some (32, true)), none⟩,
  ⟨(some 38), oBinBy (cmpBy .leq cLeq) (.tmp 36) (.tmp 37), (some (32, true)), none⟩,
  ⟨(some 39), oPick (rT 32) (rT 38) (rC (.bool false)), none, none⟩])
 (.cond (.tmp 39) .skip
 (.exit 0)))
 (.block 1 (.region [⟨(some 40), oMv (rT 7), none, none⟩,
  ⟨(some 41), oBinBy (arithBy .add nAdd) (.tmp 40) (.const (.int .i64 1)), none, none⟩,
  ⟨(some 7), oMv (rT 41), none, none⟩])))))
 (.seq (.draw [⟨(some 42), oMv (rT 7), none, none⟩,
  ⟨(some 43), oBinBy (arithBy .mul nMul) (.const (.int .i64 3)) (.tmp 42), none, none⟩,
  ⟨(some 44), oBinBy (arithBy .add nAdd) (.tmp 43) (.const (.int .i64 4)), none, none⟩,
  ⟨(some 45), oFieldAddr 1 (rT 3), none, none⟩,
  ⟨(some 46), oLoad1 (rT 45), none, none⟩,
  ⟨(some 47), oBinBy (arithBy .sub nSub) (.tmp 46) (.const (.int .i64 1)), none, none⟩,
  ⟨(some 48), oCall 217 [(.tmp 44), (.tmp 47)], none, none⟩,
  ⟨(some 49), oBinBy (arithBy .add nAdd) (.tmp 48) (.const (.int .i64 2)), none, none⟩,
  ⟨(some 50), oFieldAddr 3 (rT 3), none, none⟩,
  ⟨(some 51), oLoad1 (rT 50), none, none⟩,
  ⟨(some 52), oBinBy (arithBy .add nAdd) (.tmp 49) (.tmp 51), none, none⟩,
  ⟨(some 2), oMv (rT 52), none, none⟩] 0 [(9, 6)])
 .ret)))))))⟩
def c219 : FFunc := ⟨[.tmp 2], (.seq (.region [⟨(some 2), oMv (rC (.int .i64 0)), none, none⟩])
 (.seq (.region [⟨(some 11), oMkMap, none, none⟩,
  ⟨(some 12), oMv (rT 0), none, none⟩,
  ⟨(some 13), oNilCheck (rT 12), none, none⟩,
  ⟨(some 14), oFieldAddr 5 (rT 13), none, none⟩,
  ⟨(some 15), oFieldAddr 0 (rT 14), none, none⟩,
  ⟨(some 16), oLoad1 (rT 15), none, none⟩,
  ⟨none, oMapUpdate (.int .i64) (.tmp 11) (.tmp 16) (.const (.bool true)), none, none⟩,
  ⟨(some 17), oMv (rT 11), none, none⟩,
  ⟨(some 3), oMv (rT 17), none, none⟩])
 (.seq (.seq (.region [⟨(some 18), oMv (rT 0), none, none⟩,
  ⟨(some 19), oNilCheck (rT 18), none, none⟩,
  ⟨(some 20), oFieldAddr 4 (rT 19), none, none⟩,
  ⟨(some 21), oLoad1 (rT 20), none, none⟩,
  ⟨(some 22), oExtract (rC (.tuple #[])) 0, none, none⟩])
 (.block 0 (.loop (.seq (.region [⟨(some 23), oExtract (rC (.tuple #[])) 0, none, none⟩,
  ⟨(some 24), oExtract (rT 23) 0, none, none⟩])
 (.seq (.cond (.tmp 24) .skip
 (.exit 0))
 (.block 1 (.seq (.region [⟨(some 25), oExtract (rC (.tuple #[])) 0, none, none⟩,
  ⟨(some 26), oExtract (rT 25) 1, none, none⟩,
  ⟨(some 5), oAlloc [(.int .i64 0), (.int .i64 0)], none, (some [(.int .i64 0), (.int .i64 0)])⟩,
  ⟨none, oStore 2 (rT 5) (rT 26), none, none⟩])
 (.region [⟨(some 27), oMv (rT 3), none, none⟩,
  ⟨(some 28), oFieldAddr 0 (rT 5), none, none⟩,
  ⟨(some 29), oLoad1 (rT 28), none, none⟩,
  ⟨none, oMapUpdate (.int .i64) (.tmp 27) (.tmp 29) (.const (.bool true)), none, none⟩]))))))))
 (.seq (.region [⟨(some 31), oMv (rT 0), none, none⟩,
  ⟨(some 32), oCall 83 [(.tmp 31)], none, none⟩,
  ⟨(some 30), oMv (rT 32), none, none⟩,
  ⟨(some 33), oExtract (rT 30) 0, none, none⟩,
  ⟨(some 34), oExtract (rT 30) 1, none, none⟩,
  ⟨(some 6), oMv (rT 33), none, none⟩,
  ⟨(some 7), oMv (rT 34), none, none⟩])
 (.seq (.seq (.region [⟨(some 35), oMv (rT 7), none, none⟩,
  ⟨(some 36), oLenS 3 (rT 35), none, none⟩,
  ⟨(some 37), oMv (rC (.int .i64 0)), none, none⟩])
 (.block 2 (.loop (.seq (.region [⟨(some 38), oBinBy (cmpBy .lss cLss) (.tmp 37) (.tmp 36), none, none⟩])
 (.seq (.cond (.tmp 38) .skip
 (.exit 2))
 (.seq (.block 3 (.seq (.region [⟨(some 39), oIndexAddr 1 (rT 35) (rT 37), none, none⟩,
  ⟨(some 40), oLoad1 (rT 39), none, none⟩,
  ⟨(some 9), oMv (rT 40), none, none⟩])
 (.seq (.seq (.region [⟨(some 41), oMv (rT 3), none, none⟩,
  ⟨(some 42), oMv (rT 9), none, none⟩,
  ⟨(some 43), oLookup (.int .i64) (.bool false) false (.tmp 41) (.tmp 42), none, none⟩])
 (.cond (.tmp 43) (.exit 3)
 .skip))
 (.seq (.seq (.region [⟨(some 44), oMv (rT 9), none, none⟩,
  ⟨(some 45), oMv (rT 0), none, none⟩,
  ⟨(some 46), oNilCheck (rT 45), none, none⟩,
  ⟨(some 47), oFieldAddr 8 (rT 46), none, none⟩,
  ⟨(some 48), oLoad1 (rT 47), none, none⟩,
  ⟨(some 49), oBinBy (cmpBy .eql cEql) (.tmp 44) (.tmp 48), none, none⟩])
 (.cond (.tmp 49) (.region [⟨(some 50), oMv (rT 0), none, none⟩,
  ⟨(some 51), oNilCheck (rT 50), none, none⟩,
  ⟨(some 52), oFieldAddr 8 (rT 51), none, none⟩,
  ⟨none, oStore 1 (rT 52) (rC (.int .i64 (-1))), none, none⟩])
 .skip))
 (.seq (.region [⟨(some 53), oMv (rT 0), none, none⟩,
  ⟨(some 54), oNilCheck (rT 53), none, none⟩,
  ⟨(some 55), oFieldAddr 0 (rT 54), none, none⟩,
  ⟨(some 56), oLoad1 (rT 55), none, none⟩,
  ⟨(some 57), oMv (rT 9), none, none⟩,
  ⟨(some 58), oCall 118 [(.tmp 56), (.tmp 57)], none, none⟩,
  ⟨(some 10), oMv (rT 58), none, none⟩])
 (.seq (.region [⟨(some 59), oMv (rT 10), none, none⟩,
  ⟨(some 60), oBinBy (cmpBy .eql cEql) (.tmp 59) (.const (.int .i64 10)), none, none⟩])
 (.cond (.tmp 60) (.seq (.region [⟨(some 61), oMv (rT 10), none, none⟩,
  ⟨(some 2), oMv (rT 61), none, none⟩])
 .ret)
 .skip)))))))
 (.region [⟨(some 62), oBinBy (arithBy .add nAdd) (.tmp 37) (.const (.int .i64 1)), none, none⟩,
  ⟨(some 37), oMv (rT 62), none, none⟩])))))))
 (.seq (.region [⟨(some 2), oMv (rC (.int .i64 0)), none, none⟩])
 .ret))))))⟩
def c220 : FFunc := ⟨[.tmp 6], (.seq (.region [⟨(some 3), oBox (.tmp 0), none, none⟩,
  ⟨(some 5), oBox (.tmp 2), none, none⟩,
  ⟨(some 6), oMv (rC (.int .i64 0)), none, none⟩])
 (.seq (.seq (.region [⟨(some 11), oLoad1 (rT 5), none, none⟩])
 (.cond (.tmp 11) (.region [⟨(some 12), oLoad1 (rT 3), none, none⟩,
  ⟨(some 13), oNilCheck (rT 12), none, none⟩,
  ⟨(some 14), oFieldAddr 8 (rT 13), none, none⟩,
  ⟨none, oStore 1 (rT 14) (rC (.int .i64 (-1))), none, none⟩])
 .skip))
 (.seq (.region [⟨(some 15), oMkMap, none, none⟩,
  ⟨(some 7), oAlloc [(.map none)], none, (some [(.map none)])⟩,
  ⟨none, oStore 1 (rT 7) (rT 15), none, none⟩])
 (.seq (.region [⟨(some 17), oLoad1 (rT 3), none, none⟩,
  ⟨(some 18), oNilCheck (rT 17), none, none⟩,
  ⟨(some 19), oFieldAddr 0 (rT 18), none, none⟩,
  ⟨(some 20), oLoad1 (rT 19), none, none⟩,
  ⟨(some 21), oCall 109 [(.tmp 20)], none, none⟩,
  ⟨(some 22), oCall 25 [(.tmp 21)], none, none⟩,
  ⟨(some 23), oField false 2 1 (.tmp 22), none, none⟩,
  ⟨(some 24), oMv (rT 1), none, none⟩,
  ⟨(some 25), oMkFunc (.func 227) [] [(.tmp 7), (.tmp 5), (.tmp 3)], none, none⟩,
  ⟨(some 26), oCall 224 [(.tmp 23), (.tmp 24), (.tmp 25)], none, none⟩,
  ⟨(some 16), oMv (rT 26), none, none⟩,
  ⟨(some 27), oExtract (rT 16) 0, none, none⟩,
  ⟨(some 28), oExtract (rT 16) 1, none, none⟩,
  ⟨(some 8), oAlloc [(.int .i64 0), (.int .i64 0)], none, (some [(.int .i64 0), (.int .i64 0)])⟩,
  ⟨none, oStore 2 (rT 8) (rT 27), none, none⟩,
  ⟨(some 9), oMv (rT 28), none, none⟩])
 (.seq (.seq (.region [⟨(some 29), oMv (rT 9), none, none⟩,
  ⟨(some 30), oBinBy (cmpBy .neq cNeq) (.tmp 29) (.const (.int .i64 0)), none, none⟩])
 (.cond (.tmp 30) (.seq (.region [⟨(some 31), oMv (rT 9), none, none⟩,
  ⟨(some 6), oMv (rT 31), none, none⟩])
 .ret)
 .skip))
 (.seq (.seq (.region [⟨(some 32), oLoad1 (rT 3), none, none⟩,
  ⟨(some 33), oLoadN 2 (rT 8), none, none⟩,
  ⟨(some 34), oMv (rT 1), none, none⟩,
  ⟨(some 35), oLenS 106 (rT 34), none, none⟩,
  ⟨(some 36), oCall 85 [(.tmp 32), (.tmp 33), (.tmp 35)], none, none⟩,
  ⟨(some 10), oMv (rT 36), none, none⟩])
 (.seq (.region [⟨(some 37), oMv (rT 10), none, none⟩,
  ⟨(some 38), oBinBy (cmpBy .neq cNeq) (.tmp 37) (.const (.int .i64 0)), none, none⟩])
 (.cond (.tmp 38) (.seq (.region [⟨(some 39), oMv (rT 10), none, none⟩,
  ⟨(some 6), oMv (rT 39), none, none⟩])
 .ret)
 .skip)))
 (.seq (.draw [⟨(some 40), oLoad1 (rT 3), none, none⟩,
  ⟨(some 41), oLoad1 (rT 3), none, none⟩,
  ⟨(some 42), oLoad1 (rT 7), none, none⟩,
  ⟨(some 43), oMv (rT 1), none, none⟩,
  ⟨(some 44), oCall 228 [(.tmp 43)], none, none⟩,
  ⟨(some 45), oNilCheck (rT 40), none, none⟩,
  ⟨(some 46), oFieldAddr 4 (rT 45), none, none⟩,
  ⟨none, oStore 1 (rT 46) (rT 42), none, none⟩,
  ⟨(some 47), oNilCheck (rT 41), none, none⟩,
  ⟨(some 48), oFieldAddr 3 (rT 47), none, none⟩,
  ⟨none, oStore 1 (rT 48) (rT 44), none, none⟩] 0 [(0, 4), (1, 4), (1, 7), (2, 4)])
 (.seq (.region [⟨(some 6), oMv (rC (.int .i64 0)), none, none⟩])
 .ret))))))))⟩
def c221 : FFunc := ⟨[.tmp 6], (.seq (.region [⟨(some 6), oMv (rC (.bool false)), none, none⟩])
 (.seq (.seq (.region [⟨(some 10), oMv (rT 0), none, none⟩,
  ⟨(some 11), oLenS 106 (rT 10), none, none⟩,
  ⟨(some 12), oMv (rT 1), none, none⟩,
  ⟨(some 13), oLenS 106 (rT 12), none, none⟩,
  ⟨(some 14), oBinBy (cmpBy .neq cNeq) (.tmp 11) (.tmp 13), none, none⟩])
 (.cond (.tmp 14) (.seq (.region [⟨(some 6), oMv (rC (.bool false)), none, none⟩])
 .ret)
 .skip))
 (.seq (.seq (.region [⟨(some 15), oMv (rT 0), none, none⟩,
  ⟨(some 16), oLenS 106 (rT 15), none, none⟩,
  ⟨(some 17), oMv (rC (.int .i64 0)), none, none⟩])
 (.block 0 (.loop (.seq (.region [⟨(some 18), oBinBy (cmpBy .lss cLss) (.tmp 17) (.tmp 16), none, none⟩])
 (.seq (.cond (.tmp 18) .skip
 (.exit 0))
 (.seq (.block 1 (.seq (.region [⟨(some 19), oMv (rT 17), none, none⟩,
  ⟨(some 20), oIndexAddr 5 (rT 15) (rT 17), none, none⟩,
  ⟨(some 21), oLoadN 5 (rT 20), none, none⟩,
  ⟨(some 8), oAlloc [(.int .i64 0), (.int .u8 0), (.string ⟨#[]⟩), (.int .i64 0), (.slice none 0 0)], none, (some [(.int .i64 0), (.int .u8 0), (.string ⟨#[]⟩), (.int .i64 0), (.slice none 0 0)])⟩,
  ⟨(some 7), oMv (rT 19), none, none⟩,
  ⟨none, oStore 5 (rT 8) (rT 21), none, none⟩])
 (.seq (.region [⟨(some 22), oMv (rT 1), none, none⟩,
  ⟨(some 23), oMv (rT 7), none, none⟩,
  ⟨(some 24), oIndexAddr 5 (rT 22) (rT 23), none, none⟩,
  ⟨(some 25), oLoadN 5 (rT 24), none, none⟩,
  ⟨(some 9), oAlloc [(.int .i64 0), (.int .u8 0), (.string ⟨#[]⟩), (.int .i64 0), (.slice none 0 0)], none, (some [(.int .i64 0), (.int .u8 0), (.string ⟨#[]⟩), (.int .i64 0), (.slice none 0 0)])⟩,
  ⟨none, oStore 5 (rT 9) (rT 25), none, none⟩])
 (.seq (.region [⟨(some 26), oMv (rT 2), none, none⟩,
  ⟨(some 27), oLoadN 5 (rT 8), none, none⟩,
  ⟨(some 28), oLoadN 5 (rT 9), none, none⟩,
  ⟨(some 29), oCallV (.tmp 26) [(.tmp 27), (.tmp 28)], none, none⟩,
  ⟨(some 30), oUn .not (.tmp 29), none, none⟩])
 (.cond (.tmp 30) (.seq (.region [⟨(some 6), oMv (rC (.bool false)), none, none⟩])
 .ret)
 .skip)))))
 (.region [⟨(some 31), oBinBy (arithBy .add nAdd) (.tmp 17) (.const (.int .i64 1)), none, none⟩,
  ⟨(some 17), oMv (rT 31), none, none⟩])))))))
 (.seq (.region [⟨(some 6), oMv (rC (.bool true)), none, none⟩])
 .ret))))⟩
def c222 : FFunc := ⟨[.tmp 4], (.seq (.region [⟨(some 2), oBox (.tmp 0), none, none⟩,
  ⟨(some 3), oBox (.tmp 1), none, none⟩,
  ⟨(some 4), oMv (rC (.bool false)), none, none⟩])
 (.seq (.region [⟨(some 5), oFieldAddr 0 (rT 2), none, none⟩,
  ⟨(some 6), oLoadN 4 (rT 5), none, none⟩,
  ⟨(some 7), oFieldAddr 0 (rT 3), none, none⟩,
  ⟨(some 8), oLoadN 4 (rT 7), none, none⟩,
  ⟨(some 9), oEqFlat false [(0, (.int .i64)), (1, (.int .u8)), (2, .string), (3, (.int .i64))] (.tmp 6) (.tmp 8), none, none⟩,
  ⟨(some 10), oMv (rT 9), none, none⟩,
  ⟨(some 11), oFieldAddr 4 (rT 2), (some (10, true)), none⟩,
  ⟨(some 12), oLoad1 (rT 11), (some (10, true)), none⟩,
  ⟨(some 13), oFieldAddr 4 (rT 3), (some (10, true)), none⟩,
  ⟨(some 14), oLoad1 (rT 13), (some (10, true)), none⟩,
  ⟨(some 15), oCall 223 [(.tmp 12), (.tmp 14)], (some (10, true)), none⟩,
  ⟨(some 16), oPick (rT 10) (rT 15) (rC (.bool false)), none, none⟩,
  ⟨(some 4), oMv (rT 16), none, none⟩])
 .ret))⟩
def c223 : FFunc := ⟨[.tmp 4], (.seq (.region [⟨(some 4), oMv (rC (.bool false)), none, none⟩])
 (.seq (.seq (.region [⟨(some 6), oMv (rT 0), none, none⟩,
  ⟨(some 7), oLenS 5 (rT 6), none, none⟩,
  ⟨(some 8), oMv (rT 1), none, none⟩,
  ⟨(some 9), oLenS 5 (rT 8), none, none⟩,
  ⟨(some 10), oBinBy (cmpBy .neq cNeq) (.tmp 7) (.tmp 9), none, none⟩])
 (.cond (.tmp 10) (.seq (.region [⟨(some 4), oMv (rC (.bool false)), none, none⟩])
 .ret)
 .skip))
 (.seq (.seq (.region [⟨(some 11), oMv (rT 0), none, none⟩,
  ⟨(some 12), oLenS 5 (rT 11), none, none⟩,
  ⟨(some 13), oMv (rC (.int .i64 0)), none, none⟩])
 (.block 0 (.loop (.seq (.region [⟨(some 14), oBinBy (cmpBy .lss cLss) (.tmp 13) (.tmp 12), none, none⟩])
 (.seq (.cond (.tmp 14) .skip
 (.exit 0))
 (.seq (.block 1 (.seq (.region [⟨(some 15), oMv (rT 13), none, none⟩,
  ⟨(some 5), oMv (rT 15), none, none⟩])
 (.seq (.draw [⟨(some 16), oMv (rT 0), none, none⟩,
  ⟨(some 17), oMv (rT 5), none, none⟩,
  ⟨(some 18), oIndexAddr 1 (rT 16) (rT 17), none, none⟩,
  ⟨(some 19), oLoad1 (rT 18), none, none⟩,
  ⟨(some 20), oMv (rT 1), none, none⟩,
  ⟨(some 21), oMv (rT 5), none, none⟩,
  ⟨(some 22), oIndexAddr 1 (rT 20) (rT 21), none, none⟩,
  ⟨(some 23), oLoad1 (rT 22), none, none⟩,
  ⟨(some 24), oBinBy (cmpBy .neq cNeq) (.tmp 19) (.tmp 23), none, none⟩] 0 [])
 (.cond (.tmp 24) (.seq (.region [⟨(some 4), oMv (rC (.bool false)), none, none⟩])
 .ret)
 .skip))))
 (.region [⟨(some 25), oBinBy (arithBy .add nAdd) (.tmp 13) (.const (.int .i64 1)), none, none⟩,
  ⟨(some 13), oMv (rT 25), none, none⟩])))))))
 (.seq (.region [⟨(some 4), oMv (rC (.bool true)), none, none⟩])
 .ret))))⟩
def c224 : FFunc := ⟨[.cells 6 2, .tmp 7], (.seq (.region [⟨(some 6), oAlloc [(.int .i64 0), (.int .i64 0)], none, (some [(.int .i64 0), (.int .i64 0)])⟩,
  ⟨(some 7), oMv (rC (.int .i64 0)), none, none⟩])
 (.seq (.region [⟨(some 26), oMv (rT 0), none, none⟩,
  ⟨(some 27), oMv (rT 1), none, none⟩,
  ⟨(some 28), oCall 229 [(.tmp 26), (.tmp 27)], none, none⟩,
  ⟨(some 25), oMv (rT 28), none, none⟩,
  ⟨(some 29), oExtract (rT 25) 0, none, none⟩,
  ⟨(some 30), oExtract (rT 25) 1, none, none⟩,
  ⟨(some 8), oMv (rT 29), none, none⟩,
  ⟨(some 9), oMv (rT 30), none, none⟩])
 (.seq (.seq (.region [⟨(some 31), oMv (rT 9), none, none⟩,
  ⟨(some 32), oBinBy (cmpBy .neq cNeq) (.tmp 31) (.const (.int .i64 0)), none, none⟩,
  ⟨(some 33), oMv (rT 32), none, none⟩,
  ⟨(some 34), oMv (rT 8), (some (33, false)), none⟩,
  ⟨(some 35), oLenS 93 (rT 34), (some (33, false)), none⟩,
  ⟨(some 36), oBinBy (cmpBy .eql cEql) (.tmp 35) (.const (.int .i64 0)), (some (33, false)), none⟩,
  ⟨(some 37), oPick (rT 33) (rC (.bool true)) (rT 36), none, none⟩])
 (.cond (.tmp 37) (.seq (.region [⟨(some 38), oBuild #[(.int .i64 0), (.int .i64 0)] [(0, 1), (1, 1)] [], none, none⟩,
  ⟨(some 39), oMv (rT 9), none, none⟩,
  ⟨none, oStore 2 (rT 6) (rT 38), none, none⟩,
  ⟨(some 7), oMv (rT 39), none, none⟩])
 .ret)
 .skip))
 (.seq (.region [⟨(some 10), oMv (rC (.slice none 0 0)), none, none⟩])
 (.seq (.region [⟨(some 40), oMv (rT 1), none, none⟩,
  ⟨(some 11), oMv (rT 40), none, none⟩])
 (.seq (.seq (.region [⟨(some 41), oMv (rT 8), none, none⟩,
  ⟨(some 42), oIndexAddr 1 (rT 41) (rC (.int .i64 0)), none, none⟩,
  ⟨(some 43), oLoad1 (rT 42), none, none⟩,
  ⟨(some 44), oLenS 3 (rT 43), none, none⟩,
  ⟨(some 45), oMv (rC (.int .i64 0)), none, none⟩])
 (.block 0 (.loop (.seq (.region [⟨(some 46), oBinBy (cmpBy .lss cLss) (.tmp 45) (.tmp 44), none, none⟩])
 (.seq (.cond (.tmp 46) .skip
 (.exit 0))
 (.seq (.block 1 (.seq (.region [⟨(some 47), oIndexAddr 1 (rT 43) (rT 45), none, none⟩,
  ⟨(some 48), oLoad1 (rT 47), none, none⟩,
  ⟨(some 13), oMv (rT 48), none, none⟩])
 (.seq (.region [⟨(some 50), oMv (rT 0), none, none⟩,
  ⟨(some 51), oMv (rT 11), none, none⟩,
  ⟨(some 52), oMv (rT 13), none, none⟩,
  ⟨(some 53), oSlice 5 (.tmp 51) none (some (.tmp 52)) none, none, none⟩,
  ⟨(some 54), oCall 230 [(.tmp 50), (.tmp 53)], none, none⟩,
  ⟨(some 49), oMv (rT 54), none, none⟩,
  ⟨(some 55), oExtract (rT 49) 0, none, none⟩,
  ⟨(some 56), oExtract (rT 49) 1, none, none⟩,
  ⟨(some 14), oMv (rT 55), none, none⟩,
  ⟨(some 15), oMv (rT 56), none, none⟩])
 (.seq (.seq (.region [⟨(some 57), oMv (rT 15), none, none⟩,
  ⟨(some 58), oBinBy (cmpBy .neq cNeq) (.tmp 57) (.const (.int .i64 0)), none, none⟩])
 (.cond (.tmp 58) (.seq (.region [⟨(some 59), oBuild #[(.int .i64 0), (.int .i64 0)] [(0, 1), (1, 1)] [], none, none⟩,
  ⟨(some 60), oMv (rT 15), none, none⟩,
  ⟨none, oStore 2 (rT 6) (rT 59), none, none⟩,
  ⟨(some 7), oMv (rT 60), none, none⟩])
 .ret)
 .skip))
 (.seq (.region [⟨(some 62), oMv (rT 2), none, none⟩,
  ⟨(some 63), oMv (rT 14), none, none⟩,
  ⟨(some 64), oCallV (.tmp 62) [(.tmp 63)], none, none⟩,
  ⟨(some 61), oMv (rT 64), none, none⟩,
  ⟨(some 65), oExtract (rT 61) 0, none, none⟩,
  ⟨(some 66), oExtract (rT 61) 1, none, none⟩,
  ⟨(some 16), oAlloc [(.int .i64 0), (.int .i64 0)], none, (some [(.int .i64 0), (.int .i64 0)])⟩,
  ⟨none, oStore 2 (rT 16) (rT 65), none, none⟩,
  ⟨(some 15), oMv (rT 66), none, none⟩])
 (.seq (.seq (.region [⟨(some 67), oMv (rT 15), none, none⟩,
  ⟨(some 68), oBinBy (cmpBy .neq cNeq) (.tmp 67) (.const (.int .i64 0)), none, none⟩])
 (.cond (.tmp 68) (.seq (.region [⟨(some 69), oBuild #[(.int .i64 0), (.int .i64 0)] [(0, 1), (1, 1)] [], none, none⟩,
  ⟨(some 70), oMv (rT 15), none, none⟩,
  ⟨none, oStore 2 (rT 6) (rT 69), none, none⟩,
  ⟨(some 7), oMv (rT 70), none, none⟩])
 .ret)
 .skip))
 (.seq (.draw [⟨(some 71), oMv (rT 10), none, none⟩,
  ⟨(some 72), oMv (rT 11), none, none⟩,
  ⟨(some 73), oIndexAddr 5 (rT 72) (rC (.int .i64 0)), none, none⟩,
  ⟨(some 74), oFieldAddr 0 (rT 73), none, none⟩,
  ⟨(some 75), oLoadN 4 (rT 74), none, none⟩,
  ⟨(some 76), oFieldAddr 0 (rT 16), none, none⟩,
  ⟨(some 77), oLoad1 (rT 76), none, none⟩,
  ⟨(some 78), oFieldAddr 1 (rT 16), none, none⟩,
  ⟨(some 79), oLoad1 (rT 78), none, none⟩,
  ⟨(some 80), oBuild #[(.int .i64 0), (.int .u8 0), (.string ⟨#[]⟩), (.int .i64 0), (.int .i64 0), (.int .i64 0)] [(0, 4), (4, 1), (5, 1)] [(0, (.tmp 75)), (1, (.tmp 77)), (2, (.tmp 79))], none, none⟩,
  ⟨(some 81), oBuildSlice false 6 1 [(.int .i64 0), (.int .u8 0), (.string ⟨#[]⟩), (.int .i64 0), (.int .i64 0), (.int .i64 0)] [(0, (.tmp 80))], none, none⟩,
  ⟨(some 82), oAppend 6 56 (.tmp 71) (.tmp 81), none, none⟩,
  ⟨(some 10), oMv (rT 82), none, none⟩] 0 [])
 (.region [⟨(some 83), oMv (rT 11), none, none⟩,
  ⟨(some 84), oMv (rT 13), none, none⟩,
  ⟨(some 85), oSlice 5 (.tmp 83) (some (.tmp 84)) none none, none, none⟩,
  ⟨(some 11), oMv (rT 85), none, none⟩]))))))))
 (.region [⟨(some 86), oBinBy (arithBy .add nAdd) (.tmp 45) (.const (.int .i64 1)), none, none⟩,
  ⟨(some 45), oMv (rT 86), none, none⟩])))))))
 (.seq (.seq (.region [⟨(some 87), oMv (rT 8), none, none⟩,
  ⟨(some 88), oSlice 1 (.tmp 87) (some (.const (.int .i64 1))) none none, none, none⟩,
  ⟨(some 89), oLenS 93 (rT 88), none, none⟩,
  ⟨(some 90), oMv (rC (.int .i64 0)), none, none⟩])
 (.block 2 (.loop (.seq (.region [⟨(some 91), oBinBy (cmpBy .lss cLss) (.tmp 90) (.tmp 89), none, none⟩])
 (.seq (.cond (.tmp 91) .skip
 (.exit 2))
 (.seq (.block 3 (.seq (.region [⟨(some 92), oIndexAddr 1 (rT 88) (rT 90), none, none⟩,
  ⟨(some 93), oLoad1 (rT 92), none, none⟩,
  ⟨(some 18), oMv (rT 93), none, none⟩])
 (.seq (.region [⟨(some 19), oMv (rC (.slice none 0 0)), none, none⟩])
 (.seq (.seq (.region [⟨(some 94), oMv (rT 18), none, none⟩,
  ⟨(some 95), oLenS 3 (rT 94), none, none⟩,
  ⟨(some 96), oMv (rC (.int .i64 0)), none, none⟩])
 (.block 4 (.loop (.seq (.region [⟨(some 97), oBinBy (cmpBy .lss cLss) (.tmp 96) (.tmp 95), none, none⟩])
 (.seq (.cond (.tmp 97) .skip
 (.exit 4))
 (.seq (.block 5 (.seq (.region [⟨(some 98), oIndexAddr 1 (rT 94) (rT 96), none, none⟩,
  ⟨(some 99), oLoad1 (rT 98), none, none⟩,
  ⟨(some 21), oMv (rT 99), none, none⟩])
 (.seq (.region [⟨(some 101), oMv (rT 0), none, none⟩,
  ⟨(some 102), oMv (rT 10), none, none⟩,
  ⟨(some 103), oMv (rT 21), none, none⟩,
  ⟨(some 104), oSlice 6 (.tmp 102) none (some (.tmp 103)) none, none, none⟩,
  ⟨(some 105), oCall 231 [(.tmp 101), (.tmp 104)], none, none⟩,
  ⟨(some 100), oMv (rT 105), none, none⟩,
  ⟨(some 106), oExtract (rT 100) 0, none, none⟩,
  ⟨(some 107), oExtract (rT 100) 1, none, none⟩,
  ⟨(some 22), oMv (rT 106), none, none⟩,
  ⟨(some 23), oMv (rT 107), none, none⟩])
 (.seq (.seq (.region [⟨(some 108), oMv (rT 23), none, none⟩,
  ⟨(some 109), oBinBy (cmpBy .neq cNeq) (.tmp 108) (.const (.int .i64 0)), none, none⟩])
 (.cond (.tmp 109) (.seq (.region [⟨(some 110), oBuild #[(.int .i64 0), (.int .i64 0)] [(0, 1), (1, 1)] [], none, none⟩,
  ⟨(some 111), oMv (rT 23), none, none⟩,
  ⟨none, oStore 2 (rT 6) (rT 110), none, none⟩,
  ⟨(some 7), oMv (rT 111), none, none⟩])
 .ret)
 .skip))
 (.seq (.region [⟨(some 113), oMv (rT 2), none, none⟩,
  ⟨(some 114), oMv (rT 22), none, none⟩,
  ⟨(some 115), oCallV (.tmp 113) [(.tmp 114)], none, none⟩,
  ⟨(some 112), oMv (rT 115), none, none⟩,
  ⟨(some 116), oExtract (rT 112) 0, none, none⟩,
  ⟨(some 117), oExtract (rT 112) 1, none, none⟩,
  ⟨(some 24), oAlloc [(.int .i64 0), (.int .i64 0)], none, (some [(.int .i64 0), (.int .i64 0)])⟩,
  ⟨none, oStore 2 (rT 24) (rT 116), none, none⟩,
  ⟨(some 23), oMv (rT 117), none, none⟩])
 (.seq (.seq (.region [⟨(some 118), oMv (rT 23), none, none⟩,
  ⟨(some 119), oBinBy (cmpBy .neq cNeq) (.tmp 118) (.const (.int .i64 0)), none, none⟩])
 (.cond (.tmp 119) (.seq (.region [⟨(some 120), oBuild #[(.int .i64 0), (.int .i64 0)] [(0, 1), (1, 1)] [], none, none⟩,
  ⟨(some 121), oMv (rT 23), none, none⟩,
  ⟨none, oStore 2 (rT 6) (rT 120), none, none⟩,
  ⟨(some 7), oMv (rT 121), none, none⟩])
 .ret)
 .skip))
 (.seq (.draw [⟨(some 122), oMv (rT 19), none, none⟩,
  ⟨(some 123), oMv (rT 10), none, none⟩,
  ⟨(some 124), oIndexAddr 6 (rT 123) (rC (.int .i64 0)), none, none⟩,
  ⟨(some 125), oFieldAddr 0 (rT 124), none, none⟩,
  ⟨(some 126), oLoadN 4 (rT 125), none, none⟩,
  ⟨(some 127), oFieldAddr 0 (rT 24), none, none⟩,
  ⟨(some 128), oLoad1 (rT 127), none, none⟩,
  ⟨(some 129), oFieldAddr 1 (rT 24), none, none⟩,
  ⟨(some 130), oLoad1 (rT 129), none, none⟩,
  ⟨(some 131), oBuild #[(.int .i64 0), (.int .u8 0), (.string ⟨#[]⟩), (.int .i64 0), (.int .i64 0), (.int .i64 0)] [(0, 4), (4, 1), (5, 1)] [(0, (.tmp 126)), (1, (.tmp 128)), (2, (.tmp 130))], none, none⟩,
  ⟨(some 132), oBuildSlice false 6 1 [(.int .i64 0), (.int .u8 0), (.string ⟨#[]⟩), (.int .i64 0), (.int .i64 0), (.int .i64 0)] [(0, (.tmp 131))], none, none⟩,
  ⟨(some 133), oAppend 6 56 (.tmp 122) (.tmp 132), none, none⟩,
  ⟨(some 19), oMv (rT 133), none, none⟩] 0 [])
 (.region [⟨(some 134), oMv (rT 10), none, none⟩,
  ⟨(some 135), oMv (rT 21), none, none⟩,
  ⟨(some 136), oSlice 6 (.tmp 134) (some (.tmp 135)) none none, none, none⟩,
  ⟨(some 10), oMv (rT 136), none, none⟩]))))))))
 (.region [⟨(some 137), oBinBy (arithBy .add nAdd) (.tmp 96) (.const (.int .i64 1)), none, none⟩,
  ⟨(some 96), oMv (rT 137), none, none⟩])))))))
 (.region [⟨(some 138), oMv (rT 19), none, none⟩,
  ⟨(some 10), oMv (rT 138), none, none⟩])))))
 (.region [⟨(some 139), oBinBy (arithBy .add nAdd) (.tmp 90) (.const (.int .i64 1)), none, none⟩,
  ⟨(some 90), oMv (rT 139), none, none⟩])))))))
 (.seq (.draw [⟨(some 140), oMv (rT 10), none, none⟩,
  ⟨(some 141), oIndexAddr 6 (rT 140) (rC (.int .i64 0)), none, none⟩,
  ⟨(some 142), oFieldAddr 4 (rT 141), none, none⟩,
  ⟨(some 143), oLoad1 (rT 142), none, none⟩,
  ⟨(some 144), oMv (rT 10), none, none⟩,
  ⟨(some 145), oIndexAddr 6 (rT 144) (rC (.int .i64 0)), none, none⟩,
  ⟨(some 146), oFieldAddr 5 (rT 145), none, none⟩,
  ⟨(some 147), oLoad1 (rT 146), none, none⟩,
  ⟨(some 148), oBuild #[(.int .i64 0), (.int .i64 0)] [(0, 1), (1, 1)] [(0, (.tmp 143)), (1, (.tmp 147))], none, none⟩,
  ⟨none, oStore 2 (rT 6) (rT 148), none, none⟩,
  ⟨(some 7), oMv (rC (.int .i64 0)), none, none⟩] 0 [])
 .ret))))))))⟩
def c225 : FFunc := ⟨[.cells 4 2, .tmp 5], (.seq (.region [⟨(some 4), oAlloc [(.int .i64 0), (.int .i64 0)], none, (some [(.int .i64 0), (.int .i64 0)])⟩,
  ⟨(some 5), oMv (rC (.int .i64 0)), none, none⟩])
 (.seq (.seq (.draw [⟨(some 9), oLoad1 (rT 1), none, none⟩,
  ⟨(some 10), oNilCheck (rT 9), none, none⟩,
  ⟨(some 11), oFieldAddr 4 (rT 10), none, none⟩,
  ⟨(some 12), oLoad1 (rT 11), none, none⟩,
  ⟨(some 13), oMv (rT 0), none, none⟩,
  ⟨(some 14), oFromBytes (.tmp 13), none, none⟩,
  ⟨(some 15), oLookup .string (.agg #[(.int .i64 0), (.int .i64 0)]) true (.tmp 12) (.tmp 14), none, none⟩,
  ⟨(some 8), oMv (rT 15), none, none⟩,
  ⟨(some 16), oExtract (rT 8) 0, none, none⟩,
  ⟨(some 17), oExtract (rT 8) 1, none, none⟩,
  ⟨(some 6), oAlloc [(.int .i64 0), (.int .i64 0)], none, (some [(.int .i64 0), (.int .i64 0)])⟩,
  ⟨none, oStore 2 (rT 6) (rT 16), none, none⟩,
  ⟨(some 7), oMv (rT 17), none, none⟩] 1 [(0, 10), (3, 10), (5, 10), (6, 10)])
 (.seq (.region [⟨(some 18), oMv (rT 7), none, none⟩])
 (.cond (.tmp 18) (.seq (.region [⟨(some 19), oLoadN 2 (rT 6), none, none⟩,
  ⟨none, oStore 2 (rT 4) (rT 19), none, none⟩,
  ⟨(some 5), oMv (rC (.int .i64 0)), none, none⟩])
 .ret)
 .skip)))
 (.seq (.region [⟨(some 20), oLoad1 (rT 2), none, none⟩,
  ⟨(some 21), oBinBy (arithBy .add nAdd) (.tmp 20) (.const (.int .i64 1)), none, none⟩,
  ⟨none, oStore 1 (rT 2) (rT 21), none, none⟩])
 (.seq (.region [⟨(some 22), oLoad1 (rT 2), none, none⟩,
  ⟨(some 23), oBinBy (arithBy .quo nQuo) (.tmp 22) (.const (.int .i64 255)), none, none⟩,
  ⟨(some 24), oBinBy (arithBy .sub nSub) (.const (.int .i64 255)) (.tmp 23), none, none⟩,
  ⟨(some 25), oLoad1 (rT 2), none, none⟩,
  ⟨(some 26), oBinBy (arithBy .rem nRem) (.tmp 25) (.const (.int .i64 255)), none, none⟩,
  ⟨(some 27), oBuild #[(.int .i64 0), (.int .i64 0)] [(0, 1), (1, 1)] [(0, (.tmp 24)), (1, (.tmp 26))], none, none⟩,
  ⟨none, oStore 2 (rT 4) (rT 27), none, none⟩,
  ⟨(some 5), oMv (rC (.int .i64 0)), none, none⟩])
 .ret))))⟩
def c226 : FFunc := ⟨[.tmp 4], (.seq (.region [⟨(some 2), oBox (.tmp 0), none, none⟩,
  ⟨(some 4), oMv (rC (.int .i64 0)), none, none⟩])
 (.seq (.seq (.region [⟨(some 5), oLoadN 4 (rT 2), none, none⟩,
  ⟨(some 6), oCall 232 [(.tmp 5)], none, none⟩,
  ⟨(some 7), oUn .not (.tmp 6), none, none⟩,
  ⟨(some 8), oMv (rT 7), none, none⟩,
  ⟨(some 9), oMv (rT 1), (some (8, false)), none⟩,
  ⟨(some 10), oBinBy (cmpBy .lss cLss) (.tmp 9) (.const (.int .i64 0)), (some (8, false)), none⟩,
  ⟨(some 11), oPick (rT 8) (rC (.bool true)) (rT 10), none, none⟩])
 (.cond (.tmp 11) (.seq (.region [⟨(some 4), oMv (rC (.int .i64 0)), none, none⟩])
 .ret)
 .skip))
 (.seq (.region [⟨(some 12), oLoadN 4 (rT 2), none, none⟩,
  ⟨(some 13), oMv (rT 1), none, none⟩,
  ⟨(some 14), oMin [(.tmp 13), (.const (.int .i64 1048576))], none, none⟩,
  ⟨(some 15), oCall 233 [(.tmp 12), (.tmp 14)], none, none⟩,
  ⟨(some 4), oMv (rT 15), none, none⟩])
 .ret)))⟩
def c227 : FFunc := ⟨[.cells 5 2, .tmp 6], (.seq (.region [⟨(some 5), oAlloc [(.int .i64 0), (.int .i64 0)], none, (some [(.int .i64 0), (.int .i64 0)])⟩,
  ⟨(some 6), oMv (rC (.int .i64 0)), none, none⟩])
 (.seq (.region [⟨(some 12), oLoad1 (rT 1), none, none⟩,
  ⟨(some 13), oMv (rT 0), none, none⟩,
  ⟨(some 14), oFromBytes (.tmp 13), none, none⟩,
  ⟨(some 15), oLookup .string (.agg #[(.int .i64 0), (.int .i64 0)]) true (.tmp 12) (.tmp 14), none, none⟩,
  ⟨(some 11), oMv (rT 15), none, none⟩,
  ⟨(some 16), oExtract (rT 11) 0, none, none⟩,
  ⟨(some 17), oExtract (rT 11) 1, none, none⟩,
  ⟨(some 7), oAlloc [(.int .i64 0), (.int .i64 0)], none, (some [(.int .i64 0), (.int .i64 0)])⟩,
  ⟨none, oStore 2 (rT 7) (rT 16), none, none⟩,
  ⟨(some 8), oMv (rT 17), none, none⟩])
 (.seq (.seq (.region [⟨(some 18), oMv (rT 8), none, none⟩,
  ⟨(some 19), oUn .not (.tmp 18), none, none⟩,
  ⟨(some 20), oMv (rT 19), none, none⟩,
  ⟨(some 21), oLoad1 (rT 2), (some (20, true)), none⟩,
  ⟨(some 22), oUn .not (.tmp 21), (some (20, true)), none⟩,
  ⟨(some 23), oPick (rT 20) (rT 22) (rC (.bool false)), none, none⟩])
 (.cond (.tmp 23) (.draw [⟨(some 25), oLoad1 (rT 3), none, none⟩,
  ⟨(some 26), oNilCheck (rT 25), none, none⟩,
  ⟨(some 27), oFieldAddr 4 (rT 26), none, none⟩,
  ⟨(some 28), oLoad1 (rT 27), none, none⟩,
  ⟨(some 29), oMv (rT 0), none, none⟩,
  ⟨(some 30), oFromBytes (.tmp 29), none, none⟩,
  ⟨(some 31), oLookup .string (.agg #[(.int .i64 0), (.int .i64 0)]) true (.tmp 28) (.tmp 30), none, none⟩,
  ⟨(some 24), oMv (rT 31), none, none⟩,
  ⟨(some 32), oExtract (rT 24) 0, none, none⟩,
  ⟨(some 33), oExtract (rT 24) 1, none, none⟩,
  ⟨none, oStore 2 (rT 7) (rT 32), none, none⟩,
  ⟨(some 8), oMv (rT 33), none, none⟩] 0 [])
 .skip))
 (.seq (.seq (.region [⟨(some 34), oMv (rT 8), none, none⟩,
  ⟨(some 35), oUn .not (.tmp 34), none, none⟩])
 (.cond (.tmp 35) (.seq (.region [⟨(some 37), oLoad1 (rT 3), none, none⟩,
  ⟨(some 38), oMv (rT 0), none, none⟩,
  ⟨(some 39), oCall 121 [(.tmp 37), (.tmp 38)], none, none⟩,
  ⟨(some 36), oMv (rT 39), none, none⟩,
  ⟨(some 40), oExtract (rT 36) 0, none, none⟩,
  ⟨(some 41), oExtract (rT 36) 1, none, none⟩,
  ⟨(some 9), oAlloc [(.int .i64 0), (.int .i64 0)], none, (some [(.int .i64 0), (.int .i64 0)])⟩,
  ⟨none, oStore 2 (rT 9) (rT 40), none, none⟩,
  ⟨(some 10), oMv (rT 41), none, none⟩])
 (.seq (.seq (.region [⟨(some 42), oMv (rT 10), none, none⟩,
  ⟨(some 43), oBinBy (cmpBy .neq cNeq) (.tmp 42) (.const (.int .i64 0)), none, none⟩])
 (.cond (.tmp 43) (.seq (.region [⟨(some 44), oBuild #[(.int .i64 0), (.int .i64 0)] [(0, 1), (1, 1)] [], none, none⟩,
  ⟨(some 45), oMv (rT 10), none, none⟩,
  ⟨none, oStore 2 (rT 5) (rT 44), none, none⟩,
  ⟨(some 6), oMv (rT 45), none, none⟩])
 .ret)
 .skip))
 (.region [⟨(some 46), oLoadN 2 (rT 9), none, none⟩,
  ⟨none, oStore 2 (rT 7) (rT 46), none, none⟩])))
 .skip))
 (.seq (.region [⟨(some 47), oLoad1 (rT 1), none, none⟩,
  ⟨(some 48), oMv (rT 0), none, none⟩,
  ⟨(some 49), oFromBytes (.tmp 48), none, none⟩,
  ⟨(some 50), oLoadN 2 (rT 7), none, none⟩,
  ⟨none, oMapUpdate .string (.tmp 47) (.tmp 49) (.tmp 50), none, none⟩])
 (.seq (.region [⟨(some 51), oLoadN 2 (rT 7), none, none⟩,
  ⟨none, oStore 2 (rT 5) (rT 51), none, none⟩,
  ⟨(some 6), oMv (rC (.int .i64 0)), none, none⟩])
 .ret))))))⟩
def c228 : FFunc := ⟨[.tmp 2], (.seq (.region [⟨(some 2), oMv (rC (.slice none 0 0)), none, none⟩])
 (.seq (.seq (.region [⟨(some 3), oMv (rT 0), none, none⟩,
  ⟨(some 4), oEqNil false true (.slice 106) (.tmp 3) (.const (.slice none 0 0)), none, none⟩])
 (.cond (.tmp 4) (.seq (.region [⟨(some 2), oMv (rC (.slice none 0 0)), none, none⟩])
 .ret)
 .skip))
 (.seq (.region [⟨(some 5), oBuildSlice false 5 0 [(.int .i64 0), (.int .u8 0), (.string ⟨#[]⟩), (.int .i64 0), (.slice none 0 0)] [], none, none⟩,
  ⟨(some 6), oMv (rT 0), none, none⟩,
  ⟨(some 7), oAppend 5 64 (.tmp 5) (.tmp 6), none, none⟩,
  ⟨(some 2), oMv (rT 7), none, none⟩])
 .ret)))⟩
def c229 : FFunc := ⟨[.tmp 4, .tmp 5], (.seq (.region [⟨(some 4), oMv (rC (.slice none 0 0)), none, none⟩,
  ⟨(some 5), oMv (rC (.int .i64 0)), none, none⟩])
 (.cond (.const (.tuple #[])) .skip
 .skip))⟩
def c230 : FFunc := ⟨[.tmp 4, .tmp 5], (.seq (.region [⟨(some 4), oMv (rC (.slice none 0 0)), none, none⟩,
  ⟨(some 5), oMv (rC (.int .i64 0)), none, none⟩])
 (.seq (.seq (.region [⟨(some 13), oMv (rT 1), none, none⟩,
  ⟨(some 14), oLenS 106 (rT 13), none, none⟩,
  ⟨(some 15), oBinBy (cmpBy .lss cLss) (.tmp 14) (.const (.int .i64 1)), none, none⟩,
  ⟨(some 16), oMv (rT 15), none, none⟩,
  ⟨(some 17), oMv (rT 1), (some (16, false)), none⟩,
  ⟨(some 18), oLenS 106 (rT 17), (some (16, false)), none⟩,
  ⟨(some 19), oBinBy (cmpBy .gtr cGtr) (.tmp 18) (.const (.int .i64 255)), (some (16, false)), none⟩,
  ⟨(some 20), oPick (rT 16) (rC (.bool true)) (rT 19), none, none⟩])
 (.cond (.tmp 20) (.seq (.region [⟨(some 4), oMv (rC (.slice none 0 0)), none, none⟩,
  ⟨(some 5), oMv (rC (.int .i64 2)), none, none⟩])
 .ret)
 .skip))
 (.seq (.region [⟨(some 21), oMv (rT 1), none, none⟩,
  ⟨(some 22), oLenS 106 (rT 21), none, none⟩,
  ⟨(some 23), oToInt .u8 (.tmp 22), none, none⟩,
  ⟨(some 24), oBuildSlice true 1 1 [(.int .u8 0)] [(0, (.tmp 23))], none, none⟩,
  ⟨(some 6), oMv (rT 24), none, none⟩])
 (.seq (.seq (.region [⟨(some 25), oMv (rT 1), none, none⟩,
  ⟨(some 26), oLenS 106 (rT 25), none, none⟩,
  ⟨(some 27), oMv (rC (.int .i64 0)), none, none⟩])
 (.block 0 (.loop (.seq (.region [⟨(some 28), oBinBy (cmpBy .lss cLss) (.tmp 27) (.tmp 26), none, none⟩])
 (.seq (.cond (.tmp 28) .skip
 (.exit 0))
 (.seq (.block 1 (.seq (.region [⟨(some 29), oMv (rT 27), none, none⟩,
  ⟨(some 30), oIndexAddr 5 (rT 25) (rT 27), none, none⟩,
  ⟨(some 31), oLoadN 5 (rT 30), none, none⟩,
  ⟨(some 8), oAlloc [(.int .i64 0), (.int .u8 0), (.string ⟨#[]⟩), (.int .i64 0), (.slice none 0 0)], none, (some [(.int .i64 0), (.int .u8 0), (.string ⟨#[]⟩), (.int .i64 0), (.slice none 0 0)])⟩,
  ⟨(some 7), oMv (rT 29), none, none⟩,
  ⟨none, oStore 5 (rT 8) (rT 31), none, none⟩])
 (.seq (.region [⟨(some 33), oFieldAddr 0 (rT 8), none, none⟩,
  ⟨(some 34), oLoadN 4 (rT 33), none, none⟩,
  ⟨(some 35), oCall 173 [(.tmp 34)], none, none⟩,
  ⟨(some 32), oMv (rT 35), none, none⟩,
  ⟨(some 36), oExtract (rT 32) 0, none, none⟩,
  ⟨(some 37), oExtract (rT 32) 1, none, none⟩,
  ⟨(some 9), oMv (rT 36), none, none⟩,
  ⟨(some 10), oMv (rT 37), none, none⟩])
 (.seq (.seq (.draw [⟨(some 38), oMv (rT 10), none, none⟩,
  ⟨(some 39), oBinBy (cmpBy .neq cNeq) (.tmp 38) (.const (.int .i64 0)), none, none⟩,
  ⟨(some 40), oMv (rT 39), none, none⟩,
  ⟨(some 41), oFieldAddr 4 (rT 8), (some (40, false)), none⟩,
  ⟨(some 42), oLoad1 (rT 41), (some (40, false)), none⟩,
  ⟨(some 43), oLenS 5 (rT 42), (some (40, false)), none⟩,
  ⟨(some 44), oBinBy (cmpBy .lss cLss) (.tmp 43) (.const (.int .i64 1)), (some (40, false)), none⟩,
  ⟨(some 45), oPick (rT 40) (rC (.bool true)) (rT 44), none, none⟩,
  ⟨(some 46), oMv (rT 45), none, none⟩,
  ⟨(some 47), oFieldAddr 4 (rT 8), (some (46, false)), none⟩,
  ⟨(some 48), oLoad1 (rT 47), (some (46, false)), none⟩,
  ⟨(some 49), oLenS 5 (rT 48), (some (46, false)), none⟩,
  ⟨(some 50), oBinBy (cmpBy .gtr cGtr) (.tmp 49) (.const (.int .i64 255)), (some (46, false)), none⟩,
  ⟨(some 51), oPick (rT 46) (rC (.bool true)) (rT 50), none, none⟩,
  ⟨(some 52), oMv (rT 51), none, none⟩,
  ⟨(some 53), oMv (rT 7), (some (52, false)), none⟩,
  ⟨(some 54), oBinBy (cmpBy .gtr cGtr) (.tmp 53) (.const (.int .i64 0)), (some (52, false)), none⟩,
  ⟨(some 55), oMv (rT 54), (some (52, false)), none⟩,
  ⟨(some 56), oMv (rT 1), (some (55, true)), none⟩,
  ⟨(some 57), oMv (rT 7), (some (55, true)), none⟩,
  ⟨(some 58), oBinBy (arithBy .sub nSub) (.tmp 57) (.const (.int .i64 1)), (some (55, true)), none⟩,
  ⟨(some 59), oIndexAddr 5 (rT 56) (rT 58), (some (55, true)), none⟩,
  ⟨(some 60), oFieldAddr 0 (rT 59), (some (55, true)), none⟩,
  ⟨(some 61), oLoadN 4 (rT 60), (some (55, true)), none⟩,
  ⟨(some 62), oFieldAddr 0 (rT 8), (some (55, true)), none⟩,
  ⟨(some 63), oLoadN 4 (rT 62), (some (55, true)), none⟩,
  ⟨(some 64), oCall 36 [(.tmp 61), (.tmp 63)], (some (55, true)), none⟩,
  ⟨(some 65), oUn .not (.tmp 64), (some (55, true)), none⟩,
  ⟨(some 66), oPick (rT 55) (rT 65) (rC (.bool false)), (some (52, false)), none⟩,
  ⟨(some 67), oPick (rT 52) (rC (.bool true)) (rT 66), none, none⟩] 0 [])
 (.cond (.tmp 67) (.seq (.region [⟨(some 4), oMv (rC (.slice none 0 0)), none, none⟩,
  ⟨(some 5), oMv (rC (.int .i64 2)), none, none⟩])
 .ret)
 .skip))
 (.seq (.region [⟨(some 69), oFieldAddr 4 (rT 8), none, none⟩,
  ⟨(some 70), oLoad1 (rT 69), none, none⟩,
  ⟨(some 71), oCall 181 [(.tmp 70)], none, none⟩,
  ⟨(some 68), oMv (rT 71), none, none⟩,
  ⟨(some 72), oExtract (rT 68) 0, none, none⟩,
  ⟨(some 73), oExtract (rT 68) 1, none, none⟩,
  ⟨(some 11), oMv (rT 72), none, none⟩,
  ⟨(some 12), oMv (rT 73), none, none⟩])
 (.region [⟨(some 74), oMv (rT 6), none, none⟩,
  ⟨(some 75), oMv (rT 9), none, none⟩,
  ⟨(some 76), oAppend 1 1 (.tmp 74) (.tmp 75), none, none⟩,
  ⟨(some 77), oMv (rT 11), none, none⟩,
  ⟨(some 78), oAppend 1 1 (.tmp 76) (.tmp 77), none, none⟩,
  ⟨(some 6), oMv (rT 78), none, none⟩]))))))
 (.region [⟨(some 79), oBinBy (arithBy .add nAdd) (.tmp 27) (.const (.int .i64 1)), none, none⟩,
  ⟨(some 27), oMv (rT 79), none, none⟩])))))))
 (.seq (.region [⟨(some 80), oMv (rT 0), none, none⟩,
  ⟨(some 81), oMv (rT 6), none, none⟩,
  ⟨(some 82), oCall 90 [(.tmp 80), (.const (.int .u8 4)), (.tmp 81)], none, none⟩,
  ⟨(some 83), oExtract (rT 82) 0, none, none⟩,
  ⟨(some 84), oExtract (rT 82) 1, none, none⟩,
  ⟨(some 4), oMv (rT 83), none, none⟩,
  ⟨(some 5), oMv (rT 84), none, none⟩])
 .ret)))))⟩
def c232 : FFunc := ⟨[.tmp 2], (.seq (.region [⟨(some 1), oBox (.tmp 0), none, none⟩,
  ⟨(some 2), oMv (rC (.bool false)), none, none⟩])
 (.seq (.region [⟨(some 3), oLoadN 4 (rT 1), none, none⟩,
  ⟨(some 4), oCall 48 [(.tmp 3)], none, none⟩,
  ⟨(some 5), oBinBy (cmpBy .geq cGeq) (.tmp 4) (.const (.int .i64 4)), none, none⟩,
  ⟨(some 2), oMv (rT 5), none, none⟩])
 .ret))⟩
def c233 : FFunc := ⟨[.tmp 4], (.seq (.region [⟨(some 2), oBox (.tmp 0), none, none⟩,
  ⟨(some 4), oMv (rC (.int .i64 0)), none, none⟩])
 (.seq (.region [⟨(some 6), oFieldAddr 1 (rT 2), none, none⟩,
  ⟨(some 7), oLoad1 (rT 6), none, none⟩,
  ⟨(some 8), oBinBy (arithBy .sub nSub) (.tmp 7) (.const (.int .i64 1)), none, none⟩,
  ⟨(some 5), oMv (rT 8), none, none⟩])
 (.seq (.draw [⟨(some 9), oMv (rT 1), none, none⟩,
  ⟨(some 10), oBinBy (arithBy .mul nMul) (.const (.int .i64 8)) (.tmp 9), none, none⟩,
  ⟨(some 11), oBinBy (arithBy .add nAdd) (.tmp 10) (.const (.int .i64 8)), none, none⟩,
  ⟨(some 12), oMv (rT 5), none, none⟩,
  ⟨(some 13), oBinBy (arithBy .add nAdd) (.tmp 11) (.tmp 12), none, none⟩,
  ⟨(some 14), oBinBy (arithBy .sub nSub) (.tmp 13) (.const (.int .i64 1)), none, none⟩,
  ⟨(some 15), oMv (rT 5), none, none⟩,
  ⟨(some 16), oBinBy (arithBy .quo nQuo) (.tmp 14) (.tmp 15), none, none⟩,
  ⟨(some 17), oBinBy (arithBy .add nAdd) (.tmp 16) (.const (.int .i64 4)), none, none⟩,
  ⟨(some 18), oFieldAddr 3 (rT 2), none, none⟩,
  ⟨(some 19), oLoad1 (rT 18), none, none⟩,
  ⟨(some 20), oBinBy (arithBy .add nAdd) (.tmp 17) (.tmp 19), none, none⟩,
  ⟨(some 4), oMv (rT 20), none, none⟩] 0 [])
 .ret)))⟩
def c234 : FFunc := ⟨[.tmp 4, .tmp 5], (.seq (.region [⟨(some 3), oBox (.tmp 1), none, none⟩,
  ⟨(some 4), oMv (rC (.slice none 0 0)), none, none⟩,
  ⟨(some 5), oMv (rC (.int .i64 0)), none, none⟩])
 (.seq (.region [⟨(some 6), oMv (rC (.slice none 0 0)), none, none⟩])
 (.seq (.seq (.region [⟨(some 9), oLoad1 (rT 3), none, none⟩,
  ⟨(some 10), oLenS 106 (rT 9), none, none⟩,
  ⟨(some 11), oMv (rC (.int .i64 0)), none, none⟩])
 (.block 0 (.loop (.seq (.region [⟨(some 12), oBinBy (cmpBy .lss cLss) (.tmp 11) (.tmp 10), none, none⟩])
 (.seq (.cond (.tmp 12) .skip
 (.exit 0))
 (.seq (.block 1 (.seq (.region [⟨(some 13), oIndexAddr 5 (rT 9) (rT 11), none, none⟩,
  ⟨(some 14), oLoadN 5 (rT 13), none, none⟩,
  ⟨(some 8), oAlloc [(.int .i64 0), (.int .u8 0), (.string ⟨#[]⟩), (.int .i64 0), (.slice none 0 0)], none, (some [(.int .i64 0), (.int .u8 0), (.string ⟨#[]⟩), (.int .i64 0), (.slice none 0 0)])⟩,
  ⟨none, oStore 5 (rT 8) (rT 14), none, none⟩])
 (.region [⟨(some 15), oMv (rT 6), none, none⟩,
  ⟨(some 16), oFieldAddr 0 (rT 8), none, none⟩,
  ⟨(some 17), oLoadN 4 (rT 16), none, none⟩,
  ⟨(some 18), oBuildSlice false 4 1 [(.int .i64 0), (.int .u8 0), (.string ⟨#[]⟩), (.int .i64 0)] [(0, (.tmp 17))], none, none⟩,
  ⟨(some 19), oAppend 4 40 (.tmp 15) (.tmp 18), none, none⟩,
  ⟨(some 6), oMv (rT 19), none, none⟩])))
 (.region [⟨(some 20), oBinBy (arithBy .add nAdd) (.tmp 11) (.const (.int .i64 1)), none, none⟩,
  ⟨(some 11), oMv (rT 20), none, none⟩])))))))
 (.seq (.region [⟨(some 21), oMv (rT 0), none, none⟩,
  ⟨(some 22), oMv (rT 6), none, none⟩,
  ⟨(some 23), oMkFunc (.func 237) [] [(.tmp 3)], none, none⟩,
  ⟨(some 24), oCall 236 [(.tmp 21), (.tmp 22), (.tmp 23), (.const (.int .i64 1))], none, none⟩,
  ⟨(some 25), oExtract (rT 24) 0, none, none⟩,
  ⟨(some 26), oExtract (rT 24) 1, none, none⟩,
  ⟨(some 4), oMv (rT 25), none, none⟩,
  ⟨(some 5), oMv (rT 26), none, none⟩])
 .ret))))⟩
def c235 : FFunc := ⟨[.tmp 4, .tmp 5], (.seq (.region [⟨(some 3), oBox (.tmp 1), none, none⟩,
  ⟨(some 4), oMv (rC (.slice none 0 0)), none, none⟩,
  ⟨(some 5), oMv (rC (.int .i64 0)), none, none⟩])
 (.seq (.region [⟨(some 6), oMv (rT 0), none, none⟩,
  ⟨(some 7), oLoad1 (rT 3), none, none⟩,
  ⟨(some 8), oMkFunc (.func 239) [] [(.tmp 3)], none, none⟩,
  ⟨(some 9), oCall 236 [(.tmp 6), (.tmp 7), (.tmp 8), (.const (.int .i64 2))], none, none⟩,
  ⟨(some 10), oExtract (rT 9) 0, none, none⟩,
  ⟨(some 11), oExtract (rT 9) 1, none, none⟩,
  ⟨(some 4), oMv (rT 10), none, none⟩,
  ⟨(some 5), oMv (rT 11), none, none⟩])
 .ret))⟩
def c236 : FFunc := ⟨[.tmp 8, .tmp 9], (.seq (.region [⟨(some 8), oMv (rC (.slice none 0 0)), none, none⟩,
  ⟨(some 9), oMv (rC (.int .i64 0)), none, none⟩])
 (.seq (.region [⟨(some 19), oMv (rT 0), none, none⟩,
  ⟨(some 20), oCall 63 [(.tmp 19)], none, none⟩,
  ⟨(some 21), oBinBy (arithBy .sub nSub) (.tmp 20) (.const (.int .i64 1)), none, none⟩,
  ⟨(some 10), oMv (rT 21), none, none⟩])
 (.seq (.seq (.region [⟨(some 22), oMv (rT 10), none, none⟩,
  ⟨(some 23), oBinBy (cmpBy .lss cLss) (.tmp 22) (.const (.int .i64 0)), none, none⟩])
 (.cond (.tmp 23) (.seq (.region [⟨(some 8), oMv (rC (.slice none 0 0)), none, none⟩,
  ⟨(some 9), oMv (rC (.int .i64 2)), none, none⟩])
 .ret)
 .skip))
 (.seq (.seq (.region [⟨(some 24), oMv (rT 1), none, none⟩,
  ⟨(some 25), oLenS 104 (rT 24), none, none⟩,
  ⟨(some 26), oMv (rC (.int .i64 0)), none, none⟩])
 (.block 0 (.loop (.seq (.region [⟨(some 27), oBinBy (cmpBy .lss cLss) (.tmp 26) (.tmp 25), none, none⟩])
 (.seq (.cond (.tmp 27) .skip
 (.exit 0))
 (.seq (.block 1 (.seq (.region [⟨(some 28), oMv (rT 26), none, none⟩,
  ⟨(some 29), oIndexAddr 4 (rT 24) (rT 26), none, none⟩,
  ⟨(some 30), oLoadN 4 (rT 29), none, none⟩,
  ⟨(some 12), oAlloc [(.int .i64 0), (.int .u8 0), (.string ⟨#[]⟩), (.int .i64 0)], none, (some [(.int .i64 0), (.int .u8 0), (.string ⟨#[]⟩), (.int .i64 0)])⟩,
  ⟨(some 11), oMv (rT 28), none, none⟩,
  ⟨none, oStore 4 (rT 12) (rT 30), none, none⟩])
 (.seq (.draw [⟨(some 31), oLoadN 4 (rT 12), none, none⟩,
  ⟨(some 32), oCall 35 [(.tmp 31)], none, none⟩,
  ⟨(some 33), oUn .not (.tmp 32), none, none⟩,
  ⟨(some 34), oMv (rT 33), none, none⟩,
  ⟨(some 35), oMv (rT 11), (some (34, false)), none⟩,
  ⟨(some 36), oBinBy (cmpBy .gtr cGtr) (.tmp 35) (.const (.int .i64 0)), (some (34, false)), none⟩,
  ⟨(some 37), oMv (rT 36), (some (34, false)), none⟩,
  ⟨(some 38), oMv (rT 1), (some (37, true)), none⟩,
  ⟨(some 39), oMv (rT 11), (some (37, true)), none⟩,
  ⟨(some 40), oBinBy (arithBy .sub nSub) (.tmp 39) (.const (.int .i64 1)), (some (37, true)), none⟩,
  ⟨(some 41), oIndexAddr 4 (rT 38) (rT 40), (some (37, true)), none⟩,
  ⟨(some 42), oLoadN 4 (rT 41), (some (37, true)), none⟩,
  ⟨(some 43), oLoadN 4 (rT 12), (some (37, true)), none⟩,
  ⟨(some 44), oCall 36 [(.tmp 42), (.tmp 43)], (some (37, true)), none⟩,
  ⟨(some 45), oUn .not (.tmp 44), (some (37, true)), none⟩,
  ⟨(some 46), oPick (rT 37) (rT 45) (rC (.bool false)), (some (34, false)), none⟩,
  ⟨(some 47), oPick (rT 34) (rC (.bool true)) (rT 46), none, none⟩] 0 [])
 (.cond (.tmp 47) (.seq (.region [⟨(some 8), oMv (rC (.slice none 0 0)), none, none⟩,
  ⟨(some 9), oMv (rC (.int .i64 2)), none, none⟩])
 .ret)
 .skip))))
 (.region [⟨(some 48), oBinBy (arithBy .add nAdd) (.tmp 26) (.const (.int .i64 1)), none, none⟩,
  ⟨(some 26), oMv (rT 48), none, none⟩])))))))
 (.seq (.region [⟨(some 13), oMv (rC (.slice none 0 0)), none, none⟩])
 (.seq (.region [⟨(some 49), oMv (rT 10), none, none⟩,
  ⟨(some 14), oMv (rC (.int .i64 0)), none, none⟩,
  ⟨(some 15), oMv (rT 49), none, none⟩])
 (.seq (.seq (.region [⟨(some 50), oMv (rT 1), none, none⟩,
  ⟨(some 51), oLenS 104 (rT 50), none, none⟩,
  ⟨(some 52), oMv (rC (.int .i64 0)), none, none⟩])
 (.block 2 (.loop (.seq (.region [⟨(some 53), oBinBy (cmpBy .lss cLss) (.tmp 52) (.tmp 51), none, none⟩])
 (.seq (.cond (.tmp 53) .skip
 (.exit 2))
 (.seq (.block 3 (.seq (.region [⟨(some 54), oMv (rT 52), none, none⟩,
  ⟨(some 55), oIndexAddr 4 (rT 50) (rT 52), none, none⟩,
  ⟨(some 56), oLoadN 4 (rT 55), none, none⟩,
  ⟨(some 17), oAlloc [(.int .i64 0), (.int .u8 0), (.string ⟨#[]⟩), (.int .i64 0)], none, (some [(.int .i64 0), (.int .u8 0), (.string ⟨#[]⟩), (.int .i64 0)])⟩,
  ⟨(some 16), oMv (rT 54), none, none⟩,
  ⟨none, oStore 4 (rT 17) (rT 56), none, none⟩])
 (.seq (.region [⟨(some 57), oMv (rT 2), none, none⟩,
  ⟨(some 58), oMv (rT 16), none, none⟩,
  ⟨(some 59), oCallV (.tmp 57) [(.tmp 58)], none, none⟩,
  ⟨(some 18), oMv (rT 59), none, none⟩])
 (.seq (.seq (.region [⟨(some 60), oMv (rT 18), none, none⟩,
  ⟨(some 61), oMv (rT 10), none, none⟩,
  ⟨(some 62), oBinBy (cmpBy .gtr cGtr) (.tmp 60) (.tmp 61), none, none⟩])
 (.cond (.tmp 62) (.seq (.region [⟨(some 8), oMv (rC (.slice none 0 0)), none, none⟩,
  ⟨(some 9), oMv (rC (.int .i64 3)), none, none⟩])
 .ret)
 .skip))
 (.seq (.seq (.region [⟨(some 63), oMv (rT 18), none, none⟩,
  ⟨(some 64), oMv (rT 15), none, none⟩,
  ⟨(some 65), oBinBy (cmpBy .gtr cGtr) (.tmp 63) (.tmp 64), none, none⟩,
  ⟨(some 66), oMv (rT 65), none, none⟩,
  ⟨(some 67), oMv (rT 14), (some (66, false)), none⟩,
  ⟨(some 68), oBinBy (cmpBy .eql cEql) (.tmp 67) (.const (.int .i64 255)), (some (66, false)), none⟩,
  ⟨(some 69), oPick (rT 66) (rC (.bool true)) (rT 68), none, none⟩])
 (.cond (.tmp 69) (.seq (.region [⟨(some 70), oMv (rT 13), none, none⟩,
  ⟨(some 71), oMv (rT 14), none, none⟩,
  ⟨(some 72), oBuildSlice false 1 1 [(.int .i64 0)] [(0, (.tmp 71))], none, none⟩,
  ⟨(some 73), oAppend 1 8 (.tmp 70) (.tmp 72), none, none⟩,
  ⟨(some 13), oMv (rT 73), none, none⟩])
 (.region [⟨(some 74), oMv (rT 10), none, none⟩,
  ⟨(some 14), oMv (rC (.int .i64 0)), none, none⟩,
  ⟨(some 15), oMv (rT 74), none, none⟩]))
 .skip))
 (.seq (.region [⟨(some 75), oMv (rT 14), none, none⟩,
  ⟨(some 76), oBinBy (arithBy .add nAdd) (.tmp 75) (.const (.int .i64 1)), none, none⟩,
  ⟨(some 14), oMv (rT 76), none, none⟩])
 (.seq (.region [⟨(some 77), oMv (rT 15), none, none⟩,
  ⟨(some 78), oMv (rT 18), none, none⟩,
  ⟨(some 79), oBinBy (arithBy .sub nSub) (.tmp 77) (.tmp 78), none, none⟩,
  ⟨(some 15), oMv (rT 79), none, none⟩])
 (.seq (.region [⟨(some 80), oMv (rT 14), none, none⟩,
  ⟨(some 81), oMv (rT 3), none, none⟩,
  ⟨(some 82), oBinBy (cmpBy .geq cGeq) (.tmp 80) (.tmp 81), none, none⟩,
  ⟨(some 83), oMv (rT 82), none, none⟩,
  ⟨(some 84), oLoadN 4 (rT 17), (some (83, true)), none⟩,
  ⟨(some 85), oCall 241 [(.tmp 84)], (some (83, true)), none⟩,
  ⟨(some 86), oPick (rT 83) (rT 85) (rC (.bool false)), none, none⟩])
 (.cond (.tmp 86) (.seq (.region [⟨(some 87), oMv (rT 13), none, none⟩,
  ⟨(some 88), oMv (rT 14), none, none⟩,
  ⟨(some 89), oBuildSlice false 1 1 [(.int .i64 0)] [(0, (.tmp 88))], none, none⟩,
  ⟨(some 90), oAppend 1 8 (.tmp 87) (.tmp 89), none, none⟩,
  ⟨(some 13), oMv (rT 90), none, none⟩])
 (.region [⟨(some 91), oMv (rT 10), none, none⟩,
  ⟨(some 14), oMv (rC (.int .i64 0)), none, none⟩,
  ⟨(some 15), oMv (rT 91), none, none⟩]))
 .skip)))))))))
 (.region [⟨(some 92), oBinBy (arithBy .add nAdd) (.tmp 52) (.const (.int .i64 1)), none, none⟩,
  ⟨(some 52), oMv (rT 92), none, none⟩])))))))
 (.seq (.seq (.region [⟨(some 93), oMv (rT 14), none, none⟩,
  ⟨(some 94), oBinBy (cmpBy .gtr cGtr) (.tmp 93) (.const (.int .i64 0)), none, none⟩])
 (.cond (.tmp 94) (.region [⟨(some 95), oMv (rT 13), none, none⟩,
  ⟨(some 96), oMv (rT 14), none, none⟩,
  ⟨(some 97), oBuildSlice false 1 1 [(.int .i64 0)] [(0, (.tmp 96))], none, none⟩,
  ⟨(some 98), oAppend 1 8 (.tmp 95) (.tmp 97), none, none⟩,
  ⟨(some 13), oMv (rT 98), none, none⟩])
 .skip))
 (.seq (.region [⟨(some 99), oMv (rT 13), none, none⟩,
  ⟨(some 8), oMv (rT 99), none, none⟩,
  ⟨(some 9), oMv (rC (.int .i64 0)), none, none⟩])
 .ret)))))))))⟩
def c237 : FFunc := ⟨[.tmp 3], (.seq (.region [⟨(some 3), oMv (rC (.int .i64 0)), none, none⟩])
 (.seq (.region [⟨(some 4), oLoad1 (rT 1), none, none⟩,
  ⟨(some 5), oMv (rT 0), none, none⟩,
  ⟨(some 6), oIndexAddr 5 (rT 4) (rT 5), none, none⟩,
  ⟨(some 7), oLoadN 5 (rT 6), none, none⟩,
  ⟨(some 8), oCall 238 [(.tmp 7)], none, none⟩,
  ⟨(some 3), oMv (rT 8), none, none⟩])
 .ret))⟩
def c238 : FFunc := ⟨[.tmp 2], (.seq (.region [⟨(some 1), oBox (.tmp 0), none, none⟩,
  ⟨(some 2), oMv (rC (.int .i64 0)), none, none⟩])
 (.seq (.region [⟨(some 6), oFieldAddr 0 (rT 1), none, none⟩,
  ⟨(some 7), oLoadN 4 (rT 6), none, none⟩,
  ⟨(some 8), oCall 173 [(.tmp 7)], none, none⟩,
  ⟨(some 5), oMv (rT 8), none, none⟩,
  ⟨(some 9), oExtract (rT 5) 0, none, none⟩,
  ⟨(some 10), oExtract (rT 5) 1, none, none⟩,
  ⟨(some 3), oMv (rT 9), none, none⟩,
  ⟨(some 4), oMv (rT 10), none, none⟩])
 (.seq (.seq (.region [⟨(some 11), oMv (rT 4), none, none⟩,
  ⟨(some 12), oBinBy (cmpBy .neq cNeq) (.tmp 11) (.const (.int .i64 0)), none, none⟩])
 (.cond (.tmp 12) (.seq (.region [⟨(some 2), oMv (rC (.int .i64 0)), none, none⟩])
 .ret)
 .skip))
 (.seq (.region [⟨(some 13), oMv (rT 3), none, none⟩,
  ⟨(some 14), oLenS 5 (rT 13), none, none⟩,
  ⟨(some 15), oBinBy (arithBy .add nAdd) (.tmp 14) (.const (.int .i64 1)), none, none⟩,
  ⟨(some 16), oFieldAddr 4 (rT 1), none, none⟩,
  ⟨(some 17), oLoad1 (rT 16), none, none⟩,
  ⟨(some 18), oLenS 5 (rT 17), none, none⟩,
  ⟨(some 19), oBinBy (arithBy .add nAdd) (.tmp 15) (.tmp 18), none, none⟩,
  ⟨(some 2), oMv (rT 19), none, none⟩])
 .ret))))⟩
def c239 : FFunc := ⟨[.tmp 3], (.seq (.region [⟨(some 3), oMv (rC (.int .i64 0)), none, none⟩])
 (.seq (.region [⟨(some 4), oLoad1 (rT 1), none, none⟩,
  ⟨(some 5), oMv (rT 0), none, none⟩,
  ⟨(some 6), oIndexAddr 4 (rT 4) (rT 5), none, none⟩,
  ⟨(some 7), oLoadN 4 (rT 6), none, none⟩,
  ⟨(some 8), oCall 240 [(.tmp 7)], none, none⟩,
  ⟨(some 3), oMv (rT 8), none, none⟩])
 .ret))⟩
def c240 : FFunc := ⟨[.tmp 2], (.seq (.region [⟨(some 1), oBox (.tmp 0), none, none⟩,
  ⟨(some 2), oMv (rC (.int .i64 0)), none, none⟩])
 (.seq (.region [⟨(some 6), oLoadN 4 (rT 1), none, none⟩,
  ⟨(some 7), oCall 173 [(.tmp 6)], none, none⟩,
  ⟨(some 5), oMv (rT 7), none, none⟩,
  ⟨(some 8), oExtract (rT 5) 0, none, none⟩,
  ⟨(some 9), oExtract (rT 5) 1, none, none⟩,
  ⟨(some 3), oMv (rT 8), none, none⟩,
  ⟨(some 4), oMv (rT 9), none, none⟩])
 (.seq (.seq (.region [⟨(some 10), oMv (rT 4), none, none⟩,
  ⟨(some 11), oBinBy (cmpBy .neq cNeq) (.tmp 10) (.const (.int .i64 0)), none, none⟩])
 (.cond (.tmp 11) (.seq (.region [⟨(some 2), oMv (rC (.int .i64 0)), none, none⟩])
 .ret)
 .skip))
 (.seq (.region [⟨(some 12), oMv (rT 3), none, none⟩,
  ⟨(some 13), oLenS 5 (rT 12), none, none⟩,
  ⟨(some 14), oBinBy (arithBy .add nAdd) (.tmp 13) (.const (.int .i64 2)), none, none⟩,
  ⟨(some 2), oMv (rT 14), none, none⟩])
 .ret))))⟩
def c241 : FFunc := ⟨[.tmp 2], (.seq (.region [⟨(some 1), oBox (.tmp 0), none, none⟩,
  ⟨(some 2), oMv (rC (.bool false)), none, none⟩])
 (.seq (.region [⟨(some 10), oLoadN 4 (rT 1), none, none⟩,
  ⟨(some 11), oCall 173 [(.tmp 10)], none, none⟩,
  ⟨(some 9), oMv (rT 11), none, none⟩,
  ⟨(some 12), oExtract (rT 9) 0, none, none⟩,
  ⟨(some 13), oExtract (rT 9) 1, none, none⟩,
  ⟨(some 3), oMv (rT 12), none, none⟩,
  ⟨(some 4), oMv (rT 13), none, none⟩])
 (.seq (.region [⟨(some 5), oAlloc [(.int .i64 0)], none, (some [(.int .i64 0)])⟩,
  ⟨none, oStore 1 (rT 5) (rC (.int .i64 0)), none, none⟩])
 (.seq (.region [⟨(some 14), oMkFunc (.func 242) [] [(.tmp 5)], none, none⟩,
  ⟨(some 6), oMv (rT 14), none, none⟩])
 (.seq (.seq (.region [⟨(some 15), oMv (rT 3), none, none⟩,
  ⟨(some 16), oLenS 5 (rT 15), none, none⟩,
  ⟨(some 17), oMv (rC (.int .i64 0)), none, none⟩])
 (.block 0 (.loop (.seq (.region [⟨(some 18), oBinBy (cmpBy .lss cLss) (.tmp 17) (.tmp 16), none, none⟩])
 (.seq (.cond (.tmp 18) .skip
 (.exit 0))
 (.seq (.block 1 (.seq (.region [⟨(some 19), oIndexAddr 1 (rT 15) (rT 17), none, none⟩,
  ⟨(some 20), oLoad1 (rT 19), none, none⟩,
  ⟨(some 8), oMv (rT 20), none, none⟩])
 (.region [⟨(some 21), oMv (rT 6), none, none⟩,
  ⟨(some 22), oMv (rT 8), none, none⟩,
  ⟨(some 23), oCallV (.tmp 21) [(.tmp 22)], none, none⟩])))
 (.region [⟨(some 24), oBinBy (arithBy .add nAdd) (.tmp 17) (.const (.int .i64 1)), none, none⟩,
  ⟨(some 17), oMv (rT 24), none, none⟩])))))))
 (.seq (.region [⟨(some 25), oMv (rT 4), none, none⟩,
  ⟨(some 26), oBinBy (cmpBy .eql cEql) (.tmp 25) (.const (.int .i64 0)), none, none⟩,
  ⟨(some 27), oMv (rT 26), none, none⟩,
  ⟨(some 28), oLoad1 (rT 5), (some (27, true)), none⟩,
  ⟨(some 29), oBinBy (arithBy .rem nRem) (.tmp 28) (.const (.int .i64 4)), (some (27, true)), none⟩,
  ⟨(some 30), oBinBy (cmpBy .eql cEql) (.tmp 29) (.const (.int .i64 3)), (some (27, true)), none⟩,
  ⟨(some 31), oPick (rT 27) (rT 30) (rC (.bool false)), none, none⟩,
  ⟨(some 2), oMv (rT 31), none, none⟩])
 .ret))))))⟩
def c242 : FFunc := ⟨[], (.region [⟨(some 3), oLoad1 (rT 1), none, none⟩,
  ⟨(some 4), oMv (rT 0), none, none⟩,
  ⟨(some 5), oToInt .i64 (.tmp 4), none, none⟩,
  ⟨(some 6), oBinBy (arithBy .add nAdd) (.tmp 3) (.tmp 5), none, none⟩,
  ⟨none, oStore 1 (rT 1) (rT 6), none, none⟩])⟩
def c247 : FFunc := ⟨[], (.region [⟨(some 0), oBuildArr #[(.int .i64 0), (.int .i64 0)] 1 [(0, (.const (.int .i64 8))), (1, (.const (.int .i64 64)))], none, none⟩,
  ⟨(some 1), oBuildArr #[(.int .i64 0), (.int .i64 0)] 1 [(0, (.const (.int .i64 4))), (1, (.const (.int .i64 32)))], none, none⟩,
  ⟨(some 2), oBuildArr #[(.int .i64 0), (.int .i64 0)] 1 [(0, (.const (.int .i64 128))), (1, (.const (.int .i64 256)))], none, none⟩,
  ⟨(some 3), oBuildArr #[(.int .i64 0), (.int .i64 0)] 1 [(0, (.const (.int .i64 0))), (1, (.const (.int .i64 4)))], none, none⟩,
  ⟨(some 4), oBuildArr #[(.int .i64 0), (.int .i64 0), (.int .i64 0), (.int .i64 0), (.int .i64 0), (.int .i64 0), (.int .i64 0), (.int .i64 0)] 2 [(0, (.tmp 0)), (1, (.tmp 1)), (2, (.tmp 2)), (3, (.tmp 3))], none, none⟩,
  ⟨none, oStore 8 (rG 0) (rT 4), none, none⟩])⟩
def fl : List (Nat × FFunc) := [(2, c2), (3, c3), (4, c4), (5, c5), (6, c6), (7, c7), (8, c8), (9, c9), (10, c10), (11, c11), (12, c12), (13, c13), (14, c14), (15, c15), (16, c16), (17, c17), (18, c18), (19, c19), (20, c20), (21, c21), (22, c22), (23, c23), (24, c24), (25, c25), (26, c26), (27, c27), (28, c28), (29, c29), (30, c30), (31, c31), (32, c32), (33, c33), (34, c34), (35, c35), (36, c36), (37, c37), (38, c38), (39, c39), (40, c40), (41, c41), (42, c42), (43, c43), (44, c44), (45, c45), (46, c46), (47, c47), (48, c48), (50, c50), (51, c51), (52, c52), (53, c53), (54, c54), (55, c55), (56, c56), (57, c57), (58, c58), (59, c59), (60, c60), (61, c61), (62, c62), (63, c63), (64, c64), (65, c65), (66, c66), (67, c67), (68, c68), (69, c69), (71, c71), (72, c72), (73, c73), (74, c74), (75, c75), (76, c76), (77, c77), (78, c78), (79, c79), (80, c80), (81, c81), (82, c82), (83, c83), (84, c84), (85, c85), (86, c86), (87, c87), (88, c88), (89, c89), (90, c90), (91, c91), (92, c92), (93, c93), (94, c94), (95, c95), (97, c97), (98, c98), (99, c99), (100, c100), (101, c101), (102, c102), (103, c103), (104, c104), (105, c105), (106, c106), (107, c107), (108, c108), (109, c109), (110, c110), (111, c111), (112, c112), (113, c113), (114, c114), (115, c115), (116, c116), (117, c117), (118, c118), (119, c119), (120, c120), (121, c121), (122, c122), (123, c123), (124, c124), (125, c125), (126, c126), (127, c127), (128, c128), (129, c129), (130, c130), (131, c131), (133, c133), (134, c134), (135, c135), (136, c136), (137, c137), (138, c138), (139, c139), (140, c140), (141, c141), (142, c142), (143, c143), (144, c144), (145, c145), (146, c146), (147, c147), (149, c149), (150, c150), (151, c151), (154, c154), (155, c155), (156, c156), (157, c157), (158, c158), (159, c159), (160, c160), (161, c161), (162, c162), (163, c163), (164, c164), (165, c165), (166, c166), (167, c167), (168, c168), (169, c169), (170, c170), (171, c171), (172, c172), (173, c173), (174, c174), (175, c175), (176, c176), (177, c177), (178, c178), (179, c179), (180, c180), (181, c181), (182, c182), (183, c183), (201, c201), (204, c204), (205, c205), (206, c206), (207, c207), (208, c208), (211, c211), (212, c212), (213, c213), (214, c214), (215, c215), (216, c216), (217, c217), (218, c218), (219, c219), (220, c220), (221, c221), (222, c222), (223, c223), (224, c224), (225, c225), (226, c226), (227, c227), (228, c228), (229, c229), (230, c230), (232, c232), (233, c233), (234, c234), (235, c235), (236, c236), (237, c237), (238, c238), (239, c239), (240, c240), (241, c241), (242, c242), (247, c247)]

end
end Go.Ads
