/- Part AdsH of the proof. -/
import Derived.Test.YtfcfdmpgmnnfeaaGreatDoorAdsG
import Derived.Test.YtfcfdmpgmnnfeaaGreatDoorChecked
set_option linter.unusedSimpArgs false
set_option linter.unusedVariables false
namespace Go.Ads
noncomputable section
def s94c0 : Value := (.string ⟨#[0, 1, 1, 2, 1, 2, 2, 3, 1, 2, 2, 3, 2, 3, 3, 4, 1, 2, 2, 3, 2, 3, 3, 4, 2, 3, 3, 4, 3, 4, 4, 5, 1, 2, 2, 3, 2, 3, 3, 4, 2, 3, 3, 4, 3, 4, 4, 5, 2, 3, 3, 4, 3, 4, 4, 5, 3, 4, 4, 5, 4, 5, 5, 6, 1, 2, 2, 3, 2, 3, 3, 4, 2, 3, 3, 4, 3, 4, 4, 5, 2, 3, 3, 4, 3, 4, 4, 5, 3, 4, 4, 5, 4, 5, 5, 6, 2, 3, 3, 4, 3, 4, 4, 5, 3, 4, 4, 5, 4, 5, 5, 6, 3, 4, 4, 5, 4, 5, 5, 6, 4, 5, 5, 6, 5, 6, 6, 7, 1, 2, 2, 3, 2, 3, 3, 4, 2, 3, 3, 4, 3, 4, 4, 5, 2, 3, 3, 4, 3, 4, 4, 5, 3, 4, 4, 5, 4, 5, 5, 6, 2, 3, 3, 4, 3, 4, 4, 5, 3, 4, 4, 5, 4, 5, 5, 6, 3, 4, 4, 5, 4, 5, 5, 6, 4, 5, 5, 6, 5, 6, 6, 7, 2, 3, 3, 4, 3, 4, 4, 5, 3, 4, 4, 5, 4, 5, 5, 6, 3, 4, 4, 5, 4, 5, 5, 6, 4, 5, 5, 6, 5, 6, 6, 7, 3, 4, 4, 5, 4, 5, 5, 6, 4, 5, 5, 6, 5, 6, 6, 7, 4, 5, 5, 6, 5, 6, 6, 7, 5, 6, 6, 7, 6, 7, 7, 8]⟩)
def s40b0 : CCode := (.seq (.region [⟨(some 8), .bin .lss (.tmp 7) (.tmp 6), none⟩])
 (.seq (.cond (.tmp 8) .skip
 (.exit 0))
 (.seq (.block 1 (.seq (.region [⟨(some 9), .indexAddr 1 (.tmp 5) (.tmp 7), none⟩,
  ⟨(some 10), .load1 (.tmp 9), none⟩,
  ⟨(some 4), .mv (.tmp 10), none⟩])
 (.seq (.region [⟨(some 11), .mv (.tmp 4), none⟩,
  ⟨(some 12), .bin .neq (.tmp 11) (.const (.int .u8 255)), none⟩])
 (.cond (.tmp 12) (.seq (.region [⟨(some 2), .mv (.const (.bool false)), none⟩])
 .ret)
 .skip))))
 (.region [⟨(some 13), .bin .add (.tmp 7) (.const (.int .i64 1)), none⟩,
  ⟨(some 7), .mv (.tmp 13), none⟩]))))
def s40l0 : CCode := .loop s40b0
def s40 : CFunc := ⟨14, [.tmp 2], (.seq (.region [⟨(some 2), .mv (.const (.bool false)), none⟩])
 (.seq (.seq (.region [⟨(some 5), .mv (.tmp 0), none⟩,
  ⟨(some 6), .len (.slice 5) (.tmp 5), none⟩,
  ⟨(some 7), .mv (.const (.int .i64 0)), none⟩])
 (.block 0 s40l0))
 (.seq (.region [⟨(some 2), .mv (.const (.bool true)), none⟩])
 .ret))), none, none⟩
def s62b0 : CCode := (.seq (.region [⟨(some 9), .bin .lss (.tmp 8) (.tmp 7), none⟩])
 (.seq (.cond (.tmp 9) .skip
 (.exit 0))
 (.seq (.block 1 (.seq (.region [⟨(some 10), .indexAddr 1 (.tmp 6) (.tmp 8), none⟩,
  ⟨(some 11), .load1 (.tmp 10), none⟩,
  ⟨(some 5), .mv (.tmp 11), none⟩])
 (.region [⟨(some 12), .mv (.tmp 3), none⟩,
  ⟨(some 13), .mv (.tmp 5), none⟩,
  ⟨(some 14), .un .xor (.tmp 13), none⟩,
  ⟨(some 15), .call 94 [(.tmp 14)], none⟩,
  ⟨(some 16), .bin .add (.tmp 12) (.tmp 15), none⟩,
  ⟨(some 3), .mv (.tmp 16), none⟩])))
 (.region [⟨(some 17), .bin .add (.tmp 8) (.const (.int .i64 1)), none⟩,
  ⟨(some 8), .mv (.tmp 17), none⟩]))))
def s62l0 : CCode := .loop s62b0
def s62 : CFunc := ⟨19, [.tmp 2], (.seq (.region [⟨(some 2), .mv (.const (.int .i64 0)), none⟩])
 (.seq (.region [⟨(some 3), .mv (.const (.int .i64 0)), none⟩])
 (.seq (.seq (.region [⟨(some 6), .mv (.tmp 0), none⟩,
  ⟨(some 7), .len (.slice 5) (.tmp 6), none⟩,
  ⟨(some 8), .mv (.const (.int .i64 0)), none⟩])
 (.block 0 s62l0))
 (.seq (.region [⟨(some 18), .mv (.tmp 3), none⟩,
  ⟨(some 2), .mv (.tmp 18), none⟩])
 .ret)))), none, none⟩
def s94 : CFunc := ⟨6, [.tmp 2], (.seq (.region [⟨(some 2), .mv (.const (.int .i64 0)), none⟩])
 (.seq (.region [⟨(some 3), .mv (.tmp 0), none⟩,
  ⟨(some 4), .indexS (.const s94c0) (.tmp 3), none⟩,
  ⟨(some 5), .toInt .i64 (.tmp 4), none⟩,
  ⟨(some 2), .mv (.tmp 5), none⟩])
 .ret)), none, none⟩
def s21d0 : List COper := [⟨(some 38), .mv (.tmp 2), none⟩,
  ⟨(some 39), .mv (.tmp 10), none⟩,
  ⟨(some 40), .mv (.tmp 2), none⟩,
  ⟨(some 41), .mv (.tmp 10), none⟩,
  ⟨(some 42), .indexAddr 1 (.tmp 40) (.tmp 41), none⟩,
  ⟨(some 43), .load1 (.tmp 42), none⟩,
  ⟨(some 44), .mv (.tmp 11), none⟩,
  ⟨(some 45), .bin .andNot (.tmp 43) (.tmp 44), none⟩,
  ⟨(some 46), .mv (.tmp 3), none⟩,
  ⟨(some 47), .mv (.tmp 10), none⟩,
  ⟨(some 48), .callV (.tmp 46) [(.tmp 47)], none⟩,
  ⟨(some 49), .mv (.tmp 11), none⟩,
  ⟨(some 50), .bin .and (.tmp 48) (.tmp 49), none⟩,
  ⟨(some 51), .bin .or (.tmp 45) (.tmp 50), none⟩,
  ⟨(some 52), .indexAddr 1 (.tmp 38) (.tmp 39), none⟩,
  ⟨none, .store 1 (.tmp 52) (.tmp 51), none⟩]
def s21b1 : CCode := (.seq (.region [⟨(some 18), .bin .lss (.tmp 17) (.tmp 16), none⟩])
 (.seq (.cond (.tmp 18) .skip
 (.exit 0))
 (.seq (.block 1 (.seq (.region [⟨(some 19), .mv (.tmp 17), none⟩,
  ⟨(some 10), .mv (.tmp 19), none⟩])
 (.seq (.region [⟨(some 11), .mv (.const (.int .u8 255)), none⟩])
 (.seq (.seq (.region [⟨(some 20), .mv (.tmp 9), none⟩,
  ⟨(some 21), .eqNil true true (.pointer 48) (.tmp 20) (.const (.pointer none)), none⟩])
 (.cond (.tmp 21) (.seq (.region [⟨(some 11), .mv (.const (.int .u8 0)), none⟩])
 (.seq (.region [⟨(some 22), .mv (.tmp 9), none⟩,
  ⟨(some 23), .nilCheck (.tmp 22), none⟩,
  ⟨(some 24), .fieldAddr 2 (.tmp 23), none⟩,
  ⟨(some 25), .load1 (.tmp 24), none⟩,
  ⟨(some 26), .len (.slice 5) (.tmp 25), none⟩,
  ⟨(some 12), .mv (.tmp 26), none⟩])
 (.seq (.region [⟨(some 27), .mv (.tmp 12), none⟩,
  ⟨(some 28), .bin .gtr (.tmp 27) (.const (.int .i64 0)), none⟩])
 (.cond (.tmp 28) (.draw [⟨(some 29), .mv (.tmp 9), none⟩,
  ⟨(some 30), .nilCheck (.tmp 29), none⟩,
  ⟨(some 31), .fieldAddr 2 (.tmp 30), none⟩,
  ⟨(some 32), .load1 (.tmp 31), none⟩,
  ⟨(some 33), .mv (.tmp 10), none⟩,
  ⟨(some 34), .mv (.tmp 12), none⟩,
  ⟨(some 35), .bin .rem (.tmp 33) (.tmp 34), none⟩,
  ⟨(some 36), .indexAddr 1 (.tmp 32) (.tmp 35), none⟩,
  ⟨(some 37), .load1 (.tmp 36), none⟩,
  ⟨(some 11), .mv (.tmp 37), none⟩] [])
 .skip))))
 .skip))
 (.draw s21d0 [(5, 10)])))))
 (.region [⟨(some 53), .bin .add (.tmp 17) (.const (.int .i64 1)), none⟩,
  ⟨(some 17), .mv (.tmp 53), none⟩]))))
def s21l1 : CCode := .loop s21b1
def s21 : CFunc := ⟨71, [.tmp 8], (.seq (.region [⟨(some 8), .mv (.const (.int .i64 0)), none⟩])
 (.seq (.region [⟨(some 13), .mv (.tmp 0), none⟩,
  ⟨(some 14), .call 33 [(.tmp 13)], none⟩,
  ⟨(some 9), .mv (.tmp 14), none⟩])
 (.seq (.seq (.region [⟨(some 15), .mv (.tmp 2), none⟩,
  ⟨(some 16), .len (.slice 5) (.tmp 15), none⟩,
  ⟨(some 17), .mv (.const (.int .i64 0)), none⟩])
 (.block 0 s21l1))
 (.seq (.block 2 (.seq (.region [⟨(some 55), .mv (.tmp 9), none⟩,
  ⟨(some 56), .eqNil false true (.pointer 48) (.tmp 55) (.const (.pointer none)), none⟩,
  ⟨(some 54), .mv (.tmp 56), none⟩])
 (.cond (.tmp 54) (.seq (.region [⟨(some 8), .mv (.const (.int .i64 0)), none⟩])
 .ret)
 (.seq (.region [⟨(some 58), .mv (.tmp 9), none⟩,
  ⟨(some 59), .nilCheck (.tmp 58), none⟩,
  ⟨(some 60), .fieldAddr 1 (.tmp 59), none⟩,
  ⟨(some 61), .load1 (.tmp 60), none⟩,
  ⟨(some 57), .mv (.tmp 61), none⟩])
 (.cond (.tmp 57) (.seq (.region [⟨(some 62), .mv (.tmp 0), none⟩,
  ⟨(some 63), .nilCheck (.tmp 62), none⟩,
  ⟨(some 64), .fieldAddr 5 (.tmp 63), none⟩,
  ⟨(some 65), .load1 (.tmp 64), none⟩,
  ⟨(some 66), .mv (.tmp 1), none⟩,
  ⟨(some 67), .indexAddr 1 (.tmp 65) (.tmp 66), none⟩,
  ⟨none, .store 1 (.tmp 67) (.const (.bool true)), none⟩])
 (.seq (.region [⟨(some 8), .mv (.const (.int .i64 9)), none⟩])
 .ret))
 .skip)))))
 (.seq (.region [⟨(some 68), .mv (.tmp 0), none⟩,
  ⟨(some 69), .nilCheck (.tmp 68), none⟩,
  ⟨(some 70), .fieldAddr 8 (.tmp 69), none⟩,
  ⟨none, .store 1 (.tmp 70) (.const (.bool true)), none⟩])
 (.seq (.region [⟨(some 8), .mv (.const (.int .i64 10)), none⟩])
 .ret)))))), none, none⟩
def s22 : CFunc := ⟨3, [.tmp 2], (.seq (.region [⟨(some 2), .mv (.const (.int .u8 0)), none⟩])
 (.seq (.region [⟨(some 2), .mv (.const (.int .u8 255)), none⟩])
 .ret)), none, none⟩
def s33 : CFunc := ⟨55, [.tmp 2], (.seq (.region [⟨(some 2), .mv (.const (.pointer none)), none⟩])
 (.seq (.region [⟨(some 4), .mv (.tmp 0), none⟩,
  ⟨(some 5), .nilCheck (.tmp 4), none⟩,
  ⟨(some 6), .fieldAddr 9 (.tmp 5), none⟩,
  ⟨(some 7), .load1 (.tmp 6), none⟩,
  ⟨(some 8), .bin .add (.tmp 7) (.const (.int .i64 1)), none⟩,
  ⟨(some 9), .nilCheck (.tmp 4), none⟩,
  ⟨(some 10), .fieldAddr 9 (.tmp 9), none⟩,
  ⟨none, .store 1 (.tmp 10) (.tmp 8), none⟩])
 (.seq (.block 0 (.seq (.region [⟨(some 12), .mv (.tmp 0), none⟩,
  ⟨(some 13), .nilCheck (.tmp 12), none⟩,
  ⟨(some 14), .fieldAddr 6 (.tmp 13), none⟩,
  ⟨(some 15), .load1 (.tmp 14), none⟩,
  ⟨(some 16), .len (.slice 48) (.tmp 15), none⟩,
  ⟨(some 17), .bin .eql (.tmp 16) (.const (.int .i64 0)), none⟩,
  ⟨(some 11), .mv (.tmp 17), none⟩])
 (.cond (.tmp 11) (.seq (.region [⟨(some 2), .mv (.const (.pointer none)), none⟩])
 .ret)
 (.seq (.draw [⟨(some 19), .mv (.tmp 0), none⟩,
  ⟨(some 20), .nilCheck (.tmp 19), none⟩,
  ⟨(some 21), .fieldAddr 7 (.tmp 20), none⟩,
  ⟨(some 22), .load1 (.tmp 21), none⟩,
  ⟨(some 23), .mv (.tmp 0), none⟩,
  ⟨(some 24), .nilCheck (.tmp 23), none⟩,
  ⟨(some 25), .fieldAddr 6 (.tmp 24), none⟩,
  ⟨(some 26), .load1 (.tmp 25), none⟩,
  ⟨(some 27), .indexAddr 3 (.tmp 26) (.const (.int .i64 0)), none⟩,
  ⟨(some 28), .fieldAddr 0 (.tmp 27), none⟩,
  ⟨(some 29), .load1 (.tmp 28), none⟩,
  ⟨(some 30), .bin .lss (.tmp 22) (.tmp 29), none⟩,
  ⟨(some 18), .mv (.tmp 30), none⟩] [])
 (.cond (.tmp 18) (.seq (.region [⟨(some 31), .mv (.tmp 0), none⟩,
  ⟨(some 32), .nilCheck (.tmp 31), none⟩,
  ⟨(some 33), .fieldAddr 7 (.tmp 32), none⟩,
  ⟨(some 34), .load1 (.tmp 33), none⟩,
  ⟨(some 35), .bin .add (.tmp 34) (.const (.int .i64 1)), none⟩,
  ⟨(some 36), .nilCheck (.tmp 31), none⟩,
  ⟨(some 37), .fieldAddr 7 (.tmp 36), none⟩,
  ⟨none, .store 1 (.tmp 37) (.tmp 35), none⟩])
 (.seq (.region [⟨(some 2), .mv (.const (.pointer none)), none⟩])
 .ret))
 .skip)))))
 (.seq (.region [⟨(some 38), .mv (.tmp 0), none⟩,
  ⟨(some 39), .nilCheck (.tmp 38), none⟩,
  ⟨(some 40), .fieldAddr 6 (.tmp 39), none⟩,
  ⟨(some 41), .load1 (.tmp 40), none⟩,
  ⟨(some 42), .indexAddr 3 (.tmp 41) (.const (.int .i64 0)), none⟩,
  ⟨(some 43), .loadN 3 (.tmp 42), none⟩,
  ⟨(some 3), .alloc [(.int .i64 0), (.bool false), (.slice none 0 0)], none⟩,
  ⟨none, .store 3 (.tmp 3) (.tmp 43), none⟩])
 (.seq (.region [⟨(some 44), .mv (.tmp 0), none⟩,
  ⟨(some 45), .mv (.tmp 0), none⟩,
  ⟨(some 46), .mv (.tmp 0), none⟩,
  ⟨(some 47), .nilCheck (.tmp 46), none⟩,
  ⟨(some 48), .fieldAddr 6 (.tmp 47), none⟩,
  ⟨(some 49), .load1 (.tmp 48), none⟩,
  ⟨(some 50), .slice 3 (.tmp 49) (some (.const (.int .i64 1))) none none, none⟩,
  ⟨(some 51), .nilCheck (.tmp 44), none⟩,
  ⟨(some 52), .fieldAddr 6 (.tmp 51), none⟩,
  ⟨none, .store 1 (.tmp 52) (.tmp 50), none⟩,
  ⟨(some 53), .nilCheck (.tmp 45), none⟩,
  ⟨(some 54), .fieldAddr 7 (.tmp 53), none⟩,
  ⟨none, .store 1 (.tmp 54) (.const (.int .i64 0)), none⟩])
 (.seq (.region [⟨(some 2), .mv (.tmp 3), none⟩])
 .ret)))))), none, none⟩
def s164 : CFunc := ⟨8, [.tmp 3], (.seq (.region [⟨(some 3), .mv (.const (.int .u8 0)), none⟩])
 (.seq (.region [⟨(some 4), .load1 (.tmp 1), none⟩,
  ⟨(some 5), .mv (.tmp 0), none⟩,
  ⟨(some 6), .indexAddr 1 (.tmp 4) (.tmp 5), none⟩,
  ⟨(some 7), .load1 (.tmp 6), none⟩,
  ⟨(some 3), .mv (.tmp 7), none⟩])
 .ret)), none, none⟩
def s27b0 : CCode := (.seq (.region [⟨(some 18), .bin .lss (.tmp 17) (.tmp 16), none⟩])
 (.seq (.cond (.tmp 18) .skip
 (.exit 0))
 (.seq (.block 1 (.seq (.region [⟨(some 19), .mv (.tmp 17), none⟩,
  ⟨(some 5), .mv (.tmp 19), none⟩])
 (.seq (.region [⟨(some 21), .mv (.tmp 0), none⟩,
  ⟨(some 22), .nilCheck (.tmp 21), none⟩,
  ⟨(some 23), .fieldAddr 0 (.tmp 22), none⟩,
  ⟨(some 24), .load1 (.tmp 23), none⟩,
  ⟨(some 25), .mv (.tmp 1), none⟩,
  ⟨(some 26), .mv (.tmp 5), none⟩,
  ⟨(some 27), .call 26 [(.tmp 24), (.tmp 25), (.tmp 26)], none⟩,
  ⟨(some 20), .mv (.tmp 27), none⟩,
  ⟨(some 28), .extract (.tmp 20) 0, none⟩,
  ⟨(some 29), .extract (.tmp 20) 1, none⟩,
  ⟨(some 6), .mv (.tmp 28), none⟩,
  ⟨(some 7), .mv (.tmp 29), none⟩])
 (.seq (.seq (.region [⟨(some 30), .mv (.tmp 7), none⟩,
  ⟨(some 31), .bin .neq (.tmp 30) (.const (.int .i64 0)), none⟩])
 (.cond (.tmp 31) .ret
 .skip))
 (.seq (.seq (.region [⟨(some 33), .mv (.tmp 6), none⟩,
  ⟨(some 34), .call 39 [(.tmp 33)], none⟩,
  ⟨(some 32), .mv (.tmp 34), none⟩,
  ⟨(some 35), .extract (.tmp 32) 0, none⟩,
  ⟨(some 36), .extract (.tmp 32) 1, none⟩,
  ⟨(some 8), .alloc [(.int .u8 0), (.int .u32 0), (.int .u64 0)], none⟩,
  ⟨none, .store 3 (.tmp 8) (.tmp 35), none⟩,
  ⟨(some 9), .mv (.tmp 36), none⟩])
 (.seq (.region [⟨(some 37), .mv (.tmp 5), none⟩,
  ⟨(some 38), .bin .eql (.tmp 37) (.const (.int .i64 0)), none⟩,
  ⟨(some 39), .mv (.tmp 38), none⟩,
  ⟨(some 40), .mv (.tmp 9), (some (39, true))⟩,
  ⟨(some 41), .bin .eql (.tmp 40) (.const (.int .i64 0)), (some (39, true))⟩,
  ⟨(some 42), .pick (.tmp 39) (.tmp 41) (.const (.bool false)), none⟩])
 (.cond (.tmp 42) (.seq (.draw [⟨(some 43), .mv (.tmp 0), none⟩,
  ⟨(some 44), .nilCheck (.tmp 43), none⟩,
  ⟨(some 45), .fieldAddr 1 (.tmp 44), none⟩,
  ⟨(some 46), .load1 (.tmp 45), none⟩,
  ⟨(some 47), .mv (.tmp 1), none⟩,
  ⟨(some 48), .loadN 3 (.tmp 8), none⟩,
  ⟨(some 49), .build #[(.int .i64 0), (.int .u8 0), (.int .u32 0), (.int .u64 0)] [(0, 1), (1, 3)] [(0, (.const (.int .i64 2))), (1, (.tmp 48))], none⟩,
  ⟨(some 50), .indexAddr 4 (.tmp 46) (.tmp 47), none⟩,
  ⟨none, .store 4 (.tmp 50) (.tmp 49), none⟩] [])
 .ret)
 .skip)))
 (.seq (.region [⟨(some 51), .mv (.tmp 6), none⟩,
  ⟨(some 52), .call 40 [(.tmp 51)], none⟩,
  ⟨(some 53), .un .not (.tmp 52), none⟩])
 (.cond (.tmp 53) (.region [⟨(some 54), .fieldAddr 0 (.tmp 4), none⟩,
  ⟨none, .store 1 (.tmp 54) (.const (.int .i64 1)), none⟩])
 .skip)))))))
 (.region [⟨(some 55), .bin .add (.tmp 17) (.const (.int .i64 1)), none⟩,
  ⟨(some 17), .mv (.tmp 55), none⟩]))))
def s27l0 : CCode := .loop s27b0
def s27 : CFunc := ⟨63, [], (.seq (.region [⟨(some 10), .build #[(.int .i64 0), (.int .u8 0), (.int .u32 0), (.int .u64 0)] [(0, 1), (1, 3)] [], none⟩,
  ⟨(some 4), .alloc [(.int .i64 0), (.int .u8 0), (.int .u32 0), (.int .u64 0)], none⟩,
  ⟨none, .store 4 (.tmp 4) (.tmp 10), none⟩])
 (.seq (.seq (.region [⟨(some 11), .mv (.tmp 0), none⟩,
  ⟨(some 12), .nilCheck (.tmp 11), none⟩,
  ⟨(some 13), .fieldAddr 0 (.tmp 12), none⟩,
  ⟨(some 14), .load1 (.tmp 13), none⟩,
  ⟨(some 15), .call 25 [(.tmp 14)], none⟩,
  ⟨(some 16), .field false 1 1 (.tmp 15), none⟩,
  ⟨(some 17), .mv (.const (.int .i64 0)), none⟩])
 (.block 0 s27l0))
 (.draw [⟨(some 56), .mv (.tmp 0), none⟩,
  ⟨(some 57), .nilCheck (.tmp 56), none⟩,
  ⟨(some 58), .fieldAddr 1 (.tmp 57), none⟩,
  ⟨(some 59), .load1 (.tmp 58), none⟩,
  ⟨(some 60), .mv (.tmp 1), none⟩,
  ⟨(some 61), .loadN 4 (.tmp 4), none⟩,
  ⟨(some 62), .indexAddr 4 (.tmp 59) (.tmp 60), none⟩,
  ⟨none, .store 4 (.tmp 62) (.tmp 61), none⟩] []))), none, none⟩
def s26 : CFunc := ⟨21, [.tmp 6, .tmp 7], (.seq (.region [⟨(some 6), .mv (.const (.slice none 0 0)), none⟩,
  ⟨(some 7), .mv (.const (.int .i64 0)), none⟩])
 (.seq (.seq (.region [⟨(some 9), .mv (.tmp 0), none⟩,
  ⟨(some 10), .mv (.tmp 1), none⟩,
  ⟨(some 11), .mv (.tmp 2), none⟩,
  ⟨(some 12), .call 20 [(.tmp 9), (.tmp 10), (.tmp 11)], none⟩,
  ⟨(some 8), .mv (.tmp 12), none⟩])
 (.seq (.region [⟨(some 13), .mv (.tmp 8), none⟩,
  ⟨(some 14), .bin .neq (.tmp 13) (.const (.int .i64 0)), none⟩])
 (.cond (.tmp 14) (.seq (.region [⟨(some 15), .mv (.tmp 8), none⟩,
  ⟨(some 6), .mv (.const (.slice none 0 0)), none⟩,
  ⟨(some 7), .mv (.tmp 15), none⟩])
 .ret)
 .skip)))
 (.seq (.region [⟨(some 16), .mv (.tmp 0), none⟩,
  ⟨(some 17), .mv (.tmp 1), none⟩,
  ⟨(some 18), .mv (.tmp 2), none⟩,
  ⟨(some 19), .call 38 [(.tmp 16), (.tmp 17), (.tmp 18)], none⟩,
  ⟨(some 20), .call 19 [(.tmp 19)], none⟩,
  ⟨(some 6), .mv (.tmp 20), none⟩,
  ⟨(some 7), .mv (.const (.int .i64 0)), none⟩])
 .ret))), none, none⟩
def s20 : CFunc := ⟨40, [.tmp 6], (.seq (.region [⟨(some 6), .mv (.const (.int .i64 0)), none⟩])
 (.seq (.block 0 (.seq (.region [⟨(some 8), .mv (.tmp 0), none⟩,
  ⟨(some 9), .call 16 [(.tmp 8)], none⟩,
  ⟨(some 7), .mv (.tmp 9), none⟩])
 (.cond (.tmp 7) (.seq (.region [⟨(some 6), .mv (.const (.int .i64 1)), none⟩])
 .ret)
 (.seq (.region [⟨(some 11), .mv (.tmp 0), none⟩,
  ⟨(some 12), .nilCheck (.tmp 11), none⟩,
  ⟨(some 13), .fieldAddr 8 (.tmp 12), none⟩,
  ⟨(some 14), .load1 (.tmp 13), none⟩,
  ⟨(some 10), .mv (.tmp 14), none⟩])
 (.cond (.tmp 10) (.seq (.region [⟨(some 6), .mv (.const (.int .i64 10)), none⟩])
 .ret)
 (.seq (.region [⟨(some 16), .mv (.tmp 1), none⟩,
  ⟨(some 17), .bin .lss (.tmp 16) (.const (.int .i64 0)), none⟩,
  ⟨(some 18), .mv (.tmp 17), none⟩,
  ⟨(some 19), .mv (.tmp 1), (some (18, false))⟩,
  ⟨(some 20), .mv (.tmp 0), (some (18, false))⟩,
  ⟨(some 21), .nilCheck (.tmp 20), (some (18, false))⟩,
  ⟨(some 22), .fieldAddr 0 (.tmp 21), (some (18, false))⟩,
  ⟨(some 23), .fieldAddr 0 (.tmp 22), (some (18, false))⟩,
  ⟨(some 24), .load1 (.tmp 23), (some (18, false))⟩,
  ⟨(some 25), .bin .geq (.tmp 19) (.tmp 24), (some (18, false))⟩,
  ⟨(some 26), .pick (.tmp 18) (.const (.bool true)) (.tmp 25), none⟩,
  ⟨(some 27), .mv (.tmp 26), none⟩,
  ⟨(some 28), .mv (.tmp 2), (some (27, false))⟩,
  ⟨(some 29), .bin .lss (.tmp 28) (.const (.int .i64 0)), (some (27, false))⟩,
  ⟨(some 30), .pick (.tmp 27) (.const (.bool true)) (.tmp 29), none⟩,
  ⟨(some 31), .mv (.tmp 30), none⟩,
  ⟨(some 32), .mv (.tmp 2), (some (31, false))⟩,
  ⟨(some 33), .mv (.tmp 0), (some (31, false))⟩,
  ⟨(some 34), .nilCheck (.tmp 33), (some (31, false))⟩,
  ⟨(some 35), .fieldAddr 0 (.tmp 34), (some (31, false))⟩,
  ⟨(some 36), .fieldAddr 1 (.tmp 35), (some (31, false))⟩,
  ⟨(some 37), .load1 (.tmp 36), (some (31, false))⟩,
  ⟨(some 38), .bin .geq (.tmp 32) (.tmp 37), (some (31, false))⟩,
  ⟨(some 39), .pick (.tmp 31) (.const (.bool true)) (.tmp 38), none⟩,
  ⟨(some 15), .mv (.tmp 39), none⟩])
 (.cond (.tmp 15) (.seq (.region [⟨(some 6), .mv (.const (.int .i64 2)), none⟩])
 .ret)
 .skip)))))))
 (.seq (.region [⟨(some 6), .mv (.const (.int .i64 0)), none⟩])
 .ret))), none, none⟩
def s16 : CFunc := ⟨12, [.tmp 2], (.seq (.region [⟨(some 2), .mv (.const (.bool false)), none⟩])
 (.seq (.region [⟨(some 3), .mv (.tmp 0), none⟩,
  ⟨(some 4), .eqNil false true (.pointer 29) (.tmp 3) (.const (.pointer none)), none⟩,
  ⟨(some 5), .mv (.tmp 4), none⟩,
  ⟨(some 6), .mv (.tmp 0), (some (5, false))⟩,
  ⟨(some 7), .nilCheck (.tmp 6), (some (5, false))⟩,
  ⟨(some 8), .fieldAddr 4 (.tmp 7), (some (5, false))⟩,
  ⟨(some 9), .load1 (.tmp 8), (some (5, false))⟩,
  ⟨(some 10), .eqNil false true (.slice 46) (.tmp 9) (.const (.slice none 0 0)), (some (5, false))⟩,
  ⟨(some 11), .pick (.tmp 5) (.const (.bool true)) (.tmp 10), none⟩,
  ⟨(some 2), .mv (.tmp 11), none⟩])
 .ret)), none, none⟩
def s38 : CFunc := ⟨35, [.tmp 6], (.seq (.region [⟨(some 6), .mv (.const (.slice none 0 0)), none⟩])
 (.seq (.draw [⟨(some 9), .mv (.tmp 2), none⟩,
  ⟨(some 10), .mv (.tmp 0), none⟩,
  ⟨(some 11), .nilCheck (.tmp 10), none⟩,
  ⟨(some 12), .fieldAddr 0 (.tmp 11), none⟩,
  ⟨(some 13), .fieldAddr 2 (.tmp 12), none⟩,
  ⟨(some 14), .load1 (.tmp 13), none⟩,
  ⟨(some 15), .bin .mul (.tmp 9) (.tmp 14), none⟩,
  ⟨(some 16), .mv (.tmp 2), none⟩,
  ⟨(some 17), .bin .add (.tmp 16) (.const (.int .i64 1)), none⟩,
  ⟨(some 18), .mv (.tmp 0), none⟩,
  ⟨(some 19), .nilCheck (.tmp 18), none⟩,
  ⟨(some 20), .fieldAddr 0 (.tmp 19), none⟩,
  ⟨(some 21), .fieldAddr 2 (.tmp 20), none⟩,
  ⟨(some 22), .load1 (.tmp 21), none⟩,
  ⟨(some 23), .bin .mul (.tmp 17) (.tmp 22), none⟩,
  ⟨(some 7), .mv (.tmp 15), none⟩,
  ⟨(some 8), .mv (.tmp 23), none⟩] [])
 (.seq (.region [⟨(some 24), .mv (.tmp 0), none⟩,
  ⟨(some 25), .nilCheck (.tmp 24), none⟩,
  ⟨(some 26), .fieldAddr 4 (.tmp 25), none⟩,
  ⟨(some 27), .load1 (.tmp 26), none⟩,
  ⟨(some 28), .mv (.tmp 1), none⟩,
  ⟨(some 29), .indexAddr 1 (.tmp 27) (.tmp 28), none⟩,
  ⟨(some 30), .load1 (.tmp 29), none⟩,
  ⟨(some 31), .mv (.tmp 7), none⟩,
  ⟨(some 32), .mv (.tmp 8), none⟩,
  ⟨(some 33), .mv (.tmp 8), none⟩,
  ⟨(some 34), .slice 1 (.tmp 30) (some (.tmp 31)) (some (.tmp 32)) (some (.tmp 33)), none⟩,
  ⟨(some 6), .mv (.tmp 34), none⟩])
 .ret))), none, none⟩
def s25 : CFunc := ⟨10, [.cells 2 4], (.seq (.region [⟨(some 2), .alloc [(.int .i64 0), (.int .i64 0), (.int .i64 0), (.int .i64 0)], none⟩])
 (.seq (.seq (.region [⟨(some 3), .mv (.tmp 0), none⟩,
  ⟨(some 4), .call 16 [(.tmp 3)], none⟩])
 (.cond (.tmp 4) (.seq (.region [⟨(some 5), .build #[(.int .i64 0), (.int .i64 0), (.int .i64 0), (.int .i64 0)] [(0, 1), (1, 1), (2, 1), (3, 1)] [], none⟩,
  ⟨none, .store 4 (.tmp 2) (.tmp 5), none⟩])
 .ret)
 .skip))
 (.seq (.region [⟨(some 6), .mv (.tmp 0), none⟩,
  ⟨(some 7), .nilCheck (.tmp 6), none⟩,
  ⟨(some 8), .fieldAddr 0 (.tmp 7), none⟩,
  ⟨(some 9), .loadN 4 (.tmp 8), none⟩,
  ⟨none, .store 4 (.tmp 2) (.tmp 9), none⟩])
 .ret))), none, none⟩
def s19 : CFunc := ⟨8, [.tmp 2], (.seq (.region [⟨(some 2), .mv (.const (.slice none 0 0)), none⟩])
 (.seq (.seq (.region [⟨(some 3), .mv (.tmp 0), none⟩,
  ⟨(some 4), .eqNil false true (.slice 5) (.tmp 3) (.const (.slice none 0 0)), none⟩])
 (.cond (.tmp 4) (.seq (.region [⟨(some 2), .mv (.const (.slice none 0 0)), none⟩])
 .ret)
 .skip))
 (.seq (.region [⟨(some 5), .buildSlice true 1 0 [(.int .u8 0)] [], none⟩,
  ⟨(some 6), .mv (.tmp 0), none⟩,
  ⟨(some 7), .append 1 1 (.tmp 5) (.tmp 6), none⟩,
  ⟨(some 2), .mv (.tmp 7), none⟩])
 .ret))), none, none⟩
def s39 : CFunc := ⟨70, [.cells 2 3, .tmp 3], (.seq (.region [⟨(some 2), .alloc [(.int .u8 0), (.int .u32 0), (.int .u64 0)], none⟩,
  ⟨(some 3), .mv (.const (.int .i64 0)), none⟩])
 (.seq (.region [⟨(some 18), .mv (.tmp 0), none⟩,
  ⟨(some 19), .call 45 [(.tmp 18)], none⟩,
  ⟨(some 17), .mv (.tmp 19), none⟩,
  ⟨(some 20), .extract (.tmp 17) 0, none⟩,
  ⟨(some 21), .extract (.tmp 17) 1, none⟩,
  ⟨(some 22), .extract (.tmp 17) 2, none⟩,
  ⟨(some 4), .mv (.tmp 20), none⟩,
  ⟨(some 5), .mv (.tmp 21), none⟩,
  ⟨(some 6), .mv (.tmp 22), none⟩])
 (.seq (.seq (.region [⟨(some 23), .mv (.tmp 6), none⟩,
  ⟨(some 24), .bin .neq (.tmp 23) (.const (.int .i64 0)), none⟩])
 (.cond (.tmp 24) (.seq (.region [⟨(some 25), .build #[(.int .u8 0), (.int .u32 0), (.int .u64 0)] [(0, 1), (1, 1), (2, 1)] [], none⟩,
  ⟨(some 26), .mv (.tmp 6), none⟩,
  ⟨none, .store 3 (.tmp 2) (.tmp 25), none⟩,
  ⟨(some 3), .mv (.tmp 26), none⟩])
 .ret)
 .skip))
 (.seq (.region [⟨(some 27), .mv (.tmp 5), none⟩,
  ⟨(some 28), .call 57 [(.tmp 27)], none⟩,
  ⟨(some 7), .mv (.tmp 28), none⟩])
 (.seq (.region [⟨(some 30), .mv (.tmp 7), none⟩,
  ⟨(some 31), .call 58 [(.tmp 30), (.const (.int .i64 1))], none⟩,
  ⟨(some 29), .mv (.tmp 31), none⟩,
  ⟨(some 32), .extract (.tmp 29) 0, none⟩,
  ⟨(some 33), .extract (.tmp 29) 1, none⟩,
  ⟨(some 8), .mv (.tmp 32), none⟩,
  ⟨(some 9), .mv (.tmp 33), none⟩])
 (.seq (.region [⟨(some 35), .mv (.tmp 7), none⟩,
  ⟨(some 36), .call 58 [(.tmp 35), (.const (.int .i64 4))], none⟩,
  ⟨(some 34), .mv (.tmp 36), none⟩,
  ⟨(some 37), .extract (.tmp 34) 0, none⟩,
  ⟨(some 38), .extract (.tmp 34) 1, none⟩,
  ⟨(some 10), .mv (.tmp 37), none⟩,
  ⟨(some 11), .mv (.tmp 38), none⟩])
 (.seq (.region [⟨(some 40), .mv (.tmp 7), none⟩,
  ⟨(some 41), .call 58 [(.tmp 40), (.const (.int .i64 8))], none⟩,
  ⟨(some 39), .mv (.tmp 41), none⟩,
  ⟨(some 42), .extract (.tmp 39) 0, none⟩,
  ⟨(some 43), .extract (.tmp 39) 1, none⟩,
  ⟨(some 12), .mv (.tmp 42), none⟩,
  ⟨(some 13), .mv (.tmp 43), none⟩])
 (.seq (.region [⟨(some 44), .mv (.tmp 8), none⟩,
  ⟨(some 45), .toInt .u8 (.tmp 44), none⟩,
  ⟨(some 46), .mv (.tmp 10), none⟩,
  ⟨(some 47), .toInt .u32 (.tmp 46), none⟩,
  ⟨(some 48), .mv (.tmp 12), none⟩,
  ⟨(some 49), .build #[(.int .u8 0), (.int .u32 0), (.int .u64 0)] [(0, 1), (1, 1), (2, 1)] [(0, (.tmp 45)), (1, (.tmp 47)), (2, (.tmp 48))], none⟩,
  ⟨(some 14), .alloc [(.int .u8 0), (.int .u32 0), (.int .u64 0)], none⟩,
  ⟨none, .store 3 (.tmp 14) (.tmp 49), none⟩])
 (.seq (.seq (.region [⟨(some 51), .mv (.tmp 0), none⟩,
  ⟨(some 52), .len (.slice 5) (.tmp 51), none⟩,
  ⟨(some 53), .loadN 3 (.tmp 14), none⟩,
  ⟨(some 54), .call 59 [(.tmp 52), (.tmp 53)], none⟩,
  ⟨(some 50), .mv (.tmp 54), none⟩,
  ⟨(some 55), .extract (.tmp 50) 0, none⟩,
  ⟨(some 56), .extract (.tmp 50) 1, none⟩,
  ⟨(some 15), .mv (.tmp 55), none⟩,
  ⟨(some 16), .mv (.tmp 56), none⟩])
 (.seq (.region [⟨(some 57), .mv (.tmp 16), none⟩,
  ⟨(some 58), .bin .neq (.tmp 57) (.const (.int .i64 0)), none⟩,
  ⟨(some 59), .mv (.tmp 58), none⟩,
  ⟨(some 60), .mv (.tmp 4), (some (59, false))⟩,
  ⟨(some 61), .bin .neq (.tmp 60) (.const (.int .u8 1)), (some (59, false))⟩,
  ⟨(some 62), .pick (.tmp 59) (.const (.bool true)) (.tmp 61), none⟩,
  ⟨(some 63), .mv (.tmp 62), none⟩,
  ⟨(some 64), .mv (.tmp 5), (some (63, false))⟩,
  ⟨(some 65), .len (.slice 5) (.tmp 64), (some (63, false))⟩,
  ⟨(some 66), .bin .neq (.tmp 65) (.const (.int .i64 13)), (some (63, false))⟩,
  ⟨(some 67), .pick (.tmp 63) (.const (.bool true)) (.tmp 66), none⟩])
 (.cond (.tmp 67) (.seq (.region [⟨(some 68), .build #[(.int .u8 0), (.int .u32 0), (.int .u64 0)] [(0, 1), (1, 1), (2, 1)] [], none⟩,
  ⟨none, .store 3 (.tmp 2) (.tmp 68), none⟩,
  ⟨(some 3), .mv (.const (.int .i64 5)), none⟩])
 .ret)
 .skip)))
 (.seq (.region [⟨(some 69), .loadN 3 (.tmp 14), none⟩,
  ⟨none, .store 3 (.tmp 2) (.tmp 69), none⟩,
  ⟨(some 3), .mv (.const (.int .i64 0)), none⟩])
 .ret)))))))))), none, none⟩
def s45 : CFunc := ⟨75, [.tmp 2, .tmp 3, .tmp 4], (.seq (.region [⟨(some 2), .mv (.const (.int .u8 0)), none⟩,
  ⟨(some 3), .mv (.const (.slice none 0 0)), none⟩,
  ⟨(some 4), .mv (.const (.int .i64 0)), none⟩])
 (.seq (.block 0 (.seq (.region [⟨(some 14), .mv (.tmp 0), none⟩,
  ⟨(some 15), .len (.slice 5) (.tmp 14), none⟩,
  ⟨(some 16), .call 61 [(.tmp 15)], none⟩,
  ⟨(some 17), .un .not (.tmp 16), none⟩,
  ⟨(some 13), .mv (.tmp 17), none⟩])
 (.cond (.tmp 13) (.seq (.region [⟨(some 2), .mv (.const (.int .u8 0)), none⟩,
  ⟨(some 3), .mv (.const (.slice none 0 0)), none⟩,
  ⟨(some 4), .mv (.const (.int .i64 2)), none⟩])
 .ret)
 (.seq (.region [⟨(some 19), .mv (.tmp 0), none⟩,
  ⟨(some 20), .call 40 [(.tmp 19)], none⟩,
  ⟨(some 18), .mv (.tmp 20), none⟩])
 (.cond (.tmp 18) (.seq (.region [⟨(some 2), .mv (.const (.int .u8 0)), none⟩,
  ⟨(some 3), .mv (.const (.slice none 0 0)), none⟩,
  ⟨(some 4), .mv (.const (.int .i64 6)), none⟩])
 .ret)
 .skip)))))
 (.seq (.region [⟨(some 21), .mv (.tmp 0), none⟩,
  ⟨(some 22), .slice 1 (.tmp 21) none (some (.const (.int .i64 5))) (some (.const (.int .i64 5))), none⟩,
  ⟨(some 23), .call 57 [(.tmp 22)], none⟩,
  ⟨(some 5), .mv (.tmp 23), none⟩])
 (.seq (.region [⟨(some 25), .mv (.tmp 5), none⟩,
  ⟨(some 26), .call 58 [(.tmp 25), (.const (.int .i64 2))], none⟩,
  ⟨(some 24), .mv (.tmp 26), none⟩,
  ⟨(some 27), .extract (.tmp 24) 0, none⟩,
  ⟨(some 28), .extract (.tmp 24) 1, none⟩,
  ⟨(some 6), .mv (.tmp 27), none⟩,
  ⟨(some 7), .mv (.tmp 28), none⟩])
 (.seq (.seq (.region [⟨(some 29), .mv (.tmp 6), none⟩,
  ⟨(some 30), .toInt .i64 (.tmp 29), none⟩,
  ⟨(some 31), .mv (.tmp 0), none⟩,
  ⟨(some 32), .slice 1 (.tmp 31) (some (.const (.int .i64 2))) none none, none⟩,
  ⟨(some 33), .call 62 [(.tmp 32)], none⟩,
  ⟨(some 34), .bin .neq (.tmp 30) (.tmp 33), none⟩])
 (.cond (.tmp 34) (.seq (.region [⟨(some 2), .mv (.const (.int .u8 0)), none⟩,
  ⟨(some 3), .mv (.const (.slice none 0 0)), none⟩,
  ⟨(some 4), .mv (.const (.int .i64 7)), none⟩])
 .ret)
 .skip))
 (.seq (.region [⟨(some 36), .mv (.tmp 5), none⟩,
  ⟨(some 37), .call 58 [(.tmp 36), (.const (.int .i64 1))], none⟩,
  ⟨(some 35), .mv (.tmp 37), none⟩,
  ⟨(some 38), .extract (.tmp 35) 0, none⟩,
  ⟨(some 39), .extract (.tmp 35) 1, none⟩,
  ⟨(some 8), .mv (.tmp 38), none⟩,
  ⟨(some 9), .mv (.tmp 39), none⟩])
 (.seq (.region [⟨(some 41), .mv (.tmp 5), none⟩,
  ⟨(some 42), .call 58 [(.tmp 41), (.const (.int .i64 2))], none⟩,
  ⟨(some 40), .mv (.tmp 42), none⟩,
  ⟨(some 43), .extract (.tmp 40) 0, none⟩,
  ⟨(some 44), .extract (.tmp 40) 1, none⟩,
  ⟨(some 10), .mv (.tmp 43), none⟩,
  ⟨(some 11), .mv (.tmp 44), none⟩])
 (.seq (.region [⟨(some 45), .mv (.tmp 10), none⟩,
  ⟨(some 46), .toInt .i64 (.tmp 45), none⟩,
  ⟨(some 12), .mv (.tmp 46), none⟩])
 (.seq (.seq (.region [⟨(some 47), .mv (.tmp 8), none⟩,
  ⟨(some 48), .bin .lss (.tmp 47) (.const (.int .u64 1)), none⟩,
  ⟨(some 49), .mv (.tmp 48), none⟩,
  ⟨(some 50), .mv (.tmp 8), (some (49, false))⟩,
  ⟨(some 51), .bin .gtr (.tmp 50) (.const (.int .u64 7)), (some (49, false))⟩,
  ⟨(some 52), .pick (.tmp 49) (.const (.bool true)) (.tmp 51), none⟩,
  ⟨(some 53), .mv (.tmp 52), none⟩,
  ⟨(some 54), .mv (.tmp 12), (some (53, false))⟩,
  ⟨(some 55), .mv (.tmp 0), (some (53, false))⟩,
  ⟨(some 56), .len (.slice 5) (.tmp 55), (some (53, false))⟩,
  ⟨(some 57), .call 63 [(.tmp 56)], (some (53, false))⟩,
  ⟨(some 58), .bin .gtr (.tmp 54) (.tmp 57), (some (53, false))⟩,
  ⟨(some 59), .pick (.tmp 53) (.const (.bool true)) (.tmp 58), none⟩,
  ⟨(some 60), .mv (.tmp 59), none⟩,
  ⟨(some 61), .mv (.tmp 0), (some (60, false))⟩,
  ⟨(some 62), .mv (.tmp 12), (some (60, false))⟩,
  ⟨(some 63), .bin .add (.const (.int .i64 5)) (.tmp 62), (some (60, false))⟩,
  ⟨(some 64), .slice 1 (.tmp 61) (some (.tmp 63)) none none, (some (60, false))⟩,
  ⟨(some 65), .call 40 [(.tmp 64)], (some (60, false))⟩,
  ⟨(some 66), .un .not (.tmp 65), (some (60, false))⟩,
  ⟨(some 67), .pick (.tmp 60) (.const (.bool true)) (.tmp 66), none⟩])
 (.cond (.tmp 67) (.seq (.region [⟨(some 2), .mv (.const (.int .u8 0)), none⟩,
  ⟨(some 3), .mv (.const (.slice none 0 0)), none⟩,
  ⟨(some 4), .mv (.const (.int .i64 5)), none⟩])
 .ret)
 .skip))
 (.seq (.region [⟨(some 68), .mv (.tmp 8), none⟩,
  ⟨(some 69), .toInt .u8 (.tmp 68), none⟩,
  ⟨(some 70), .mv (.tmp 0), none⟩,
  ⟨(some 71), .mv (.tmp 12), none⟩,
  ⟨(some 72), .bin .add (.const (.int .i64 5)) (.tmp 71), none⟩,
  ⟨(some 73), .slice 1 (.tmp 70) (some (.const (.int .i64 5))) (some (.tmp 72)) none, none⟩,
  ⟨(some 74), .append 1 1 (.const (.slice none 0 0)) (.tmp 73), none⟩,
  ⟨(some 2), .mv (.tmp 69), none⟩,
  ⟨(some 3), .mv (.tmp 74), none⟩,
  ⟨(some 4), .mv (.const (.int .i64 0)), none⟩])
 .ret)))))))))), none, none⟩
def s61 : CFunc := ⟨9, [.tmp 2], (.seq (.region [⟨(some 2), .mv (.const (.bool false)), none⟩])
 (.seq (.region [⟨(some 3), .mv (.tmp 0), none⟩,
  ⟨(some 4), .bin .geq (.tmp 3) (.const (.int .i64 128)), none⟩,
  ⟨(some 5), .mv (.tmp 4), none⟩,
  ⟨(some 6), .mv (.tmp 0), (some (5, true))⟩,
  ⟨(some 7), .bin .leq (.tmp 6) (.const (.int .i64 256)), (some (5, true))⟩,
  ⟨(some 8), .pick (.tmp 5) (.tmp 7) (.const (.bool false)), none⟩,
  ⟨(some 2), .mv (.tmp 8), none⟩])
 .ret)), none, none⟩

end
end Go.Ads
namespace Go.Ads
noncomputable section

/- Is a row blank. -/
theorem blank_round (E : Env) (H : AH) (b off n cap len x lo : Nat) (ro : Bool) (k : Nat) (g4 g8 g9 g10 g11 g12 g13 : Value) (hb : H.get b = some (.bytes len x lo ro)) (hle : off + n ≤ len) (hk : k < n) (hn : n < 2^62) (h255 : nbyte x (off + k) = 255) (m : Nat) :
  exec E (m + 20) s40b0 [.slice (some ⟨b, off, none⟩) n cap, undef, .bool false, undef, g4, .slice (some ⟨b, off, none⟩) n cap, .int .i64 n, .int .i64 k, g8, g9, g10, g11, g12, g13] H = 
   some (.normal, [.slice (some ⟨b, off, none⟩) n cap, undef, .bool false, undef, .int .u8 255, .slice (some ⟨b, off, none⟩) n cap, .int .i64 n, .int .i64 ((k+1 : Nat) : Int), .bool true, .pointer (some ⟨b, off+k, none⟩), .int .u8 255, .int .u8 255, .bool false, .int .i64 ((k+1 : Nat) : Int)], H) := by
  unfold s40b0
  have hw : IntKind.i64.wrap ((k : Int) + 1) = (k : Int) + 1 := wrap_id (by omega) (by omega)
  have hlt : off + k < len := by omega
  simp [exec_skip, exec_ret, exec_exit, exec_region, exec_drawP, exec_seq, exec_cond, exec_block, ops_nil, ops_go, ops_if, o_mv, o_pick, o_alloc, o_build, o_nilCheck, o_bin, o_eqNil, o_un, o_toInt, o_slice, o_field, o_indexAddr, o_indexS, o_extract, o_len, o_buildSlice, o_append, o_load1, o_loadN, o_store, o_fieldAddr, o_call, COp.isAlloc, valOut, withH, noVal, guarded, aeval, aput, bin_lss, bin_leq, bin_gtr, bin_geq, bin_eql, bin_neq, bin_add, bin_sub, indexAddr_nat, add_addr, len_slice, alen_slice, cell_bytes, byteV, hk, hb, h255, hw, hlt]
theorem blank_hit (E : Env) (H : AH) (b off n cap len x lo : Nat) (ro : Bool) (k : Nat) (g4 g8 g9 g10 g11 g12 g13 : Value) (hb : H.get b = some (.bytes len x lo ro)) (hle : off + n ≤ len) (hk : k < n) (h255 : nbyte x (off + k) ≠ 255) (m : Nat) :
  ∃ t, exec E (m + 20) s40b0 [.slice (some ⟨b, off, none⟩) n cap, undef, .bool false, undef, g4, .slice (some ⟨b, off, none⟩) n cap, .int .i64 n, .int .i64 k, g8, g9, g10, g11, g12, g13] H = 
   some (.ret, t, H) ∧ t.getD 2 undef = .bool false := by
  unfold s40b0
  have hlt : off + k < len := by omega
  have h2 : ¬ ((nbyte x (off + k) : Nat) : Int) = 255 := by omega
  simp [exec_skip, exec_ret, exec_exit, exec_region, exec_drawP, exec_seq, exec_cond, exec_block, ops_nil, ops_go, ops_if, o_mv, o_pick, o_alloc, o_build, o_nilCheck, o_bin, o_eqNil, o_un, o_toInt, o_slice, o_field, o_indexAddr, o_indexS, o_extract, o_len, o_buildSlice, o_append, o_load1, o_loadN, o_store, o_fieldAddr, o_call, COp.isAlloc, valOut, withH, noVal, guarded, aeval, aput, bin_lss, bin_leq, bin_gtr, bin_geq, bin_eql, bin_neq, bin_add, bin_sub, indexAddr_nat, add_addr, len_slice, alen_slice, cell_bytes, byteV, hk, hb, h2, hlt]
theorem blank_end (E : Env) (H : AH) (b off n cap : Nat) (g4 g8 g9 g10 g11 g12 g13 : Value) (m : Nat) :
  ∃ t, exec E (m + 20) s40b0 [.slice (some ⟨b, off, none⟩) n cap, undef, .bool false, undef, g4, .slice (some ⟨b, off, none⟩) n cap, .int .i64 n, .int .i64 n, g8, g9, g10, g11, g12, g13] H = 
   some (.exit 0, t, H) ∧ t.length = 14 := by
  unfold s40b0
  simp [exec_skip, exec_ret, exec_exit, exec_region, exec_drawP, exec_seq, exec_cond, exec_block, ops_nil, ops_go, ops_if, o_mv, o_pick, o_alloc, o_build, o_nilCheck, o_bin, o_eqNil, o_un, o_toInt, o_slice, o_field, o_indexAddr, o_indexS, o_extract, o_len, o_buildSlice, o_append, o_load1, o_loadN, o_store, o_fieldAddr, o_call, COp.isAlloc, valOut, withH, noVal, guarded, aeval, aput, bin_lss, bin_leq, bin_gtr, bin_geq, bin_eql, bin_neq, bin_add, bin_sub, indexAddr_nat, add_addr, len_slice, alen_slice, cell_bytes, byteV]
theorem blank_loop (E : Env) (H : AH) (b off n cap len x lo : Nat) (ro : Bool) (hb : H.get b = some (.bytes len x lo ro)) (hle : off + n ≤ len) (hn : n < 2^62) :
  ∀ (r m k : Nat) (g4 g8 g9 g10 g11 g12 g13 : Value), k + r = n →
  ∃ t, (((∀ i, k ≤ i → i < n → nbyte x (off + i) = 255) ∧ t.length = 14 ∧ exec E (m + r + 21) s40l0 [.slice (some ⟨b, off, none⟩) n cap, undef, .bool false, undef, g4, .slice (some ⟨b, off, none⟩) n cap, .int .i64 n, .int .i64 k, g8, g9, g10, g11, g12, g13] H = some (.exit 0, t, H)) ∨
    ((¬ ∀ i, k ≤ i → i < n → nbyte x (off + i) = 255) ∧ t.getD 2 undef = .bool false ∧ exec E (m + r + 21) s40l0 [.slice (some ⟨b, off, none⟩) n cap, undef, .bool false, undef, g4, .slice (some ⟨b, off, none⟩) n cap, .int .i64 n, .int .i64 k, g8, g9, g10, g11, g12, g13] H = some (.ret, t, H))) := by
  unfold s40l0
  intro r
  induction r with
  | zero =>
    intro m k g4 g8 g9 g10 g11 g12 g13 hk
    have : k = n := by omega
    subst this
    obtain ⟨t, h, hl⟩ := blank_end E H b off k cap g4 g8 g9 g10 g11 g12 g13 m
    exact ⟨t, .inl ⟨fun i _ _ => by omega, hl, by rw [exec_loop, h]⟩⟩
  | succ r ih =>
    intro m k g4 g8 g9 g10 g11 g12 g13 hk
    by_cases hff : nbyte x (off + k) = 255
    · have h := blank_round E H b off n cap len x lo ro k g4 g8 g9 g10 g11 g12 g13 hb hle (by omega) hn hff (m + r + 1)
      obtain ⟨t, ht⟩ := ih m (k + 1) (.int .u8 255) (.bool true) (.pointer (some ⟨b, off+k, none⟩)) (.int .u8 255) (.int .u8 255) (.bool false) (.int .i64 ((k+1 : Nat) : Int)) (by omega)
      refine ⟨t, ?_⟩
      have e : m + (r + 1) + 21 = (m + r + 1 + 20) + 1 := by omega
      have e2 : m + r + 21 = m + r + 1 + 20 := by omega
      rw [e2] at ht
      rw [e, exec_loop, h]
      rcases ht with ⟨h1, h2, h3⟩ | ⟨h1, h2, h3⟩
      · exact .inl ⟨fun i hi hn => (Nat.lt_or_ge k i).elim (fun h => h1 i h hn) (fun h => by rw [show i = k by omega]; exact hff), h2, h3⟩
      · exact .inr ⟨fun h => h1 fun i hi => h i (by omega), h2, h3⟩
    · obtain ⟨t, h, hl⟩ := blank_hit E H b off n cap len x lo ro k g4 g8 g9 g10 g11 g12 g13 hb hle (by omega) hff (m + (r + 1))
      exact ⟨t, .inr ⟨fun h => hff (h k (by omega) (by omega)), hl, by rw [exec_loop, h]⟩⟩
theorem blank_ok (E : Env) (H : AH) (b off n cap len x lo : Nat) (ro : Bool) (hc : E.code 40 = some s40) (hs : E.spec 40 = none) (hb : H.get b = some (.bytes len x lo ro)) (hle : off + n ≤ len) (hn : n < 2^62) (m : Nat) :
    callF E (m + n + 40) (.fn 40) [.slice (some ⟨b, off, none⟩) n cap] H = some (.val (.bool (Nat.beq (nslice x off n) (256 ^ n - 1))), H) := by
  obtain ⟨t, ht⟩ := blank_loop E H b off n cap len x lo ro hb hle hn n (m + 14) 0 undef undef undef undef undef undef undef (by omega)
  have e : m + 14 + n + 21 = m + n + 35 := by omega
  rw [e] at ht
  have hb : Nat.beq (nslice x off n) (256 ^ n - 1) = true ↔ (∀ i, 0 ≤ i → i < n → nbyte x (off + i) = 255) := by
    rw [Nat.beq_eq, ff_slice]; simp
  rw [callF_fn hs hc]
  simp only [s40, runFn, leave, finish]
  rcases ht with ⟨h1, h2, h3⟩ | ⟨h1, h2, h3⟩
  · rw [hb.2 h1]
    simp at h3
    simp [exec_skip, exec_ret, exec_exit, exec_region, exec_drawP, exec_seq, exec_cond, exec_block, ops_nil, ops_go, ops_if, o_mv, o_pick, o_alloc, o_build, o_nilCheck, o_bin, o_eqNil, o_un, o_toInt, o_slice, o_field, o_indexAddr, o_indexS, o_extract, o_len, o_buildSlice, o_append, o_load1, o_loadN, o_store, o_fieldAddr, o_call, COp.isAlloc, valOut, withH, noVal, guarded, aeval, aput, bin_lss, bin_leq, bin_gtr, bin_geq, bin_eql, bin_neq, bin_add, bin_sub, indexAddr_nat, add_addr, len_slice, alen_slice, cell_bytes, byteV, h3, runFn, leave, finish, aresults, aresult, tupled, h2]
  · rw [Bool.eq_false_iff.2 fun h => h1 (hb.1 h)]
    simp at h3
    simp at h2
    simp [exec_skip, exec_ret, exec_exit, exec_region, exec_drawP, exec_seq, exec_cond, exec_block, ops_nil, ops_go, ops_if, o_mv, o_pick, o_alloc, o_build, o_nilCheck, o_bin, o_eqNil, o_un, o_toInt, o_slice, o_field, o_indexAddr, o_indexS, o_extract, o_len, o_buildSlice, o_append, o_load1, o_loadN, o_store, o_fieldAddr, o_call, COp.isAlloc, valOut, withH, noVal, guarded, aeval, aput, bin_lss, bin_leq, bin_gtr, bin_geq, bin_eql, bin_neq, bin_add, bin_sub, indexAddr_nat, add_addr, len_slice, alen_slice, cell_bytes, byteV, h3, runFn, leave, finish, aresults, aresult, tupled, h2]

/- Noughts. -/
def popTab : List Nat := [0, 1, 1, 2, 1, 2, 2, 3, 1, 2, 2, 3, 2, 3, 3, 4]
/-- How many bits of a byte are 1. -/
def pop8 (b : Nat) : Nat := popTab.getD (b / 16) 0 + popTab.getD (b % 16) 0
/-- How many bits of so many bytes are 0. -/
def zeros : Nat → Nat → Nat → Nat
  | _, _, 0 => 0
  | x, i, k + 1 => pop8 (255 - nbyte x i) + zeros x (i + 1) k
theorem ones_ok (E : Env) (H : AH) (c : Nat) (hcc : c < 256) (hc : E.code 94 = some s94) (hs : E.spec 94 = none) (m : Nat) :
    callF E (m + 10) (.fn 94) [.int .u8 (c : Int)] H = some (.val (.int .i64 (pop8 c : Nat)), H) := by
  have key : ∀ c : Fin 256, aindexStr s94c0 (.int .u8 (c.1 : Int)) = some (.int .u8 ((pop8 c.1 : Nat) : Int)) := by
    intro c
    have h : ∀ c : Fin 256, (match aindexStr s94c0 (.int .u8 (Int.ofNat c.1)) with | some (.int .u8 (.ofNat n)) => Nat.beq n (pop8 c.1) | _ => false) = true := by decide +kernel
    have h := h c
    split at h
    · rename_i n e
      rw [Nat.beq_eq] at h
      rw [← h]; exact e
    · cases h
  have h := key ⟨c, hcc⟩
  simp only at h
  have hp : ∀ c : Fin 256, pop8 c.1 ≤ 8 := by decide +kernel
  have := hp ⟨c, hcc⟩
  have hw : IntKind.i64.wrap ((pop8 c : Nat) : Int) = (pop8 c : Nat) := wrap_id (by omega) (by simp only at this; omega)
  rw [callF_fn hs hc]
  simp only [s94, runFn, leave, finish]
  simp [exec_skip, exec_ret, exec_exit, exec_region, exec_drawP, exec_seq, exec_cond, exec_block, ops_nil, ops_go, ops_if, o_mv, o_pick, o_alloc, o_build, o_nilCheck, o_bin, o_eqNil, o_un, o_toInt, o_slice, o_field, o_indexAddr, o_indexS, o_extract, o_len, o_buildSlice, o_append, o_load1, o_loadN, o_store, o_fieldAddr, o_call, COp.isAlloc, valOut, withH, noVal, guarded, aeval, aput, bin_lss, bin_leq, bin_gtr, bin_geq, bin_eql, bin_neq, bin_add, bin_sub, indexAddr_nat, add_addr, len_slice, alen_slice, cell_bytes, byteV, h, runFn, leave, finish, aresults, aresult, tupled, atoInt, hw]

theorem xor_u8 {c : Nat} (hc : c < 256) : aun .xor (.int .u8 (c : Int)) = some (.int .u8 ((255 - c : Nat) : Int)) := by
  have h : ∀ c : Fin 256, (match aun .xor (.int .u8 (Int.ofNat c.1)) with | some (.int .u8 (.ofNat n)) => Nat.beq n (255 - c.1) | _ => false) = true := by decide +kernel
  have h := h ⟨c, hc⟩
  split at h
  · rename_i n e
    rw [Nat.beq_eq] at h
    simp only at h
    rw [← h]; exact e
  · cases h
theorem pop8_le {c : Nat} (hc : c < 256) : pop8 c ≤ 8 := by
  have hp : ∀ c : Fin 256, pop8 c.1 ≤ 8 := by decide +kernel
  exact hp ⟨c, hc⟩
theorem zeros_le (x : Nat) : ∀ (k i : Nat), zeros x i k ≤ 8 * k := by
  intro k
  induction k with
  | zero => intro i; simp [zeros]
  | succ k ih =>
    intro i
    have := ih (i + 1)
    have h := pop8_le (c := 255 - nbyte x i) (by omega)
    simp only [zeros]; omega
theorem noughts_round (E : Env) (H : AH) (b off n cap len x lo : Nat) (ro : Bool) (k a : Nat) (g4 g5 g9 g10 g11 g12 g13 g14 g15 g16 g17 g18 : Value) (hc : E.code 94 = some s94) (hs : E.spec 94 = none) (hb : H.get b = some (.bytes len x lo ro)) (hle : off + n ≤ len) (hk : k < n) (hn : n < 2^58) (ha : a ≤ 8 * k) (m : Nat) :
  ∃ h5 h9 h10 h11 h12 h13 h14 h15 h16 h17, exec E (m + 30) s62b0 [.slice (some ⟨b, off, none⟩) n cap, undef, .int .i64 0, .int .i64 a, g4, g5, .slice (some ⟨b, off, none⟩) n cap, .int .i64 n, .int .i64 k, g9, g10, g11, g12, g13, g14, g15, g16, g17, g18] H = 
   some (.normal, [.slice (some ⟨b, off, none⟩) n cap, undef, .int .i64 0, .int .i64 ((a + pop8 (255 - nbyte x (off + k)) : Nat) : Int), g4, h5, .slice (some ⟨b, off, none⟩) n cap, .int .i64 n, .int .i64 ((k+1 : Nat) : Int), h9, h10, h11, h12, h13, h14, h15, h16, h17, g18], H) := by
  unfold s62b0
  have hp := pop8_le (c := 255 - nbyte x (off + k)) (by omega)
  have hw : IntKind.i64.wrap ((k : Int) + 1) = (k : Int) + 1 := wrap_id (by omega) (by omega)
  have hw2 : IntKind.i64.wrap ((a : Int) + (pop8 (255 - nbyte x (off + k)) : Nat)) = ((a + pop8 (255 - nbyte x (off + k)) : Nat) : Int) := by rw [wrap_id (by omega) (by omega)]; simp
  have hlt : off + k < len := by omega
  have hx := xor_u8 (nbyte_lt x (off + k))
  have hcall := fun m => ones_ok E H (255 - nbyte x (off + k)) (by omega) hc hs m
  simp [exec_skip, exec_ret, exec_exit, exec_region, exec_drawP, exec_seq, exec_cond, exec_block, ops_nil, ops_go, ops_if, o_mv, o_pick, o_alloc, o_build, o_nilCheck, o_bin, o_eqNil, o_un, o_toInt, o_slice, o_field, o_indexAddr, o_indexS, o_extract, o_len, o_buildSlice, o_append, o_load1, o_loadN, o_store, o_fieldAddr, o_call, COp.isAlloc, valOut, withH, noVal, guarded, aeval, aput, bin_lss, bin_leq, bin_gtr, bin_geq, bin_eql, bin_neq, bin_add, bin_sub, indexAddr_nat, add_addr, len_slice, alen_slice, cell_bytes, byteV, hk, hb, hw, hw2, hlt, hx, hcall]
theorem noughts_end (E : Env) (H : AH) (b off n cap : Nat) (a : Nat) (g4 g5 g9 g10 g11 g12 g13 g14 g15 g16 g17 g18 : Value) (m : Nat) :
  exec E (m + 30) s62b0 [.slice (some ⟨b, off, none⟩) n cap, undef, .int .i64 0, .int .i64 a, g4, g5, .slice (some ⟨b, off, none⟩) n cap, .int .i64 n, .int .i64 n, g9, g10, g11, g12, g13, g14, g15, g16, g17, g18] H = 
   some (.exit 0, [.slice (some ⟨b, off, none⟩) n cap, undef, .int .i64 0, .int .i64 a, g4, g5, .slice (some ⟨b, off, none⟩) n cap, .int .i64 n, .int .i64 n, .bool false, g10, g11, g12, g13, g14, g15, g16, g17, g18], H) := by
  unfold s62b0
  simp [exec_skip, exec_ret, exec_exit, exec_region, exec_drawP, exec_seq, exec_cond, exec_block, ops_nil, ops_go, ops_if, o_mv, o_pick, o_alloc, o_build, o_nilCheck, o_bin, o_eqNil, o_un, o_toInt, o_slice, o_field, o_indexAddr, o_indexS, o_extract, o_len, o_buildSlice, o_append, o_load1, o_loadN, o_store, o_fieldAddr, o_call, COp.isAlloc, valOut, withH, noVal, guarded, aeval, aput, bin_lss, bin_leq, bin_gtr, bin_geq, bin_eql, bin_neq, bin_add, bin_sub, indexAddr_nat, add_addr, len_slice, alen_slice, cell_bytes, byteV]
theorem noughts_loop (E : Env) (H : AH) (b off n cap len x lo : Nat) (ro : Bool) (hc : E.code 94 = some s94) (hs : E.spec 94 = none) (hb : H.get b = some (.bytes len x lo ro)) (hle : off + n ≤ len) (hn : n < 2^58) :
  ∀ (r m k a : Nat) (g4 g5 g9 g10 g11 g12 g13 g14 g15 g16 g17 g18 : Value), k + r = n → a ≤ 8 * k →
  ∃ h4 h5 h9 h10 h11 h12 h13 h14 h15 h16 h17 h18, exec E (m + r + 31) s62l0 [.slice (some ⟨b, off, none⟩) n cap, undef, .int .i64 0, .int .i64 a, g4, g5, .slice (some ⟨b, off, none⟩) n cap, .int .i64 n, .int .i64 k, g9, g10, g11, g12, g13, g14, g15, g16, g17, g18] H = 
   some (.exit 0, [.slice (some ⟨b, off, none⟩) n cap, undef, .int .i64 0, .int .i64 ((a + zeros x (off + k) r : Nat) : Int), h4, h5, .slice (some ⟨b, off, none⟩) n cap, .int .i64 n, .int .i64 n, h9, h10, h11, h12, h13, h14, h15, h16, h17, h18], H) := by
  unfold s62l0
  intro r
  induction r with
  | zero =>
    intro m k a g4 g5 g9 g10 g11 g12 g13 g14 g15 g16 g17 g18 hk ha
    have : k = n := by omega
    subst this
    exact ⟨g4, g5, .bool false, g10, g11, g12, g13, g14, g15, g16, g17, g18, by rw [exec_loop, noughts_end E H b off k cap a g4 g5 g9 g10 g11 g12 g13 g14 g15 g16 g17 g18 m]; simp [zeros]⟩
  | succ r ih =>
    intro m k a g4 g5 g9 g10 g11 g12 g13 g14 g15 g16 g17 g18 hk ha
    obtain ⟨h5, h9, h10, h11, h12, h13, h14, h15, h16, h17, h⟩ := noughts_round E H b off n cap len x lo ro k a g4 g5 g9 g10 g11 g12 g13 g14 g15 g16 g17 g18 hc hs hb hle (by omega) hn ha (m + r + 1)
    have hp := pop8_le (c := 255 - nbyte x (off + k)) (by omega)
    have ht := ih m (k + 1) (a + pop8 (255 - nbyte x (off + k))) g4 h5 h9 h10 h11 h12 h13 h14 h15 h16 h17 g18 (by omega) (by omega)
    have e : m + (r + 1) + 31 = (m + r + 1 + 30) + 1 := by omega
    have e2 : m + r + 31 = m + r + 1 + 30 := by omega
    rw [e2] at ht
    rw [e, exec_loop, h]
    simp only [zeros]
    rw [← Nat.add_assoc, Nat.add_assoc off k 1]
    exact ht
theorem noughts_ok (E : Env) (H : AH) (b off n cap len x lo : Nat) (ro : Bool) (hc : E.code 62 = some s62) (hs : E.spec 62 = none) (hc' : E.code 94 = some s94) (hs' : E.spec 94 = none) (hb : H.get b = some (.bytes len x lo ro)) (hle : off + n ≤ len) (hn : n < 2^58) (m : Nat) :
    callF E (m + n + 50) (.fn 62) [.slice (some ⟨b, off, none⟩) n cap] H = some (.val (.int .i64 (zeros x off n : Nat)), H) := by
  obtain ⟨h4, h5, h9, h10, h11, h12, h13, h14, h15, h16, h17, h18, ht⟩ := noughts_loop E H b off n cap len x lo ro hc' hs' hb hle hn n (m + 13) 0 0 undef undef undef undef undef undef undef undef undef undef undef undef (by omega) (by omega)
  have e : m + 13 + n + 31 = m + n + 44 := by omega
  rw [e] at ht
  simp at ht
  rw [callF_fn hs hc]
  simp only [s62, runFn, leave, finish]
  simp [exec_skip, exec_ret, exec_exit, exec_region, exec_drawP, exec_seq, exec_cond, exec_block, ops_nil, ops_go, ops_if, o_mv, o_pick, o_alloc, o_build, o_nilCheck, o_bin, o_eqNil, o_un, o_toInt, o_slice, o_field, o_indexAddr, o_indexS, o_extract, o_len, o_buildSlice, o_append, o_load1, o_loadN, o_store, o_fieldAddr, o_call, COp.isAlloc, valOut, withH, noVal, guarded, aeval, aput, bin_lss, bin_leq, bin_gtr, bin_geq, bin_eql, bin_neq, bin_add, bin_sub, indexAddr_nat, add_addr, len_slice, alen_slice, cell_bytes, byteV, ht, runFn, leave, finish, aresults, aresult, tupled]
end
end Go.Ads
namespace Go.Ads
noncomputable section
variable {P : Program} {gs : List Nat}

/-- A row of bytes that a slice shows: its block's number, where it begins, how long it is. -/
def rowOf (v : Value) (H : AH) : Option (Nat × Nat × Nat) :=
  op? (vSl v) (fun p => op? p.1 (fun a => op? (H.get a.block) (fun o => AObj.rec (motive := fun _ => Option (Nat × Nat × Nat)) (fun _ _ _ => none)
    (fun len x _ _ => cond (Nat.ble (Nat.add a.off p.2.1) len && (a.spot.isNone && Nat.ble p.2.1 65536)) (some (x, a.off, p.2.1)) none) (fun _ => none) (fun _ => none) o) none) none) none
theorem rowOf_some {v : Value} {H : AH} {x off n : Nat} (h : rowOf v H = some (x, off, n)) : ∃ b cap len lo ro, v = .slice (some ⟨b, off, none⟩) n cap ∧ H.get b = some (.bytes len x lo ro) ∧ off + n ≤ len ∧ n ≤ 65536 := by
  unfold rowOf at h
  cases v with
  | slice a m c =>
    simp only [vSl, op?] at h
    cases a with
    | none => cases h
    | some a =>
      simp only at h
      cases hg : H.get a.block with
      | none => rw [hg] at h; cases h
      | some o =>
        rw [hg] at h
        cases o with
        | bytes len y lo ro =>
          simp only at h
          cases hb : (Nat.ble (Nat.add a.off m) len && (a.spot.isNone && Nat.ble m 65536)) with
          | false => rw [hb] at h; cases h
          | true =>
            rw [hb] at h
            simp only [cond_true, Option.some.injEq, Prod.mk.injEq] at h
            obtain ⟨rfl, rfl, rfl⟩ := h
            simp only [Bool.and_eq_true, Nat.ble_eq, Option.isNone_iff_eq_none] at hb
            obtain ⟨h1, h2, h3⟩ := hb
            obtain ⟨ab, ao, asp⟩ := a
            simp only at h2; subst h2
            exact ⟨ab, c, len, lo, ro, rfl, hg, h1, h3⟩
        | _ => cases h
  | _ => cases h

/-- The one argument of a function. -/
def arg1 {γ : Type} (args : List Value) (f : Value → Option γ) : Option γ :=
  List.rec (motive := fun _ => Option γ) none (fun v l _ => List.rec (motive := fun _ => Option γ) (f v) (fun _ _ _ => none) l) args
theorem arg1_some {γ : Type} {args : List Value} {f : Value → Option γ} {r : γ} (h : arg1 args f = some r) : ∃ v, args = [v] ∧ f v = some r := by
  cases args with
  | nil => cases h
  | cons v l => cases l with
    | nil => exact ⟨v, rfl, h⟩
    | cons => cases h

def sBlank : Spec := fun args H => arg1 args fun v => op? (rowOf v H) (fun p => some (.bool (Nat.beq (nslice p.1 p.2.1 p.2.2) (256 ^ p.2.2 - 1)), H)) none
def sNoughts : Spec := fun args H => arg1 args fun v => op? (rowOf v H) (fun p => some (.int .i64 (zeros p.1 p.2.1 p.2.2 : Nat), H)) none

def low : List (Nat × CFunc) := [(40, s40), (62, s62), (94, s94)]

theorem op_some {α β : Type} {o : Option α} {f : α → Option β} {r : β} (h : op? o f none = some r) : ∃ x, o = some x ∧ f x = some r := by
  cases o with
  | none => cases h
  | some x => exact ⟨x, rfl, h⟩

theorem blank_law (hm : P.follows .mixedOrders = true) (hl : ∀ x ∈ low, Slow P gs x) : Law P gs (40, sBlank) := by
  refine Law.of_slow (slowEnv_ok (sp := []) hm hl (by simp)) fun args H v H' h => ?_
  obtain ⟨u, rfl, h⟩ := arg1_some h
  obtain ⟨⟨x, off, n⟩, h1, h2⟩ := op_some h
  obtain ⟨b, cap, len, lo, ro, rfl, hb, hle, hn⟩ := rowOf_some h1
  cases h2
  exact ⟨_, blank_ok (slowEnv low []) H b off n cap len x lo ro rfl rfl hb hle (by omega) 0⟩
theorem noughts_law (hm : P.follows .mixedOrders = true) (hl : ∀ x ∈ low, Slow P gs x) : Law P gs (62, sNoughts) := by
  refine Law.of_slow (slowEnv_ok (sp := []) hm hl (by simp)) fun args H v H' h => ?_
  obtain ⟨u, rfl, h⟩ := arg1_some h
  obtain ⟨⟨x, off, n⟩, h1, h2⟩ := op_some h
  obtain ⟨b, cap, len, lo, ro, rfl, hb, hle, hn⟩ := rowOf_some h1
  cases h2
  exact ⟨_, noughts_ok (slowEnv low []) H b off n cap len x lo ro rfl rfl rfl rfl hb hle (by omega) 0⟩
end
end Go.Ads
namespace Go.Ads
noncomputable section
/-- A chip's cells. -/
def chipCells (B Pg Sz : Nat) (sp : Value) (bs : Value) (bad hits since dead deeds : Value) : List Value := [.int .i64 B, .int .i64 Pg, .int .i64 Sz, sp, bs, bad, hits, since, dead, deeds]

theorem off_ok (E : Env) (H : AH) (c B Pg Sz : Nat) (sp : Value) (a : Addr) (bn bc : Nat) (bad hits since dead deeds : Value) (lo : Nat) (ro : Bool) (hc : E.code 16 = some s16) (hs : E.spec 16 = none)
    (hb : H.get c = some (.cells (chipCells B Pg Sz sp (.slice (some a) bn bc) bad hits since dead deeds) lo ro)) (m : Nat) : callF E (m + 10) (.fn 16) [.pointer (some ⟨c, 0, none⟩)] H = some (.val (.bool false), H) := by
  rw [callF_fn hs hc]
  simp only [s16, runFn, leave, finish]
  simp [exec_skip, exec_ret, exec_exit, exec_region, exec_drawP, exec_seq, exec_cond, exec_block, ops_nil, ops_go, ops_if, o_mv, o_pick, o_alloc, o_build, o_nilCheck, o_bin, o_eqNil, o_un, o_toInt, o_slice, o_field, o_indexAddr, o_indexS, o_extract, o_len, o_buildSlice, o_append, o_load1, o_loadN, o_store, o_fieldAddr, o_call, COp.isAlloc, valOut, withH, noVal, guarded, aeval, aput, bin_lss, bin_leq, bin_gtr, bin_geq, bin_eql, bin_neq, bin_add, bin_sub, indexAddr_nat, add_addr, len_slice, alen_slice, cell_bytes, byteV, Value.cells, AObj.put, Chunk.len, oneCells, AH.get_push, AH.get_set, next_push, next_set, anilCheck, apick, aeqNil, nilKind, aextract, evalParts, AObj.cell?, AObj.chunk, Chunk.cells, runFn, leave, finish, aresults, aresult, tupled, hb, chipCells]
theorem ask_ok (E : Env) (H : AH) (c B Pg Sz : Nat) (sp : Value) (a : Addr) (bn bc : Nat) (bad hits since deeds : Value) (lo : Nat) (ro : Bool) (hc : E.code 16 = some s16) (hs : E.spec 16 = none) (hc2 : E.code 20 = some s20) (hs2 : E.spec 20 = none)
    (hb : H.get c = some (.cells (chipCells B Pg Sz sp (.slice (some a) bn bc) bad hits since (.bool false) deeds) lo ro)) (i k : Nat) (hi : i < B) (hk : k < Pg) (m : Nat) : callF E (m + 30) (.fn 20) [.pointer (some ⟨c, 0, none⟩), .int .i64 i, .int .i64 k] H = some (.val (.int .i64 0), H) := by
  have h1 := fun m => off_ok E H c B Pg Sz sp a bn bc bad hits since (.bool false) deeds lo ro hc hs hb m
  rw [callF_fn hs2 hc2]
  simp only [s20, runFn, leave, finish]
  have e1 : ¬ ((i : Int) < 0) := by omega
  have e2 : ¬ ((k : Int) < 0) := by omega
  have e3 : ¬ (B ≤ i) := by omega
  have e4 : ¬ (Pg ≤ k) := by omega
  unfold chipCells at hb
  simp [exec_skip, exec_ret, exec_exit, exec_region, exec_drawP, exec_seq, exec_cond, exec_block, ops_nil, ops_go, ops_if, o_mv, o_pick, o_alloc, o_build, o_nilCheck, o_bin, o_eqNil, o_un, o_toInt, o_slice, o_field, o_indexAddr, o_indexS, o_extract, o_len, o_buildSlice, o_append, o_load1, o_loadN, o_store, o_fieldAddr, o_call, COp.isAlloc, valOut, withH, noVal, guarded, aeval, aput, bin_lss, bin_leq, bin_gtr, bin_geq, bin_eql, bin_neq, bin_add, bin_sub, indexAddr_nat, add_addr, len_slice, alen_slice, cell_bytes, byteV, Value.cells, AObj.put, Chunk.len, oneCells, AH.get_push, AH.get_set, next_push, next_set, anilCheck, apick, aeqNil, nilKind, aextract, evalParts, AObj.cell?, AObj.chunk, Chunk.cells, runFn, leave, finish, aresults, aresult, tupled, hb, h1, e1, e2, e3, e4]
theorem geo_ok (E : Env) (H : AH) (c B Pg Sz : Nat) (spn : Int) (a : Addr) (bn bc : Nat) (bad hits since dead deeds : Value) (lo : Nat) (ro : Bool) (hc : E.code 16 = some s16) (hs : E.spec 16 = none) (hc2 : E.code 25 = some s25) (hs2 : E.spec 25 = none)
    (hb : H.get c = some (.cells (chipCells B Pg Sz (.int .i64 spn) (.slice (some a) bn bc) bad hits since dead deeds) lo ro)) : ∃ H', (∀ m, callF E (m + 30) (.fn 25) [.pointer (some ⟨c, 0, none⟩)] H = some (.val (.agg #[.int .i64 B, .int .i64 Pg, .int .i64 Sz, .int .i64 spn]), H')) ∧ Grow H H' := by
  refine ⟨(H.push (.cells [.int .i64 0, .int .i64 0, .int .i64 0, .int .i64 0] 0 false)).set H.next (.cells [.int .i64 B, .int .i64 Pg, .int .i64 Sz, .int .i64 spn] 0 false), fun m => ?_, Grow.set (Grow.push H _) (Nat.le_refl _) _⟩
  · rw [callF_fn hs2 hc2]
    simp only [s25, runFn, leave, finish]
    have hlt := AH.get_lt hb
    have hne : ¬ c = H.next := by omega
    have hb2 : (H.push (AObj.cells [Value.int IntKind.i64 0, Value.int IntKind.i64 0, Value.int IntKind.i64 0, Value.int IntKind.i64 0] 0 false)).get c = _ := (push_get_old hlt).trans hb
    have h1 := fun m => off_ok E _ c B Pg Sz (.int .i64 spn) a bn bc bad hits since dead deeds lo ro hc hs hb2 m
    unfold chipCells at hb
    simp [exec_skip, exec_ret, exec_exit, exec_region, exec_drawP, exec_seq, exec_cond, exec_block, ops_nil, ops_go, ops_if, o_mv, o_pick, o_alloc, o_build, o_nilCheck, o_bin, o_eqNil, o_un, o_toInt, o_slice, o_field, o_indexAddr, o_indexS, o_extract, o_len, o_buildSlice, o_append, o_load1, o_loadN, o_store, o_fieldAddr, o_call, COp.isAlloc, valOut, withH, noVal, guarded, aeval, aput, bin_lss, bin_leq, bin_gtr, bin_geq, bin_eql, bin_neq, bin_add, bin_sub, indexAddr_nat, add_addr, len_slice, alen_slice, cell_bytes, byteV, Value.cells, AObj.put, Chunk.len, oneCells, AH.get_push, AH.get_set, next_push, next_set, anilCheck, apick, aeqNil, nilKind, aextract, evalParts, AObj.cell?, AObj.chunk, Chunk.cells, runFn, leave, finish, aresults, aresult, tupled, hb, hne, h1]

/-- Where a chip's page lies. -/
structure PageAt (H : AH) (c B Pg Sz : Nat) (spn : Int) (i k : Nat) (d off x : Nat) : Prop where
  at_ : ∃ (bb bo bn bc : Nat) (bad hits since deeds : Value) (lo : Nat) (ro : Bool) (vs : List Value) (lo2 : Nat) (ro2 : Bool) (dn dc len lo3 : Nat) (ro3 : Bool),
    H.get c = some (.cells (chipCells B Pg Sz (.int .i64 spn) (.slice (some ⟨bb, bo, none⟩) bn bc) bad hits since (.bool false) deeds) lo ro) ∧ i < bn ∧ H.get bb = some (.cells vs lo2 ro2) ∧
    vs[bo + i]? = some (.slice (some ⟨d, off, none⟩) dn dc) ∧ H.get d = some (.bytes len x lo3 ro3) ∧ (lo3 = 0 ∨ lo3 = 1) ∧ Pg * Sz ≤ dc ∧ off + Pg * Sz ≤ len
  block : i < B
  page : k < Pg
  size : 0 < Sz
  small : Sz ≤ 256
  few : Pg ≤ 32

theorem page_ok (E : Env) (H : AH) (c B Pg Sz : Nat) (spn : Int) (i k d off x : Nat) (hc : E.code 38 = some s38) (hs : E.spec 38 = none) (h : PageAt H c B Pg Sz spn i k d off x) (m : Nat) :
    callF E (m + 20) (.fn 38) [.pointer (some ⟨c, 0, none⟩), .int .i64 i, .int .i64 k] H = some (.val (.slice (some ⟨d, off + k * Sz, none⟩) Sz Sz), H) := by
  obtain ⟨⟨bb, bo, bn, bc, bad, hits, since, deeds, lo, ro, vs, lo2, ro2, dn, dc, len, lo3, ro3, hb, hi, hbb, hv, hd, hlo, hdc, hlen⟩, hiB, hkP, hSz, hsm, hfew⟩ := h
  have hm : k * Sz ≤ k * 256 := Nat.mul_le_mul (Nat.le_refl _) hsm
  have hle : (k + 1) * Sz ≤ Pg * Sz := Nat.mul_le_mul hkP (Nat.le_refl _)
  have hsub : (k + 1) * Sz - k * Sz = Sz := by rw [Nat.add_mul]; omega
  have hlt : k * Sz < (k + 1) * Sz := by rw [Nat.add_mul]; omega
  have hkb : (k + 1) * Sz ≤ 32 * 256 := Nat.mul_le_mul (by omega) hsm
  have hm1 := mul_i64 k Sz (by omega)
  have hm2 := mul_i64 (k + 1) Sz (by omega)
  have ha := succ_i64 k (by omega)
  have hsl := slice3 (n := dn) (c := dc) (off := off) hd hlo (k * Sz) ((k + 1) * Sz) (by omega) hlt
  rw [hsub] at hsl
  generalize ((k + 1) * Sz) = v at *
  generalize hu : k * Sz = u at *
  generalize ((k + 1 : Nat) : Int) = k1 at *
  rw [callF_fn hs hc]
  simp only [s38, runFn, leave, finish]
  unfold chipCells at hb
  simp [exec_skip, exec_ret, exec_exit, exec_region, exec_drawP, exec_seq, exec_cond, exec_block, ops_nil, ops_go, ops_if, o_mv, o_pick, o_alloc, o_build, o_nilCheck, o_bin, o_eqNil, o_un, o_toInt, o_slice, o_field, o_indexAddr, o_indexS, o_extract, o_len, o_buildSlice, o_append, o_load1, o_loadN, o_store, o_fieldAddr, o_call, COp.isAlloc, valOut, withH, noVal, guarded, aeval, aput, bin_lss, bin_leq, bin_gtr, bin_geq, bin_eql, bin_neq, indexAddr_nat, add_addr, len_slice, alen_slice, cell_bytes, byteV, ha, hm1, hm2, Value.cells, AObj.put, Chunk.len, oneCells, AH.get_push, AH.get_set, next_push, next_set, anilCheck, apick, aeqNil, nilKind, aextract, evalParts, AObj.cell?, AObj.chunk, Chunk.cells, runFn, leave, finish, aresults, aresult, tupled, hb, hi, hbb, hv, hsl]

theorem clone_ok (E : Env) (H : AH) (d off n len x lo : Nat) (ro : Bool) (hc : E.code 19 = some s19) (hs : E.spec 19 = none) (hd : H.get d = some (.bytes len x lo ro)) (hle : off + n ≤ len) (hn : 0 < n) (hr : n < 2 ^ 40) :
    ∀ m, callF E (m + 20) (.fn 19) [.slice (some ⟨d, off, none⟩) n n] H = some (.val (.slice (some ⟨H.next + 1, 0, none⟩) n n), (H.push (.bytes 0 0 0 false)).push (.bytes n (nslice x off n) 1 false)) := by
  intro m
  have hd2 : (H.push (.bytes 0 0 0 false)).get d = _ := (push_get_old (AH.get_lt hd)).trans hd
  have hch := chunk_bytes (c := n) hd2 hle
  have hap := append_fresh (AH.get_push_new H (.bytes 0 0 0 false)) n (nslice x off n) hn hr
  rw [callF_fn hs hc]
  simp only [s19, runFn, leave, finish]
  have hbs : ∀ K, abuildSlice true 1 0 [.int .u8 0] K [] = some (.slice (some ⟨K.next, 0, none⟩) 0 0, K.push (.bytes 0 0 0 false)) := fun K => rfl
  simp [exec_skip, exec_ret, exec_exit, exec_region, exec_drawP, exec_seq, exec_cond, exec_block, ops_nil, ops_go, ops_if, o_mv, o_pick, o_alloc, o_build, o_nilCheck, o_bin, o_eqNil, o_un, o_toInt, o_slice, o_field, o_indexAddr, o_indexS, o_extract, o_len, o_buildSlice, o_append, o_load1, o_loadN, o_store, o_fieldAddr, o_call, COp.isAlloc, valOut, withH, noVal, guarded, aeval, aput, bin_lss, bin_leq, bin_gtr, bin_geq, bin_eql, bin_neq, indexAddr_nat, add_addr, len_slice, alen_slice, cell_bytes, byteV, Value.cells, AObj.put, Chunk.len, oneCells, AH.get_push, AH.get_set, next_push, next_set, anilCheck, apick, aeqNil, nilKind, aextract, evalParts, AObj.cell?, AObj.chunk, Chunk.cells, runFn, leave, finish, aresults, aresult, tupled, hbs, hch, hap]

/-- The codes that reading a page needs. -/
structure ReadEnv (E : Env) : Prop where
  c16 : E.code 16 = some s16
  n16 : E.spec 16 = none
  c20 : E.code 20 = some s20
  n20 : E.spec 20 = none
  c38 : E.code 38 = some s38
  n38 : E.spec 38 = none
  c19 : E.code 19 = some s19
  n19 : E.spec 19 = none
  c26 : E.code 26 = some s26
  n26 : E.spec 26 = none

theorem read_ok (E : Env) (hE : ReadEnv E) (H : AH) (c B Pg Sz : Nat) (spn : Int) (i k d off x : Nat) (h : PageAt H c B Pg Sz spn i k d off x) :
    ∀ m, callF E (m + 50) (.fn 26) [.pointer (some ⟨c, 0, none⟩), .int .i64 i, .int .i64 k] H = some (.val (.tuple #[.slice (some ⟨H.next + 1, 0, none⟩) Sz Sz, .int .i64 0]), (H.push (.bytes 0 0 0 false)).push (.bytes Sz (nslice x (off + k * Sz) Sz) 1 false)) := by
  intro m
  have hp := fun m => page_ok E H c B Pg Sz spn i k d off x hE.c38 hE.n38 h m
  obtain ⟨⟨bb, bo, bn, bc, bad, hits, since, deeds, lo, ro, vs, lo2, ro2, dn, dc, len, lo3, ro3, hb, hi, hbb, hv, hd, hlo, hdc, hlen⟩, hiB, hkP, hSz, hsm, hfew⟩ := h
  have hle : (k + 1) * Sz ≤ Pg * Sz := Nat.mul_le_mul hkP (Nat.le_refl _)
  have hk2 : (k + 1) * Sz = k * Sz + Sz := by rw [Nat.add_mul]; omega
  have ha := fun m => ask_ok E H c B Pg Sz (.int .i64 spn) ⟨bb, bo, none⟩ bn bc bad hits since deeds lo ro hE.c16 hE.n16 hE.c20 hE.n20 hb i k hiB hkP m
  have hcl := fun m => clone_ok E H d (off + k * Sz) Sz len x lo3 ro3 hE.c19 hE.n19 hd (by omega) hSz (by omega) m
  rw [callF_fn hE.n26 hE.c26]
  simp only [s26, runFn, leave, finish]
  simp [exec_skip, exec_ret, exec_exit, exec_region, exec_drawP, exec_seq, exec_cond, exec_block, ops_nil, ops_go, ops_if, o_mv, o_pick, o_alloc, o_build, o_nilCheck, o_bin, o_eqNil, o_un, o_toInt, o_slice, o_field, o_indexAddr, o_indexS, o_extract, o_len, o_buildSlice, o_append, o_load1, o_loadN, o_store, o_fieldAddr, o_call, COp.isAlloc, valOut, withH, noVal, guarded, aeval, aput, bin_lss, bin_leq, bin_gtr, bin_geq, bin_eql, bin_neq, indexAddr_nat, add_addr, len_slice, alen_slice, cell_bytes, byteV, Value.cells, AObj.put, Chunk.len, oneCells, AH.get_push, AH.get_set, next_push, next_set, anilCheck, apick, aeqNil, nilKind, aextract, evalParts, AObj.cell?, AObj.chunk, Chunk.cells, runFn, leave, finish, aresults, aresult, tupled, hp, ha, hcl]

theorem isSize_ok (E : Env) (H : AH) (n : Nat) (h1 : 128 ≤ n) (h2 : n ≤ 256) (hc : E.code 61 = some s61) (hs : E.spec 61 = none) (m : Nat) :
    callF E (m + 10) (.fn 61) [.int .i64 n] H = some (.val (.bool true), H) := by
  have e1 : (128 : Int) ≤ n := by omega
  have e2 : (n : Int) ≤ 256 := by omega
  rw [callF_fn hs hc]
  simp only [s61, runFn, leave, finish]
  simp [exec_skip, exec_ret, exec_exit, exec_region, exec_drawP, exec_seq, exec_cond, exec_block, ops_nil, ops_go, ops_if, o_mv, o_pick, o_alloc, o_build, o_nilCheck, o_bin, o_eqNil, o_un, o_toInt, o_slice, o_field, o_indexAddr, o_indexS, o_extract, o_len, o_buildSlice, o_append, o_load1, o_loadN, o_store, o_fieldAddr, o_call, COp.isAlloc, valOut, withH, noVal, guarded, aeval, aput, bin_lss, bin_leq, bin_gtr, bin_geq, bin_eql, bin_neq, indexAddr_nat, add_addr, len_slice, alen_slice, cell_bytes, byteV, Value.cells, AObj.put, Chunk.len, oneCells, AH.get_push, AH.get_set, next_push, next_set, anilCheck, apick, aeqNil, nilKind, aextract, evalParts, AObj.cell?, AObj.chunk, Chunk.cells, runFn, leave, finish, aresults, aresult, tupled, e1, e2]

structure HeadEnv (E : Env) : Prop where
  c61 : E.code 61 = some s61
  n61 : E.spec 61 = none
  c40 : E.code 40 = some s40
  n40 : E.spec 40 = none
  c45 : E.code 45 = some s45
  n45 : E.spec 45 = none
  c39 : E.code 39 = some s39
  n39 : E.spec 39 = none

theorem get_blank (E : Env) (hE : HeadEnv E) (H : AH) (b off n cap len x lo : Nat) (ro : Bool) (hb : H.get b = some (.bytes len x lo ro)) (hle : off + n ≤ len) (h1 : 128 ≤ n) (h2 : n ≤ 256) (hff : nslice x off n = 256 ^ n - 1) (m : Nat) :
    callF E (m + 400) (.fn 45) [.slice (some ⟨b, off, none⟩) n cap] H = some (.val (.tuple #[.int .u8 0, .slice none 0 0, .int .i64 6]), H) := by
  have hz := fun m => isSize_ok E H n h1 h2 hE.c61 hE.n61 m
  have hbl : ∀ m, callF E (m + 300) (.fn 40) [.slice (some ⟨b, off, none⟩) n cap] H = some (.val (.bool true), H) := by
    intro m
    have := blank_ok E H b off n cap len x lo ro hE.c40 hE.n40 hb hle (by omega) (m + (260 - n))
    rw [hff, show m + (260 - n) + n + 40 = m + 300 by omega] at this
    rw [this, show Nat.beq (256 ^ n - 1) (256 ^ n - 1) = true by rw [Nat.beq_eq]]
  rw [callF_fn hE.n45 hE.c45]
  simp only [s45, runFn, leave, finish]
  have un1 : aun .not (.bool true) = some (.bool false) := rfl
  simp [exec_skip, exec_ret, exec_exit, exec_region, exec_drawP, exec_seq, exec_cond, exec_block, ops_nil, ops_go, ops_if, o_mv, o_pick, o_alloc, o_build, o_nilCheck, o_bin, o_eqNil, o_un, o_toInt, o_slice, o_field, o_indexAddr, o_indexS, o_extract, o_len, o_buildSlice, o_append, o_load1, o_loadN, o_store, o_fieldAddr, o_call, COp.isAlloc, valOut, withH, noVal, guarded, aeval, aput, bin_lss, bin_leq, bin_gtr, bin_geq, bin_eql, bin_neq, indexAddr_nat, add_addr, len_slice, alen_slice, cell_bytes, byteV, Value.cells, AObj.put, Chunk.len, oneCells, AH.get_push, AH.get_set, next_push, next_set, anilCheck, apick, aeqNil, nilKind, aextract, evalParts, AObj.cell?, AObj.chunk, Chunk.cells, runFn, leave, finish, aresults, aresult, tupled, hz, hbl, un1]

theorem head_blank (E : Env) (hE : HeadEnv E) (H : AH) (b off n cap len x lo : Nat) (ro : Bool) (hb : H.get b = some (.bytes len x lo ro)) (hle : off + n ≤ len) (h1 : 128 ≤ n) (h2 : n ≤ 256) (hff : nslice x off n = 256 ^ n - 1) :
    ∃ H', (∀ m, callF E (m + 430) (.fn 39) [.slice (some ⟨b, off, none⟩) n cap] H = some (.val (.tuple #[.agg #[.int .u8 0, .int .u32 0, .int .u64 0], .int .i64 6]), H')) ∧ Grow H H' := by
  refine ⟨(H.push (.cells [.int .u8 0, .int .u32 0, .int .u64 0] 0 false)).set H.next (.cells [.int .u8 0, .int .u32 0, .int .u64 0] 0 false), fun m => ?_, Grow.set (Grow.push H _) (Nat.le_refl _) _⟩
  have hb2 : (H.push (.cells [.int .u8 0, .int .u32 0, .int .u64 0] 0 false)).get b = _ := (push_get_old (AH.get_lt hb)).trans hb
  have hg := fun m => get_blank E hE _ b off n cap len x lo ro hb2 hle h1 h2 hff m
  rw [callF_fn hE.n39 hE.c39]
  simp only [s39, runFn, leave, finish]
  have hbu : abuild #[.int .u8 0, .int .u32 0, .int .u64 0] ([(0, 1), (1, 1), (2, 1)][·]?) [] = some (.agg #[.int .u8 0, .int .u32 0, .int .u64 0]) := rfl
  simp [exec_skip, exec_ret, exec_exit, exec_region, exec_drawP, exec_seq, exec_cond, exec_block, ops_nil, ops_go, ops_if, o_mv, o_pick, o_alloc, o_build, o_nilCheck, o_bin, o_eqNil, o_un, o_toInt, o_slice, o_field, o_indexAddr, o_indexS, o_extract, o_len, o_buildSlice, o_append, o_load1, o_loadN, o_store, o_fieldAddr, o_call, COp.isAlloc, valOut, withH, noVal, guarded, aeval, aput, bin_lss, bin_leq, bin_gtr, bin_geq, bin_eql, bin_neq, indexAddr_nat, add_addr, len_slice, alen_slice, cell_bytes, byteV, Value.cells, AObj.put, Chunk.len, oneCells, AH.get_push, AH.get_set, next_push, next_set, anilCheck, apick, aeqNil, nilKind, aextract, evalParts, AObj.cell?, AObj.chunk, Chunk.cells, runFn, leave, finish, aresults, aresult, tupled, hg, hbu]

theorem frame63 {t : List Value} (h : t.length = 63) : t = [t.getD 0 undef, t.getD 1 undef, t.getD 2 undef, t.getD 3 undef, t.getD 4 undef, t.getD 5 undef, t.getD 6 undef, t.getD 7 undef, t.getD 8 undef, t.getD 9 undef, t.getD 10 undef, t.getD 11 undef, t.getD 12 undef, t.getD 13 undef, t.getD 14 undef, t.getD 15 undef, t.getD 16 undef, t.getD 17 undef, t.getD 18 undef, t.getD 19 undef, t.getD 20 undef, t.getD 21 undef, t.getD 22 undef, t.getD 23 undef, t.getD 24 undef, t.getD 25 undef, t.getD 26 undef, t.getD 27 undef, t.getD 28 undef, t.getD 29 undef, t.getD 30 undef, t.getD 31 undef, t.getD 32 undef, t.getD 33 undef, t.getD 34 undef, t.getD 35 undef, t.getD 36 undef, t.getD 37 undef, t.getD 38 undef, t.getD 39 undef, t.getD 40 undef, t.getD 41 undef, t.getD 42 undef, t.getD 43 undef, t.getD 44 undef, t.getD 45 undef, t.getD 46 undef, t.getD 47 undef, t.getD 48 undef, t.getD 49 undef, t.getD 50 undef, t.getD 51 undef, t.getD 52 undef, t.getD 53 undef, t.getD 54 undef, t.getD 55 undef, t.getD 56 undef, t.getD 57 undef, t.getD 58 undef, t.getD 59 undef, t.getD 60 undef, t.getD 61 undef, t.getD 62 undef] := list_lit h

/-- The frame of 'look', at the head of its loop. -/
structure LookFrame (t : List Value) (p c xb : Nat) (i Pg k : Nat) : Prop where
  len : t.length = 63
  f0 : t.getD 0 undef = .pointer (some ⟨p, 0, none⟩)
  f1 : t.getD 1 undef = .int .i64 i
  f4 : t.getD 4 undef = .pointer (some ⟨xb, 0, none⟩)
  f16 : t.getD 16 undef = .int .i64 Pg
  f17 : t.getD 17 undef = .int .i64 k

theorem look_round (E : Env) (hR : ReadEnv E) (hE : HeadEnv E) (H : AH) (t : List Value) (p c xb B Pg Sz : Nat) (spn : Int) (i k d off x : Nat) (ht : LookFrame t p c xb i Pg k) (h : PageAt H c B Pg Sz spn i k d off x)
    (qs q2 q3 : Value) (lo : Nat) (ro : Bool) (hp : H.get p = some (.cells [.pointer (some ⟨c, 0, none⟩), qs, q2, q3] lo ro)) (h1 : 128 ≤ Sz) (hff : nslice x (off + k * Sz) Sz = 256 ^ Sz - 1) :
    ∃ t' H', (∀ m, exec E (m + 500) s27b0 t H = some (.normal, t', H')) ∧ LookFrame t' p c xb i Pg (k + 1) ∧ Grow H H' := by
  have hrd := read_ok E hR H c B Pg Sz spn i k d off x h
  have hg1 : Grow H ((H.push (.bytes 0 0 0 false)).push (.bytes Sz (nslice x (off + k * Sz) Sz) 1 false)) := (Grow.push _ _).trans (Grow.push _ _)
  have hbnew : ((H.push (.bytes 0 0 0 false)).push (.bytes Sz (nslice x (off + k * Sz) Sz) 1 false)).get (H.next + 1) = some (.bytes Sz (nslice x (off + k * Sz) Sz) 1 false) := AH.get_push_new _ _
  have hsl : nslice (nslice x (off + k * Sz) Sz) 0 Sz = 256 ^ Sz - 1 := by
    rw [hff]; unfold nslice; rw [Nat.pow_zero, Nat.div_one, Nat.mod_eq_of_lt]; exact Nat.sub_lt (Nat.pow_pos (by omega)) (by omega)
  obtain ⟨H2, hhd, hg2⟩ := head_blank E hE _ (H.next + 1) 0 Sz Sz Sz _ 1 false hbnew (by omega) h1 h.small hsl
  have hk : (k : Int) < Pg := by have := h.page; omega
  have hkb := h.page
  have hfew := h.few
  have hk1 : IntKind.i64.wrap ((k : Int) + 1) = (k : Int) + 1 := wrap_id (by omega) (by omega)
  generalize hH1 : ((H.push (.bytes 0 0 0 false)).push (.bytes Sz (nslice x (off + k * Sz) Sz) 1 false)) = H1 at *
  have hg12 := hg1.trans hg2
  have hb2 : H2.get (H.next + 1) = _ := (hg2.2 (H.next + 1) (AH.get_lt hbnew)).trans hbnew
  obtain ⟨H3, hH3⟩ : ∃ H3, (H2.push (.cells [.int .u8 0, .int .u32 0, .int .u64 0] 0 false)).set H2.next (.cells [.int .u8 0, .int .u32 0, .int .u64 0] 0 false) = H3 := ⟨_, rfl⟩
  have hg3 : Grow H2 H3 := by rw [← hH3]; exact Grow.set (Grow.push _ _) (Nat.le_refl _) _
  have hb3 : H3.get (H.next + 1) = _ := hg3.get hb2
  have hbl : ∀ m, callF E (m + 300) (.fn 40) [.slice (some ⟨H.next + 1, 0, none⟩) Sz Sz] H3 = some (.val (.bool true), H3) := by
    intro m
    have := blank_ok E H3 (H.next + 1) 0 Sz Sz Sz _ 1 false hE.c40 hE.n40 hb3 (by omega) (by have := h.small; omega) (m + (260 - Sz))
    rw [hsl, show m + (260 - Sz) + Sz + 40 = m + 300 by have := h.small; omega] at this
    rw [this, show Nat.beq (256 ^ Sz - 1) (256 ^ Sz - 1) = true by rw [Nat.beq_eq]]
  have un1 : aun .not (.bool true) = some (.bool false) := rfl
  obtain ⟨hl, f0, f1, f4, f16, f17⟩ := ht
  suffices hs : ∃ t', (∀ m, exec E (m + 500) s27b0 t H = some (.normal, t', H3)) ∧ LookFrame t' p c xb i Pg (k + 1) by
    obtain ⟨t', h1, h2⟩ := hs
    exact ⟨t', H3, h1, h2, hg12.trans hg3⟩
  rw [frame63 hl, f0, f1, f4, f16, f17]
  unfold s27b0
  obtain ⟨kb, hkz⟩ : ∃ kb, abin .eql (.int .i64 (k : Int)) (.int .i64 0) = some (.bool kb) := ⟨_, bin_eql _ _ _⟩
  have h60 : abin .eql (.int .i64 6) (.int .i64 0) = some (.bool false) := by rw [bin_eql]; rfl
  cases kb with
  | true =>
    simp [exec_skip, exec_ret, exec_exit, exec_region, exec_drawP, exec_seq, exec_cond, exec_block, ops_nil, ops_go, ops_if, o_mv, o_pick, o_alloc, o_build, o_nilCheck, o_bin, o_eqNil, o_un, o_toInt, o_slice, o_field, o_indexAddr, o_indexS, o_extract, o_len, o_buildSlice, o_append, o_load1, o_loadN, o_store, o_fieldAddr, o_call, COp.isAlloc, valOut, withH, noVal, guarded, aeval, aput, bin_lss, bin_leq, bin_gtr, bin_geq, bin_neq, indexAddr_nat, add_addr, len_slice, alen_slice, cell_bytes, byteV, Value.cells, AObj.put, Chunk.len, oneCells, AH.get_push, AH.get_set, next_push, next_set, anilCheck, apick, aeqNil, nilKind, aextract, evalParts, AObj.cell?, AObj.chunk, Chunk.cells, runFn, leave, finish, aresults, aresult, tupled, hk, hp, hrd, hhd, hbl, un1, hH3, bin_add, hk1, hkz, h60]
    exact ⟨rfl, rfl, rfl, rfl, rfl, rfl⟩
  | false =>
    simp [exec_skip, exec_ret, exec_exit, exec_region, exec_drawP, exec_seq, exec_cond, exec_block, ops_nil, ops_go, ops_if, o_mv, o_pick, o_alloc, o_build, o_nilCheck, o_bin, o_eqNil, o_un, o_toInt, o_slice, o_field, o_indexAddr, o_indexS, o_extract, o_len, o_buildSlice, o_append, o_load1, o_loadN, o_store, o_fieldAddr, o_call, COp.isAlloc, valOut, withH, noVal, guarded, aeval, aput, bin_lss, bin_leq, bin_gtr, bin_geq, bin_neq, indexAddr_nat, add_addr, len_slice, alen_slice, cell_bytes, byteV, Value.cells, AObj.put, Chunk.len, oneCells, AH.get_push, AH.get_set, next_push, next_set, anilCheck, apick, aeqNil, nilKind, aextract, evalParts, AObj.cell?, AObj.chunk, Chunk.cells, runFn, leave, finish, aresults, aresult, tupled, hk, hp, hrd, hhd, hbl, un1, hH3, bin_add, hk1, hkz, h60]
    exact ⟨rfl, rfl, rfl, rfl, rfl, rfl⟩

theorem look_end (E : Env) (H : AH) (t : List Value) (p c xb : Nat) (i Pg : Nat) (ht : LookFrame t p c xb i Pg Pg) :
    ∃ t', (∀ m, exec E (m + 500) s27b0 t H = some (.exit 0, t', H)) ∧ LookFrame t' p c xb i Pg Pg := by
  obtain ⟨hl, f0, f1, f4, f16, f17⟩ := ht
  rw [frame63 hl, f0, f1, f4, f16, f17]
  unfold s27b0
  simp [exec_skip, exec_ret, exec_exit, exec_region, exec_drawP, exec_seq, exec_cond, exec_block, ops_nil, ops_go, ops_if, o_mv, o_pick, o_alloc, o_build, o_nilCheck, o_bin, o_eqNil, o_un, o_toInt, o_slice, o_field, o_indexAddr, o_indexS, o_extract, o_len, o_buildSlice, o_append, o_load1, o_loadN, o_store, o_fieldAddr, o_call, COp.isAlloc, valOut, withH, noVal, guarded, aeval, aput, bin_lss, bin_leq, bin_gtr, bin_geq, bin_eql, bin_neq, indexAddr_nat, add_addr, len_slice, alen_slice, cell_bytes, byteV]
  exact ⟨rfl, rfl, rfl, rfl, rfl, rfl⟩

theorem PageAt.to {H : AH} {c B Pg Sz : Nat} {spn : Int} {i k d off x : Nat} (h : PageAt H c B Pg Sz spn i k d off x) {H' : AH} (hg : Grow H H') {k' : Nat} (hk : k' < Pg) : PageAt H' c B Pg Sz spn i k' d off x := by
  obtain ⟨⟨bb, bo, bn, bc, bad, hits, since, deeds, lo, ro, vs, lo2, ro2, dn, dc, len, lo3, ro3, hb, hi, hbb, hv, hd, hlo, hdc, hlen⟩, hiB, hkP, hSz, hsm, hfew⟩ := h
  exact ⟨⟨bb, bo, bn, bc, bad, hits, since, deeds, lo, ro, vs, lo2, ro2, dn, dc, len, lo3, ro3, hg.get hb, hi, hg.get hbb, hv, hg.get hd, hlo, hdc, hlen⟩, hiB, hk, hSz, hsm, hfew⟩

theorem look_loop (E : Env) (hR : ReadEnv E) (hE : HeadEnv E) (p c xb B Pg Sz : Nat) (spn : Int) (i d off x : Nat)
    (qs q2 q3 : Value) (lo : Nat) (ro : Bool) (h1 : 128 ≤ Sz) (hff : ∀ k, k < Pg → nslice x (off + k * Sz) Sz = 256 ^ Sz - 1) :
    ∀ (r k : Nat) (H : AH) (t : List Value), k + r = Pg → LookFrame t p c xb i Pg k → PageAt H c B Pg Sz spn i 0 d off x → H.get p = some (.cells [.pointer (some ⟨c, 0, none⟩), qs, q2, q3] lo ro) →
    ∃ t' H', (∀ m, exec E (m + r + 501) s27l0 t H = some (.exit 0, t', H')) ∧ LookFrame t' p c xb i Pg Pg ∧ Grow H H' := by
  intro r
  unfold s27l0
  induction r with
  | zero =>
    intro k H t hk ht h hp
    have : k = Pg := by omega
    subst this
    obtain ⟨t', hx, hf⟩ := look_end E H t p c xb i k ht
    exact ⟨t', H, fun m => by rw [show m + 0 + 501 = (m + 500) + 1 by omega, exec_loop, hx], hf, Grow.refl H⟩
  | succ r ih =>
    intro k H t hk ht h hp
    obtain ⟨t1, H1, hx, hf, hg⟩ := look_round E hR hE H t p c xb B Pg Sz spn i k d off x ht (h.to (Grow.refl H) (by omega)) qs q2 q3 lo ro hp h1 (hff k (by omega))
    obtain ⟨t2, H2, hx2, hf2, hg2⟩ := ih (k + 1) H1 t1 (by omega) hf (h.to hg h.page) (hg.get hp)
    refine ⟨t2, H2, fun m => ?_, hf2, hg.trans hg2⟩
    rw [show m + (r + 1) + 501 = (m + r + 1 + 500) + 1 by omega, exec_loop, hx]
    have := hx2 m
    rw [show m + r + 501 = m + r + 1 + 500 by omega] at this
    exact this

theorem look_ok (E : Env) (hR : ReadEnv E) (hE : HeadEnv E) (hc : E.code 27 = some s27) (hs : E.spec 27 = none) (hcg : E.code 25 = some s25) (hsg : E.spec 25 = none) (H : AH) (p c B Pg Sz : Nat) (spn : Int) (i d off x : Nat)
    (qb qo qn qc : Nat) (q2 q3 : Value) (lo : Nat) (ro : Bool) (vq : List Value) (loq : Nat) (h1 : 128 ≤ Sz) (hff : ∀ k, k < Pg → nslice x (off + k * Sz) Sz = 256 ^ Sz - 1)
    (h : PageAt H c B Pg Sz spn i 0 d off x) (hp : H.get p = some (.cells [.pointer (some ⟨c, 0, none⟩), .slice (some ⟨qb, qo, none⟩) qn qc, q2, q3] lo ro)) (hq : H.get qb = some (.cells vq loq false)) (hi : i < qn) (hql : qo + i * 4 + 4 ≤ vq.length) :
    ∃ H', (∀ m, callF E (m + 600) (.fn 27) [.pointer (some ⟨p, 0, none⟩), .int .i64 i] H = some (.val (.tuple #[]), H')) ∧ H.next ≤ H'.next ∧
      ∀ b, b < H.next → H'.get b = if b = qb then some (.cells (vq.take (qo + i * 4) ++ ([.int .i64 0, .int .u8 0, .int .u32 0, .int .u64 0] ++ vq.drop (qo + i * 4 + 4))) loq false) else H.get b := by
  obtain ⟨H1, hH1⟩ : ∃ H1, (H.push (.cells [.int .i64 0, .int .u8 0, .int .u32 0, .int .u64 0] 0 false)).set H.next (.cells [.int .i64 0, .int .u8 0, .int .u32 0, .int .u64 0] 0 false) = H1 := ⟨_, rfl⟩
  have hg1 : Grow H H1 := by rw [← hH1]; exact Grow.set (Grow.push _ _) (Nat.le_refl _) _
  have hx1 : H1.get H.next = some (.cells [.int .i64 0, .int .u8 0, .int .u32 0, .int .u64 0] 0 false) := by
    rw [← hH1, set_get_same (AH.get_push_new _ _)]
  have hP1 := h.to hg1 h.page
  have hp1 := hg1.get hp
  obtain ⟨bb, bo, bn, bc, bad, hits, since, deeds, lo4, ro4, _, _, _, _, _, _, _, _, hchip, _⟩ := hP1.at_
  obtain ⟨H2, hgeo, hg2⟩ := geo_ok E H1 c B Pg Sz spn ⟨bb, bo, none⟩ bn bc bad hits since (.bool false) deeds lo4 ro4 hR.c16 hR.n16 hcg hsg hchip
  have hP2 := hP1.to hg2 h.page
  have hp2 := hg2.get hp1
  have hx2 := hg2.get hx1
  obtain ⟨tL, H3, hloop, hfl, hg3⟩ := look_loop E hR hE p c H.next B Pg Sz spn i d off x (.slice (some ⟨qb, qo, none⟩) qn qc) q2 q3 lo ro h1 hff Pg 0 H2
    [.pointer (some ⟨p, 0, none⟩), .int .i64 i, undef, undef, .pointer (some ⟨H.next, 0, none⟩), undef, undef, undef, undef, undef, .agg #[.int .i64 0, .int .u8 0, .int .u32 0, .int .u64 0], .pointer (some ⟨p, 0, none⟩), .pointer (some ⟨p, 0, none⟩), .pointer (some ⟨p, 0, none⟩), .pointer (some ⟨c, 0, none⟩), .agg #[.int .i64 B, .int .i64 Pg, .int .i64 Sz, .int .i64 spn], .int .i64 Pg, .int .i64 0, undef, undef, undef, undef, undef, undef, undef, undef, undef, undef, undef, undef, undef, undef, undef, undef, undef, undef, undef, undef, undef, undef, undef, undef, undef, undef, undef, undef, undef, undef, undef, undef, undef, undef, undef, undef, undef, undef, undef, undef, undef, undef, undef, undef, undef] (by omega) ⟨rfl, rfl, rfl, rfl, rfl, rfl⟩ hP2 hp2
  have hfew := h.few
  have hl' : ∀ m, exec E (m + 540) s27l0 [.pointer (some ⟨p, 0, none⟩), .int .i64 i, undef, undef, .pointer (some ⟨H.next, 0, none⟩), undef, undef, undef, undef, undef, .agg #[.int .i64 0, .int .u8 0, .int .u32 0, .int .u64 0], .pointer (some ⟨p, 0, none⟩), .pointer (some ⟨p, 0, none⟩), .pointer (some ⟨p, 0, none⟩), .pointer (some ⟨c, 0, none⟩), .agg #[.int .i64 B, .int .i64 Pg, .int .i64 Sz, .int .i64 spn], .int .i64 Pg, .int .i64 0, undef, undef, undef, undef, undef, undef, undef, undef, undef, undef, undef, undef, undef, undef, undef, undef, undef, undef, undef, undef, undef, undef, undef, undef, undef, undef, undef, undef, undef, undef, undef, undef, undef, undef, undef, undef, undef, undef, undef, undef, undef, undef, undef, undef, undef] H2 = some (.exit 0, tL, H3) := by
    intro m
    have := hloop (m + (39 - Pg))
    rw [show m + (39 - Pg) + Pg + 501 = m + 540 by omega] at this
    exact this
  obtain ⟨hl, f0, f1, f4, f16, f17⟩ := hfl
  have hlit := frame63 hl
  rw [f0, f1, f4, f16, f17] at hlit
  rw [hlit] at hl'
  have hp3 := hg3.get hp2
  have hx3 := hg3.get hx2
  have hq3 := hg3.get (hg2.get (hg1.get hq))
  have hgg := (hg1.trans hg2).trans hg3
  refine ⟨H3.set qb (.cells (vq.take (qo + i * 4) ++ ([.int .i64 0, .int .u8 0, .int .u32 0, .int .u64 0] ++ vq.drop (qo + i * 4 + 4))) loq false), fun m => ?_, hgg.1, fun b hb => ?_⟩
  · rw [callF_fn hs hc]
    simp only [s27, runFn, leave, finish]
    have hbu : abuild #[.int .i64 0, .int .u8 0, .int .u32 0, .int .u64 0] ([(0, 1), (1, 3)][·]?) [] = some (.agg #[.int .i64 0, .int .u8 0, .int .u32 0, .int .u64 0]) := rfl
    have hix := indexAddr_nat 4 ⟨qb, qo, none⟩ qn qc .i64 i hi
    simp [exec_skip, exec_ret, exec_exit, exec_region, exec_drawP, exec_seq, exec_cond, exec_block, ops_nil, ops_go, ops_if, o_mv, o_pick, o_alloc, o_build, o_nilCheck, o_bin, o_eqNil, o_un, o_toInt, o_slice, o_field, o_indexAddr, o_indexS, o_extract, o_len, o_buildSlice, o_append, o_load1, o_loadN, o_store, o_fieldAddr, o_call, COp.isAlloc, valOut, withH, noVal, guarded, aeval, aput, bin_lss, bin_leq, bin_gtr, bin_geq, bin_eql, bin_neq, indexAddr_nat, add_addr, len_slice, alen_slice, cell_bytes, byteV, Value.cells, AObj.put, Chunk.len, oneCells, AH.get_push, AH.get_set, next_push, next_set, anilCheck, apick, aeqNil, nilKind, aextract, evalParts, AObj.cell?, AObj.chunk, Chunk.cells, runFn, leave, finish, aresults, aresult, tupled, apart, hbu, hH1, hp1, hgeo, hl', hp3, hx3, hq3, hi, hql, List.take_of_length_le]
  · by_cases hbq : b = qb
    · subst hbq
      rw [set_get_same hq3, if_pos rfl]
    · rw [set_get_other hbq, if_neg hbq, hgg.2 b hb]
end
end Go.Ads
namespace Go.Ads
noncomputable section
variable {P : Program} {gs : List Nat}

def lowLook : List (Nat × CFunc) := [(40, s40), (27, s27), (26, s26), (20, s20), (16, s16), (38, s38), (25, s25), (19, s19), (39, s39), (45, s45), (61, s61)]

def isZero (a : Addr) : Bool := Nat.beq a.off 0 && a.spot.isNone
/-- What a pool's block becomes: the end of it. -/
def lookPut (q : Addr) (i : Nat) (H : AH) : Option (Value × AH) :=
  match H.get q.block with
  | some (.cells vq loq false) => bif Nat.ble (q.off + i * 4 + 4) vq.length then some (.tuple #[], H.set q.block (.cells (vq.take (q.off + i * 4) ++ ([.int .i64 0, .int .u8 0, .int .u32 0, .int .u64 0] ++ vq.drop (q.off + i * 4 + 4))) loq false)) else none
  | _ => none
/-- Is a block's memory blank? -/
def lookBlank (Pg Sz : Nat) (v : Value) (H : AH) : Bool :=
  match v with
  | .slice (some d) _ dc => match H.get d.block with
    | some (.bytes len x lo _) => d.spot.isNone && (Nat.ble lo 1 && (Nat.ble (Pg * Sz) dc && (Nat.ble (d.off + Pg * Sz) len && Nat.beq (nslice x d.off (Pg * Sz)) (256 ^ (Pg * Sz) - 1))))
    | _ => false
  | _ => false
/-- Is a chip's block blank, and the chip alive? -/
def lookChip (c i : Nat) (H : AH) : Bool :=
  match H.get c with
  | some (.cells [.int .i64 (.ofNat B), .int .i64 (.ofNat Pg), .int .i64 (.ofNat Sz), .int .i64 _, .slice (some bs) bn _, _, _, _, .bool false, _] _ _) =>
    match H.get bs.block with
    | some (.cells vs _ _) => match vs[bs.off + i]? with
      | some v => bs.spot.isNone && (Nat.blt i bn && (Nat.blt i B && (Nat.blt 0 Pg && (Nat.ble Pg 32 && (Nat.ble 128 Sz && (Nat.ble Sz 256 && lookBlank Pg Sz v H))))))
      | none => false
    | _ => false
  | _ => false
def sLook : Spec := fun args H => match args with
  | [.pointer (some p), .int .i64 (.ofNat i)] => match H.get p.block with
    | some (.cells [.pointer (some c), .slice (some q) qn _, _, _] _ _) => bif isZero p && (isZero c && (q.spot.isNone && (Nat.blt i qn && lookChip c.block i H))) then lookPut q i H else none
    | _ => none
  | _ => none

theorem isZero_eq {a : Addr} (h : isZero a = true) : a = ⟨a.block, 0, none⟩ := by
  obtain ⟨b, o, s⟩ := a
  simp only [isZero, Bool.and_eq_true, Nat.beq_eq, Option.isNone_iff_eq_none] at h
  obtain ⟨rfl, rfl⟩ := h
  rfl
theorem spot_eq {a : Addr} (h : a.spot.isNone = true) : a = ⟨a.block, a.off, none⟩ := by
  obtain ⟨b, o, s⟩ := a
  simp only [Option.isNone_iff_eq_none] at h
  subst h; rfl

theorem lookBlank_some {Pg Sz : Nat} {v : Value} {H : AH} (h : lookBlank Pg Sz v H = true) : ∃ d off dn dc len x lo ro, v = .slice (some ⟨d, off, none⟩) dn dc ∧ H.get d = some (.bytes len x lo ro) ∧ lo ≤ 1 ∧ Pg * Sz ≤ dc ∧ off + Pg * Sz ≤ len ∧ nslice x off (Pg * Sz) = 256 ^ (Pg * Sz) - 1 := by
  unfold lookBlank at h
  split at h
  · rename_i d dn dc
    split at h
    · rename_i len x lo ro hd
      simp only [Bool.and_eq_true, Nat.ble_eq, Nat.beq_eq] at h
      obtain ⟨h1, h2, h3, h4, h5⟩ := h
      exact ⟨d.block, d.off, dn, dc, len, x, lo, ro, by rw [← spot_eq h1], hd, h2, h3, h4, h5⟩
    · cases h
  · cases h

theorem lookChip_some {c i : Nat} {H : AH} (h : lookChip c i H = true) : ∃ B Pg Sz spn d off x, PageAt H c B Pg Sz spn i 0 d off x ∧ 128 ≤ Sz ∧ ∀ k, k < Pg → nslice x (off + k * Sz) Sz = 256 ^ Sz - 1 := by
  unfold lookChip at h
  split at h
  · rename_i B Pg Sz spn bs bn bc bad hits since deeds lo ro hc
    split at h
    · rename_i vs lo2 ro2 hbs
      split at h
      · rename_i v hv
        simp only [Bool.and_eq_true, Nat.ble_eq, Nat.blt_eq] at h
        obtain ⟨h1, h2, h3, h4, h5, h6, h7, h8⟩ := h
        obtain ⟨d, off, dn, dc, len, x, lo3, ro3, rfl, hd, k1, k2, k3, k4⟩ := lookBlank_some h8
        refine ⟨B, Pg, Sz, spn, d, off, x, ⟨⟨bs.block, bs.off, bn, bc, bad, hits, since, deeds, lo, ro, vs, lo2, ro2, dn, dc, len, lo3, ro3, ?_, h2, hbs, hv, hd, by omega, k2, k3⟩, h3, h4, by omega, h7, h5⟩, h6, fun k hk => ?_⟩
        · rw [← spot_eq h1]; exact hc
        · rw [ff_slice] at k4 ⊢
          intro j hj
          have hle : (k + 1) * Sz ≤ Pg * Sz := Nat.mul_le_mul hk (Nat.le_refl _)
          rw [Nat.add_mul] at hle
          rw [Nat.add_assoc]
          exact k4 (k * Sz + j) (by omega)
      · cases h
    · cases h
  · cases h

theorem lookPut_some {q : Addr} {i : Nat} {H : AH} {v : Value} {H2 : AH} (h : lookPut q i H = some (v, H2)) : ∃ vq loq, H.get q.block = some (.cells vq loq false) ∧ q.off + i * 4 + 4 ≤ vq.length ∧ v = .tuple #[] ∧
    H2 = H.set q.block (.cells (vq.take (q.off + i * 4) ++ ([.int .i64 0, .int .u8 0, .int .u32 0, .int .u64 0] ++ vq.drop (q.off + i * 4 + 4))) loq false) := by
  unfold lookPut at h
  split at h
  · rename_i vq loq hq
    cases hb : Nat.ble (q.off + i * 4 + 4) vq.length with
    | false => rw [hb] at h; cases h
    | true =>
      rw [hb] at h
      cases h
      exact ⟨vq, loq, hq, by simpa using hb, rfl, rfl⟩
  · cases h

theorem look_law (hm : P.follows .mixedOrders = true) (hl : ∀ x ∈ lowLook, Slow P gs x) : Law P gs (27, sLook) := by
  intro args H v H2 h
  have hE := slowEnv_ok (sp := []) hm hl (by simp)
  simp only [sLook] at h
  split at h
  · rename_i p i
    split at h
    · rename_i c q qn qc q2 q3 lo ro hp
      cases hb : isZero p && (isZero c && (q.spot.isNone && (Nat.blt i qn && lookChip c.block i H))) with
      | false => rw [hb] at h; cases h
      | true =>
        rw [hb] at h
        simp only [Bool.and_eq_true, Nat.blt_eq] at hb
        obtain ⟨h1, h2, h3, h4, h5⟩ := hb
        obtain ⟨B, Pg, Sz, spn, d, off, x, hP, hSz, hff⟩ := lookChip_some h5
        obtain ⟨vq, loq, hq, hql, rfl, rfl⟩ := lookPut_some h
        rw [isZero_eq h2, spot_eq h3] at hp
        obtain ⟨H', hx, hn, hget⟩ := look_ok (slowEnv lowLook []) ⟨rfl, rfl, rfl, rfl, rfl, rfl, rfl, rfl, rfl, rfl⟩ ⟨rfl, rfl, rfl, rfl, rfl, rfl, rfl, rfl⟩ rfl rfl rfl rfl H p.block c.block B Pg Sz spn i d off x q.block q.off qn qc q2 q3 lo ro vq loq hSz hff hP hp hq h4 hql
        have hx := hx 0
        rw [← isZero_eq h1] at hx
        obtain ⟨hbod, hac⟩ := (exec_sound hE _).call.fn _ _ _ _ _ hx
        refine ⟨hbod, hac.trim ⟨rfl, fun b o hb => ?_, fun b o hb => ?_⟩ rfl⟩
        · have hlt := AH.get_lt hb
          rw [next_set] at hlt
          rw [hget b hlt]
          by_cases hbq : b = q.block
          · subst hbq; rw [set_get_same hq] at hb; rw [if_pos rfl]; exact hb
          · rw [set_get_other hbq] at hb; rw [if_neg hbq]; exact hb
        · by_cases hbq : b = q.block
          · subst hbq
            rw [set_get_same hq] at hb
            cases hb
            refine .inr ⟨rfl, fun v hv => ?_⟩
            simp only [AObj.vals, List.mem_append] at hv
            rcases hv with hv | hv | hv
            · exact .inr (.inl ⟨_, _, hq, List.mem_of_mem_take hv⟩)
            · left
              simp only [List.mem_cons, List.not_mem_nil, or_false] at hv
              rcases hv with rfl | rfl | rfl | rfl <;> rfl
            · exact .inr (.inl ⟨_, _, hq, List.mem_of_mem_drop hv⟩)
          · rw [set_get_other hbq] at hb
            exact .inl hb
    · cases h
  · cases h
end
end Go.Ads
namespace Go.Ads
noncomputable section
theorem erase1_ok (E : Env) (H : AH) (v : Value) (hc : E.code 22 = some s22) (hs : E.spec 22 = none) (m : Nat) : callF E (m + 10) (.fn 22) [v] H = some (.val (.int .u8 255), H) := by
  rw [callF_fn hs hc]
  simp only [s22, runFn, leave, finish]
  simp [exec_skip, exec_ret, exec_exit, exec_region, exec_drawP, exec_seq, exec_cond, exec_block, ops_nil, ops_go, ops_if, o_mv, o_pick, o_alloc, o_build, o_nilCheck, o_bin, o_eqNil, o_un, o_toInt, o_slice, o_field, o_indexAddr, o_indexS, o_extract, o_len, o_buildSlice, o_append, o_load1, o_loadN, o_store, o_fieldAddr, o_call, COp.isAlloc, valOut, withH, noVal, guarded, aeval, aput, bin_lss, bin_leq, bin_gtr, bin_geq, bin_eql, bin_neq, indexAddr_nat, add_addr, len_slice, alen_slice, cell_bytes, byteV, Value.cells, AObj.put, Chunk.len, oneCells, AH.get_push, AH.get_set, next_push, next_set, anilCheck, apick, aeqNil, nilKind, aextract, evalParts, AObj.cell?, AObj.chunk, Chunk.cells, runFn, leave, finish, aresults, aresult, tupled]

theorem andNot_zero {b : Nat} (hb : b < 256) : abin .andNot (.int .u8 (b : Int)) (.int .u8 0) = some (.int .u8 (b : Int)) := by
  have h : ∀ b : Fin 256, (match abin .andNot (.int .u8 (Int.ofNat b.1)) (.int .u8 0) with | some (.int .u8 (.ofNat n)) => Nat.beq n b.1 | _ => false) = true := by decide +kernel
  have h := h ⟨b, hb⟩
  split at h
  · rename_i n e
    rw [Nat.beq_eq] at h
    simp only at h
    subst h; exact e
  · cases h
theorem or_zero {b : Nat} (hb : b < 256) : abin .or (.int .u8 (b : Int)) (.int .u8 0) = some (.int .u8 (b : Int)) := by
  have h : ∀ b : Fin 256, (match abin .or (.int .u8 (Int.ofNat b.1)) (.int .u8 0) with | some (.int .u8 (.ofNat n)) => Nat.beq n b.1 | _ => false) = true := by decide +kernel
  have h := h ⟨b, hb⟩
  split at h
  · rename_i n e
    rw [Nat.beq_eq] at h
    simp only at h
    subst h; exact e
  · cases h

theorem frame71 {t : List Value} (h : t.length = 71) : t = [t.getD 0 undef, t.getD 1 undef, t.getD 2 undef, t.getD 3 undef, t.getD 4 undef, t.getD 5 undef, t.getD 6 undef, t.getD 7 undef, t.getD 8 undef, t.getD 9 undef, t.getD 10 undef, t.getD 11 undef, t.getD 12 undef, t.getD 13 undef, t.getD 14 undef, t.getD 15 undef, t.getD 16 undef, t.getD 17 undef, t.getD 18 undef, t.getD 19 undef, t.getD 20 undef, t.getD 21 undef, t.getD 22 undef, t.getD 23 undef, t.getD 24 undef, t.getD 25 undef, t.getD 26 undef, t.getD 27 undef, t.getD 28 undef, t.getD 29 undef, t.getD 30 undef, t.getD 31 undef, t.getD 32 undef, t.getD 33 undef, t.getD 34 undef, t.getD 35 undef, t.getD 36 undef, t.getD 37 undef, t.getD 38 undef, t.getD 39 undef, t.getD 40 undef, t.getD 41 undef, t.getD 42 undef, t.getD 43 undef, t.getD 44 undef, t.getD 45 undef, t.getD 46 undef, t.getD 47 undef, t.getD 48 undef, t.getD 49 undef, t.getD 50 undef, t.getD 51 undef, t.getD 52 undef, t.getD 53 undef, t.getD 54 undef, t.getD 55 undef, t.getD 56 undef, t.getD 57 undef, t.getD 58 undef, t.getD 59 undef, t.getD 60 undef, t.getD 61 undef, t.getD 62 undef, t.getD 63 undef, t.getD 64 undef, t.getD 65 undef, t.getD 66 undef, t.getD 67 undef, t.getD 68 undef, t.getD 69 undef, t.getD 70 undef] := list_lit h

/-- The frame of 'done', at the head of its loop. -/
structure DoneFrame (t : List Value) (c : Addr) (blk : Value) (d off n cap : Nat) (want : Value) (hb k : Nat) : Prop where
  len : t.length = 71
  f0 : t.getD 0 undef = .pointer (some c)
  f1 : t.getD 1 undef = blk
  f2 : t.getD 2 undef = .slice (some ⟨d, off, none⟩) n cap
  f3 : t.getD 3 undef = want
  f9 : t.getD 9 undef = .pointer (some ⟨hb, 0, none⟩)
  f15 : t.getD 15 undef = .slice (some ⟨d, off, none⟩) n cap
  f16 : t.getD 16 undef = .int .i64 n
  f17 : t.getD 17 undef = .int .i64 k

theorem done_draw (E : Env) (hc : E.code 22 = some s22) (hs : E.spec 22 = none) (H : AH) (t : List Value) (d off n cap k b : Nat) (hl : t.length = 71) (f2 : t.getD 2 undef = .slice (some ⟨d, off, none⟩) n cap) (f3 : t.getD 3 undef = .func (.func 22) #[] #[]) (f10 : t.getD 10 undef = .int .i64 k) (f11 : t.getD 11 undef = .int .u8 0)
    (len x lo : Nat) (hd : H.get d = some (.bytes len x lo false)) (hix : aindexAddr 1 (.slice (some ⟨d, off, none⟩) n cap) (.int .i64 (k : Int)) = some (.pointer (some ⟨d, off + k, none⟩))) (hcell : (AObj.bytes len x lo false).cell? (off + k) = some (.int .u8 (b : Int)))
    (ha : abin .andNot (.int .u8 (b : Int)) (.int .u8 0) = some (.int .u8 (b : Int))) (ho : abin .or (.int .u8 (b : Int)) (.int .u8 0) = some (.int .u8 (b : Int))) (hst : (AObj.bytes len x lo false).put (off + k) (.vals [.int .u8 (b : Int)]) = some (.bytes len x lo false)) (m : Nat) :
      exec E (m + 30) (.draw s21d0 [(5, 10)]) t H = some (.normal, (((((((((((((((t.set 38 (.slice (some ⟨d, off, none⟩) n cap)).set 39 (.int .i64 k)).set 40 (.slice (some ⟨d, off, none⟩) n cap)).set 41 (.int .i64 k)).set 42 (.pointer (some ⟨d, off + k, none⟩))).set 43 (.int .u8 b)).set 44 (.int .u8 0)).set 45 (.int .u8 b)).set 46 (.func (.func 22) #[] #[])).set 47 (.int .i64 k)).set 48 (.int .u8 255)).set 49 (.int .u8 0)).set 50 (.int .u8 0)).set 51 (.int .u8 b)).set 52 (.pointer (some ⟨d, off + k, none⟩))), H.set d (.bytes len x lo false)) := by
  have he := fun m v => erase1_ok E H v hc hs m
  have h255 : abin .and (.int .u8 255) (.int .u8 0) = some (.int .u8 0) := rfl
  have hlit := frame71 hl
  rw [f2, f3, f10, f11] at hlit
  rw [exec_draw]
  have hal : allocsIn s21d0 = 0 := rfl
  simp only [runDraw, hal, AH.reserve]
  have hdr : ∃ t', (∃ es, drawRun (fun g args H => callF E (m + 29) g args H) s21d0 H.next t H = some (es, t', H.set d (.bytes len x lo false)) ∧
      ∃ t5, es[5]? = some (t5, H, .int .u8 b) ∧ aeval t5 (.tmp 42) = .pointer (some ⟨d, off + k, none⟩) ∧ (∃ e, es[10]? = some e ∧ e.2.1 = H) ∧ ∃ e, es[11]? = some e ∧ e.2.1 = H) ∧ t' = (((((((((((((((t.set 38 (.slice (some ⟨d, off, none⟩) n cap)).set 39 (.int .i64 k)).set 40 (.slice (some ⟨d, off, none⟩) n cap)).set 41 (.int .i64 k)).set 42 (.pointer (some ⟨d, off + k, none⟩))).set 43 (.int .u8 b)).set 44 (.int .u8 0)).set 45 (.int .u8 b)).set 46 (.func (.func 22) #[] #[])).set 47 (.int .i64 k)).set 48 (.int .u8 255)).set 49 (.int .u8 0)).set 50 (.int .u8 0)).set 51 (.int .u8 b)).set 52 (.pointer (some ⟨d, off + k, none⟩))) := by
    rw [hlit]
    unfold s21d0
    simp [dr_nil, dr_mv, dr_indexAddr, dr_load1, dr_loadN, dr_bin, dr_callV, dr_call, dr_store, dr_nilCheck, dr_fieldAddr, dr_build, dr_len, dr_extract, dr_slice, dr_field, o_callV, exec_skip, exec_ret, exec_exit, exec_region, exec_drawP, exec_seq, exec_cond, exec_block, ops_nil, ops_go, ops_if, o_mv, o_pick, o_alloc, o_build, o_nilCheck, o_bin, o_eqNil, o_un, o_toInt, o_slice, o_field, o_indexAddr, o_indexS, o_extract, o_len, o_buildSlice, o_append, o_load1, o_loadN, o_store, o_fieldAddr, o_call, COp.isAlloc, valOut, withH, noVal, guarded, aeval, aput, bin_lss, bin_leq, bin_gtr, bin_geq, bin_eql, bin_neq, indexAddr_nat, add_addr, len_slice, alen_slice, cell_bytes, byteV, Value.cells, hd, hix, hcell, ha, ho, hst, he, h255]
  obtain ⟨_, ⟨es, h1, t5, h5, h42, ⟨e1, h10, k1⟩, ⟨e2, h11, k2⟩⟩, rfl⟩ := hdr
  rw [h1]
  have hlen : ∀ (i : Nat) (e : DEnt), es[i]? = some e → ∀ y, (es ++ [y])[i]? = some e := fun i e h y => by
    rw [List.getElem?_append_left]; exact h
    exact (List.getElem?_eq_some_iff.1 h).1
  have hag : ∀ K, K = H → readAgain (fun g args H => callF E (m + 29) g args H) ⟨some 43, .load1 (.tmp 42), none⟩ t5 (.int .u8 b) K = true := by
    intro K hK
    subst hK
    rw [again_by, o_load1, h42]
    simp only [hd, hcell, withH, valOut, veq_int]
  have hp : ∀ y, pairsHold (fun g args H => callF E (m + 29) g args H) s21d0 (es ++ [y]) [(5, 10)] = true := fun y => pairs_cons _ _ _ 5 10 [] (c := ⟨some 43, .load1 (.tmp 42), none⟩) rfl (hlen 5 _ h5 y) (hlen 10 _ h10 y) (hlen 11 _ h11 y) (hag _ k1) (hag _ k2) (pairs_nil _ _ _)
  simp only [hp, if_true]

theorem done_round (E : Env) (hc : E.code 22 = some s22) (hs : E.spec 22 = none) (H : AH) (t : List Value) (c : Addr) (blk : Value) (d off n cap : Nat) (hb k : Nat) (ht : DoneFrame t c blk d off n cap (.func (.func 22) #[] #[]) hb k)
    (len x lo : Nat) (hd : H.get d = some (.bytes len x lo false)) (hle : off + n ≤ len) (hk : k < n) (hn : n < 2 ^ 40) (af fl : Value) (ma : Option Addr) (mc loh : Nat) (roh : Bool) (hh : H.get hb = some (.cells [af, fl, .slice ma 0 mc] loh roh)) :
    ∃ t', (∀ m, exec E (m + 60) s21b1 t H = some (.normal, t', H.set d (.bytes len x lo false))) ∧ DoneFrame t' c blk d off n cap (.func (.func 22) #[] #[]) hb (k + 1) := by
  have hlt : off + k < len := by omega
  have hby := nbyte_lt x (off + k)
  have hkn : (k : Int) < n := by omega
  have hk1 : IntKind.i64.wrap ((k : Int) + 1) = (k : Int) + 1 := wrap_id (by omega) (by omega)
  have ha := andNot_zero hby
  have ho := or_zero hby
  have h255 : abin .and (.int .u8 255) (.int .u8 0) = some (.int .u8 0) := rfl
  have hst := store_byte len x lo (off + k) (nbyte x (off + k)) (by omega) hby
  rw [nput_same] at hst
  have hcell : (AObj.bytes len x lo false).cell? (off + k) = some (.int .u8 ((nbyte x (off + k) : Nat) : Int)) := cell_bytes len x lo false (off + k) hlt
  generalize nbyte x (off + k) = b at *
  obtain ⟨hl, f0, f1, f2, f3, f9, f15, f16, f17⟩ := ht
  rw [frame71 hl, f0, f1, f2, f3, f9, f15, f16, f17]
  have hix : aindexAddr 1 (.slice (some ⟨d, off, none⟩) n cap) (.int .i64 (k : Int)) = some (.pointer (some ⟨d, off + k, none⟩)) := by
    rw [indexAddr_nat 1 ⟨d, off, none⟩ n cap .i64 k hk, add_addr, Nat.mul_one]
  have hdr := fun m t hl f2 f3 f10 f11 => done_draw E hc hs H t d off n cap k b hl f2 f3 f10 f11 len x lo hd hix hcell ha ho hst m
  unfold s21b1
  simp [exec_skip, exec_ret, exec_exit, exec_region, exec_drawP, exec_seq, exec_cond, exec_block, ops_nil, ops_go, ops_if, o_mv, o_pick, o_alloc, o_build, o_nilCheck, o_bin, o_eqNil, o_un, o_toInt, o_slice, o_field, o_indexAddr, o_indexS, o_extract, o_len, o_buildSlice, o_append, o_load1, o_loadN, o_store, o_fieldAddr, o_call, COp.isAlloc, valOut, withH, noVal, guarded, aeval, aput, bin_lss, bin_leq, bin_gtr, bin_geq, bin_eql, bin_neq, indexAddr_nat, add_addr, len_slice, alen_slice, cell_bytes, byteV, Value.cells, AObj.put, Chunk.len, oneCells, AH.get_push, AH.get_set, next_push, next_set, anilCheck, apick, aeqNil, nilKind, aextract, evalParts, AObj.cell?, AObj.chunk, Chunk.cells, hkn, hh, hk1, bin_add, hdr]
  exact ⟨rfl, rfl, rfl, rfl, rfl, rfl, rfl, rfl, rfl⟩

theorem done_end (E : Env) (H : AH) (t : List Value) (c : Addr) (blk : Value) (d off n cap : Nat) (want : Value) (hb : Nat) (ht : DoneFrame t c blk d off n cap want hb n) :
    ∃ t', (∀ m, exec E (m + 60) s21b1 t H = some (.exit 0, t', H)) ∧ DoneFrame t' c blk d off n cap want hb n := by
  obtain ⟨hl, f0, f1, f2, f3, f9, f15, f16, f17⟩ := ht
  rw [frame71 hl, f0, f1, f2, f3, f9, f15, f16, f17]
  unfold s21b1
  simp [exec_skip, exec_ret, exec_exit, exec_region, exec_drawP, exec_seq, exec_cond, exec_block, ops_nil, ops_go, ops_if, o_mv, o_pick, o_alloc, o_build, o_nilCheck, o_bin, o_eqNil, o_un, o_toInt, o_slice, o_field, o_indexAddr, o_indexS, o_extract, o_len, o_buildSlice, o_append, o_load1, o_loadN, o_store, o_fieldAddr, o_call, COp.isAlloc, valOut, withH, noVal, guarded, aeval, aput, bin_lss, bin_leq, bin_gtr, bin_geq, bin_eql, bin_neq, indexAddr_nat, add_addr, len_slice, alen_slice, cell_bytes, byteV]
  exact ⟨rfl, rfl, rfl, rfl, rfl, rfl, rfl, rfl, rfl⟩

/-- The same heap, but for the form of its trie. -/
def Same (H H' : AH) : Prop := H'.next = H.next ∧ ∀ b, H'.get b = H.get b

theorem done_loop (E : Env) (hc : E.code 22 = some s22) (hs : E.spec 22 = none) (c : Addr) (blk : Value) (d off n cap : Nat) (hb : Nat)
    (len x lo : Nat) (hle : off + n ≤ len) (hn : n < 2 ^ 40) (af fl : Value) (ma : Option Addr) (mc loh : Nat) (roh : Bool) :
    ∀ (r k : Nat) (H : AH) (t : List Value), k + r = n → DoneFrame t c blk d off n cap (.func (.func 22) #[] #[]) hb k → H.get d = some (.bytes len x lo false) → H.get hb = some (.cells [af, fl, .slice ma 0 mc] loh roh) →
    ∃ t' H', (∀ m, exec E (m + r + 61) s21l1 t H = some (.exit 0, t', H')) ∧ DoneFrame t' c blk d off n cap (.func (.func 22) #[] #[]) hb n ∧ Same H H' := by
  intro r
  unfold s21l1
  induction r with
  | zero =>
    intro k H t hk ht hd hh
    have : k = n := by omega
    subst this
    obtain ⟨t', hx, hf⟩ := done_end E H t c blk d off k cap _ hb ht
    exact ⟨t', H, fun m => by rw [show m + 0 + 61 = (m + 60) + 1 by omega, exec_loop, hx], hf, rfl, fun _ => rfl⟩
  | succ r ih =>
    intro k H t hk ht hd hh
    obtain ⟨t1, hx, hf⟩ := done_round E hc hs H t c blk d off n cap hb k ht len x lo hd hle (by omega) hn af fl ma mc loh roh hh
    have hsame : ∀ b, (H.set d (.bytes len x lo false)).get b = H.get b := fun b => by
      by_cases hbd : b = d
      · subst hbd; rw [set_get_same hd, hd]
      · rw [set_get_other hbd]
    obtain ⟨t2, H2, hx2, hf2, hg2⟩ := ih (k + 1) (H.set d (.bytes len x lo false)) t1 (by omega) hf ((hsame d).trans hd) ((hsame hb).trans hh)
    refine ⟨t2, H2, fun m => ?_, hf2, hg2.1.trans rfl, fun b => (hg2.2 b).trans (hsame b)⟩
    rw [show m + (r + 1) + 61 = (m + r + 1 + 60) + 1 by omega, exec_loop, hx]
    have := hx2 m
    rw [show m + r + 61 = m + r + 1 + 60 by omega] at this
    exact this

theorem strike_hit (E : Env) (hc : E.code 33 = some s33) (hs : E.spec 33 = none) (H : AH) (c hb : Nat) (i0 i1 i2 i3 : Int) (a4 a5 : Option Addr) (n4 m4 n5 m5 s dd lo : Nat) (b8 fl roh : Bool) (hdd : dd < 2 ^ 40) (hne : c ≠ hb)
    (hcc : H.get c = some (.cells [.int .i64 i0, .int .i64 i1, .int .i64 i2, .int .i64 i3, .slice a4 n4 m4, .slice a5 n5 m5, .slice (some ⟨hb, 0, none⟩) 1 1, .int .i64 s, .bool b8, .int .i64 dd] lo false)) (hhh : H.get hb = some (.cells [.int .i64 0, .bool fl, .slice none 0 0] 3 roh)) :
    ∃ H', (∀ m, callF E (m + 40) (.fn 33) [.pointer (some ⟨c, 0, none⟩)] H = some (.val (.pointer (some ⟨H.next, 0, none⟩)), H')) ∧ H'.next = H.next + 1 ∧ H'.get H.next = some (.cells [.int .i64 0, .bool fl, .slice none 0 0] 0 false) ∧
      H'.get c = some (.cells [.int .i64 i0, .int .i64 i1, .int .i64 i2, .int .i64 i3, .slice a4 n4 m4, .slice a5 n5 m5, .slice (some ⟨hb, 3, none⟩) 0 0, .int .i64 0, .bool b8, .int .i64 ((dd + 1 : Nat) : Int)] lo false) ∧ ∀ b, b < H.next → b ≠ c → H'.get b = H.get b := by
  have hlc := AH.get_lt hcc
  have hlh := AH.get_lt hhh
  have hw : IntKind.i64.wrap ((dd : Int) + 1) = (dd : Int) + 1 := wrap_id (by omega) (by omega)
  have n1 : ¬ hb = c := fun h => hne h.symm
  have n2 : ¬ c = H.next := by omega
  have n3 : ¬ hb = H.next := by omega
  have hsl : ∀ K : AH, K.get hb = some (.cells [.int .i64 0, .bool fl, .slice none 0 0] 3 roh) → aslice 3 K (.slice (some ⟨hb, 0, none⟩) 1 1) (some (.int .i64 1)) none none = some (.slice (some ⟨hb, 3, none⟩) 0 0) := by
    intro K hK
    simp only [aslice, hK]
    rfl
  have hlc2 : c < H.next + 1 := by omega
  have hix0 : aindexAddr 3 (.slice (some ⟨hb, 0, none⟩) 1 1) (.int .i64 0) = some (.pointer (some ⟨hb, 0, none⟩)) := rfl
  have hs0 : ¬ ((s : Int) < 0) := by omega
  refine ⟨((((H.set c (.cells [.int .i64 i0, .int .i64 i1, .int .i64 i2, .int .i64 i3, .slice a4 n4 m4, .slice a5 n5 m5, .slice (some ⟨hb, 0, none⟩) 1 1, .int .i64 s, .bool b8, .int .i64 ((dd + 1 : Nat) : Int)] lo false)).push (.cells [.int .i64 0, .bool false, .slice none 0 0] 0 false)).set H.next (.cells [.int .i64 0, .bool fl, .slice none 0 0] 0 false)).set c (.cells [.int .i64 i0, .int .i64 i1, .int .i64 i2, .int .i64 i3, .slice a4 n4 m4, .slice a5 n5 m5, .slice (some ⟨hb, 3, none⟩) 0 0, .int .i64 s, .bool b8, .int .i64 ((dd + 1 : Nat) : Int)] lo false)).set c (.cells [.int .i64 i0, .int .i64 i1, .int .i64 i2, .int .i64 i3, .slice a4 n4 m4, .slice a5 n5 m5, .slice (some ⟨hb, 3, none⟩) 0 0, .int .i64 0, .bool b8, .int .i64 ((dd + 1 : Nat) : Int)] lo false), fun m => ?_, rfl, ?_, ?_, fun b hb hbc => ?_⟩
  · rw [callF_fn hs hc]
    simp only [s33, runFn, leave, finish]
    simp [exec_skip, exec_ret, exec_exit, exec_region, exec_drawP, exec_seq, exec_cond, exec_block, ops_nil, ops_go, ops_if, o_mv, o_pick, o_alloc, o_build, o_nilCheck, o_bin, o_eqNil, o_un, o_toInt, o_slice, o_field, o_indexAddr, o_indexS, o_extract, o_len, o_buildSlice, o_append, o_load1, o_loadN, o_store, o_fieldAddr, o_call, COp.isAlloc, valOut, withH, noVal, guarded, aeval, aput, bin_lss, bin_leq, bin_gtr, bin_geq, bin_eql, bin_neq, indexAddr_nat, add_addr, len_slice, alen_slice, cell_bytes, byteV, Value.cells, AObj.put, Chunk.len, oneCells, AH.get_push, AH.get_set, next_push, next_set, anilCheck, apick, aeqNil, nilKind, aextract, evalParts, AObj.cell?, AObj.chunk, Chunk.cells, runFn, leave, finish, aresults, aresult, tupled, bin_add, hcc, hhh, hw, n1, n2, n3, hne, hlc, hs0, hsl, hix0, hlc2]
  · have : ¬ H.next = c := by omega
    simp [AH.get_set, AH.get_push, next_push, next_set, this]
  · simp [AH.get_set, next_push, next_set]; omega
  · have e1 : ¬ b = H.next := by omega
    simp [AH.get_set, AH.get_push, next_push, next_set, hbc, e1]

theorem done_hit (E : Env) (hc : E.code 21 = some s21) (hs : E.spec 21 = none) (hc22 : E.code 22 = some s22) (hs22 : E.spec 22 = none) (hc33 : E.code 33 = some s33) (hs33 : E.spec 33 = none) (H : AH) (c hb : Nat) (i0 i1 i2 i3 : Int) (a4 a5 : Option Addr) (n4 m4 n5 m5 s dd lo : Nat) (b8 roh : Bool) (hdd : dd < 2 ^ 40) (hne : c ≠ hb)
    (hcc : H.get c = some (.cells [.int .i64 i0, .int .i64 i1, .int .i64 i2, .int .i64 i3, .slice a4 n4 m4, .slice a5 n5 m5, .slice (some ⟨hb, 0, none⟩) 1 1, .int .i64 s, .bool b8, .int .i64 dd] lo false)) (hhh : H.get hb = some (.cells [.int .i64 0, .bool false, .slice none 0 0] 3 roh))
    (blk : Int) (d off n cap len x lod : Nat) (hd : H.get d = some (.bytes len x lod false)) (hle : off + n ≤ len) (hn : n < 2 ^ 16) :
    ∃ H', (∀ m, callF E (m + n + 200) (.fn 21) [.pointer (some ⟨c, 0, none⟩), .int .i64 blk, .slice (some ⟨d, off, none⟩) n cap, .func (.func 22) #[] #[]] H = some (.val (.int .i64 10), H')) ∧ H.next ≤ H'.next ∧
      ∀ b, b < H.next → H'.get b = if b = c then some (.cells [.int .i64 i0, .int .i64 i1, .int .i64 i2, .int .i64 i3, .slice a4 n4 m4, .slice a5 n5 m5, .slice (some ⟨hb, 3, none⟩) 0 0, .int .i64 0, .bool true, .int .i64 ((dd + 1 : Nat) : Int)] lo false) else H.get b := by
  obtain ⟨H1, hst, hn1, hh1, hc1, ho1⟩ := strike_hit E hc33 hs33 H c hb i0 i1 i2 i3 a4 a5 n4 m4 n5 m5 s dd lo b8 false roh hdd hne hcc hhh
  have hcd : d ≠ c := fun h => by subst h; rw [hd] at hcc; cases hcc
  have hd1 := (ho1 d (AH.get_lt hd) hcd).trans hd
  obtain ⟨tL, H2, hloop, hfl, hn2, hg2⟩ := done_loop E hc22 hs22 ⟨c, 0, none⟩ (.int .i64 blk) d off n cap H.next len x lod hle (by omega) (.int .i64 0) (.bool false) none 0 0 false n 0 H1
    [.pointer (some ⟨c, 0, none⟩), .int .i64 blk, .slice (some ⟨d, off, none⟩) n cap, .func (.func 22) #[] #[], undef, undef, undef, undef, .int .i64 0, .pointer (some ⟨H.next, 0, none⟩), undef, undef, undef, .pointer (some ⟨c, 0, none⟩), .pointer (some ⟨H.next, 0, none⟩), .slice (some ⟨d, off, none⟩) n cap, .int .i64 n, .int .i64 0, undef, undef, undef, undef, undef, undef, undef, undef, undef, undef, undef, undef, undef, undef, undef, undef, undef, undef, undef, undef, undef, undef, undef, undef, undef, undef, undef, undef, undef, undef, undef, undef, undef, undef, undef, undef, undef, undef, undef, undef, undef, undef, undef, undef, undef, undef, undef, undef, undef, undef, undef, undef, undef] (by omega) ⟨rfl, rfl, rfl, rfl, rfl, rfl, rfl, rfl, rfl⟩ hd1 hh1
  have hl' : ∀ M, n ≤ M → ∀ j, exec E (M + j + 100) s21l1 [.pointer (some ⟨c, 0, none⟩), .int .i64 blk, .slice (some ⟨d, off, none⟩) n cap, .func (.func 22) #[] #[], undef, undef, undef, undef, .int .i64 0, .pointer (some ⟨H.next, 0, none⟩), undef, undef, undef, .pointer (some ⟨c, 0, none⟩), .pointer (some ⟨H.next, 0, none⟩), .slice (some ⟨d, off, none⟩) n cap, .int .i64 n, .int .i64 0, undef, undef, undef, undef, undef, undef, undef, undef, undef, undef, undef, undef, undef, undef, undef, undef, undef, undef, undef, undef, undef, undef, undef, undef, undef, undef, undef, undef, undef, undef, undef, undef, undef, undef, undef, undef, undef, undef, undef, undef, undef, undef, undef, undef, undef, undef, undef, undef, undef, undef, undef, undef, undef] H1 = some (.exit 0, tL, H2) := by
    intro M hM j
    have := hloop (M - n + j + 39)
    rw [show M - n + j + 39 + n + 61 = M + j + 100 by omega] at this
    exact this
  obtain ⟨hl, f0, f1, f2, f3, f9, f15, f16, f17⟩ := hfl
  have hlit := frame71 hl
  rw [f0, f1, f2, f3, f9, f15, f16, f17] at hlit
  rw [hlit] at hl'
  have hh2 := (hg2 H.next).trans hh1
  have hc2 := (hg2 c).trans hc1
  refine ⟨H2.set c (.cells [.int .i64 i0, .int .i64 i1, .int .i64 i2, .int .i64 i3, .slice a4 n4 m4, .slice a5 n5 m5, .slice (some ⟨hb, 3, none⟩) 0 0, .int .i64 0, .bool true, .int .i64 ((dd + 1 : Nat) : Int)] lo false), fun m => ?_, ?_, fun b hb => ?_⟩
  · have hl2 := hl' (m + n) (by omega)
    generalize m + n = M at *
    rw [callF_fn hs hc]
    simp only [s21, runFn, leave, finish]
    simp [exec_skip, exec_ret, exec_exit, exec_region, exec_drawP, exec_seq, exec_cond, exec_block, ops_nil, ops_go, ops_if, o_mv, o_pick, o_alloc, o_build, o_nilCheck, o_bin, o_eqNil, o_un, o_toInt, o_slice, o_field, o_indexAddr, o_indexS, o_extract, o_len, o_buildSlice, o_append, o_load1, o_loadN, o_store, o_fieldAddr, o_call, COp.isAlloc, valOut, withH, noVal, guarded, aeval, aput, bin_lss, bin_leq, bin_gtr, bin_geq, bin_eql, bin_neq, indexAddr_nat, add_addr, len_slice, alen_slice, cell_bytes, byteV, Value.cells, AObj.put, Chunk.len, oneCells, AH.get_push, AH.get_set, next_push, next_set, anilCheck, apick, aeqNil, nilKind, aextract, evalParts, AObj.cell?, AObj.chunk, Chunk.cells, runFn, leave, finish, aresults, aresult, tupled, hst, hl2, hh2, hc2]
  · rw [next_set, hn2, hn1]; omega
  · by_cases hbc : b = c
    · subst hbc; rw [set_get_same hc2, if_pos rfl]
    · rw [set_get_other hbc, if_neg hbc, hg2 b, ho1 b hb hbc]
end
end Go.Ads
namespace Go.Ads
noncomputable section
variable {P : Program} {gs : List Nat}

def lowDone : List (Nat × CFunc) := [(21, s21), (22, s22), (33, s33)]

/-- A deed that the first of the hits strikes, at once, with no mask: the chip is dead. -/
def sDone : Spec := fun args H => match args with
  | [.pointer (some c), .int .i64 _, .slice (some d) n _, .func (.func 22) ⟨[]⟩ ⟨[]⟩] => match H.get c.block with
    | some (.cells [.int .i64 i0, .int .i64 i1, .int .i64 i2, .int .i64 i3, .slice a4 n4 m4, .slice a5 n5 m5, .slice (some h) 1 1, .int .i64 (.ofNat _), .bool b8, .int .i64 (.ofNat dd)] lo false) => match H.get h.block with
      | some (.cells [.int .i64 (.ofNat 0), .bool false, .slice none 0 0] 3 _) => match H.get d.block with
        | some (.bytes len _ _ false) => bif isZero c && (isZero h && (d.spot.isNone && (!Nat.beq c.block h.block && (Nat.ble (d.off + n) len && (Nat.ble n 60000 && Nat.ble dd 1000000))))) then
            some (.int .i64 10, H.set c.block (.cells [.int .i64 i0, .int .i64 i1, .int .i64 i2, .int .i64 i3, .slice a4 n4 m4, .slice a5 n5 m5, .slice (some ⟨h.block, 3, none⟩) 0 0, .int .i64 0, .bool true, .int .i64 ((dd + 1 : Nat) : Int)] lo false))
          else none
        | _ => none
      | _ => none
    | _ => none
  | _ => none

theorem done_law (hm : P.follows .mixedOrders = true) (hl : ∀ x ∈ lowDone, Slow P gs x) : Law P gs (21, sDone) := by
  intro args H v H2 h
  have hE := slowEnv_ok (sp := []) hm hl (by simp)
  simp only [sDone] at h
  split at h
  · rename_i c blk d n cap
    split at h
    · rename_i i0 i1 i2 i3 a4 n4 m4 a5 n5 m5 hh s b8 dd lo hc
      split at h
      · rename_i roh hhh
        split at h
        · rename_i len x lod hd
          cases hb : isZero c && (isZero hh && (d.spot.isNone && (!Nat.beq c.block hh.block && (Nat.ble (d.off + n) len && (Nat.ble n 60000 && Nat.ble dd 1000000))))) with
          | false => rw [hb] at h; cases h
          | true =>
            rw [hb] at h
            simp only [cond_true, Option.some.injEq, Prod.mk.injEq] at h
            obtain ⟨rfl, rfl⟩ := h
            simp only [Bool.and_eq_true, Bool.not_eq_true', Nat.ble_eq] at hb
            obtain ⟨h1, h2, h3, h4, h5, h6, h7⟩ := hb
            have hne : c.block ≠ hh.block := fun e => by rw [e] at h4; simp at h4
            rw [isZero_eq h2] at hc
            obtain ⟨H', hx, hn, hget⟩ := done_hit (slowEnv lowDone []) rfl rfl rfl rfl rfl rfl H c.block hh.block i0 i1 i2 i3 a4 a5 n4 m4 n5 m5 s dd lo b8 roh (by omega) hne hc hhh blk d.block d.off n cap len x lod hd h5 (by omega)
            have hx := hx 0
            rw [← isZero_eq h1, ← spot_eq h3] at hx
            obtain ⟨hbod, hac⟩ := (exec_sound hE _).call.fn _ _ _ _ _ hx
            refine ⟨hbod, hac.trim ⟨rfl, fun b o hb => ?_, fun b o hb => ?_⟩ rfl⟩
            · have hlt := AH.get_lt hb
              rw [next_set] at hlt
              rw [hget b hlt]
              by_cases hbq : b = c.block
              · subst hbq; rw [set_get_same hc] at hb; rw [if_pos rfl]; exact hb
              · rw [set_get_other hbq] at hb; rw [if_neg hbq]; exact hb
            · by_cases hbq : b = c.block
              · subst hbq
                rw [set_get_same hc] at hb
                cases hb
                refine .inr ⟨rfl, fun v hv => ?_⟩
                simp only [AObj.vals, List.mem_cons, List.not_mem_nil, or_false] at hv
                rcases hv with rfl | rfl | rfl | rfl | rfl | rfl | rfl | rfl | rfl | rfl
                · exact .inl rfl
                · exact .inl rfl
                · exact .inl rfl
                · exact .inl rfl
                · exact .inr (.inl ⟨_, _, hc, by simp [AObj.vals]⟩)
                · exact .inr (.inl ⟨_, _, hc, by simp [AObj.vals]⟩)
                · exact .inr (.inr ⟨_, _, _, _, _, rfl, hhh⟩)
                · exact .inl rfl
                · exact .inl rfl
                · exact .inl rfl
              · rw [set_get_other hbq] at hb
                exact .inl hb
        · cases h
      · cases h
    · cases h
  · cases h
end
end Go.Ads
namespace Go.Ads
open Go.Proofs
noncomputable section
def s96b0 : CCode := (.seq (.region [⟨(some 25), .bin .lss (.tmp 24) (.tmp 23), none⟩])
 (.seq (.cond (.tmp 25) .skip
 (.exit 2))
 (.seq (.block 3 (.seq (.region [⟨(some 26), .indexAddr 6 (.tmp 22) (.tmp 24), none⟩,
  ⟨(some 27), .loadN 6 (.tmp 26), none⟩,
  ⟨(some 8), .alloc [(.int .i64 0), (.int .u8 0), (.string ⟨#[]⟩), (.int .i64 0), (.slice none 0 0), (.bool false)], none⟩,
  ⟨none, .store 6 (.tmp 8) (.tmp 27), none⟩])
 (.seq (.region [⟨(some 29), .load1 (.tmp 5), none⟩,
  ⟨(some 30), .fieldAddr 0 (.tmp 8), none⟩,
  ⟨(some 31), .loadN 4 (.tmp 30), none⟩,
  ⟨(some 32), .call 127 [(.tmp 29), (.tmp 31)], none⟩,
  ⟨(some 28), .mv (.tmp 32), none⟩,
  ⟨(some 33), .extract (.tmp 28) 0, none⟩,
  ⟨(some 34), .extract (.tmp 28) 1, none⟩,
  ⟨(some 9), .mv (.tmp 33), none⟩,
  ⟨(some 10), .mv (.tmp 34), none⟩])
 (.seq (.draw [⟨(some 35), .fieldAddr 0 (.tmp 8), none⟩,
  ⟨(some 36), .loadN 4 (.tmp 35), none⟩,
  ⟨(some 37), .fieldAddr 4 (.tmp 8), none⟩,
  ⟨(some 38), .load1 (.tmp 37), none⟩,
  ⟨(some 39), .call 19 [(.tmp 38)], none⟩,
  ⟨(some 40), .build #[(.int .i64 0), (.int .u8 0), (.string ⟨#[]⟩), (.int .i64 0), (.slice none 0 0)] [(0, 4), (4, 1)] [(0, (.tmp 36)), (1, (.tmp 39))], none⟩,
  ⟨(some 11), .alloc [(.int .i64 0), (.int .u8 0), (.string ⟨#[]⟩), (.int .i64 0), (.slice none 0 0)], none⟩,
  ⟨none, .store 5 (.tmp 11) (.tmp 40), none⟩] [(1, 4), (1, 6), (3, 6)])
 (.block 4 (.seq (.region [⟨(some 42), .mv (.tmp 10), none⟩,
  ⟨(some 43), .mv (.tmp 42), none⟩,
  ⟨(some 44), .fieldAddr 5 (.tmp 8), (some (43, true))⟩,
  ⟨(some 45), .load1 (.tmp 44), (some (43, true))⟩,
  ⟨(some 46), .pick (.tmp 43) (.tmp 45) (.const (.bool false)), none⟩,
  ⟨(some 41), .mv (.tmp 46), none⟩])
 (.cond (.tmp 41) (.region [⟨(some 47), .load1 (.tmp 5), none⟩,
  ⟨(some 48), .mv (.tmp 9), none⟩,
  ⟨(some 49), .mv (.tmp 9), none⟩,
  ⟨(some 50), .bin .add (.tmp 49) (.const (.int .i64 1)), none⟩,
  ⟨(some 51), .call 128 [(.tmp 47), (.tmp 48), (.tmp 50)], none⟩,
  ⟨none, .store 1 (.tmp 5) (.tmp 51), none⟩])
 (.seq (.region [⟨(some 53), .mv (.tmp 10), none⟩,
  ⟨(some 52), .mv (.tmp 53), none⟩])
 (.cond (.tmp 52) (.region [⟨(some 54), .load1 (.tmp 5), none⟩,
  ⟨(some 55), .mv (.tmp 9), none⟩,
  ⟨(some 56), .loadN 5 (.tmp 11), none⟩,
  ⟨(some 57), .indexAddr 5 (.tmp 54) (.tmp 55), none⟩,
  ⟨none, .store 5 (.tmp 57) (.tmp 56), none⟩])
 (.seq (.region [⟨(some 59), .fieldAddr 5 (.tmp 8), none⟩,
  ⟨(some 60), .load1 (.tmp 59), none⟩,
  ⟨(some 61), .un .not (.tmp 60), none⟩,
  ⟨(some 58), .mv (.tmp 61), none⟩])
 (.cond (.tmp 58) (.region [⟨(some 62), .load1 (.tmp 5), none⟩,
  ⟨(some 63), .mv (.tmp 9), none⟩,
  ⟨(some 64), .loadN 5 (.tmp 11), none⟩,
  ⟨(some 65), .buildSlice false 5 1 [(.int .i64 0), (.int .u8 0), (.string ⟨#[]⟩), (.int .i64 0), (.slice none 0 0)] [(0, (.tmp 64))], none⟩,
  ⟨(some 66), .call 129 [(.tmp 62), (.tmp 63), (.tmp 65)], none⟩,
  ⟨none, .store 1 (.tmp 5) (.tmp 66), none⟩])
 .skip)))))))))))
 (.region [⟨(some 67), .bin .add (.tmp 24) (.const (.int .i64 1)), none⟩,
  ⟨(some 24), .mv (.tmp 67), none⟩]))))
def s96l0 : CCode := .loop s96b0
noncomputable def s96 : CFunc := ⟨69, [.tmp 4], (.seq (.region [⟨(some 4), .mv (.const (.slice none 0 0)), none⟩])
 (.seq (.seq (.region [⟨(some 12), .mv (.tmp 0), none⟩,
  ⟨(some 13), .call 125 [(.tmp 12)], none⟩,
  ⟨(some 14), .un .not (.tmp 13), none⟩])
 (.cond (.tmp 14) (.seq (.region [⟨(some 4), .mv (.const (.slice none 0 0)), none⟩])
 .ret)
 .skip))
 (.seq (.region [⟨(some 5), .alloc [(.slice none 0 0)], none⟩])
 (.seq (.seq (.region [⟨(some 15), .mv (.tmp 0), none⟩,
  ⟨(some 16), .call 126 [(.tmp 15)], none⟩])
 (.block 0 (.range (.tmp 16) (siteIn Tryz.f96) (.region [⟨(some 6), .alloc [(.int .i64 0), (.int .u8 0), (.string ⟨#[]⟩), (.int .i64 0), (.slice none 0 0)], none⟩,
  ⟨none, .store 5 (.tmp 6) (.tmp 17), none⟩])
 (.block 1 (.region [⟨(some 18), .load1 (.tmp 5), none⟩,
  ⟨(some 19), .loadN 5 (.tmp 6), none⟩,
  ⟨(some 20), .buildSlice false 5 1 [(.int .i64 0), (.int .u8 0), (.string ⟨#[]⟩), (.int .i64 0), (.slice none 0 0)] [(0, (.tmp 19))], none⟩,
  ⟨(some 21), .append 5 64 (.tmp 18) (.tmp 20), none⟩,
  ⟨none, .store 1 (.tmp 5) (.tmp 21), none⟩])))))
 (.seq (.seq (.region [⟨(some 22), .mv (.tmp 1), none⟩,
  ⟨(some 23), .len (.slice 115) (.tmp 22), none⟩,
  ⟨(some 24), .mv (.const (.int .i64 0)), none⟩])
 (.block 2 s96l0))
 (.seq (.region [⟨(some 68), .load1 (.tmp 5), none⟩,
  ⟨(some 4), .mv (.tmp 68), none⟩])
 .ret)))))), none, none⟩
def s49b0 : CCode := (.seq (.region [⟨(some 23), .bin .lss (.tmp 22) (.tmp 21), none⟩])
 (.seq (.cond (.tmp 23) .skip
 (.exit 0))
 (.seq (.block 1 (.seq (.region [⟨(some 24), .mv (.tmp 22), none⟩,
  ⟨(some 25), .indexAddr 5 (.tmp 20) (.tmp 22), none⟩,
  ⟨(some 26), .loadN 5 (.tmp 25), none⟩,
  ⟨(some 8), .alloc [(.int .i64 0), (.int .u8 0), (.string ⟨#[]⟩), (.int .i64 0), (.slice none 0 0)], none⟩,
  ⟨(some 7), .mv (.tmp 24), none⟩,
  ⟨none, .store 5 (.tmp 8) (.tmp 26), none⟩])
 (.seq (.draw [⟨(some 27), .fieldAddr 0 (.tmp 8), none⟩,
  ⟨(some 28), .loadN 4 (.tmp 27), none⟩,
  ⟨(some 29), .call 35 [(.tmp 28)], none⟩,
  ⟨(some 30), .mv (.tmp 29), none⟩,
  ⟨(some 31), .mv (.tmp 7), (some (30, true))⟩,
  ⟨(some 32), .bin .eql (.tmp 31) (.const (.int .i64 0)), (some (30, true))⟩,
  ⟨(some 33), .mv (.tmp 32), (some (30, true))⟩,
  ⟨(some 34), .mv (.tmp 0), (some (33, false))⟩,
  ⟨(some 35), .mv (.tmp 7), (some (33, false))⟩,
  ⟨(some 36), .bin .sub (.tmp 35) (.const (.int .i64 1)), (some (33, false))⟩,
  ⟨(some 37), .indexAddr 5 (.tmp 34) (.tmp 36), (some (33, false))⟩,
  ⟨(some 38), .fieldAddr 0 (.tmp 37), (some (33, false))⟩,
  ⟨(some 39), .loadN 4 (.tmp 38), (some (33, false))⟩,
  ⟨(some 40), .fieldAddr 0 (.tmp 8), (some (33, false))⟩,
  ⟨(some 41), .loadN 4 (.tmp 40), (some (33, false))⟩,
  ⟨(some 42), .call 36 [(.tmp 39), (.tmp 41)], (some (33, false))⟩,
  ⟨(some 43), .pick (.tmp 33) (.const (.bool true)) (.tmp 42), (some (30, true))⟩,
  ⟨(some 44), .pick (.tmp 30) (.tmp 43) (.const (.bool false)), none⟩,
  ⟨(some 45), .call 71 [(.tmp 44)], none⟩] [])
 (.region [⟨(some 46), .mv (.tmp 6), none⟩,
  ⟨(some 47), .loadN 5 (.tmp 8), none⟩,
  ⟨(some 48), .call 72 [(.tmp 4), (.tmp 46), (.tmp 47)], none⟩]))))
 (.region [⟨(some 49), .bin .add (.tmp 22) (.const (.int .i64 1)), none⟩,
  ⟨(some 22), .mv (.tmp 49), none⟩]))))
def s49l0 : CCode := .loop s49b0
def s49 : CFunc := ⟨54, [.cells 4 2, .cell 5], (.seq (.region [⟨(some 10), .mv (.tmp 1), none⟩,
  ⟨(some 11), .bin .geq (.tmp 10) (.const (.int .i64 1)), none⟩,
  ⟨(some 12), .mv (.tmp 11), none⟩,
  ⟨(some 13), .mv (.tmp 1), (some (12, true))⟩,
  ⟨(some 14), .bin .leq (.tmp 13) (.const (.int .i64 255)), (some (12, true))⟩,
  ⟨(some 15), .pick (.tmp 12) (.tmp 14) (.const (.bool false)), none⟩,
  ⟨(some 16), .call 71 [(.tmp 15)], none⟩])
 (.seq (.region [⟨(some 17), .mv (.tmp 1), none⟩,
  ⟨(some 18), .fieldAddr 0 (.tmp 4), none⟩,
  ⟨none, .store 1 (.tmp 18) (.tmp 17), none⟩])
 (.seq (.region [⟨(some 19), .mkMap, none⟩,
  ⟨(some 6), .mv (.tmp 19), none⟩])
 (.seq (.seq (.region [⟨(some 20), .mv (.tmp 0), none⟩,
  ⟨(some 21), .len (.slice 106) (.tmp 20), none⟩,
  ⟨(some 22), .mv (.const (.int .i64 0)), none⟩])
 (.block 0 s49l0))
 (.seq (.region [⟨(some 50), .loadN 2 (.tmp 4), none⟩,
  ⟨(some 51), .call 73 [(.tmp 50)], none⟩,
  ⟨(some 52), .call 71 [(.tmp 51)], none⟩])
 (.seq (.region [⟨(some 53), .loadN 2 (.tmp 4), none⟩,
  ⟨none, .store 2 (.tmp 4) (.tmp 53), none⟩,
  ⟨none, .store 1 (.tmp 5) (.const (.int .i64 0)), none⟩])
 .ret)))))), some ([(.region [⟨(some 4), .alloc [(.int .i64 0), (.slice none 0 0)], none⟩,
  ⟨(some 5), .alloc [(.int .i64 0)], none⟩])], [⟨(some 9), .mkFunc (.func 70) [] [(.tmp 4), (.tmp 5)], none⟩], (.tmp 9)), none⟩
def s70 : CFunc := ⟨17, [], (.seq (.region [⟨(some 6), .mv (.tmp 2), none⟩,
  ⟨(some 7), .eqNil true true (.interface #[]) (.tmp 6) (.const .nilIface), none⟩])
 (.cond (.tmp 7) (.seq (.seq (.region [⟨(some 9), .mv (.tmp 2), none⟩,
  ⟨(some 10), .assert 161 (.agg #[]) true (.tmp 9), none⟩,
  ⟨(some 8), .mv (.tmp 10), none⟩,
  ⟨(some 11), .extract (.tmp 8) 0, none⟩,
  ⟨(some 12), .extract (.tmp 8) 1, none⟩,
  ⟨(some 3), .alloc [], none⟩,
  ⟨none, .store 0 (.tmp 3) (.tmp 11), none⟩,
  ⟨(some 4), .mv (.tmp 12), none⟩])
 (.seq (.region [⟨(some 13), .mv (.tmp 4), none⟩,
  ⟨(some 14), .un .not (.tmp 13), none⟩])
 (.cond (.tmp 14) (.region [⟨(some 15), .mv (.tmp 2), none⟩,
  ⟨none, .panic (.tmp 15), none⟩])
 .skip)))
 (.region [⟨(some 16), .build #[(.int .i64 0), (.slice none 0 0)] [(0, 1), (1, 1)] [], none⟩,
  ⟨none, .store 2 (.tmp 0) (.tmp 16), none⟩,
  ⟨none, .store 1 (.tmp 1) (.const (.int .i64 16)), none⟩]))
 .skip)), none, some (5, [⟨(some 2), .mv (.tmp 5), none⟩])⟩
def s126 : CFunc := ⟨4, [.tmp 2], (.seq (.region [⟨(some 1), .box (.tmp 0), none⟩,
  ⟨(some 2), .mv (.const .nilFunc), none⟩])
 (.seq (.region [⟨(some 3), .mkFunc (.func 145) [] [(.tmp 1)], none⟩,
  ⟨(some 2), .mv (.tmp 3), none⟩])
 .ret)), none, none⟩
def s145b0 : CCode := (.seq (.region [⟨(some 8), .bin .lss (.tmp 7) (.tmp 6), none⟩])
 (.seq (.cond (.tmp 8) .skip
 (.exit 0))
 (.seq (.block 1 (.seq (.region [⟨(some 9), .indexAddr 5 (.tmp 5) (.tmp 7), none⟩,
  ⟨(some 10), .loadN 5 (.tmp 9), none⟩,
  ⟨(some 4), .alloc [(.int .i64 0), (.int .u8 0), (.string ⟨#[]⟩), (.int .i64 0), (.slice none 0 0)], none⟩,
  ⟨none, .store 5 (.tmp 4) (.tmp 10), none⟩])
 (.seq (.draw [⟨(some 11), .mv (.tmp 0), none⟩,
  ⟨(some 12), .fieldAddr 0 (.tmp 4), none⟩,
  ⟨(some 13), .loadN 4 (.tmp 12), none⟩,
  ⟨(some 14), .fieldAddr 4 (.tmp 4), none⟩,
  ⟨(some 15), .load1 (.tmp 14), none⟩,
  ⟨(some 16), .call 19 [(.tmp 15)], none⟩,
  ⟨(some 17), .build #[(.int .i64 0), (.int .u8 0), (.string ⟨#[]⟩), (.int .i64 0), (.slice none 0 0)] [(0, 4), (4, 1)] [(0, (.tmp 13)), (1, (.tmp 16))], none⟩,
  ⟨(some 18), .callV (.tmp 11) [(.tmp 17)], none⟩,
  ⟨(some 19), .un .not (.tmp 18), none⟩] [(2, 5)])
 (.cond (.tmp 19) .ret
 .skip))))
 (.region [⟨(some 20), .bin .add (.tmp 7) (.const (.int .i64 1)), none⟩,
  ⟨(some 7), .mv (.tmp 20), none⟩]))))
def s145l0 : CCode := .loop s145b0
def s145 : CFunc := ⟨21, [], (.seq (.region [⟨(some 5), .load1 (.tmp 1), none⟩,
  ⟨(some 6), .len (.slice 106) (.tmp 5), none⟩,
  ⟨(some 7), .mv (.const (.int .i64 0)), none⟩])
 (.block 0 s145l0)), none, none⟩

end
end Go.Ads
