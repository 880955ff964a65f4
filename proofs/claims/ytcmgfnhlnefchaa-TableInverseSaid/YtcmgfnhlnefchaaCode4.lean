/-
  The code of functions, as a program of this work has printed it out of the loaded program (tools/DenPrint.lean), and that it is theirs.
-/
import Derived.Test.YtcmgfnhlnefchaaDenQ
import Derived.Test.YtcmgfnhlnefchaaProg
namespace Go.Proofs.Ytcmgfnhlnefchaa
open Go.Den

/-- slices.pdqsortCmpFunc[chapman/api.Row]; parameters: 5 -/
def live80 : List Nat := [0, 1, 2, 3, 4, 10, 11, 12, 13, 14, 15, 16, 17, 18, 19, 20, 25, 32, 39, 56, 75, 80, 97, 125]
def res80 : List RO := []
def g80_0 : List AOper := [
  ⟨(some 10), (.mov (.c (.s (.bool .true)))), none, [], 0⟩]
def g80_1 : List AOper := [
  ⟨(some 11), (.mov (.c (.s (.bool .true)))), none, [], 0⟩]
def g80_2 : List AOper := [
  ⟨(some 21), (.mov (.t 2)), none, [], 0⟩,
  ⟨(some 22), (.mov (.t 1)), none, [], 0⟩,
  ⟨(some 23), (.bin .sub (.t 21) (.t 22)), none, [], 0⟩,
  ⟨(some 12), (.mov (.t 23)), none, [], 0⟩]
def g80_3 : List AOper := [
  ⟨(some 24), (.mov (.t 12)), none, [], 0⟩,
  ⟨(some 25), (.bin .leq (.t 24) (.c (.s (.int .i64 12)))), none, [], 0⟩]
def g80_4 : List AOper := [
  ⟨(some 26), (.mov (.t 0)), none, [], 0⟩,
  ⟨(some 27), (.mov (.t 1)), none, [], 0⟩,
  ⟨(some 28), (.mov (.t 2)), none, [], 0⟩,
  ⟨(some 29), (.mov (.t 4)), none, [], 0⟩,
  ⟨(some 30), (.call (.c (.f 86 [])) [(.t 26), (.t 27), (.t 28), (.t 29)]), none, [], 0⟩]
def g80_5 : List AOper := [
  ⟨(some 31), (.mov (.t 3)), none, [], 0⟩,
  ⟨(some 32), (.bin .eql (.t 31) (.c (.s (.int .i64 0)))), none, [], 0⟩]
def g80_6 : List AOper := [
  ⟨(some 33), (.mov (.t 0)), none, [], 0⟩,
  ⟨(some 34), (.mov (.t 1)), none, [], 0⟩,
  ⟨(some 35), (.mov (.t 2)), none, [], 0⟩,
  ⟨(some 36), (.mov (.t 4)), none, [], 0⟩,
  ⟨(some 37), (.call (.c (.f 87 [])) [(.t 33), (.t 34), (.t 35), (.t 36)]), none, [], 0⟩]
def g80_7 : List AOper := [
  ⟨(some 38), (.mov (.t 10)), none, [], 0⟩,
  ⟨(some 39), (.un .not (.t 38)), none, [], 0⟩]
def g80_8 : List AOper := [
  ⟨(some 40), (.mov (.t 0)), none, [], 0⟩,
  ⟨(some 41), (.mov (.t 1)), none, [], 0⟩,
  ⟨(some 42), (.mov (.t 2)), none, [], 0⟩,
  ⟨(some 43), (.mov (.t 4)), none, [], 0⟩,
  ⟨(some 44), (.call (.c (.f 88 [])) [(.t 40), (.t 41), (.t 42), (.t 43)]), none, [], 0⟩]
def g80_9 : List AOper := [
  ⟨(some 45), (.mov (.t 3)), none, [], 0⟩,
  ⟨(some 46), (.bin .sub (.t 45) (.c (.s (.int .i64 1)))), none, [], 0⟩,
  ⟨(some 3), (.mov (.t 46)), none, [], 0⟩]
def g80_10 : List AOper := [
  ⟨(some 48), (.mov (.t 0)), none, [], 0⟩,
  ⟨(some 49), (.mov (.t 1)), none, [], 0⟩,
  ⟨(some 50), (.mov (.t 2)), none, [], 0⟩,
  ⟨(some 51), (.mov (.t 4)), none, [], 0⟩,
  ⟨(some 52), (.call (.c (.f 89 [])) [(.t 48), (.t 49), (.t 50), (.t 51)]), none, [], 0⟩,
  ⟨(some 47), (.mov (.t 52)), none, [], 0⟩,
  ⟨(some 53), (.ext (.t 47) 0), none, [], 0⟩,
  ⟨(some 54), (.ext (.t 47) 1), none, [], 0⟩,
  ⟨(some 13), (.mov (.t 53)), none, [], 0⟩,
  ⟨(some 14), (.mov (.t 54)), none, [], 0⟩]
def g80_11 : List AOper := [
  ⟨(some 55), (.mov (.t 14)), none, [], 0⟩,
  ⟨(some 56), (.bin .eql (.t 55) (.c (.s (.int .i64 2)))), none, [], 0⟩]
def g80_12 : List AOper := [
  ⟨(some 57), (.mov (.t 0)), none, [], 0⟩,
  ⟨(some 58), (.mov (.t 1)), none, [], 0⟩,
  ⟨(some 59), (.mov (.t 2)), none, [], 0⟩,
  ⟨(some 60), (.mov (.t 4)), none, [], 0⟩,
  ⟨(some 61), (.call (.c (.f 90 [])) [(.t 57), (.t 58), (.t 59), (.t 60)]), none, [], 0⟩]
def g80_13 : List AOper := [
  ⟨(some 62), (.mov (.t 2)), none, [], 0⟩,
  ⟨(some 63), (.bin .sub (.t 62) (.c (.s (.int .i64 1)))), none, [], 0⟩,
  ⟨(some 64), (.mov (.t 13)), none, [], 0⟩,
  ⟨(some 65), (.mov (.t 1)), none, [], 0⟩,
  ⟨(some 66), (.bin .sub (.t 64) (.t 65)), none, [], 0⟩,
  ⟨(some 67), (.bin .sub (.t 63) (.t 66)), none, [], 0⟩,
  ⟨(some 13), (.mov (.t 67)), none, [], 0⟩]
def g80_14 : List AOper := [
  ⟨(some 14), (.mov (.c (.s (.int .i64 1)))), none, [], 0⟩]
def g80_15 : List AOper := [
  ⟨(some 68), (.mov (.t 10)), none, [], 0⟩,
  ⟨(some 69), (.mov (.t 68)), none, [], 0⟩,
  ⟨(some 70), (.mov (.t 11)), (some (69, .true)), [], 0⟩,
  ⟨(some 71), (.pick (.t 69) (.t 70) (.c (.s (.bool .false)))), none, [], 0⟩,
  ⟨(some 72), (.mov (.t 71)), none, [], 0⟩,
  ⟨(some 73), (.mov (.t 14)), (some (72, .true)), [], 0⟩,
  ⟨(some 74), (.bin .eql (.t 73) (.c (.s (.int .i64 1)))), (some (72, .true)), [], 0⟩,
  ⟨(some 75), (.pick (.t 72) (.t 74) (.c (.s (.bool .false)))), none, [], 0⟩]
def g80_16 : List AOper := [
  ⟨(some 76), (.mov (.t 0)), none, [], 0⟩,
  ⟨(some 77), (.mov (.t 1)), none, [], 0⟩,
  ⟨(some 78), (.mov (.t 2)), none, [], 0⟩,
  ⟨(some 79), (.mov (.t 4)), none, [], 0⟩,
  ⟨(some 80), (.call (.c (.f 91 [])) [(.t 76), (.t 77), (.t 78), (.t 79)]), none, [], 0⟩]
def g80_17 : List AOper := [
  ⟨(some 81), (.mov (.t 1)), none, [], 0⟩,
  ⟨(some 82), (.bin .gtr (.t 81) (.c (.s (.int .i64 0)))), none, [], 1⟩,
  ⟨(some 83), (.mov (.t 82)), none, [], 2⟩,
  ⟨(some 84), (.mov (.t 4)), (some (83, .true)), [], 3⟩,
  ⟨(some 85), (.mov (.t 0)), (some (83, .true)), [], 4⟩,
  ⟨(some 86), (.mov (.t 1)), (some (83, .true)), [], 5⟩,
  ⟨(some 87), (.bin .sub (.t 86) (.c (.s (.int .i64 1)))), (some (83, .true)), [], 6⟩,
  ⟨(some 88), (.iad 3 (.t 85) (.t 87)), (some (83, .true)), [], 7⟩,
  ⟨(some 89), (.load 3 .true (.t 88)), (some (83, .true)), [], 8⟩,
  ⟨(some 90), (.mov (.t 0)), (some (83, .true)), [], 9⟩,
  ⟨(some 91), (.mov (.t 13)), (some (83, .true)), [], 10⟩,
  ⟨(some 92), (.iad 3 (.t 90) (.t 91)), (some (83, .true)), [], 11⟩,
  ⟨(some 93), (.load 3 .true (.t 92)), (some (83, .true)), [8], 12⟩,
  ⟨(some 94), (.call (.t 84) [(.t 89), (.t 93)]), (some (83, .true)), [], 13⟩,
  ⟨(some 95), (.bin .lss (.t 94) (.c (.s (.int .i64 0)))), (some (83, .true)), [], 14⟩,
  ⟨(some 96), (.un .not (.t 95)), (some (83, .true)), [], 15⟩,
  ⟨(some 97), (.pick (.t 83) (.t 96) (.c (.s (.bool .false)))), none, [], 16⟩]
def g80_18 : List AOper := [
  ⟨(some 98), (.mov (.t 0)), none, [], 0⟩,
  ⟨(some 99), (.mov (.t 1)), none, [], 0⟩,
  ⟨(some 100), (.mov (.t 2)), none, [], 0⟩,
  ⟨(some 101), (.mov (.t 13)), none, [], 0⟩,
  ⟨(some 102), (.mov (.t 4)), none, [], 0⟩,
  ⟨(some 103), (.call (.c (.f 92 [])) [(.t 98), (.t 99), (.t 100), (.t 101), (.t 102)]), none, [], 0⟩,
  ⟨(some 15), (.mov (.t 103)), none, [], 0⟩]
def g80_19 : List AOper := [
  ⟨(some 104), (.mov (.t 15)), none, [], 0⟩,
  ⟨(some 1), (.mov (.t 104)), none, [], 0⟩]
def g80_20 : List AOper := [
  ⟨(some 106), (.mov (.t 0)), none, [], 0⟩,
  ⟨(some 107), (.mov (.t 1)), none, [], 0⟩,
  ⟨(some 108), (.mov (.t 2)), none, [], 0⟩,
  ⟨(some 109), (.mov (.t 13)), none, [], 0⟩,
  ⟨(some 110), (.mov (.t 4)), none, [], 0⟩,
  ⟨(some 111), (.call (.c (.f 93 [])) [(.t 106), (.t 107), (.t 108), (.t 109), (.t 110)]), none, [], 0⟩,
  ⟨(some 105), (.mov (.t 111)), none, [], 0⟩,
  ⟨(some 112), (.ext (.t 105) 0), none, [], 0⟩,
  ⟨(some 113), (.ext (.t 105) 1), none, [], 0⟩,
  ⟨(some 16), (.mov (.t 112)), none, [], 0⟩,
  ⟨(some 17), (.mov (.t 113)), none, [], 0⟩]
def g80_21 : List AOper := [
  ⟨(some 114), (.mov (.t 17)), none, [], 0⟩,
  ⟨(some 11), (.mov (.t 114)), none, [], 0⟩]
def g80_22 : List AOper := [
  ⟨(some 115), (.mov (.t 16)), none, [], 0⟩,
  ⟨(some 116), (.mov (.t 1)), none, [], 0⟩,
  ⟨(some 117), (.bin .sub (.t 115) (.t 116)), none, [], 0⟩,
  ⟨(some 118), (.mov (.t 2)), none, [], 0⟩,
  ⟨(some 119), (.mov (.t 16)), none, [], 0⟩,
  ⟨(some 120), (.bin .sub (.t 118) (.t 119)), none, [], 0⟩,
  ⟨(some 18), (.mov (.t 117)), none, [], 0⟩,
  ⟨(some 19), (.mov (.t 120)), none, [], 0⟩]
def g80_23 : List AOper := [
  ⟨(some 121), (.mov (.t 12)), none, [], 0⟩,
  ⟨(some 122), (.bin .quo (.t 121) (.c (.s (.int .i64 8)))), none, [], 0⟩,
  ⟨(some 20), (.mov (.t 122)), none, [], 0⟩]
def g80_24 : List AOper := [
  ⟨(some 123), (.mov (.t 18)), none, [], 0⟩,
  ⟨(some 124), (.mov (.t 19)), none, [], 0⟩,
  ⟨(some 125), (.bin .lss (.t 123) (.t 124)), none, [], 0⟩]
def g80_25 : List AOper := [
  ⟨(some 126), (.mov (.t 18)), none, [], 0⟩,
  ⟨(some 127), (.mov (.t 20)), none, [], 0⟩,
  ⟨(some 128), (.bin .geq (.t 126) (.t 127)), none, [], 0⟩,
  ⟨(some 10), (.mov (.t 128)), none, [], 0⟩]
def g80_26 : List AOper := [
  ⟨(some 129), (.mov (.t 0)), none, [], 0⟩,
  ⟨(some 130), (.mov (.t 1)), none, [], 0⟩,
  ⟨(some 131), (.mov (.t 16)), none, [], 0⟩,
  ⟨(some 132), (.mov (.t 3)), none, [], 0⟩,
  ⟨(some 133), (.mov (.t 4)), none, [], 0⟩,
  ⟨(some 134), (.call (.c (.f 80 [])) [(.t 129), (.t 130), (.t 131), (.t 132), (.t 133)]), none, [], 0⟩]
def g80_27 : List AOper := [
  ⟨(some 135), (.mov (.t 16)), none, [], 0⟩,
  ⟨(some 136), (.bin .add (.t 135) (.c (.s (.int .i64 1)))), none, [], 0⟩,
  ⟨(some 1), (.mov (.t 136)), none, [], 0⟩]
def g80_28 : List AOper := [
  ⟨(some 137), (.mov (.t 19)), none, [], 0⟩,
  ⟨(some 138), (.mov (.t 20)), none, [], 0⟩,
  ⟨(some 139), (.bin .geq (.t 137) (.t 138)), none, [], 0⟩,
  ⟨(some 10), (.mov (.t 139)), none, [], 0⟩]
def g80_29 : List AOper := [
  ⟨(some 140), (.mov (.t 0)), none, [], 0⟩,
  ⟨(some 141), (.mov (.t 16)), none, [], 0⟩,
  ⟨(some 142), (.bin .add (.t 141) (.c (.s (.int .i64 1)))), none, [], 0⟩,
  ⟨(some 143), (.mov (.t 2)), none, [], 0⟩,
  ⟨(some 144), (.mov (.t 3)), none, [], 0⟩,
  ⟨(some 145), (.mov (.t 4)), none, [], 0⟩,
  ⟨(some 146), (.call (.c (.f 80 [])) [(.t 140), (.t 142), (.t 143), (.t 144), (.t 145)]), none, [], 0⟩]
def g80_30 : List AOper := [
  ⟨(some 147), (.mov (.t 16)), none, [], 0⟩,
  ⟨(some 2), (.mov (.t 147)), none, [], 0⟩]
def ac80 : AC :=
  (.seq (.region g80_0 live80) (.seq (.region g80_1 live80) (.block 0 (.loop (.block 1 (.seq (.region g80_2 live80) (.seq (.seq (.region g80_3 live80) (.cond (.t 25) (.seq (.region g80_4 live80) .ret) .skip)) (.seq (.seq (.region g80_5 live80) (.cond (.t 32) (.seq (.region g80_6 live80) .ret) .skip)) (.seq (.seq (.region g80_7 live80) (.cond (.t 39) (.seq (.region g80_8 live80) (.region g80_9 live80)) .skip)) (.seq (.region g80_10 live80) (.seq (.seq (.region g80_11 live80) (.cond (.t 56) (.seq (.region g80_12 live80) (.seq (.region g80_13 live80) (.region g80_14 live80))) .skip)) (.seq (.seq (.region g80_15 live80) (.cond (.t 75) (.seq (.region g80_16 live80) (.cond (.t 80) .ret .skip)) .skip)) (.seq (.seq (.drawn g80_17 live80) (.cond (.t 97) (.seq (.region g80_18 live80) (.seq (.region g80_19 live80) (.exit 1))) .skip)) (.seq (.region g80_20 live80) (.seq (.region g80_21 live80) (.seq (.region g80_22 live80) (.seq (.region g80_23 live80) (.seq (.region g80_24 live80) (.cond (.t 125) (.seq (.region g80_25 live80) (.seq (.region g80_26 live80) (.region g80_27 live80))) (.seq (.region g80_28 live80) (.seq (.region g80_29 live80) (.region g80_30 live80))))))))))))))))))))))
theorem fn80 : Den.Fn Try.prog 80 148 res80 ac80 := ⟨⟨Try.f80, _, live80, Try.func80, rfl, by kernel_rfl, rfl, by kernel_rfl, by kernel_rfl⟩⟩

/-- math/bits.Len; parameters: 1 -/
def live81 : List Nat := [0, 2]
def res81 : List RO := [(.t 2)]
def g81_0 : List AOper := [
  ⟨(some 2), (.mov (.c (.s (.int .i64 0)))), none, [], 0⟩]
def g81_1 : List AOper := [
  ⟨(some 3), (.mov (.t 0)), none, [], 0⟩,
  ⟨(some 4), (.cvI .u32 (.t 3)), none, [], 0⟩,
  ⟨(some 5), (.call (.c (.f 94 [])) [(.t 4)]), none, [], 0⟩,
  ⟨(some 2), (.mov (.t 5)), none, [], 0⟩]
def g81_2 : List AOper := [
  ⟨(some 6), (.mov (.t 0)), none, [], 0⟩,
  ⟨(some 7), (.call (.c (.f 95 [])) [(.t 6)]), none, [], 0⟩,
  ⟨(some 2), (.mov (.t 7)), none, [], 0⟩]
def ac81 : AC :=
  (.seq (.region g81_0 live81) (.seq (.cond (.c (.s (.bool .false))) (.seq (.region g81_1 live81) .ret) .skip) (.seq (.region g81_2 live81) .ret)))
theorem fn81 : Den.Fn Try.prog 81 8 res81 ac81 := ⟨⟨Try.f81, _, live81, Try.func81, rfl, by kernel_rfl, rfl, by kernel_rfl, by kernel_rfl⟩⟩

/-- math/bits.Len32; parameters: 1 -/
def live94 : List Nat := [0, 2, 4, 8]
def res94 : List RO := [(.t 2)]
def g94_0 : List AOper := [
  ⟨(some 2), (.mov (.c (.s (.int .i64 0)))), none, [], 0⟩]
def g94_1 : List AOper := [
  ⟨(some 3), (.mov (.t 0)), none, [], 0⟩,
  ⟨(some 4), (.bin .geq (.t 3) (.c (.s (.int .u32 65536)))), none, [], 0⟩]
def g94_2 : List AOper := [
  ⟨(some 5), (.mov (.t 0)), none, [], 0⟩,
  ⟨(some 6), (.bin .shr (.t 5) (.c (.s (.int .u64 16)))), none, [], 0⟩,
  ⟨(some 0), (.mov (.t 6)), none, [], 0⟩]
def g94_3 : List AOper := [
  ⟨(some 2), (.mov (.c (.s (.int .i64 16)))), none, [], 0⟩]
def g94_4 : List AOper := [
  ⟨(some 7), (.mov (.t 0)), none, [], 0⟩,
  ⟨(some 8), (.bin .geq (.t 7) (.c (.s (.int .u32 256)))), none, [], 0⟩]
def g94_5 : List AOper := [
  ⟨(some 9), (.mov (.t 0)), none, [], 0⟩,
  ⟨(some 10), (.bin .shr (.t 9) (.c (.s (.int .u64 8)))), none, [], 0⟩,
  ⟨(some 0), (.mov (.t 10)), none, [], 0⟩]
def g94_6 : List AOper := [
  ⟨(some 11), (.mov (.t 2)), none, [], 0⟩,
  ⟨(some 12), (.bin .add (.t 11) (.c (.s (.int .i64 8)))), none, [], 0⟩,
  ⟨(some 2), (.mov (.t 12)), none, [], 0⟩]
def g94_7 : List AOper := [
  ⟨(some 13), (.mov (.t 2)), none, [], 0⟩,
  ⟨(some 14), (.mov (.t 0)), none, [], 0⟩,
  ⟨(some 15), (.cvI .u8 (.t 14)), none, [], 0⟩,
  ⟨(some 16), (.idxS (.c (.s (.string (ByteArray.mk #[0, 1, 2, 2, 3, 3, 3, 3, 4, 4, 4, 4, 4, 4, 4, 4, 5, 5, 5, 5, 5, 5, 5, 5, 5, 5, 5, 5, 5, 5, 5, 5, 6, 6, 6, 6, 6, 6, 6, 6, 6, 6, 6, 6, 6, 6, 6, 6, 6, 6, 6, 6, 6, 6, 6, 6, 6, 6, 6, 6, 6, 6, 6, 6, 7, 7, 7, 7, 7, 7, 7, 7, 7, 7, 7, 7, 7, 7, 7, 7, 7, 7, 7, 7, 7, 7, 7, 7, 7, 7, 7, 7, 7, 7, 7, 7, 7, 7, 7, 7, 7, 7, 7, 7, 7, 7, 7, 7, 7, 7, 7, 7, 7, 7, 7, 7, 7, 7, 7, 7, 7, 7, 7, 7, 7, 7, 7, 7, 8, 8, 8, 8, 8, 8, 8, 8, 8, 8, 8, 8, 8, 8, 8, 8, 8, 8, 8, 8, 8, 8, 8, 8, 8, 8, 8, 8, 8, 8, 8, 8, 8, 8, 8, 8, 8, 8, 8, 8, 8, 8, 8, 8, 8, 8, 8, 8, 8, 8, 8, 8, 8, 8, 8, 8, 8, 8, 8, 8, 8, 8, 8, 8, 8, 8, 8, 8, 8, 8, 8, 8, 8, 8, 8, 8, 8, 8, 8, 8, 8, 8, 8, 8, 8, 8, 8, 8, 8, 8, 8, 8, 8, 8, 8, 8, 8, 8, 8, 8, 8, 8, 8, 8, 8, 8, 8, 8, 8, 8, 8, 8, 8, 8, 8, 8, 8, 8, 8, 8, 8, 8, 8, 8, 8, 8, 8, 8])))) (.t 15)), none, [], 0⟩,
  ⟨(some 17), (.cvI .i64 (.t 16)), none, [], 0⟩,
  ⟨(some 18), (.bin .add (.t 13) (.t 17)), none, [], 0⟩,
  ⟨(some 2), (.mov (.t 18)), none, [], 0⟩]
def ac94 : AC :=
  (.seq (.region g94_0 live94) (.seq (.seq (.region g94_1 live94) (.cond (.t 4) (.seq (.region g94_2 live94) (.region g94_3 live94)) .skip)) (.seq (.seq (.region g94_4 live94) (.cond (.t 8) (.seq (.region g94_5 live94) (.region g94_6 live94)) .skip)) (.seq (.region g94_7 live94) .ret))))
theorem fn94 : Den.Fn Try.prog 94 19 res94 ac94 := ⟨⟨Try.f94, _, live94, Try.func94, rfl, by kernel_rfl, rfl, by kernel_rfl, by kernel_rfl⟩⟩

/-- math/bits.Len64; parameters: 1 -/
def live95 : List Nat := [0, 2, 4, 8, 14]
def res95 : List RO := [(.t 2)]
def g95_0 : List AOper := [
  ⟨(some 2), (.mov (.c (.s (.int .i64 0)))), none, [], 0⟩]
def g95_1 : List AOper := [
  ⟨(some 3), (.mov (.t 0)), none, [], 0⟩,
  ⟨(some 4), (.bin .geq (.t 3) (.c (.s (.int .u64 4294967296)))), none, [], 0⟩]
def g95_2 : List AOper := [
  ⟨(some 5), (.mov (.t 0)), none, [], 0⟩,
  ⟨(some 6), (.bin .shr (.t 5) (.c (.s (.int .u64 32)))), none, [], 0⟩,
  ⟨(some 0), (.mov (.t 6)), none, [], 0⟩]
def g95_3 : List AOper := [
  ⟨(some 2), (.mov (.c (.s (.int .i64 32)))), none, [], 0⟩]
def g95_4 : List AOper := [
  ⟨(some 7), (.mov (.t 0)), none, [], 0⟩,
  ⟨(some 8), (.bin .geq (.t 7) (.c (.s (.int .u64 65536)))), none, [], 0⟩]
def g95_5 : List AOper := [
  ⟨(some 9), (.mov (.t 0)), none, [], 0⟩,
  ⟨(some 10), (.bin .shr (.t 9) (.c (.s (.int .u64 16)))), none, [], 0⟩,
  ⟨(some 0), (.mov (.t 10)), none, [], 0⟩]
def g95_6 : List AOper := [
  ⟨(some 11), (.mov (.t 2)), none, [], 0⟩,
  ⟨(some 12), (.bin .add (.t 11) (.c (.s (.int .i64 16)))), none, [], 0⟩,
  ⟨(some 2), (.mov (.t 12)), none, [], 0⟩]
def g95_7 : List AOper := [
  ⟨(some 13), (.mov (.t 0)), none, [], 0⟩,
  ⟨(some 14), (.bin .geq (.t 13) (.c (.s (.int .u64 256)))), none, [], 0⟩]
def g95_8 : List AOper := [
  ⟨(some 15), (.mov (.t 0)), none, [], 0⟩,
  ⟨(some 16), (.bin .shr (.t 15) (.c (.s (.int .u64 8)))), none, [], 0⟩,
  ⟨(some 0), (.mov (.t 16)), none, [], 0⟩]
def g95_9 : List AOper := [
  ⟨(some 17), (.mov (.t 2)), none, [], 0⟩,
  ⟨(some 18), (.bin .add (.t 17) (.c (.s (.int .i64 8)))), none, [], 0⟩,
  ⟨(some 2), (.mov (.t 18)), none, [], 0⟩]
def g95_10 : List AOper := [
  ⟨(some 19), (.mov (.t 2)), none, [], 0⟩,
  ⟨(some 20), (.mov (.t 0)), none, [], 0⟩,
  ⟨(some 21), (.cvI .u8 (.t 20)), none, [], 0⟩,
  ⟨(some 22), (.idxS (.c (.s (.string (ByteArray.mk #[0, 1, 2, 2, 3, 3, 3, 3, 4, 4, 4, 4, 4, 4, 4, 4, 5, 5, 5, 5, 5, 5, 5, 5, 5, 5, 5, 5, 5, 5, 5, 5, 6, 6, 6, 6, 6, 6, 6, 6, 6, 6, 6, 6, 6, 6, 6, 6, 6, 6, 6, 6, 6, 6, 6, 6, 6, 6, 6, 6, 6, 6, 6, 6, 7, 7, 7, 7, 7, 7, 7, 7, 7, 7, 7, 7, 7, 7, 7, 7, 7, 7, 7, 7, 7, 7, 7, 7, 7, 7, 7, 7, 7, 7, 7, 7, 7, 7, 7, 7, 7, 7, 7, 7, 7, 7, 7, 7, 7, 7, 7, 7, 7, 7, 7, 7, 7, 7, 7, 7, 7, 7, 7, 7, 7, 7, 7, 7, 8, 8, 8, 8, 8, 8, 8, 8, 8, 8, 8, 8, 8, 8, 8, 8, 8, 8, 8, 8, 8, 8, 8, 8, 8, 8, 8, 8, 8, 8, 8, 8, 8, 8, 8, 8, 8, 8, 8, 8, 8, 8, 8, 8, 8, 8, 8, 8, 8, 8, 8, 8, 8, 8, 8, 8, 8, 8, 8, 8, 8, 8, 8, 8, 8, 8, 8, 8, 8, 8, 8, 8, 8, 8, 8, 8, 8, 8, 8, 8, 8, 8, 8, 8, 8, 8, 8, 8, 8, 8, 8, 8, 8, 8, 8, 8, 8, 8, 8, 8, 8, 8, 8, 8, 8, 8, 8, 8, 8, 8, 8, 8, 8, 8, 8, 8, 8, 8, 8, 8, 8, 8, 8, 8, 8, 8, 8, 8])))) (.t 21)), none, [], 0⟩,
  ⟨(some 23), (.cvI .i64 (.t 22)), none, [], 0⟩,
  ⟨(some 24), (.bin .add (.t 19) (.t 23)), none, [], 0⟩,
  ⟨(some 2), (.mov (.t 24)), none, [], 0⟩]
def ac95 : AC :=
  (.seq (.region g95_0 live95) (.seq (.seq (.region g95_1 live95) (.cond (.t 4) (.seq (.region g95_2 live95) (.region g95_3 live95)) .skip)) (.seq (.seq (.region g95_4 live95) (.cond (.t 8) (.seq (.region g95_5 live95) (.region g95_6 live95)) .skip)) (.seq (.seq (.region g95_7 live95) (.cond (.t 14) (.seq (.region g95_8 live95) (.region g95_9 live95)) .skip)) (.seq (.region g95_10 live95) .ret)))))
theorem fn95 : Den.Fn Try.prog 95 25 res95 ac95 := ⟨⟨Try.f95, _, live95, Try.func95, rfl, by kernel_rfl, rfl, by kernel_rfl, by kernel_rfl⟩⟩


end Go.Proofs.Ytcmgfnhlnefchaa
