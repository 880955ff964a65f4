/-
  The code of functions, as a program of this work has printed it out of the loaded program (tools/DenPrint.lean), and that it is theirs.
-/
import Derived.Test.YtcmgfnhlnefchaaDenQ
import Derived.Test.YtcmgfnhlnefchaaProg
namespace Go.Proofs.Ytcmgfnhlnefchaa
open Go.Den

/-- chapman/chapmanlaw14.TableInverse; parameters: 3 -/
def live3 : List Nat := [0, 1, 2, 4, 6, 7, 8, 9, 10, 11, 12, 13, 14, 15, 18, 79, 105, 108]
def res3 : List RO := [(.t 6)]
def g3_0 : List AOper := [
  ⟨(some 4), (.box (.t 1)), none, [], 0⟩,
  ⟨(some 6), (.mov (.c (.s (.bool .false)))), none, [], 0⟩]
def g3_1 : List AOper := [
  ⟨(some 16), (.call (.c (.f 6 [])) []), none, [], 0⟩,
  ⟨(some 7), (.mov (.t 16)), none, [], 0⟩]
def g3_2 : List AOper := [
  ⟨(some 17), (.mov (.t 7)), none, [], 0⟩,
  ⟨(some 18), (.un .not (.t 17)), none, [], 0⟩]
def g3_3 : List AOper := [
  ⟨(some 6), (.mov (.c (.s (.bool .false)))), none, [], 0⟩]
def g3_4 : List AOper := [
  ⟨(some 19), (.mov (.t 2)), none, [], 0⟩,
  ⟨(some 20), (.bin .rem (.t 19) (.c (.s (.int .u8 3)))), none, [], 0⟩,
  ⟨(some 21), (.cvI .i64 (.t 20)), none, [], 0⟩,
  ⟨(some 22), (.bin .add (.c (.s (.int .i64 1))) (.t 21)), none, [], 0⟩,
  ⟨(some 8), (.mov (.t 22)), none, [], 0⟩]
def g3_5 : List AOper := [
  ⟨(some 23), (.mov (.t 0)), none, [], 0⟩,
  ⟨(some 24), (.mov (.t 8)), none, [], 1⟩,
  ⟨(some 25), (.call (.c (.f 7 [])) [(.t 23), (.t 24)]), none, [], 2⟩,
  ⟨(some 26), (.load 4 .true (.t 4)), none, [2], 3⟩,
  ⟨(some 27), (.call (.c (.f 8 [])) [(.t 26)]), none, [], 4⟩,
  ⟨(some 10), (.new [(.d .true 5 []), (.d .true 1 []), (.d .true 2 [])]), none, [2, 3, 4], 5⟩,
  ⟨(some 9), (.mov (.t 25)), none, [], 6⟩,
  ⟨none, (.store 3 (.t 10) (.t 27)), none, [], 7⟩]
def g3_6 : List AOper := [
  ⟨(some 28), (.load 3 .true (.t 10)), none, [], 0⟩,
  ⟨(some 29), (.mov (.t 8)), none, [], 0⟩,
  ⟨(some 30), (.call (.c (.f 9 [])) [(.t 28), (.t 29)]), none, [], 0⟩,
  ⟨(some 11), (.mov (.t 30)), none, [], 0⟩]
def g3_7 : List AOper := [
  ⟨(some 31), (.mov (.t 9)), none, [], 0⟩,
  ⟨(some 32), (.mov (.t 8)), none, [], 1⟩,
  ⟨(some 33), (.mov (.t 11)), none, [], 2⟩,
  ⟨(some 34), (.call (.c (.f 10 [])) [(.t 31), (.t 32), (.t 33)]), none, [], 3⟩,
  ⟨(some 35), (.mov (.t 9)), none, [], 4⟩,
  ⟨(some 36), (.mov (.t 8)), none, [], 5⟩,
  ⟨(some 37), (.load 3 .true (.t 10)), none, [3], 6⟩,
  ⟨(some 38), (.call (.c (.f 11 [])) [(.t 35), (.t 36), (.t 37)]), none, [], 7⟩,
  ⟨(some 12), (.new [(.s (.int .i64 0)), (.s (.bool .false))]), none, [3, 6, 7], 8⟩,
  ⟨(some 13), (.new [(.d .true 3 []), (.s (.int .i64 0))]), none, [3, 6, 7, 8], 9⟩,
  ⟨none, (.store 2 (.t 12) (.t 34)), none, [], 10⟩,
  ⟨none, (.store 2 (.t 13) (.t 38)), none, [], 11⟩]
def g3_8 : List AOper := [
  ⟨(some 39), (.fad 0 (.t 12)), none, [], 0⟩,
  ⟨(some 40), (.load 1 .false (.t 39)), none, [], 1⟩,
  ⟨(some 41), (.bin .lss (.t 40) (.c (.s (.int .i64 0)))), none, [], 2⟩,
  ⟨(some 42), (.mov (.t 41)), none, [], 3⟩,
  ⟨(some 43), (.fad 0 (.t 12)), (some (42, .false)), [], 4⟩,
  ⟨(some 44), (.load 1 .false (.t 43)), (some (42, .false)), [], 5⟩,
  ⟨(some 45), (.mov (.t 9)), (some (42, .false)), [], 6⟩,
  ⟨(some 46), (.len (.t 45)), (some (42, .false)), [], 7⟩,
  ⟨(some 47), (.bin .gtr (.t 44) (.t 46)), (some (42, .false)), [], 8⟩,
  ⟨(some 48), (.pick (.t 42) (.c (.s (.bool .true))) (.t 47)), none, [], 9⟩,
  ⟨(some 49), (.mov (.t 48)), none, [], 10⟩,
  ⟨(some 50), (.fad 1 (.t 13)), (some (49, .false)), [], 11⟩,
  ⟨(some 51), (.load 1 .false (.t 50)), (some (49, .false)), [], 12⟩,
  ⟨(some 52), (.bin .neq (.t 51) (.c (.s (.int .i64 0)))), (some (49, .false)), [], 13⟩,
  ⟨(some 53), (.pick (.t 49) (.c (.s (.bool .true))) (.t 52)), none, [], 14⟩,
  ⟨(some 54), (.mov (.t 53)), none, [], 15⟩,
  ⟨(some 55), (.fad 0 (.t 13)), (some (54, .false)), [], 16⟩,
  ⟨(some 56), (.load 1 .false (.t 55)), (some (54, .false)), [], 17⟩,
  ⟨(some 57), (.mov (.t 8)), (some (54, .false)), [], 18⟩,
  ⟨(some 58), (.call (.c (.f 12 [])) [(.t 56), (.t 57)]), (some (54, .false)), [], 19⟩,
  ⟨(some 59), (.un .not (.t 58)), (some (54, .false)), [], 20⟩,
  ⟨(some 60), (.pick (.t 54) (.c (.s (.bool .true))) (.t 59)), none, [], 21⟩,
  ⟨(some 61), (.mov (.t 60)), none, [], 22⟩,
  ⟨(some 62), (.fad 0 (.t 13)), (some (61, .false)), [], 23⟩,
  ⟨(some 63), (.load 1 .false (.t 62)), (some (61, .false)), [], 24⟩,
  ⟨(some 64), (.len (.t 63)), (some (61, .false)), [], 25⟩,
  ⟨(some 65), (.fad 0 (.t 12)), (some (61, .false)), [], 26⟩,
  ⟨(some 66), (.load 1 .false (.t 65)), (some (61, .false)), [24], 27⟩,
  ⟨(some 67), (.bin .leq (.t 64) (.t 66)), (some (61, .false)), [], 28⟩,
  ⟨(some 68), (.pick (.t 61) (.c (.s (.bool .true))) (.t 67)), none, [], 29⟩,
  ⟨(some 69), (.mov (.t 68)), none, [], 30⟩,
  ⟨(some 70), (.fad 0 (.t 13)), (some (69, .false)), [], 31⟩,
  ⟨(some 71), (.load 1 .false (.t 70)), (some (69, .false)), [], 32⟩,
  ⟨(some 72), (.fad 0 (.t 12)), (some (69, .false)), [], 33⟩,
  ⟨(some 73), (.load 1 .false (.t 72)), (some (69, .false)), [32], 34⟩,
  ⟨(some 74), (.iad 3 (.t 71) (.t 73)), (some (69, .false)), [], 35⟩,
  ⟨(some 75), (.load 3 .true (.t 74)), (some (69, .false)), [], 36⟩,
  ⟨(some 76), (.load 3 .true (.t 10)), (some (69, .false)), [32, 34, 36], 37⟩,
  ⟨(some 77), (.call (.c (.f 13 [])) [(.t 75), (.t 76)]), (some (69, .false)), [], 38⟩,
  ⟨(some 78), (.un .not (.t 77)), (some (69, .false)), [], 39⟩,
  ⟨(some 79), (.pick (.t 69) (.c (.s (.bool .true))) (.t 78)), none, [], 40⟩]
def g3_9 : List AOper := [
  ⟨(some 6), (.mov (.c (.s (.bool .false)))), none, [], 0⟩]
def g3_10 : List AOper := [
  ⟨(some 80), (.fad 1 (.t 12)), none, [], 0⟩,
  ⟨(some 81), (.load 1 .false (.t 80)), none, [], 0⟩,
  ⟨(some 82), (.un .not (.t 81)), none, [], 0⟩,
  ⟨(some 83), (.mov (.t 82)), none, [], 0⟩,
  ⟨(some 84), (.fad 0 (.t 13)), (some (83, .true)), [], 0⟩,
  ⟨(some 85), (.load 1 .false (.t 84)), (some (83, .true)), [], 0⟩,
  ⟨(some 86), (.mov (.t 8)), (some (83, .true)), [], 0⟩,
  ⟨(some 87), (.mov (.t 11)), (some (83, .true)), [], 0⟩,
  ⟨(some 88), (.call (.c (.f 15 [])) [(.t 85), (.t 86), (.t 87)]), (some (83, .true)), [], 0⟩,
  ⟨(some 89), (.mov (.t 9)), (some (83, .true)), [], 0⟩,
  ⟨(some 90), (.build [(.d .true 3 []), (.s (.int .i64 0))] [(0, (1, (.t 89)))]), (some (83, .true)), [], 0⟩,
  ⟨(some 91), (.call (.c (.f 14 [])) [(.t 88), (.t 90)]), (some (83, .true)), [], 0⟩,
  ⟨(some 92), (.un .not (.t 91)), (some (83, .true)), [], 0⟩,
  ⟨(some 93), (.pick (.t 83) (.t 92) (.c (.s (.bool .false)))), none, [], 0⟩,
  ⟨(some 94), (.mov (.t 93)), none, [], 0⟩,
  ⟨(some 95), (.fad 1 (.t 12)), (some (94, .false)), [], 0⟩,
  ⟨(some 96), (.load 1 .false (.t 95)), (some (94, .false)), [], 0⟩,
  ⟨(some 97), (.mov (.t 96)), (some (94, .false)), [], 0⟩,
  ⟨(some 98), (.fad 0 (.t 13)), (some (97, .true)), [], 0⟩,
  ⟨(some 99), (.load 1 .false (.t 98)), (some (97, .true)), [], 0⟩,
  ⟨(some 100), (.len (.t 99)), (some (97, .true)), [], 0⟩,
  ⟨(some 101), (.mov (.t 9)), (some (97, .true)), [], 0⟩,
  ⟨(some 102), (.len (.t 101)), (some (97, .true)), [], 0⟩,
  ⟨(some 103), (.bin .neq (.t 100) (.t 102)), (some (97, .true)), [], 0⟩,
  ⟨(some 104), (.pick (.t 97) (.t 103) (.c (.s (.bool .false)))), (some (94, .false)), [], 0⟩,
  ⟨(some 105), (.pick (.t 94) (.c (.s (.bool .true))) (.t 104)), none, [], 0⟩]
def g3_11 : List AOper := [
  ⟨(some 6), (.mov (.c (.s (.bool .false)))), none, [], 0⟩]
def g3_12 : List AOper := [
  ⟨(some 106), (.mov (.t 9)), none, [], 0⟩,
  ⟨(some 107), (.len (.t 106)), none, [], 0⟩,
  ⟨(some 108), (.bin .eql (.t 107) (.c (.s (.int .i64 0)))), none, [], 0⟩]
def g3_13 : List AOper := [
  ⟨(some 109), (.mov (.t 7)), none, [], 0⟩,
  ⟨(some 6), (.mov (.t 109)), none, [], 0⟩]
def g3_14 : List AOper := [
  ⟨(some 110), (.mov (.t 9)), none, [], 0⟩,
  ⟨(some 111), (.mov (.t 2)), none, [], 0⟩,
  ⟨(some 112), (.cvI .i64 (.t 111)), none, [], 0⟩,
  ⟨(some 113), (.mov (.t 9)), none, [], 0⟩,
  ⟨(some 114), (.len (.t 113)), none, [], 0⟩,
  ⟨(some 115), (.bin .rem (.t 112) (.t 114)), none, [], 0⟩,
  ⟨(some 116), (.iad 3 (.t 110) (.t 115)), none, [], 0⟩,
  ⟨(some 117), (.load 3 .true (.t 116)), none, [], 0⟩,
  ⟨(some 14), (.new [(.d .true 5 []), (.d .true 1 []), (.d .true 2 [])]), none, [], 0⟩,
  ⟨none, (.store 3 (.t 14) (.t 117)), none, [], 0⟩]
def g3_15 : List AOper := [
  ⟨(some 118), (.mov (.t 9)), none, [], 0⟩,
  ⟨(some 119), (.mov (.t 8)), none, [], 0⟩,
  ⟨(some 120), (.load 3 .true (.t 14)), none, [], 0⟩,
  ⟨(some 121), (.mov (.t 8)), none, [], 0⟩,
  ⟨(some 122), (.call (.c (.f 9 [])) [(.t 120), (.t 121)]), none, [], 0⟩,
  ⟨(some 123), (.call (.c (.f 15 [])) [(.t 118), (.t 119), (.t 122)]), none, [], 0⟩,
  ⟨(some 15), (.new [(.d .true 3 []), (.s (.int .i64 0))]), none, [], 0⟩,
  ⟨none, (.store 2 (.t 15) (.t 123)), none, [], 0⟩]
def g3_16 : List AOper := [
  ⟨(some 124), (.fad 1 (.t 15)), none, [], 0⟩,
  ⟨(some 125), (.load 1 .false (.t 124)), none, [], 0⟩,
  ⟨(some 126), (.bin .eql (.t 125) (.c (.s (.int .i64 0)))), none, [], 0⟩,
  ⟨(some 127), (.mov (.t 126)), none, [], 0⟩,
  ⟨(some 128), (.fad 0 (.t 15)), (some (127, .true)), [], 0⟩,
  ⟨(some 129), (.load 1 .false (.t 128)), (some (127, .true)), [], 0⟩,
  ⟨(some 130), (.mov (.t 8)), (some (127, .true)), [], 0⟩,
  ⟨(some 131), (.call (.c (.f 12 [])) [(.t 129), (.t 130)]), (some (127, .true)), [], 0⟩,
  ⟨(some 132), (.pick (.t 127) (.t 131) (.c (.s (.bool .false)))), none, [], 0⟩,
  ⟨(some 133), (.mov (.t 132)), none, [], 0⟩,
  ⟨(some 134), (.fad 0 (.t 15)), (some (133, .true)), [], 0⟩,
  ⟨(some 135), (.load 1 .false (.t 134)), (some (133, .true)), [], 0⟩,
  ⟨(some 136), (.mov (.t 8)), (some (133, .true)), [], 0⟩,
  ⟨(some 137), (.load 3 .true (.t 14)), (some (133, .true)), [], 0⟩,
  ⟨(some 138), (.call (.c (.f 11 [])) [(.t 135), (.t 136), (.t 137)]), (some (133, .true)), [], 0⟩,
  ⟨(some 139), (.mov (.t 9)), (some (133, .true)), [], 0⟩,
  ⟨(some 140), (.build [(.d .true 3 []), (.s (.int .i64 0))] [(0, (1, (.t 139)))]), (some (133, .true)), [], 0⟩,
  ⟨(some 141), (.call (.c (.f 14 [])) [(.t 138), (.t 140)]), (some (133, .true)), [], 0⟩,
  ⟨(some 142), (.pick (.t 133) (.t 141) (.c (.s (.bool .false)))), none, [], 0⟩,
  ⟨(some 143), (.mov (.t 142)), none, [], 0⟩,
  ⟨(some 144), (.mov (.t 7)), (some (143, .true)), [], 0⟩,
  ⟨(some 145), (.pick (.t 143) (.t 144) (.c (.s (.bool .false)))), none, [], 0⟩,
  ⟨(some 6), (.mov (.t 145)), none, [], 0⟩]
def ac3 : AC :=
  (.seq (.region g3_0 live3) (.seq (.region g3_1 live3) (.seq (.seq (.region g3_2 live3) (.cond (.t 18) (.seq (.region g3_3 live3) .ret) .skip)) (.seq (.region g3_4 live3) (.seq (.drawn g3_5 live3) (.seq (.region g3_6 live3) (.seq (.drawn g3_7 live3) (.seq (.seq (.drawn g3_8 live3) (.cond (.t 79) (.seq (.region g3_9 live3) .ret) .skip)) (.seq (.seq (.region g3_10 live3) (.cond (.t 105) (.seq (.region g3_11 live3) .ret) .skip)) (.seq (.seq (.region g3_12 live3) (.cond (.t 108) (.seq (.region g3_13 live3) .ret) .skip)) (.seq (.region g3_14 live3) (.seq (.region g3_15 live3) (.seq (.region g3_16 live3) .ret)))))))))))))
theorem fn3 : Den.Fn Try.prog 3 146 res3 ac3 := ⟨⟨Try.f3, _, live3, Try.func3, rfl, by kernel_rfl, rfl, by kernel_rfl, by kernel_rfl⟩⟩

/-- chapman/chapmanlaw14.TableMatchesReference; parameters: 3 -/
def live4 : List Nat := [0, 1, 2, 4, 5, 6, 7, 8, 9, 10, 11, 12, 13, 14, 15, 16, 17, 18, 19, 20, 21, 22, 23, 24, 39, 64, 83, 129, 133, 205, 209, 279, 328]
def res4 : List RO := [(.t 6)]
def g4_0 : List AOper := [
  ⟨(some 4), (.box (.t 1)), none, [], 0⟩,
  ⟨(some 5), (.box (.t 2)), none, [], 0⟩,
  ⟨(some 6), (.mov (.c (.s (.bool .false)))), none, [], 0⟩]
def g4_1 : List AOper := [
  ⟨(some 25), (.call (.c (.f 6 [])) []), none, [], 0⟩,
  ⟨(some 7), (.mov (.t 25)), none, [], 0⟩]
def g4_2 : List AOper := [
  ⟨(some 26), (.mov (.t 7)), none, [], 0⟩,
  ⟨(some 27), (.un .not (.t 26)), none, [], 0⟩,
  ⟨(some 28), (.mov (.t 27)), none, [], 0⟩,
  ⟨(some 29), (.fad 9 (.t 4)), (some (28, .false)), [], 0⟩,
  ⟨(some 30), (.load 1 .false (.t 29)), (some (28, .false)), [], 0⟩,
  ⟨(some 31), (.call (.c (.f 16 [])) [(.t 30)]), (some (28, .false)), [], 0⟩,
  ⟨(some 32), (.un .not (.t 31)), (some (28, .false)), [], 0⟩,
  ⟨(some 33), (.pick (.t 28) (.c (.s (.bool .true))) (.t 32)), none, [], 0⟩,
  ⟨(some 34), (.mov (.t 33)), none, [], 0⟩,
  ⟨(some 35), (.fad 10 (.t 4)), (some (34, .false)), [], 0⟩,
  ⟨(some 36), (.load 1 .false (.t 35)), (some (34, .false)), [], 0⟩,
  ⟨(some 37), (.len (.t 36)), (some (34, .false)), [], 0⟩,
  ⟨(some 38), (.bin .gtr (.t 37) (.c (.s (.int .i64 6)))), (some (34, .false)), [], 0⟩,
  ⟨(some 39), (.pick (.t 34) (.c (.s (.bool .true))) (.t 38)), none, [], 0⟩]
def g4_3 : List AOper := [
  ⟨(some 40), (.mov (.t 7)), none, [], 0⟩,
  ⟨(some 6), (.mov (.t 40)), none, [], 0⟩]
def g4_4 : List AOper := [
  ⟨(some 41), (.iadA 3 1 (.t 5) (.c (.s (.int .i64 0)))), none, [], 0⟩,
  ⟨(some 42), (.load 1 .false (.t 41)), none, [], 0⟩,
  ⟨(some 43), (.bin .rem (.t 42) (.c (.s (.int .u8 3)))), none, [], 0⟩,
  ⟨(some 44), (.cvI .i64 (.t 43)), none, [], 0⟩,
  ⟨(some 45), (.bin .add (.c (.s (.int .i64 1))) (.t 44)), none, [], 0⟩,
  ⟨(some 8), (.mov (.t 45)), none, [], 0⟩]
def g4_5 : List AOper := [
  ⟨(some 46), (.mov (.t 0)), none, [], 0⟩,
  ⟨(some 47), (.mov (.t 8)), none, [], 1⟩,
  ⟨(some 48), (.call (.c (.f 7 [])) [(.t 46), (.t 47)]), none, [], 2⟩,
  ⟨(some 49), (.fad 0 (.t 4)), none, [], 3⟩,
  ⟨(some 50), (.load 4 .true (.t 49)), none, [2], 4⟩,
  ⟨(some 51), (.call (.c (.f 8 [])) [(.t 50)]), none, [], 5⟩,
  ⟨(some 52), (.fad 5 (.t 4)), none, [], 6⟩,
  ⟨(some 53), (.load 4 .true (.t 52)), none, [2, 4, 5], 7⟩,
  ⟨(some 54), (.call (.c (.f 8 [])) [(.t 53)]), none, [], 8⟩,
  ⟨(some 10), (.new [(.d .true 5 []), (.d .true 1 []), (.d .true 2 [])]), none, [2, 4, 5, 7, 8], 9⟩,
  ⟨(some 11), (.new [(.d .true 5 []), (.d .true 1 []), (.d .true 2 [])]), none, [2, 4, 5, 7, 8, 9], 10⟩,
  ⟨(some 9), (.mov (.t 48)), none, [], 11⟩,
  ⟨none, (.store 3 (.t 10) (.t 51)), none, [], 12⟩,
  ⟨none, (.store 3 (.t 11) (.t 54)), none, [], 13⟩]
def g4_6 : List AOper := [
  ⟨(some 55), (.load 3 .true (.t 10)), none, [], 0⟩,
  ⟨(some 56), (.bslice 3 [[(.d .true 5 []), (.d .true 1 []), (.d .true 2 [])]] [(0, (.t 55))]), none, [], 0⟩,
  ⟨(some 12), (.mov (.t 56)), none, [], 0⟩]
def g4_7 : List AOper := [
  ⟨(some 13), (.mov (.c (.s (.int .i64 0)))), none, [], 0⟩]
def g4_8 : List AOper := [
  ⟨(some 57), (.mov (.t 13)), none, [], 0⟩,
  ⟨(some 58), (.mov (.t 0)), none, [], 0⟩,
  ⟨(some 59), (.len (.t 58)), none, [], 0⟩,
  ⟨(some 60), (.bin .lss (.t 57) (.t 59)), none, [], 0⟩,
  ⟨(some 61), (.mov (.t 60)), none, [], 0⟩,
  ⟨(some 62), (.mov (.t 13)), (some (61, .true)), [], 0⟩,
  ⟨(some 63), (.bin .lss (.t 62) (.c (.s (.int .i64 6)))), (some (61, .true)), [], 0⟩,
  ⟨(some 64), (.pick (.t 61) (.t 63) (.c (.s (.bool .false)))), none, [], 0⟩]
def g4_9 : List AOper := [
  ⟨(some 67), (.mov (.t 12)), none, [], 0⟩,
  ⟨(some 68), (.mov (.t 0)), none, [], 0⟩,
  ⟨(some 69), (.mov (.t 13)), none, [], 0⟩,
  ⟨(some 70), (.iad 4 (.t 68) (.t 69)), none, [], 0⟩,
  ⟨(some 71), (.load 4 .true (.t 70)), none, [], 0⟩,
  ⟨(some 72), (.call (.c (.f 8 [])) [(.t 71)]), none, [], 0⟩,
  ⟨(some 73), (.bslice 3 [[(.d .true 5 []), (.d .true 1 []), (.d .true 2 [])]] [(0, (.t 72))]), none, [], 0⟩,
  ⟨(some 74), (.app 3 72 (.t 67) (.t 73)), none, [], 0⟩,
  ⟨(some 12), (.mov (.t 74)), none, [], 0⟩]
def g4_10 : List AOper := [
  ⟨(some 65), (.mov (.t 13)), none, [], 0⟩,
  ⟨(some 66), (.bin .add (.t 65) (.c (.s (.int .i64 1)))), none, [], 0⟩,
  ⟨(some 13), (.mov (.t 66)), none, [], 0⟩]
def g4_11 : List AOper := [
  ⟨(some 75), (.mov (.t 9)), none, [], 0⟩,
  ⟨(some 76), (.fad 9 (.t 4)), none, [], 0⟩,
  ⟨(some 77), (.load 1 .false (.t 76)), none, [], 0⟩,
  ⟨(some 78), (.mov (.t 12)), none, [], 0⟩,
  ⟨(some 79), (.bslice 1 [[(.d .true 3 [])], [(.d .true 3 [])], [(.d .true 3 [])]] [(0, (.t 75)), (1, (.t 77)), (2, (.t 78))]), none, [], 0⟩,
  ⟨(some 14), (.mov (.t 79)), none, [], 0⟩]
def g4_12 : List AOper := [
  ⟨(some 15), (.mov (.c (.s (.int .i64 0)))), none, [], 0⟩]
def g4_13 : List AOper := [
  ⟨(some 80), (.mov (.t 15)), none, [], 0⟩,
  ⟨(some 81), (.mov (.t 14)), none, [], 0⟩,
  ⟨(some 82), (.len (.t 81)), none, [], 0⟩,
  ⟨(some 83), (.bin .lss (.t 80) (.t 82)), none, [], 0⟩]
def g4_14 : List AOper := [
  ⟨(some 86), (.mov (.t 14)), none, [], 0⟩,
  ⟨(some 87), (.mov (.t 15)), none, [], 0⟩,
  ⟨(some 88), (.iad 1 (.t 86) (.t 87)), none, [], 0⟩,
  ⟨(some 89), (.load 1 .false (.t 88)), none, [], 0⟩,
  ⟨(some 16), (.mov (.t 89)), none, [], 0⟩]
def g4_15 : List AOper := [
  ⟨(some 90), (.mov (.t 16)), none, [], 0⟩,
  ⟨(some 91), (.mov (.t 8)), none, [], 1⟩,
  ⟨(some 92), (.call (.c (.f 17 [])) [(.t 90), (.t 91)]), none, [], 2⟩,
  ⟨(some 93), (.mov (.t 16)), none, [], 3⟩,
  ⟨(some 94), (.mov (.t 8)), none, [], 4⟩,
  ⟨(some 95), (.call (.c (.f 12 [])) [(.t 93), (.t 94)]), none, [], 5⟩,
  ⟨(some 96), (.eqB .true (.t 92) (.t 95)), none, [], 6⟩,
  ⟨(some 97), (.mov (.t 96)), none, [], 7⟩,
  ⟨(some 98), (.mov (.t 16)), (some (97, .false)), [], 8⟩,
  ⟨(some 99), (.fad 4 (.t 4)), (some (97, .false)), [], 9⟩,
  ⟨(some 100), (.load 1 .false (.t 99)), (some (97, .false)), [], 10⟩,
  ⟨(some 101), (.call (.c (.f 17 [])) [(.t 98), (.t 100)]), (some (97, .false)), [], 11⟩,
  ⟨(some 102), (.mov (.t 16)), (some (97, .false)), [], 12⟩,
  ⟨(some 103), (.fad 4 (.t 4)), (some (97, .false)), [], 13⟩,
  ⟨(some 104), (.load 1 .false (.t 103)), (some (97, .false)), [10, 11], 14⟩,
  ⟨(some 105), (.call (.c (.f 12 [])) [(.t 102), (.t 104)]), (some (97, .false)), [], 15⟩,
  ⟨(some 106), (.eqB .true (.t 101) (.t 105)), (some (97, .false)), [], 16⟩,
  ⟨(some 107), (.pick (.t 97) (.c (.s (.bool .true))) (.t 106)), none, [], 17⟩,
  ⟨(some 108), (.mov (.t 107)), none, [], 18⟩,
  ⟨(some 109), (.mov (.t 16)), (some (108, .false)), [], 19⟩,
  ⟨(some 110), (.mov (.t 8)), (some (108, .false)), [], 20⟩,
  ⟨(some 111), (.call (.c (.f 18 [])) [(.t 109), (.t 110)]), (some (108, .false)), [], 21⟩,
  ⟨(some 112), (.mov (.t 16)), (some (108, .false)), [], 22⟩,
  ⟨(some 113), (.mov (.t 8)), (some (108, .false)), [], 23⟩,
  ⟨(some 114), (.call (.c (.f 19 [])) [(.t 112), (.t 113)]), (some (108, .false)), [], 24⟩,
  ⟨(some 115), (.call (.c (.f 14 [])) [(.t 111), (.t 114)]), (some (108, .false)), [], 25⟩,
  ⟨(some 116), (.un .not (.t 115)), (some (108, .false)), [], 26⟩,
  ⟨(some 117), (.pick (.t 108) (.c (.s (.bool .true))) (.t 116)), none, [], 27⟩,
  ⟨(some 118), (.mov (.t 117)), none, [], 28⟩,
  ⟨(some 119), (.mov (.t 16)), (some (118, .false)), [], 29⟩,
  ⟨(some 120), (.fad 4 (.t 4)), (some (118, .false)), [], 30⟩,
  ⟨(some 121), (.load 1 .false (.t 120)), (some (118, .false)), [], 31⟩,
  ⟨(some 122), (.call (.c (.f 18 [])) [(.t 119), (.t 121)]), (some (118, .false)), [], 32⟩,
  ⟨(some 123), (.mov (.t 16)), (some (118, .false)), [], 33⟩,
  ⟨(some 124), (.fad 4 (.t 4)), (some (118, .false)), [], 34⟩,
  ⟨(some 125), (.load 1 .false (.t 124)), (some (118, .false)), [31, 32], 35⟩,
  ⟨(some 126), (.call (.c (.f 19 [])) [(.t 123), (.t 125)]), (some (118, .false)), [], 36⟩,
  ⟨(some 127), (.call (.c (.f 14 [])) [(.t 122), (.t 126)]), (some (118, .false)), [], 37⟩,
  ⟨(some 128), (.un .not (.t 127)), (some (118, .false)), [], 38⟩,
  ⟨(some 129), (.pick (.t 118) (.c (.s (.bool .true))) (.t 128)), none, [], 39⟩]
def g4_16 : List AOper := [
  ⟨(some 6), (.mov (.c (.s (.bool .false)))), none, [], 0⟩]
def g4_17 : List AOper := [
  ⟨(some 17), (.mov (.c (.s (.int .i64 0)))), none, [], 0⟩]
def g4_18 : List AOper := [
  ⟨(some 130), (.mov (.t 17)), none, [], 0⟩,
  ⟨(some 131), (.mov (.t 16)), none, [], 0⟩,
  ⟨(some 132), (.len (.t 131)), none, [], 0⟩,
  ⟨(some 133), (.bin .lss (.t 130) (.t 132)), none, [], 0⟩]
def g4_19 : List AOper := [
  ⟨(some 136), (.mov (.t 16)), none, [], 0⟩,
  ⟨(some 137), (.mov (.t 17)), none, [], 1⟩,
  ⟨(some 138), (.iad 3 (.t 136) (.t 137)), none, [], 2⟩,
  ⟨(some 139), (.load 3 .true (.t 138)), none, [], 3⟩,
  ⟨(some 140), (.load 3 .true (.t 5)), none, [3], 4⟩,
  ⟨(some 141), (.call (.c (.f 20 [])) [(.t 139), (.t 140)]), none, [], 5⟩,
  ⟨(some 18), (.new [(.d .true 5 []), (.d .true 1 []), (.d .true 2 [])]), none, [3, 4, 5], 6⟩,
  ⟨none, (.store 3 (.t 18) (.t 141)), none, [], 7⟩]
def g4_20 : List AOper := [
  ⟨(some 142), (.mov (.t 16)), none, [], 0⟩,
  ⟨(some 143), (.mov (.t 17)), none, [], 1⟩,
  ⟨(some 144), (.iad 3 (.t 142) (.t 143)), none, [], 2⟩,
  ⟨(some 145), (.load 3 .true (.t 144)), none, [], 3⟩,
  ⟨(some 146), (.fad 4 (.t 4)), none, [], 4⟩,
  ⟨(some 147), (.load 1 .false (.t 146)), none, [3], 5⟩,
  ⟨(some 148), (.call (.c (.f 22 [])) [(.t 145), (.t 147)]), none, [], 6⟩,
  ⟨(some 149), (.mov (.t 16)), none, [], 7⟩,
  ⟨(some 150), (.mov (.t 17)), none, [], 8⟩,
  ⟨(some 151), (.iad 3 (.t 149) (.t 150)), none, [], 9⟩,
  ⟨(some 152), (.load 3 .true (.t 151)), none, [3, 5, 6], 10⟩,
  ⟨(some 153), (.fad 4 (.t 4)), none, [], 11⟩,
  ⟨(some 154), (.load 1 .false (.t 153)), none, [3, 5, 6, 10], 12⟩,
  ⟨(some 155), (.call (.c (.f 9 [])) [(.t 152), (.t 154)]), none, [], 13⟩,
  ⟨(some 156), (.call (.c (.f 21 [])) [(.t 148), (.t 155)]), none, [], 14⟩,
  ⟨(some 157), (.un .not (.t 156)), none, [], 15⟩,
  ⟨(some 158), (.mov (.t 157)), none, [], 16⟩,
  ⟨(some 159), (.mov (.t 16)), (some (158, .false)), [], 17⟩,
  ⟨(some 160), (.mov (.t 17)), (some (158, .false)), [], 18⟩,
  ⟨(some 161), (.iad 3 (.t 159) (.t 160)), (some (158, .false)), [], 19⟩,
  ⟨(some 162), (.load 3 .true (.t 161)), (some (158, .false)), [], 20⟩,
  ⟨(some 163), (.call (.c (.f 23 [])) [(.t 162)]), (some (158, .false)), [], 21⟩,
  ⟨(some 164), (.mov (.t 16)), (some (158, .false)), [], 22⟩,
  ⟨(some 165), (.mov (.t 17)), (some (158, .false)), [], 23⟩,
  ⟨(some 166), (.iad 3 (.t 164) (.t 165)), (some (158, .false)), [], 24⟩,
  ⟨(some 167), (.load 3 .true (.t 166)), (some (158, .false)), [20, 21], 25⟩,
  ⟨(some 168), (.call (.c (.f 24 [])) [(.t 167)]), (some (158, .false)), [], 26⟩,
  ⟨(some 169), (.call (.c (.f 21 [])) [(.t 163), (.t 168)]), (some (158, .false)), [], 27⟩,
  ⟨(some 170), (.un .not (.t 169)), (some (158, .false)), [], 28⟩,
  ⟨(some 171), (.pick (.t 158) (.c (.s (.bool .true))) (.t 170)), none, [], 29⟩,
  ⟨(some 172), (.mov (.t 171)), none, [], 30⟩,
  ⟨(some 173), (.mov (.t 16)), (some (172, .false)), [], 31⟩,
  ⟨(some 174), (.mov (.t 17)), (some (172, .false)), [], 32⟩,
  ⟨(some 175), (.iad 3 (.t 173) (.t 174)), (some (172, .false)), [], 33⟩,
  ⟨(some 176), (.load 3 .true (.t 175)), (some (172, .false)), [], 34⟩,
  ⟨(some 177), (.load 3 .true (.t 18)), (some (172, .false)), [34], 35⟩,
  ⟨(some 178), (.call (.c (.f 25 [])) [(.t 176), (.t 177)]), (some (172, .false)), [], 36⟩,
  ⟨(some 179), (.mov (.t 16)), (some (172, .false)), [], 37⟩,
  ⟨(some 180), (.mov (.t 17)), (some (172, .false)), [], 38⟩,
  ⟨(some 181), (.iad 3 (.t 179) (.t 180)), (some (172, .false)), [], 39⟩,
  ⟨(some 182), (.load 3 .true (.t 181)), (some (172, .false)), [34, 35, 36], 40⟩,
  ⟨(some 183), (.load 3 .true (.t 18)), (some (172, .false)), [34, 35, 36, 40], 41⟩,
  ⟨(some 184), (.call (.c (.f 13 [])) [(.t 182), (.t 183)]), (some (172, .false)), [], 42⟩,
  ⟨(some 185), (.eqB .true (.t 178) (.t 184)), (some (172, .false)), [], 43⟩,
  ⟨(some 186), (.pick (.t 172) (.c (.s (.bool .true))) (.t 185)), none, [], 44⟩,
  ⟨(some 187), (.mov (.t 186)), none, [], 45⟩,
  ⟨(some 188), (.mov (.t 16)), (some (187, .false)), [], 46⟩,
  ⟨(some 189), (.iad 3 (.t 188) (.c (.s (.int .i64 0)))), (some (187, .false)), [], 47⟩,
  ⟨(some 190), (.load 3 .true (.t 189)), (some (187, .false)), [], 48⟩,
  ⟨(some 191), (.mov (.t 16)), (some (187, .false)), [], 49⟩,
  ⟨(some 192), (.mov (.t 17)), (some (187, .false)), [], 50⟩,
  ⟨(some 193), (.iad 3 (.t 191) (.t 192)), (some (187, .false)), [], 51⟩,
  ⟨(some 194), (.load 3 .true (.t 193)), (some (187, .false)), [48], 52⟩,
  ⟨(some 195), (.call (.c (.f 25 [])) [(.t 190), (.t 194)]), (some (187, .false)), [], 53⟩,
  ⟨(some 196), (.mov (.t 16)), (some (187, .false)), [], 54⟩,
  ⟨(some 197), (.iad 3 (.t 196) (.c (.s (.int .i64 0)))), (some (187, .false)), [], 55⟩,
  ⟨(some 198), (.load 3 .true (.t 197)), (some (187, .false)), [48, 52, 53], 56⟩,
  ⟨(some 199), (.mov (.t 16)), (some (187, .false)), [], 57⟩,
  ⟨(some 200), (.mov (.t 17)), (some (187, .false)), [], 58⟩,
  ⟨(some 201), (.iad 3 (.t 199) (.t 200)), (some (187, .false)), [], 59⟩,
  ⟨(some 202), (.load 3 .true (.t 201)), (some (187, .false)), [48, 52, 53, 56], 60⟩,
  ⟨(some 203), (.call (.c (.f 13 [])) [(.t 198), (.t 202)]), (some (187, .false)), [], 61⟩,
  ⟨(some 204), (.eqB .true (.t 195) (.t 203)), (some (187, .false)), [], 62⟩,
  ⟨(some 205), (.pick (.t 187) (.c (.s (.bool .true))) (.t 204)), none, [], 63⟩]
def g4_21 : List AOper := [
  ⟨(some 6), (.mov (.c (.s (.bool .false)))), none, [], 0⟩]
def g4_22 : List AOper := [
  ⟨(some 134), (.mov (.t 17)), none, [], 0⟩,
  ⟨(some 135), (.bin .add (.t 134) (.c (.s (.int .i64 1)))), none, [], 0⟩,
  ⟨(some 17), (.mov (.t 135)), none, [], 0⟩]
def g4_23 : List AOper := [
  ⟨(some 206), (.mov (.t 16)), none, [], 0⟩,
  ⟨(some 207), (.mov (.t 8)), none, [], 0⟩,
  ⟨(some 208), (.call (.c (.f 12 [])) [(.t 206), (.t 207)]), none, [], 0⟩,
  ⟨(some 209), (.un .not (.t 208)), none, [], 0⟩]
def g4_24 : List AOper := [
  ⟨(some 210), (.load 3 .true (.t 10)), none, [], 0⟩,
  ⟨(some 211), (.mov (.t 8)), none, [], 1⟩,
  ⟨(some 212), (.call (.c (.f 9 [])) [(.t 210), (.t 211)]), none, [], 2⟩,
  ⟨(some 213), (.load 3 .true (.t 11)), none, [0, 2], 3⟩,
  ⟨(some 214), (.iadA 3 1 (.t 5) (.c (.s (.int .i64 1)))), none, [], 4⟩,
  ⟨(some 215), (.load 1 .false (.t 214)), none, [0, 2, 3], 5⟩,
  ⟨(some 216), (.bin .rem (.t 215) (.c (.s (.int .u8 3)))), none, [], 6⟩,
  ⟨(some 217), (.cvI .i64 (.t 216)), none, [], 7⟩,
  ⟨(some 218), (.bin .add (.c (.s (.int .i64 1))) (.t 217)), none, [], 8⟩,
  ⟨(some 219), (.call (.c (.f 9 [])) [(.t 213), (.t 218)]), none, [], 9⟩,
  ⟨(some 19), (.mov (.t 212)), none, [], 10⟩,
  ⟨(some 20), (.mov (.t 219)), none, [], 11⟩]
def g4_25 : List AOper := [
  ⟨(some 220), (.mov (.t 16)), none, [], 0⟩,
  ⟨(some 221), (.mov (.t 8)), none, [], 1⟩,
  ⟨(some 222), (.mov (.t 19)), none, [], 2⟩,
  ⟨(some 223), (.call (.c (.f 10 [])) [(.t 220), (.t 221), (.t 222)]), none, [], 3⟩,
  ⟨(some 224), (.mov (.t 16)), none, [], 4⟩,
  ⟨(some 225), (.mov (.t 8)), none, [], 5⟩,
  ⟨(some 226), (.mov (.t 19)), none, [], 6⟩,
  ⟨(some 227), (.call (.c (.f 26 [])) [(.t 224), (.t 225), (.t 226)]), none, [], 7⟩,
  ⟨(some 228), (.eqA .true [0, 1] (.t 223) (.t 227)), none, [], 8⟩,
  ⟨(some 229), (.mov (.t 228)), none, [], 9⟩,
  ⟨(some 230), (.mov (.t 16)), (some (229, .false)), [], 10⟩,
  ⟨(some 231), (.mov (.t 8)), (some (229, .false)), [], 11⟩,
  ⟨(some 232), (.mov (.t 20)), (some (229, .false)), [], 12⟩,
  ⟨(some 233), (.call (.c (.f 10 [])) [(.t 230), (.t 231), (.t 232)]), (some (229, .false)), [], 13⟩,
  ⟨(some 234), (.mov (.t 16)), (some (229, .false)), [], 14⟩,
  ⟨(some 235), (.mov (.t 8)), (some (229, .false)), [], 15⟩,
  ⟨(some 236), (.mov (.t 20)), (some (229, .false)), [], 16⟩,
  ⟨(some 237), (.call (.c (.f 26 [])) [(.t 234), (.t 235), (.t 236)]), (some (229, .false)), [], 17⟩,
  ⟨(some 238), (.eqA .true [0, 1] (.t 233) (.t 237)), (some (229, .false)), [], 18⟩,
  ⟨(some 239), (.pick (.t 229) (.c (.s (.bool .true))) (.t 238)), none, [], 19⟩,
  ⟨(some 240), (.mov (.t 239)), none, [], 20⟩,
  ⟨(some 241), (.mov (.t 16)), (some (240, .false)), [], 21⟩,
  ⟨(some 242), (.mov (.t 8)), (some (240, .false)), [], 22⟩,
  ⟨(some 243), (.load 3 .true (.t 10)), (some (240, .false)), [], 23⟩,
  ⟨(some 244), (.call (.c (.f 11 [])) [(.t 241), (.t 242), (.t 243)]), (some (240, .false)), [], 24⟩,
  ⟨(some 245), (.mov (.t 16)), (some (240, .false)), [], 25⟩,
  ⟨(some 246), (.mov (.t 8)), (some (240, .false)), [], 26⟩,
  ⟨(some 247), (.load 3 .true (.t 10)), (some (240, .false)), [23, 24], 27⟩,
  ⟨(some 248), (.call (.c (.f 27 [])) [(.t 245), (.t 246), (.t 247)]), (some (240, .false)), [], 28⟩,
  ⟨(some 249), (.call (.c (.f 14 [])) [(.t 244), (.t 248)]), (some (240, .false)), [], 29⟩,
  ⟨(some 250), (.un .not (.t 249)), (some (240, .false)), [], 30⟩,
  ⟨(some 251), (.pick (.t 240) (.c (.s (.bool .true))) (.t 250)), none, [], 31⟩,
  ⟨(some 252), (.mov (.t 251)), none, [], 32⟩,
  ⟨(some 253), (.mov (.t 16)), (some (252, .false)), [], 33⟩,
  ⟨(some 254), (.mov (.t 8)), (some (252, .false)), [], 34⟩,
  ⟨(some 255), (.load 3 .true (.t 11)), (some (252, .false)), [], 35⟩,
  ⟨(some 256), (.load 3 .true (.t 5)), (some (252, .false)), [35], 36⟩,
  ⟨(some 257), (.call (.c (.f 20 [])) [(.t 255), (.t 256)]), (some (252, .false)), [], 37⟩,
  ⟨(some 258), (.call (.c (.f 11 [])) [(.t 253), (.t 254), (.t 257)]), (some (252, .false)), [], 38⟩,
  ⟨(some 259), (.mov (.t 16)), (some (252, .false)), [], 39⟩,
  ⟨(some 260), (.mov (.t 8)), (some (252, .false)), [], 40⟩,
  ⟨(some 261), (.load 3 .true (.t 11)), (some (252, .false)), [35, 36, 37, 38], 41⟩,
  ⟨(some 262), (.load 3 .true (.t 5)), (some (252, .false)), [35, 36, 37, 38, 41], 42⟩,
  ⟨(some 263), (.call (.c (.f 20 [])) [(.t 261), (.t 262)]), (some (252, .false)), [], 43⟩,
  ⟨(some 264), (.call (.c (.f 27 [])) [(.t 259), (.t 260), (.t 263)]), (some (252, .false)), [], 44⟩,
  ⟨(some 265), (.call (.c (.f 14 [])) [(.t 258), (.t 264)]), (some (252, .false)), [], 45⟩,
  ⟨(some 266), (.un .not (.t 265)), (some (252, .false)), [], 46⟩,
  ⟨(some 267), (.pick (.t 252) (.c (.s (.bool .true))) (.t 266)), none, [], 47⟩,
  ⟨(some 268), (.mov (.t 267)), none, [], 48⟩,
  ⟨(some 269), (.mov (.t 16)), (some (268, .false)), [], 49⟩,
  ⟨(some 270), (.mov (.t 8)), (some (268, .false)), [], 50⟩,
  ⟨(some 271), (.mov (.t 19)), (some (268, .false)), [], 51⟩,
  ⟨(some 272), (.call (.c (.f 15 [])) [(.t 269), (.t 270), (.t 271)]), (some (268, .false)), [], 52⟩,
  ⟨(some 273), (.mov (.t 16)), (some (268, .false)), [], 53⟩,
  ⟨(some 274), (.mov (.t 8)), (some (268, .false)), [], 54⟩,
  ⟨(some 275), (.mov (.t 19)), (some (268, .false)), [], 55⟩,
  ⟨(some 276), (.call (.c (.f 28 [])) [(.t 273), (.t 274), (.t 275)]), (some (268, .false)), [], 56⟩,
  ⟨(some 277), (.call (.c (.f 14 [])) [(.t 272), (.t 276)]), (some (268, .false)), [], 57⟩,
  ⟨(some 278), (.un .not (.t 277)), (some (268, .false)), [], 58⟩,
  ⟨(some 279), (.pick (.t 268) (.c (.s (.bool .true))) (.t 278)), none, [], 59⟩]
def g4_26 : List AOper := [
  ⟨(some 6), (.mov (.c (.s (.bool .false)))), none, [], 0⟩]
def g4_27 : List AOper := [
  ⟨(some 280), (.mov (.t 16)), none, [], 0⟩,
  ⟨(some 281), (.mov (.t 8)), none, [], 0⟩,
  ⟨(some 282), (.mov (.t 19)), none, [], 0⟩,
  ⟨(some 283), (.call (.c (.f 29 [])) [(.t 280), (.t 281), (.t 282)]), none, [], 0⟩,
  ⟨(some 284), (.mov (.t 16)), none, [], 0⟩,
  ⟨(some 285), (.mov (.t 8)), none, [], 0⟩,
  ⟨(some 286), (.mov (.t 19)), none, [], 0⟩,
  ⟨(some 287), (.call (.c (.f 30 [])) [(.t 284), (.t 285), (.t 286)]), none, [], 0⟩,
  ⟨(some 21), (.new [(.d .true 5 []), (.d .true 1 []), (.d .true 2 []), (.s (.int .i64 0))]), none, [], 0⟩,
  ⟨(some 22), (.new [(.d .true 5 []), (.d .true 1 []), (.d .true 2 []), (.s (.int .i64 0))]), none, [], 0⟩,
  ⟨none, (.store 4 (.t 21) (.t 283)), none, [], 0⟩,
  ⟨none, (.store 4 (.t 22) (.t 287)), none, [], 0⟩]
def g4_28 : List AOper := [
  ⟨(some 288), (.fad 3 (.t 21)), none, [], 0⟩,
  ⟨(some 289), (.load 1 .false (.t 288)), none, [], 0⟩,
  ⟨(some 290), (.fad 3 (.t 22)), none, [], 0⟩,
  ⟨(some 291), (.load 1 .false (.t 290)), none, [], 0⟩,
  ⟨(some 292), (.bin .neq (.t 289) (.t 291)), none, [], 0⟩,
  ⟨(some 293), (.mov (.t 292)), none, [], 0⟩,
  ⟨(some 294), (.fad 0 (.t 21)), (some (293, .false)), [], 0⟩,
  ⟨(some 295), (.load 3 .true (.t 294)), (some (293, .false)), [], 0⟩,
  ⟨(some 296), (.fad 0 (.t 22)), (some (293, .false)), [], 0⟩,
  ⟨(some 297), (.load 3 .true (.t 296)), (some (293, .false)), [], 0⟩,
  ⟨(some 298), (.call (.c (.f 13 [])) [(.t 295), (.t 297)]), (some (293, .false)), [], 0⟩,
  ⟨(some 299), (.un .not (.t 298)), (some (293, .false)), [], 0⟩,
  ⟨(some 300), (.pick (.t 293) (.c (.s (.bool .true))) (.t 299)), none, [], 0⟩,
  ⟨(some 301), (.mov (.t 300)), none, [], 0⟩,
  ⟨(some 302), (.mov (.t 16)), (some (301, .false)), [], 0⟩,
  ⟨(some 303), (.mov (.t 8)), (some (301, .false)), [], 0⟩,
  ⟨(some 304), (.mov (.t 19)), (some (301, .false)), [], 0⟩,
  ⟨(some 305), (.mov (.t 20)), (some (301, .false)), [], 0⟩,
  ⟨(some 306), (.call (.c (.f 32 [])) [(.t 302), (.t 303), (.t 304), (.t 305)]), (some (301, .false)), [], 0⟩,
  ⟨(some 307), (.mov (.t 16)), (some (301, .false)), [], 0⟩,
  ⟨(some 308), (.mov (.t 8)), (some (301, .false)), [], 0⟩,
  ⟨(some 309), (.mov (.t 19)), (some (301, .false)), [], 0⟩,
  ⟨(some 310), (.mov (.t 20)), (some (301, .false)), [], 0⟩,
  ⟨(some 311), (.build [(.d .true 3 []), (.d .true 3 [])] [(0, (1, (.t 309))), (1, (1, (.t 310)))]), (some (301, .false)), [], 0⟩,
  ⟨(some 312), (.call (.c (.f 33 [])) [(.t 307), (.t 308), (.t 311)]), (some (301, .false)), [], 0⟩,
  ⟨(some 313), (.call (.c (.f 31 [])) [(.t 306), (.t 312)]), (some (301, .false)), [], 0⟩,
  ⟨(some 314), (.un .not (.t 313)), (some (301, .false)), [], 0⟩,
  ⟨(some 315), (.pick (.t 301) (.c (.s (.bool .true))) (.t 314)), none, [], 0⟩,
  ⟨(some 316), (.mov (.t 315)), none, [], 0⟩,
  ⟨(some 317), (.mov (.t 16)), (some (316, .false)), [], 0⟩,
  ⟨(some 318), (.mov (.t 8)), (some (316, .false)), [], 0⟩,
  ⟨(some 319), (.mov (.t 20)), (some (316, .false)), [], 0⟩,
  ⟨(some 320), (.call (.c (.f 32 [])) [(.t 317), (.t 318), (.t 319), (.c (.d .true 3 []))]), (some (316, .false)), [], 0⟩,
  ⟨(some 321), (.mov (.t 16)), (some (316, .false)), [], 0⟩,
  ⟨(some 322), (.mov (.t 8)), (some (316, .false)), [], 0⟩,
  ⟨(some 323), (.mov (.t 20)), (some (316, .false)), [], 0⟩,
  ⟨(some 324), (.build [(.d .true 3 []), (.d .true 3 [])] [(0, (1, (.t 323))), (1, (1, (.c (.d .true 3 []))))]), (some (316, .false)), [], 0⟩,
  ⟨(some 325), (.call (.c (.f 33 [])) [(.t 321), (.t 322), (.t 324)]), (some (316, .false)), [], 0⟩,
  ⟨(some 326), (.call (.c (.f 31 [])) [(.t 320), (.t 325)]), (some (316, .false)), [], 0⟩,
  ⟨(some 327), (.un .not (.t 326)), (some (316, .false)), [], 0⟩,
  ⟨(some 328), (.pick (.t 316) (.c (.s (.bool .true))) (.t 327)), none, [], 0⟩]
def g4_29 : List AOper := [
  ⟨(some 6), (.mov (.c (.s (.bool .false)))), none, [], 0⟩]
def g4_30 : List AOper := [
  ⟨(some 84), (.mov (.t 15)), none, [], 0⟩,
  ⟨(some 85), (.bin .add (.t 84) (.c (.s (.int .i64 1)))), none, [], 0⟩,
  ⟨(some 15), (.mov (.t 85)), none, [], 0⟩]
def g4_31 : List AOper := [
  ⟨(some 329), (.mov (.t 14)), none, [], 0⟩,
  ⟨(some 330), (.build [(.d .true 1 [])] [(0, (1, (.t 329)))]), none, [], 1⟩,
  ⟨(some 331), (.mov (.t 9)), none, [], 2⟩,
  ⟨(some 332), (.fad 9 (.t 4)), none, [], 3⟩,
  ⟨(some 333), (.load 1 .false (.t 332)), none, [], 4⟩,
  ⟨(some 334), (.bslice 1 [[(.d .true 3 [])], [(.d .true 3 [])]] [(0, (.t 331)), (1, (.t 333))]), none, [], 5⟩,
  ⟨(some 335), (.build [(.d .true 1 [])] [(0, (1, (.t 334)))]), none, [], 6⟩,
  ⟨(some 23), (.new [(.d .true 1 [])]), none, [4, 5], 7⟩,
  ⟨(some 24), (.new [(.d .true 1 [])]), none, [4, 5, 7], 8⟩,
  ⟨none, (.store 1 (.t 23) (.t 330)), none, [4, 5], 9⟩,
  ⟨none, (.store 1 (.t 24) (.t 335)), none, [], 10⟩]
def g4_32 : List AOper := [
  ⟨(some 336), (.load 1 .true (.t 23)), none, [], 0⟩,
  ⟨(some 337), (.fad 10 (.t 4)), none, [], 1⟩,
  ⟨(some 338), (.load 1 .false (.t 337)), none, [0], 2⟩,
  ⟨(some 339), (.call (.c (.f 34 [])) [(.t 336), (.t 338)]), none, [], 3⟩,
  ⟨(some 340), (.load 1 .true (.t 23)), none, [0, 2, 3], 4⟩,
  ⟨(some 341), (.fad 10 (.t 4)), none, [], 5⟩,
  ⟨(some 342), (.load 1 .false (.t 341)), none, [0, 2, 3, 4], 6⟩,
  ⟨(some 343), (.call (.c (.f 35 [])) [(.t 340), (.t 342)]), none, [], 7⟩,
  ⟨(some 344), (.eqB .false (.t 339) (.t 343)), none, [], 8⟩,
  ⟨(some 345), (.mov (.t 344)), none, [], 9⟩,
  ⟨(some 346), (.load 1 .true (.t 24)), (some (345, .true)), [], 10⟩,
  ⟨(some 347), (.mov (.t 8)), (some (345, .true)), [], 11⟩,
  ⟨(some 348), (.fad 4 (.t 4)), (some (345, .true)), [], 12⟩,
  ⟨(some 349), (.load 1 .false (.t 348)), (some (345, .true)), [10], 13⟩,
  ⟨(some 350), (.bslice 1 [[(.s (.int .i64 0))], [(.s (.int .i64 0))]] [(0, (.t 347)), (1, (.t 349))]), (some (345, .true)), [10], 14⟩,
  ⟨(some 351), (.call (.c (.f 34 [])) [(.t 346), (.t 350)]), (some (345, .true)), [], 15⟩,
  ⟨(some 352), (.load 1 .true (.t 24)), (some (345, .true)), [10, 13, 14, 15], 16⟩,
  ⟨(some 353), (.mov (.t 8)), (some (345, .true)), [], 17⟩,
  ⟨(some 354), (.fad 4 (.t 4)), (some (345, .true)), [], 18⟩,
  ⟨(some 355), (.load 1 .false (.t 354)), (some (345, .true)), [10, 13, 14, 15, 16], 19⟩,
  ⟨(some 356), (.bslice 1 [[(.s (.int .i64 0))], [(.s (.int .i64 0))]] [(0, (.t 353)), (1, (.t 355))]), (some (345, .true)), [10, 13, 14, 15, 16], 20⟩,
  ⟨(some 357), (.call (.c (.f 35 [])) [(.t 352), (.t 356)]), (some (345, .true)), [], 21⟩,
  ⟨(some 358), (.eqB .false (.t 351) (.t 357)), (some (345, .true)), [], 22⟩,
  ⟨(some 359), (.pick (.t 345) (.t 358) (.c (.s (.bool .false)))), none, [], 23⟩,
  ⟨(some 360), (.mov (.t 359)), none, [], 24⟩,
  ⟨(some 361), (.load 1 .true (.t 23)), (some (360, .true)), [], 25⟩,
  ⟨(some 362), (.load 1 .true (.t 24)), (some (360, .true)), [25], 26⟩,
  ⟨(some 363), (.call (.c (.f 36 [])) [(.t 361), (.t 362)]), (some (360, .true)), [], 27⟩,
  ⟨(some 364), (.load 1 .true (.t 23)), (some (360, .true)), [25, 26, 27], 28⟩,
  ⟨(some 365), (.load 1 .true (.t 24)), (some (360, .true)), [25, 26, 27, 28], 29⟩,
  ⟨(some 366), (.call (.c (.f 37 [])) [(.t 364), (.t 365)]), (some (360, .true)), [], 30⟩,
  ⟨(some 367), (.eqB .false (.t 363) (.t 366)), (some (360, .true)), [], 31⟩,
  ⟨(some 368), (.pick (.t 360) (.t 367) (.c (.s (.bool .false)))), none, [], 32⟩,
  ⟨(some 369), (.mov (.t 368)), none, [], 33⟩,
  ⟨(some 370), (.load 1 .true (.t 23)), (some (369, .true)), [], 34⟩,
  ⟨(some 371), (.load 1 .true (.t 23)), (some (369, .true)), [34], 35⟩,
  ⟨(some 372), (.call (.c (.f 36 [])) [(.t 370), (.t 371)]), (some (369, .true)), [], 36⟩,
  ⟨(some 373), (.pick (.t 369) (.t 372) (.c (.s (.bool .false)))), none, [], 37⟩,
  ⟨(some 374), (.mov (.t 373)), none, [], 38⟩,
  ⟨(some 375), (.mov (.t 7)), (some (374, .true)), [], 39⟩,
  ⟨(some 376), (.pick (.t 374) (.t 375) (.c (.s (.bool .false)))), none, [], 40⟩,
  ⟨(some 6), (.mov (.t 376)), none, [], 41⟩]
def ac4 : AC :=
  (.seq (.region g4_0 live4) (.seq (.region g4_1 live4) (.seq (.seq (.region g4_2 live4) (.cond (.t 39) (.seq (.region g4_3 live4) .ret) .skip)) (.seq (.region g4_4 live4) (.seq (.drawn g4_5 live4) (.seq (.region g4_6 live4) (.seq (.seq (.region g4_7 live4) (.block 0 (.loop (.seq (.seq (.region g4_8 live4) (.cond (.t 64) .skip (.exit 0))) (.seq (.block 1 (.region g4_9 live4)) (.region g4_10 live4)))))) (.seq (.region g4_11 live4) (.seq (.seq (.region g4_12 live4) (.block 2 (.loop (.seq (.seq (.region g4_13 live4) (.cond (.t 83) .skip (.exit 2))) (.seq (.block 3 (.seq (.region g4_14 live4) (.seq (.seq (.drawn g4_15 live4) (.cond (.t 129) (.seq (.region g4_16 live4) .ret) .skip)) (.seq (.seq (.region g4_17 live4) (.block 4 (.loop (.seq (.seq (.region g4_18 live4) (.cond (.t 133) .skip (.exit 4))) (.seq (.block 5 (.seq (.drawn g4_19 live4) (.seq (.drawn g4_20 live4) (.cond (.t 205) (.seq (.region g4_21 live4) .ret) .skip)))) (.region g4_22 live4)))))) (.seq (.seq (.region g4_23 live4) (.cond (.t 209) (.exit 3) .skip)) (.seq (.drawn g4_24 live4) (.seq (.seq (.drawn g4_25 live4) (.cond (.t 279) (.seq (.region g4_26 live4) .ret) .skip)) (.seq (.region g4_27 live4) (.seq (.region g4_28 live4) (.cond (.t 328) (.seq (.region g4_29 live4) .ret) .skip)))))))))) (.region g4_30 live4)))))) (.seq (.drawn g4_31 live4) (.seq (.drawn g4_32 live4) .ret)))))))))))
theorem fn4 : Den.Fn Try.prog 4 377 res4 ac4 := ⟨⟨Try.f4, _, live4, Try.func4, rfl, by kernel_rfl, rfl, by kernel_rfl, by kernel_rfl⟩⟩

/-- chapman/chapmanlaw14.TableEquality; parameters: 3 -/
def live5 : List Nat := [0, 1, 2, 5, 6, 7, 8, 9, 10, 11, 12, 13, 14, 15, 18, 57, 69]
def res5 : List RO := [(.t 6)]
def g5_0 : List AOper := [
  ⟨(some 5), (.box (.t 2)), none, [], 0⟩,
  ⟨(some 6), (.mov (.c (.s (.bool .false)))), none, [], 0⟩]
def g5_1 : List AOper := [
  ⟨(some 16), (.call (.c (.f 6 [])) []), none, [], 0⟩,
  ⟨(some 7), (.mov (.t 16)), none, [], 0⟩]
def g5_2 : List AOper := [
  ⟨(some 17), (.mov (.t 7)), none, [], 0⟩,
  ⟨(some 18), (.un .not (.t 17)), none, [], 0⟩]
def g5_3 : List AOper := [
  ⟨(some 6), (.mov (.c (.s (.bool .false)))), none, [], 0⟩]
def g5_4 : List AOper := [
  ⟨(some 19), (.mov (.t 0)), none, [], 0⟩,
  ⟨(some 20), (.call (.c (.f 7 [])) [(.t 19), (.c (.s (.int .i64 1)))]), none, [], 0⟩,
  ⟨(some 21), (.mov (.t 1)), none, [], 0⟩,
  ⟨(some 22), (.call (.c (.f 7 [])) [(.t 21), (.c (.s (.int .i64 2)))]), none, [], 0⟩,
  ⟨(some 23), (.bslice 1 [[(.d .true 3 [])], [(.d .true 3 [])]] [(0, (.t 20)), (1, (.t 22))]), none, [], 0⟩,
  ⟨(some 24), (.build [(.d .true 1 [])] [(0, (1, (.t 23)))]), none, [], 0⟩,
  ⟨(some 8), (.new [(.d .true 1 [])]), none, [], 0⟩,
  ⟨none, (.store 1 (.t 8) (.t 24)), none, [], 0⟩]
def g5_5 : List AOper := [
  ⟨(some 25), (.mov (.t 1)), none, [], 0⟩,
  ⟨(some 26), (.call (.c (.f 7 [])) [(.t 25), (.c (.s (.int .i64 2)))]), none, [], 0⟩,
  ⟨(some 27), (.mov (.t 0)), none, [], 0⟩,
  ⟨(some 28), (.call (.c (.f 7 [])) [(.t 27), (.c (.s (.int .i64 1)))]), none, [], 0⟩,
  ⟨(some 29), (.bslice 1 [[(.d .true 3 [])], [(.d .true 3 [])]] [(0, (.t 26)), (1, (.t 28))]), none, [], 0⟩,
  ⟨(some 30), (.build [(.d .true 1 [])] [(0, (1, (.t 29)))]), none, [], 0⟩,
  ⟨(some 9), (.new [(.d .true 1 [])]), none, [], 0⟩,
  ⟨none, (.store 1 (.t 9) (.t 30)), none, [], 0⟩]
def g5_6 : List AOper := [
  ⟨(some 31), (.load 1 .true (.t 8)), none, [], 0⟩,
  ⟨(some 32), (.load 1 .true (.t 8)), none, [0], 1⟩,
  ⟨(some 33), (.call (.c (.f 36 [])) [(.t 31), (.t 32)]), none, [], 2⟩,
  ⟨(some 34), (.un .not (.t 33)), none, [], 3⟩,
  ⟨(some 35), (.mov (.t 34)), none, [], 4⟩,
  ⟨(some 36), (.load 1 .true (.t 8)), (some (35, .false)), [], 5⟩,
  ⟨(some 37), (.load 1 .true (.t 9)), (some (35, .false)), [5], 6⟩,
  ⟨(some 38), (.call (.c (.f 36 [])) [(.t 36), (.t 37)]), (some (35, .false)), [], 7⟩,
  ⟨(some 39), (.load 1 .true (.t 9)), (some (35, .false)), [5, 6, 7], 8⟩,
  ⟨(some 40), (.load 1 .true (.t 8)), (some (35, .false)), [5, 6, 7, 8], 9⟩,
  ⟨(some 41), (.call (.c (.f 36 [])) [(.t 39), (.t 40)]), (some (35, .false)), [], 10⟩,
  ⟨(some 42), (.eqB .true (.t 38) (.t 41)), (some (35, .false)), [], 11⟩,
  ⟨(some 43), (.pick (.t 35) (.c (.s (.bool .true))) (.t 42)), none, [], 12⟩,
  ⟨(some 44), (.mov (.t 43)), none, [], 13⟩,
  ⟨(some 45), (.load 1 .true (.t 8)), (some (44, .false)), [], 14⟩,
  ⟨(some 46), (.fad 0 (.t 8)), (some (44, .false)), [], 15⟩,
  ⟨(some 47), (.load 1 .false (.t 46)), (some (44, .false)), [14], 16⟩,
  ⟨(some 48), (.slc 1 (.t 47) none (some (.c (.s (.int .i64 1)))) none), (some (44, .false)), [], 17⟩,
  ⟨(some 49), (.build [(.d .true 1 [])] [(0, (1, (.t 48)))]), (some (44, .false)), [], 18⟩,
  ⟨(some 50), (.call (.c (.f 36 [])) [(.t 45), (.t 49)]), (some (44, .false)), [], 19⟩,
  ⟨(some 51), (.pick (.t 44) (.c (.s (.bool .true))) (.t 50)), none, [], 20⟩,
  ⟨(some 52), (.mov (.t 51)), none, [], 21⟩,
  ⟨(some 53), (.load 1 .true (.t 8)), (some (52, .false)), [], 22⟩,
  ⟨(some 54), (.bslice 1 [[(.s (.int .i64 0))], [(.s (.int .i64 0))]] [(0, (.c (.s (.int .i64 1)))), (1, (.c (.s (.int .i64 2))))]), (some (52, .false)), [22], 23⟩,
  ⟨(some 55), (.call (.c (.f 34 [])) [(.t 53), (.t 54)]), (some (52, .false)), [], 24⟩,
  ⟨(some 56), (.un .not (.t 55)), (some (52, .false)), [], 25⟩,
  ⟨(some 57), (.pick (.t 52) (.c (.s (.bool .true))) (.t 56)), none, [], 26⟩]
def g5_7 : List AOper := [
  ⟨(some 6), (.mov (.c (.s (.bool .false)))), none, [], 0⟩]
def g5_8 : List AOper := [
  ⟨(some 58), (.iadA 3 1 (.t 5) (.c (.s (.int .i64 0)))), none, [], 0⟩,
  ⟨(some 59), (.load 1 .false (.t 58)), none, [], 0⟩,
  ⟨(some 60), (.bin .quo (.t 59) (.c (.s (.int .u8 6)))), none, [], 0⟩,
  ⟨(some 61), (.bin .rem (.t 60) (.c (.s (.int .u8 2)))), none, [], 0⟩,
  ⟨(some 62), (.cvI .i64 (.t 61)), none, [], 0⟩,
  ⟨(some 10), (.mov (.t 62)), none, [], 0⟩]
def g5_9 : List AOper := [
  ⟨(some 63), (.fad 0 (.t 8)), none, [], 0⟩,
  ⟨(some 64), (.load 1 .false (.t 63)), none, [], 0⟩,
  ⟨(some 65), (.mov (.t 10)), none, [], 0⟩,
  ⟨(some 66), (.iad 1 (.t 64) (.t 65)), none, [], 0⟩,
  ⟨(some 67), (.load 1 .false (.t 66)), none, [], 0⟩,
  ⟨(some 68), (.len (.t 67)), none, [], 0⟩,
  ⟨(some 69), (.bin .eql (.t 68) (.c (.s (.int .i64 0)))), none, [], 0⟩]
def g5_10 : List AOper := [
  ⟨(some 70), (.mov (.t 7)), none, [], 0⟩,
  ⟨(some 6), (.mov (.t 70)), none, [], 0⟩]
def g5_11 : List AOper := [
  ⟨(some 71), (.iadA 3 1 (.t 5) (.c (.s (.int .i64 1)))), none, [], 0⟩,
  ⟨(some 72), (.load 1 .false (.t 71)), none, [], 1⟩,
  ⟨(some 73), (.bin .quo (.t 72) (.c (.s (.int .u8 4)))), none, [], 2⟩,
  ⟨(some 74), (.cvI .i64 (.t 73)), none, [], 3⟩,
  ⟨(some 75), (.fad 0 (.t 8)), none, [], 4⟩,
  ⟨(some 76), (.load 1 .false (.t 75)), none, [1], 5⟩,
  ⟨(some 77), (.mov (.t 10)), none, [], 6⟩,
  ⟨(some 78), (.iad 1 (.t 76) (.t 77)), none, [], 7⟩,
  ⟨(some 79), (.load 1 .false (.t 78)), none, [1], 8⟩,
  ⟨(some 80), (.len (.t 79)), none, [], 9⟩,
  ⟨(some 81), (.bin .rem (.t 74) (.t 80)), none, [], 10⟩,
  ⟨(some 11), (.mov (.t 81)), none, [], 11⟩]
def g5_12 : List AOper := [
  ⟨(some 82), (.bslice 3 [] []), none, [], 0⟩,
  ⟨(some 83), (.fad 0 (.t 8)), none, [], 1⟩,
  ⟨(some 84), (.load 1 .false (.t 83)), none, [0], 2⟩,
  ⟨(some 85), (.mov (.t 10)), none, [], 3⟩,
  ⟨(some 86), (.iad 1 (.t 84) (.t 85)), none, [], 4⟩,
  ⟨(some 87), (.load 1 .false (.t 86)), none, [0], 5⟩,
  ⟨(some 88), (.app 3 72 (.t 82) (.t 87)), none, [], 6⟩,
  ⟨(some 89), (.bslice 3 [] []), none, [0, 2, 5, 6], 7⟩,
  ⟨(some 90), (.fad 0 (.t 8)), none, [], 8⟩,
  ⟨(some 91), (.load 1 .false (.t 90)), none, [0, 2, 5, 6, 7], 9⟩,
  ⟨(some 92), (.mov (.t 10)), none, [], 10⟩,
  ⟨(some 93), (.iad 1 (.t 91) (.t 92)), none, [], 11⟩,
  ⟨(some 94), (.load 1 .false (.t 93)), none, [0, 2, 5, 6, 7], 12⟩,
  ⟨(some 95), (.slc 3 (.t 94) (some (.c (.s (.int .i64 1)))) none none), none, [], 13⟩,
  ⟨(some 96), (.app 3 72 (.t 89) (.t 95)), none, [], 14⟩,
  ⟨(some 12), (.mov (.t 88)), none, [], 15⟩,
  ⟨(some 13), (.mov (.t 96)), none, [], 16⟩]
def g5_13 : List AOper := [
  ⟨(some 97), (.mov (.t 12)), none, [], 0⟩,
  ⟨(some 98), (.mov (.t 11)), none, [], 1⟩,
  ⟨(some 99), (.mov (.t 12)), none, [], 2⟩,
  ⟨(some 100), (.mov (.t 11)), none, [], 3⟩,
  ⟨(some 101), (.iad 3 (.t 99) (.t 100)), none, [], 4⟩,
  ⟨(some 102), (.load 3 .true (.t 101)), none, [], 5⟩,
  ⟨(some 103), (.load 3 .true (.t 5)), none, [5], 6⟩,
  ⟨(some 104), (.call (.c (.f 20 [])) [(.t 102), (.t 103)]), none, [], 7⟩,
  ⟨(some 105), (.iad 3 (.t 97) (.t 98)), none, [], 8⟩,
  ⟨none, (.store 3 (.t 105) (.t 104)), none, [], 9⟩]
def g5_14 : List AOper := [
  ⟨(some 106), (.fad 0 (.t 8)), none, [], 0⟩,
  ⟨(some 107), (.load 1 .false (.t 106)), none, [], 1⟩,
  ⟨(some 108), (.iad 1 (.t 107) (.c (.s (.int .i64 0)))), none, [], 2⟩,
  ⟨(some 109), (.load 1 .false (.t 108)), none, [], 3⟩,
  ⟨(some 110), (.fad 0 (.t 8)), none, [], 4⟩,
  ⟨(some 111), (.load 1 .false (.t 110)), none, [1, 3], 5⟩,
  ⟨(some 112), (.iad 1 (.t 111) (.c (.s (.int .i64 1)))), none, [], 6⟩,
  ⟨(some 113), (.load 1 .false (.t 112)), none, [1, 3], 7⟩,
  ⟨(some 114), (.bslice 1 [[(.d .true 3 [])], [(.d .true 3 [])]] [(0, (.t 109)), (1, (.t 113))]), none, [], 8⟩,
  ⟨(some 115), (.build [(.d .true 1 [])] [(0, (1, (.t 114)))]), none, [], 9⟩,
  ⟨(some 116), (.fad 0 (.t 8)), none, [], 10⟩,
  ⟨(some 117), (.load 1 .false (.t 116)), none, [1, 3, 5, 7, 8], 11⟩,
  ⟨(some 118), (.iad 1 (.t 117) (.c (.s (.int .i64 0)))), none, [], 12⟩,
  ⟨(some 119), (.load 1 .false (.t 118)), none, [1, 3, 5, 7, 8], 13⟩,
  ⟨(some 120), (.fad 0 (.t 8)), none, [], 14⟩,
  ⟨(some 121), (.load 1 .false (.t 120)), none, [1, 3, 5, 7, 8, 11, 13], 15⟩,
  ⟨(some 122), (.iad 1 (.t 121) (.c (.s (.int .i64 1)))), none, [], 16⟩,
  ⟨(some 123), (.load 1 .false (.t 122)), none, [1, 3, 5, 7, 8, 11, 13], 17⟩,
  ⟨(some 124), (.bslice 1 [[(.d .true 3 [])], [(.d .true 3 [])]] [(0, (.t 119)), (1, (.t 123))]), none, [1, 3, 5, 7, 8], 18⟩,
  ⟨(some 125), (.build [(.d .true 1 [])] [(0, (1, (.t 124)))]), none, [], 19⟩,
  ⟨(some 14), (.new [(.d .true 1 [])]), none, [1, 3, 5, 7, 8, 11, 13, 15, 17, 18], 20⟩,
  ⟨(some 15), (.new [(.d .true 1 [])]), none, [1, 3, 5, 7, 8, 11, 13, 15, 17, 18, 20], 21⟩,
  ⟨none, (.store 1 (.t 14) (.t 115)), none, [11, 13, 15, 17, 18], 22⟩,
  ⟨none, (.store 1 (.t 15) (.t 125)), none, [], 23⟩]
def g5_15 : List AOper := [
  ⟨(some 126), (.fad 0 (.t 14)), none, [], 0⟩,
  ⟨(some 127), (.load 1 .false (.t 126)), none, [], 0⟩,
  ⟨(some 128), (.mov (.t 10)), none, [], 0⟩,
  ⟨(some 129), (.mov (.t 12)), none, [], 0⟩,
  ⟨(some 130), (.iad 1 (.t 127) (.t 128)), none, [], 0⟩,
  ⟨none, (.store 1 (.t 130) (.t 129)), none, [], 0⟩]
def g5_16 : List AOper := [
  ⟨(some 131), (.fad 0 (.t 15)), none, [], 0⟩,
  ⟨(some 132), (.load 1 .false (.t 131)), none, [], 0⟩,
  ⟨(some 133), (.mov (.t 10)), none, [], 0⟩,
  ⟨(some 134), (.mov (.t 13)), none, [], 0⟩,
  ⟨(some 135), (.iad 1 (.t 132) (.t 133)), none, [], 0⟩,
  ⟨none, (.store 1 (.t 135) (.t 134)), none, [], 0⟩]
def g5_17 : List AOper := [
  ⟨(some 136), (.mov (.t 12)), none, [], 0⟩,
  ⟨(some 137), (.mov (.t 11)), none, [], 1⟩,
  ⟨(some 138), (.iad 3 (.t 136) (.t 137)), none, [], 2⟩,
  ⟨(some 139), (.load 3 .true (.t 138)), none, [], 3⟩,
  ⟨(some 140), (.fad 0 (.t 8)), none, [], 4⟩,
  ⟨(some 141), (.load 1 .false (.t 140)), none, [3], 5⟩,
  ⟨(some 142), (.mov (.t 10)), none, [], 6⟩,
  ⟨(some 143), (.iad 1 (.t 141) (.t 142)), none, [], 7⟩,
  ⟨(some 144), (.load 1 .false (.t 143)), none, [3], 8⟩,
  ⟨(some 145), (.mov (.t 11)), none, [], 9⟩,
  ⟨(some 146), (.iad 3 (.t 144) (.t 145)), none, [], 10⟩,
  ⟨(some 147), (.load 3 .true (.t 146)), none, [3], 11⟩,
  ⟨(some 148), (.call (.c (.f 25 [])) [(.t 139), (.t 147)]), none, [], 12⟩,
  ⟨(some 149), (.un .not (.t 148)), none, [], 13⟩,
  ⟨(some 150), (.mov (.t 149)), none, [], 14⟩,
  ⟨(some 151), (.load 1 .true (.t 8)), (some (150, .true)), [], 15⟩,
  ⟨(some 152), (.load 1 .true (.t 14)), (some (150, .true)), [15], 16⟩,
  ⟨(some 153), (.call (.c (.f 36 [])) [(.t 151), (.t 152)]), (some (150, .true)), [], 17⟩,
  ⟨(some 154), (.un .not (.t 153)), (some (150, .true)), [], 18⟩,
  ⟨(some 155), (.pick (.t 150) (.t 154) (.c (.s (.bool .false)))), none, [], 19⟩,
  ⟨(some 156), (.mov (.t 155)), none, [], 20⟩,
  ⟨(some 157), (.load 1 .true (.t 15)), (some (156, .true)), [], 21⟩,
  ⟨(some 158), (.load 1 .true (.t 8)), (some (156, .true)), [21], 22⟩,
  ⟨(some 159), (.call (.c (.f 36 [])) [(.t 157), (.t 158)]), (some (156, .true)), [], 23⟩,
  ⟨(some 160), (.un .not (.t 159)), (some (156, .true)), [], 24⟩,
  ⟨(some 161), (.pick (.t 156) (.t 160) (.c (.s (.bool .false)))), none, [], 25⟩,
  ⟨(some 162), (.mov (.t 161)), none, [], 26⟩,
  ⟨(some 163), (.mov (.t 7)), (some (162, .true)), [], 27⟩,
  ⟨(some 164), (.pick (.t 162) (.t 163) (.c (.s (.bool .false)))), none, [], 28⟩,
  ⟨(some 6), (.mov (.t 164)), none, [], 29⟩]
def ac5 : AC :=
  (.seq (.region g5_0 live5) (.seq (.region g5_1 live5) (.seq (.seq (.region g5_2 live5) (.cond (.t 18) (.seq (.region g5_3 live5) .ret) .skip)) (.seq (.region g5_4 live5) (.seq (.region g5_5 live5) (.seq (.seq (.drawn g5_6 live5) (.cond (.t 57) (.seq (.region g5_7 live5) .ret) .skip)) (.seq (.region g5_8 live5) (.seq (.seq (.region g5_9 live5) (.cond (.t 69) (.seq (.region g5_10 live5) .ret) .skip)) (.seq (.drawn g5_11 live5) (.seq (.drawn g5_12 live5) (.seq (.drawn g5_13 live5) (.seq (.drawn g5_14 live5) (.seq (.region g5_15 live5) (.seq (.region g5_16 live5) (.seq (.drawn g5_17 live5) .ret)))))))))))))))
theorem fn5 : Den.Fn Try.prog 5 165 res5 ac5 := ⟨⟨Try.f5, _, live5, Try.func5, rfl, by kernel_rfl, rfl, by kernel_rfl, by kernel_rfl⟩⟩

/-- chapman/chapmanlaw14.examples; parameters: 0 -/
def live6 : List Nat := [0, 1, 2, 3, 63, 112]
def res6 : List RO := [(.t 0)]
def g6_0 : List AOper := [
  ⟨(some 0), (.mov (.c (.s (.bool .false)))), none, [], 0⟩]
def g6_1 : List AOper := [
  ⟨(some 4), (.call (.c (.f 38 [])) [(.c (.s (.int .i64 1))), (.c (.s (.int .i64 7)))]), none, [], 0⟩,
  ⟨(some 5), (.call (.c (.f 38 [])) [(.c (.s (.int .i64 3))), (.c (.s (.int .i64 8)))]), none, [], 0⟩,
  ⟨(some 6), (.bslice 3 [[(.d .true 5 []), (.d .true 1 []), (.d .true 2 [])], [(.d .true 5 []), (.d .true 1 []), (.d .true 2 [])]] [(0, (.t 4)), (1, (.t 5))]), none, [], 0⟩,
  ⟨(some 1), (.mov (.t 6)), none, [], 0⟩]
def g6_2 : List AOper := [
  ⟨(some 7), (.mov (.t 1)), none, [], 0⟩,
  ⟨(some 8), (.call (.c (.f 38 [])) [(.c (.s (.int .i64 2))), (.c (.s (.int .i64 9)))]), none, [], 0⟩,
  ⟨(some 9), (.call (.c (.f 11 [])) [(.t 7), (.c (.s (.int .i64 1))), (.t 8)]), none, [], 0⟩,
  ⟨(some 10), (.mov (.t 1)), none, [], 0⟩,
  ⟨(some 11), (.call (.c (.f 39 [])) [(.c (.s (.int .i64 1)))]), none, [], 0⟩,
  ⟨(some 12), (.call (.c (.f 15 [])) [(.t 10), (.c (.s (.int .i64 1))), (.t 11)]), none, [], 0⟩,
  ⟨(some 2), (.new [(.d .true 3 []), (.s (.int .i64 0))]), none, [], 0⟩,
  ⟨(some 3), (.new [(.d .true 3 []), (.s (.int .i64 0))]), none, [], 0⟩,
  ⟨none, (.store 2 (.t 2) (.t 9)), none, [], 0⟩,
  ⟨none, (.store 2 (.t 3) (.t 12)), none, [], 0⟩]
def g6_3 : List AOper := [
  ⟨(some 13), (.mov (.t 1)), none, [], 0⟩,
  ⟨(some 14), (.call (.c (.f 39 [])) [(.c (.s (.int .i64 2)))]), none, [], 1⟩,
  ⟨(some 15), (.call (.c (.f 10 [])) [(.t 13), (.c (.s (.int .i64 1))), (.t 14)]), none, [], 2⟩,
  ⟨(some 16), (.build [(.s (.int .i64 0)), (.s (.bool .false))] [(0, (1, (.c (.s (.int .i64 1)))))]), none, [], 3⟩,
  ⟨(some 17), (.eqA .true [0, 1] (.t 15) (.t 16)), none, [], 4⟩,
  ⟨(some 18), (.mov (.t 17)), none, [], 5⟩,
  ⟨(some 19), (.mov (.t 1)), (some (18, .false)), [], 6⟩,
  ⟨(some 20), (.call (.c (.f 39 [])) [(.c (.s (.int .i64 3)))]), (some (18, .false)), [], 7⟩,
  ⟨(some 21), (.call (.c (.f 10 [])) [(.t 19), (.c (.s (.int .i64 1))), (.t 20)]), (some (18, .false)), [], 8⟩,
  ⟨(some 22), (.build [(.s (.int .i64 0)), (.s (.bool .false))] [(0, (1, (.c (.s (.int .i64 1))))), (1, (1, (.c (.s (.bool .true)))))]), (some (18, .false)), [], 9⟩,
  ⟨(some 23), (.eqA .true [0, 1] (.t 21) (.t 22)), (some (18, .false)), [], 10⟩,
  ⟨(some 24), (.pick (.t 18) (.c (.s (.bool .true))) (.t 23)), none, [], 11⟩,
  ⟨(some 25), (.mov (.t 24)), none, [], 12⟩,
  ⟨(some 26), (.mov (.t 1)), (some (25, .false)), [], 13⟩,
  ⟨(some 27), (.call (.c (.f 39 [])) [(.c (.s (.int .i64 4)))]), (some (25, .false)), [], 14⟩,
  ⟨(some 28), (.call (.c (.f 10 [])) [(.t 26), (.c (.s (.int .i64 1))), (.t 27)]), (some (25, .false)), [], 15⟩,
  ⟨(some 29), (.build [(.s (.int .i64 0)), (.s (.bool .false))] [(0, (1, (.c (.s (.int .i64 2)))))]), (some (25, .false)), [], 16⟩,
  ⟨(some 30), (.eqA .true [0, 1] (.t 28) (.t 29)), (some (25, .false)), [], 17⟩,
  ⟨(some 31), (.pick (.t 25) (.c (.s (.bool .true))) (.t 30)), none, [], 18⟩,
  ⟨(some 32), (.mov (.t 31)), none, [], 19⟩,
  ⟨(some 33), (.load 2 .true (.t 2)), (some (32, .false)), [], 20⟩,
  ⟨(some 34), (.call (.c (.f 38 [])) [(.c (.s (.int .i64 1))), (.c (.s (.int .i64 7)))]), (some (32, .false)), [20], 21⟩,
  ⟨(some 35), (.call (.c (.f 38 [])) [(.c (.s (.int .i64 2))), (.c (.s (.int .i64 9)))]), (some (32, .false)), [20], 22⟩,
  ⟨(some 36), (.call (.c (.f 38 [])) [(.c (.s (.int .i64 3))), (.c (.s (.int .i64 8)))]), (some (32, .false)), [20], 23⟩,
  ⟨(some 37), (.bslice 3 [[(.d .true 5 []), (.d .true 1 []), (.d .true 2 [])], [(.d .true 5 []), (.d .true 1 []), (.d .true 2 [])], [(.d .true 5 []), (.d .true 1 []), (.d .true 2 [])]] [(0, (.t 34)), (1, (.t 35)), (2, (.t 36))]), (some (32, .false)), [20], 24⟩,
  ⟨(some 38), (.build [(.d .true 3 []), (.s (.int .i64 0))] [(0, (1, (.t 37)))]), (some (32, .false)), [], 25⟩,
  ⟨(some 39), (.call (.c (.f 14 [])) [(.t 33), (.t 38)]), (some (32, .false)), [], 26⟩,
  ⟨(some 40), (.un .not (.t 39)), (some (32, .false)), [], 27⟩,
  ⟨(some 41), (.pick (.t 32) (.c (.s (.bool .true))) (.t 40)), none, [], 28⟩,
  ⟨(some 42), (.mov (.t 41)), none, [], 29⟩,
  ⟨(some 43), (.load 2 .true (.t 3)), (some (42, .false)), [], 30⟩,
  ⟨(some 44), (.mov (.t 1)), (some (42, .false)), [], 31⟩,
  ⟨(some 45), (.slc 3 (.t 44) (some (.c (.s (.int .i64 1)))) none none), (some (42, .false)), [], 32⟩,
  ⟨(some 46), (.build [(.d .true 3 []), (.s (.int .i64 0))] [(0, (1, (.t 45)))]), (some (42, .false)), [], 33⟩,
  ⟨(some 47), (.call (.c (.f 14 [])) [(.t 43), (.t 46)]), (some (42, .false)), [], 34⟩,
  ⟨(some 48), (.un .not (.t 47)), (some (42, .false)), [], 35⟩,
  ⟨(some 49), (.pick (.t 42) (.c (.s (.bool .true))) (.t 48)), none, [], 36⟩,
  ⟨(some 50), (.mov (.t 49)), none, [], 37⟩,
  ⟨(some 51), (.mov (.t 1)), (some (50, .false)), [], 38⟩,
  ⟨(some 52), (.call (.c (.f 39 [])) [(.c (.s (.int .i64 2)))]), (some (50, .false)), [], 39⟩,
  ⟨(some 53), (.call (.c (.f 15 [])) [(.t 51), (.c (.s (.int .i64 1))), (.t 52)]), (some (50, .false)), [], 40⟩,
  ⟨(some 54), (.fld .false 1 1 (.t 53)), (some (50, .false)), [], 41⟩,
  ⟨(some 55), (.bin .neq (.t 54) (.c (.s (.int .i64 4)))), (some (50, .false)), [], 42⟩,
  ⟨(some 56), (.pick (.t 50) (.c (.s (.bool .true))) (.t 55)), none, [], 43⟩,
  ⟨(some 57), (.mov (.t 56)), none, [], 44⟩,
  ⟨(some 58), (.mov (.t 1)), (some (57, .false)), [], 45⟩,
  ⟨(some 59), (.build [(.d .true 5 []), (.d .true 1 []), (.d .true 2 [])] []), (some (57, .false)), [], 46⟩,
  ⟨(some 60), (.call (.c (.f 11 [])) [(.t 58), (.c (.s (.int .i64 1))), (.t 59)]), (some (57, .false)), [], 47⟩,
  ⟨(some 61), (.fld .false 1 1 (.t 60)), (some (57, .false)), [], 48⟩,
  ⟨(some 62), (.bin .neq (.t 61) (.c (.s (.int .i64 140)))), (some (57, .false)), [], 49⟩,
  ⟨(some 63), (.pick (.t 57) (.c (.s (.bool .true))) (.t 62)), none, [], 50⟩]
def g6_4 : List AOper := [
  ⟨(some 0), (.mov (.c (.s (.bool .false)))), none, [], 0⟩]
def g6_5 : List AOper := [
  ⟨(some 64), (.mov (.t 1)), none, [], 0⟩,
  ⟨(some 65), (.call (.c (.f 39 [])) [(.c (.s (.int .i64 2)))]), none, [], 1⟩,
  ⟨(some 66), (.call (.c (.f 39 [])) [(.c (.s (.int .i64 3)))]), none, [], 2⟩,
  ⟨(some 67), (.call (.c (.f 32 [])) [(.t 64), (.c (.s (.int .i64 1))), (.t 65), (.t 66)]), none, [], 3⟩,
  ⟨(some 68), (.mov (.t 1)), none, [], 4⟩,
  ⟨(some 69), (.slc 3 (.t 68) (some (.c (.s (.int .i64 1)))) none none), none, [], 5⟩,
  ⟨(some 70), (.call (.c (.f 31 [])) [(.t 67), (.t 69)]), none, [], 6⟩,
  ⟨(some 71), (.un .not (.t 70)), none, [], 7⟩,
  ⟨(some 72), (.mov (.t 71)), none, [], 8⟩,
  ⟨(some 73), (.mov (.t 1)), (some (72, .false)), [], 9⟩,
  ⟨(some 74), (.call (.c (.f 39 [])) [(.c (.s (.int .i64 3)))]), (some (72, .false)), [], 10⟩,
  ⟨(some 75), (.call (.c (.f 39 [])) [(.c (.s (.int .i64 2)))]), (some (72, .false)), [], 11⟩,
  ⟨(some 76), (.call (.c (.f 32 [])) [(.t 73), (.c (.s (.int .i64 1))), (.t 74), (.t 75)]), (some (72, .false)), [], 12⟩,
  ⟨(some 77), (.len (.t 76)), (some (72, .false)), [], 13⟩,
  ⟨(some 78), (.bin .neq (.t 77) (.c (.s (.int .i64 0)))), (some (72, .false)), [], 14⟩,
  ⟨(some 79), (.pick (.t 72) (.c (.s (.bool .true))) (.t 78)), none, [], 15⟩,
  ⟨(some 80), (.mov (.t 79)), none, [], 16⟩,
  ⟨(some 81), (.mov (.t 1)), (some (80, .false)), [], 17⟩,
  ⟨(some 82), (.call (.c (.f 32 [])) [(.t 81), (.c (.s (.int .i64 1))), (.c (.d .true 3 [])), (.c (.d .true 3 []))]), (some (80, .false)), [], 18⟩,
  ⟨(some 83), (.mov (.t 1)), (some (80, .false)), [], 19⟩,
  ⟨(some 84), (.call (.c (.f 31 [])) [(.t 82), (.t 83)]), (some (80, .false)), [], 20⟩,
  ⟨(some 85), (.un .not (.t 84)), (some (80, .false)), [], 21⟩,
  ⟨(some 86), (.pick (.t 80) (.c (.s (.bool .true))) (.t 85)), none, [], 22⟩,
  ⟨(some 87), (.mov (.t 86)), none, [], 23⟩,
  ⟨(some 88), (.mov (.t 1)), (some (87, .false)), [], 24⟩,
  ⟨(some 89), (.iad 3 (.t 88) (.c (.s (.int .i64 1)))), (some (87, .false)), [], 25⟩,
  ⟨(some 90), (.load 3 .true (.t 89)), (some (87, .false)), [], 26⟩,
  ⟨(some 91), (.mov (.t 1)), (some (87, .false)), [], 27⟩,
  ⟨(some 92), (.iad 3 (.t 91) (.c (.s (.int .i64 0)))), (some (87, .false)), [], 28⟩,
  ⟨(some 93), (.load 3 .true (.t 92)), (some (87, .false)), [26], 29⟩,
  ⟨(some 94), (.bslice 3 [[(.d .true 5 []), (.d .true 1 []), (.d .true 2 [])], [(.d .true 5 []), (.d .true 1 []), (.d .true 2 [])]] [(0, (.t 90)), (1, (.t 93))]), (some (87, .false)), [], 30⟩,
  ⟨(some 95), (.call (.c (.f 18 [])) [(.t 94), (.c (.s (.int .i64 1)))]), (some (87, .false)), [], 31⟩,
  ⟨(some 96), (.mov (.t 1)), (some (87, .false)), [], 32⟩,
  ⟨(some 97), (.build [(.d .true 3 []), (.s (.int .i64 0))] [(0, (1, (.t 96)))]), (some (87, .false)), [], 33⟩,
  ⟨(some 98), (.call (.c (.f 14 [])) [(.t 95), (.t 97)]), (some (87, .false)), [], 34⟩,
  ⟨(some 99), (.un .not (.t 98)), (some (87, .false)), [], 35⟩,
  ⟨(some 100), (.pick (.t 87) (.c (.s (.bool .true))) (.t 99)), none, [], 36⟩,
  ⟨(some 101), (.mov (.t 100)), none, [], 37⟩,
  ⟨(some 102), (.mov (.t 1)), (some (101, .false)), [], 38⟩,
  ⟨(some 103), (.iad 3 (.t 102) (.c (.s (.int .i64 0)))), (some (101, .false)), [], 39⟩,
  ⟨(some 104), (.load 3 .true (.t 103)), (some (101, .false)), [], 40⟩,
  ⟨(some 105), (.mov (.t 1)), (some (101, .false)), [], 41⟩,
  ⟨(some 106), (.iad 3 (.t 105) (.c (.s (.int .i64 0)))), (some (101, .false)), [], 42⟩,
  ⟨(some 107), (.load 3 .true (.t 106)), (some (101, .false)), [40], 43⟩,
  ⟨(some 108), (.bslice 3 [[(.d .true 5 []), (.d .true 1 []), (.d .true 2 [])], [(.d .true 5 []), (.d .true 1 []), (.d .true 2 [])]] [(0, (.t 104)), (1, (.t 107))]), (some (101, .false)), [], 44⟩,
  ⟨(some 109), (.call (.c (.f 18 [])) [(.t 108), (.c (.s (.int .i64 1)))]), (some (101, .false)), [], 45⟩,
  ⟨(some 110), (.fld .false 1 1 (.t 109)), (some (101, .false)), [], 46⟩,
  ⟨(some 111), (.bin .neq (.t 110) (.c (.s (.int .i64 140)))), (some (101, .false)), [], 47⟩,
  ⟨(some 112), (.pick (.t 101) (.c (.s (.bool .true))) (.t 111)), none, [], 48⟩]
def g6_6 : List AOper := [
  ⟨(some 0), (.mov (.c (.s (.bool .false)))), none, [], 0⟩]
def g6_7 : List AOper := [
  ⟨(some 113), (.mov (.t 1)), none, [], 0⟩,
  ⟨(some 114), (.call (.c (.f 17 [])) [(.t 113), (.c (.s (.int .i64 1)))]), none, [], 1⟩,
  ⟨(some 115), (.mov (.t 114)), none, [], 2⟩,
  ⟨(some 116), (.mov (.t 1)), (some (115, .true)), [], 3⟩,
  ⟨(some 117), (.iad 3 (.t 116) (.c (.s (.int .i64 1)))), (some (115, .true)), [], 4⟩,
  ⟨(some 118), (.load 3 .true (.t 117)), (some (115, .true)), [], 5⟩,
  ⟨(some 119), (.mov (.t 1)), (some (115, .true)), [], 6⟩,
  ⟨(some 120), (.iad 3 (.t 119) (.c (.s (.int .i64 0)))), (some (115, .true)), [], 7⟩,
  ⟨(some 121), (.load 3 .true (.t 120)), (some (115, .true)), [5], 8⟩,
  ⟨(some 122), (.bslice 3 [[(.d .true 5 []), (.d .true 1 []), (.d .true 2 [])], [(.d .true 5 []), (.d .true 1 []), (.d .true 2 [])]] [(0, (.t 118)), (1, (.t 121))]), (some (115, .true)), [], 9⟩,
  ⟨(some 123), (.call (.c (.f 17 [])) [(.t 122), (.c (.s (.int .i64 1)))]), (some (115, .true)), [], 10⟩,
  ⟨(some 124), (.un .not (.t 123)), (some (115, .true)), [], 11⟩,
  ⟨(some 125), (.pick (.t 115) (.t 124) (.c (.s (.bool .false)))), none, [], 12⟩,
  ⟨(some 126), (.mov (.t 125)), none, [], 13⟩,
  ⟨(some 127), (.mov (.t 1)), (some (126, .true)), [], 14⟩,
  ⟨(some 128), (.call (.c (.f 17 [])) [(.t 127), (.c (.s (.int .i64 0)))]), (some (126, .true)), [], 15⟩,
  ⟨(some 129), (.un .not (.t 128)), (some (126, .true)), [], 16⟩,
  ⟨(some 130), (.pick (.t 126) (.t 129) (.c (.s (.bool .false)))), none, [], 17⟩,
  ⟨(some 131), (.mov (.t 130)), none, [], 18⟩,
  ⟨(some 132), (.mov (.t 1)), (some (131, .true)), [], 19⟩,
  ⟨(some 133), (.bslice 1 [[(.d .true 3 [])], [(.d .true 3 [])]] [(0, (.t 132)), (1, (.c (.d .true 3 [])))]), (some (131, .true)), [], 20⟩,
  ⟨(some 134), (.build [(.d .true 1 [])] [(0, (1, (.t 133)))]), (some (131, .true)), [], 21⟩,
  ⟨(some 135), (.bslice 1 [[(.s (.int .i64 0))], [(.s (.int .i64 0))]] [(0, (.c (.s (.int .i64 1)))), (1, (.c (.s (.int .i64 2))))]), (some (131, .true)), [20], 22⟩,
  ⟨(some 136), (.call (.c (.f 34 [])) [(.t 134), (.t 135)]), (some (131, .true)), [], 23⟩,
  ⟨(some 137), (.pick (.t 131) (.t 136) (.c (.s (.bool .false)))), none, [], 24⟩,
  ⟨(some 138), (.mov (.t 137)), none, [], 25⟩,
  ⟨(some 139), (.build [(.d .true 1 [])] []), (some (138, .true)), [], 26⟩,
  ⟨(some 140), (.bslice 1 [[(.s (.int .i64 0))]] [(0, (.c (.s (.int .i64 1))))]), (some (138, .true)), [], 27⟩,
  ⟨(some 141), (.call (.c (.f 34 [])) [(.t 139), (.t 140)]), (some (138, .true)), [], 28⟩,
  ⟨(some 142), (.un .not (.t 141)), (some (138, .true)), [], 29⟩,
  ⟨(some 143), (.pick (.t 138) (.t 142) (.c (.s (.bool .false)))), none, [], 30⟩,
  ⟨(some 144), (.mov (.t 143)), none, [], 31⟩,
  ⟨(some 145), (.mov (.t 1)), (some (144, .true)), [], 32⟩,
  ⟨(some 146), (.iad 3 (.t 145) (.c (.s (.int .i64 0)))), (some (144, .true)), [], 33⟩,
  ⟨(some 147), (.load 3 .true (.t 146)), (some (144, .true)), [], 34⟩,
  ⟨(some 148), (.mov (.t 1)), (some (144, .true)), [], 35⟩,
  ⟨(some 149), (.iad 3 (.t 148) (.c (.s (.int .i64 0)))), (some (144, .true)), [], 36⟩,
  ⟨(some 150), (.load 3 .true (.t 149)), (some (144, .true)), [34], 37⟩,
  ⟨(some 151), (.call (.c (.f 25 [])) [(.t 147), (.t 150)]), (some (144, .true)), [], 38⟩,
  ⟨(some 152), (.pick (.t 144) (.t 151) (.c (.s (.bool .false)))), none, [], 39⟩,
  ⟨(some 153), (.mov (.t 152)), none, [], 40⟩,
  ⟨(some 154), (.mov (.t 1)), (some (153, .true)), [], 41⟩,
  ⟨(some 155), (.iad 3 (.t 154) (.c (.s (.int .i64 0)))), (some (153, .true)), [], 42⟩,
  ⟨(some 156), (.load 3 .true (.t 155)), (some (153, .true)), [], 43⟩,
  ⟨(some 157), (.mov (.t 1)), (some (153, .true)), [], 44⟩,
  ⟨(some 158), (.iad 3 (.t 157) (.c (.s (.int .i64 1)))), (some (153, .true)), [], 45⟩,
  ⟨(some 159), (.load 3 .true (.t 158)), (some (153, .true)), [43], 46⟩,
  ⟨(some 160), (.call (.c (.f 25 [])) [(.t 156), (.t 159)]), (some (153, .true)), [], 47⟩,
  ⟨(some 161), (.un .not (.t 160)), (some (153, .true)), [], 48⟩,
  ⟨(some 162), (.pick (.t 153) (.t 161) (.c (.s (.bool .false)))), none, [], 49⟩,
  ⟨(some 163), (.mov (.t 162)), none, [], 50⟩,
  ⟨(some 164), (.mov (.t 1)), (some (163, .true)), [], 51⟩,
  ⟨(some 165), (.call (.c (.f 39 [])) [(.c (.s (.int .i64 3)))]), (some (163, .true)), [], 52⟩,
  ⟨(some 166), (.call (.c (.f 29 [])) [(.t 164), (.c (.s (.int .i64 1))), (.t 165)]), (some (163, .true)), [], 53⟩,
  ⟨(some 167), (.fld .false 3 1 (.t 166)), (some (163, .true)), [], 54⟩,
  ⟨(some 168), (.bin .eql (.t 167) (.c (.s (.int .i64 0)))), (some (163, .true)), [], 55⟩,
  ⟨(some 169), (.pick (.t 163) (.t 168) (.c (.s (.bool .false)))), none, [], 56⟩,
  ⟨(some 170), (.mov (.t 169)), none, [], 57⟩,
  ⟨(some 171), (.mov (.t 1)), (some (170, .true)), [], 58⟩,
  ⟨(some 172), (.call (.c (.f 39 [])) [(.c (.s (.int .i64 2)))]), (some (170, .true)), [], 59⟩,
  ⟨(some 173), (.call (.c (.f 29 [])) [(.t 171), (.c (.s (.int .i64 1))), (.t 172)]), (some (170, .true)), [], 60⟩,
  ⟨(some 174), (.fld .false 3 1 (.t 173)), (some (170, .true)), [], 61⟩,
  ⟨(some 175), (.bin .eql (.t 174) (.c (.s (.int .i64 4)))), (some (170, .true)), [], 62⟩,
  ⟨(some 176), (.pick (.t 170) (.t 175) (.c (.s (.bool .false)))), none, [], 63⟩,
  ⟨(some 177), (.mov (.t 176)), none, [], 64⟩,
  ⟨(some 178), (.mov (.t 1)), (some (177, .true)), [], 65⟩,
  ⟨(some 179), (.iad 3 (.t 178) (.c (.s (.int .i64 0)))), (some (177, .true)), [], 66⟩,
  ⟨(some 180), (.load 3 .true (.t 179)), (some (177, .true)), [], 67⟩,
  ⟨(some 181), (.call (.c (.f 22 [])) [(.t 180), (.c (.s (.int .i64 1)))]), (some (177, .true)), [], 68⟩,
  ⟨(some 182), (.call (.c (.f 39 [])) [(.c (.s (.int .i64 1)))]), (some (177, .true)), [], 69⟩,
  ⟨(some 183), (.call (.c (.f 21 [])) [(.t 181), (.t 182)]), (some (177, .true)), [], 70⟩,
  ⟨(some 184), (.pick (.t 177) (.t 183) (.c (.s (.bool .false)))), none, [], 71⟩,
  ⟨(some 185), (.mov (.t 184)), none, [], 72⟩,
  ⟨(some 186), (.mov (.t 1)), (some (185, .true)), [], 73⟩,
  ⟨(some 187), (.iad 3 (.t 186) (.c (.s (.int .i64 0)))), (some (185, .true)), [], 74⟩,
  ⟨(some 188), (.load 3 .true (.t 187)), (some (185, .true)), [], 75⟩,
  ⟨(some 189), (.call (.c (.f 23 [])) [(.t 188)]), (some (185, .true)), [], 76⟩,
  ⟨(some 190), (.len (.t 189)), (some (185, .true)), [], 77⟩,
  ⟨(some 191), (.bin .eql (.t 190) (.c (.s (.int .i64 2)))), (some (185, .true)), [], 78⟩,
  ⟨(some 192), (.pick (.t 185) (.t 191) (.c (.s (.bool .false)))), none, [], 79⟩,
  ⟨(some 0), (.mov (.t 192)), none, [], 80⟩]
def ac6 : AC :=
  (.seq (.region g6_0 live6) (.seq (.region g6_1 live6) (.seq (.region g6_2 live6) (.seq (.seq (.drawn g6_3 live6) (.cond (.t 63) (.seq (.region g6_4 live6) .ret) .skip)) (.seq (.seq (.drawn g6_5 live6) (.cond (.t 112) (.seq (.region g6_6 live6) .ret) .skip)) (.seq (.drawn g6_7 live6) .ret))))))
theorem fn6 : Den.Fn Try.prog 6 193 res6 ac6 := ⟨⟨Try.f6, _, live6, Try.func6, rfl, by kernel_rfl, rfl, by kernel_rfl, by kernel_rfl⟩⟩

/-- chapman/table.Find; parameters: 3 -/
def live42 : List Nat := [0, 1, 2, 4, 6, 7]
def res42 : List RO := [(.t 6), (.t 7)]
def g42_0 : List AOper := [
  ⟨(some 4), (.box (.t 1)), none, [], 0⟩,
  ⟨(some 6), (.mov (.c (.s (.int .i64 0)))), none, [], 0⟩,
  ⟨(some 7), (.mov (.c (.s (.bool .false)))), none, [], 0⟩]
def g42_1 : List AOper := [
  ⟨(some 8), (.mov (.t 0)), none, [], 0⟩,
  ⟨(some 9), (.mov (.t 2)), none, [], 0⟩,
  ⟨(some 10), (.mkf 64 [(.t 4)]), none, [], 0⟩,
  ⟨(some 11), (.call (.c (.f 63 [])) [(.t 8), (.t 9), (.t 10)]), none, [], 0⟩,
  ⟨(some 12), (.ext (.t 11) 0), none, [], 0⟩,
  ⟨(some 13), (.ext (.t 11) 1), none, [], 0⟩,
  ⟨(some 6), (.mov (.t 12)), none, [], 0⟩,
  ⟨(some 7), (.mov (.t 13)), none, [], 0⟩]
def ac42 : AC :=
  (.seq (.region g42_0 live42) (.seq (.region g42_1 live42) .ret))
theorem fn42 : Den.Fn Try.prog 42 14 res42 ac42 := ⟨⟨Try.f42, _, live42, Try.func42, rfl, by kernel_rfl, rfl, by kernel_rfl, by kernel_rfl⟩⟩

/-- chapman/table.Put; parameters: 3 -/
def live43 : List Nat := [0, 1, 2, 5, 6, 7, 8, 9, 10, 31, 43]
def res43 : List RO := [(.t 6), (.t 7)]
def g43_0 : List AOper := [
  ⟨(some 5), (.box (.t 2)), none, [], 0⟩,
  ⟨(some 6), (.mov (.c (.d .true 3 []))), none, [], 0⟩,
  ⟨(some 7), (.mov (.c (.s (.int .i64 0)))), none, [], 0⟩]
def g43_1 : List AOper := [
  ⟨(some 11), (.fad 0 (.t 5)), none, [], 0⟩,
  ⟨(some 12), (.load 1 .false (.t 11)), none, [], 1⟩,
  ⟨(some 13), (.len (.t 12)), none, [], 2⟩,
  ⟨(some 14), (.mov (.t 1)), none, [], 3⟩,
  ⟨(some 15), (.bin .lss (.t 13) (.t 14)), none, [], 4⟩,
  ⟨(some 16), (.mov (.t 15)), none, [], 5⟩,
  ⟨(some 17), (.mov (.t 0)), (some (16, .false)), [], 6⟩,
  ⟨(some 18), (.len (.t 17)), (some (16, .false)), [], 7⟩,
  ⟨(some 19), (.bin .gtr (.t 18) (.c (.s (.int .i64 0)))), (some (16, .false)), [], 8⟩,
  ⟨(some 20), (.mov (.t 19)), (some (16, .false)), [], 9⟩,
  ⟨(some 21), (.fad 0 (.t 5)), (some (20, .true)), [], 10⟩,
  ⟨(some 22), (.load 1 .false (.t 21)), (some (20, .true)), [], 11⟩,
  ⟨(some 23), (.len (.t 22)), (some (20, .true)), [], 12⟩,
  ⟨(some 24), (.mov (.t 0)), (some (20, .true)), [], 13⟩,
  ⟨(some 25), (.iad 3 (.t 24) (.c (.s (.int .i64 0)))), (some (20, .true)), [], 14⟩,
  ⟨(some 26), (.fad 0 (.t 25)), (some (20, .true)), [], 15⟩,
  ⟨(some 27), (.load 1 .false (.t 26)), (some (20, .true)), [11], 16⟩,
  ⟨(some 28), (.len (.t 27)), (some (20, .true)), [], 17⟩,
  ⟨(some 29), (.bin .neq (.t 23) (.t 28)), (some (20, .true)), [], 18⟩,
  ⟨(some 30), (.pick (.t 20) (.t 29) (.c (.s (.bool .false)))), (some (16, .false)), [], 19⟩,
  ⟨(some 31), (.pick (.t 16) (.c (.s (.bool .true))) (.t 30)), none, [], 20⟩]
def g43_2 : List AOper := [
  ⟨(some 6), (.mov (.c (.d .true 3 []))), none, [], 0⟩,
  ⟨(some 7), (.mov (.c (.s (.int .i64 140)))), none, [], 0⟩]
def g43_3 : List AOper := [
  ⟨(some 32), (.mov (.t 0)), none, [], 0⟩,
  ⟨(some 33), (.call (.c (.f 52 [])) [(.t 32)]), none, [], 0⟩,
  ⟨(some 8), (.mov (.t 33)), none, [], 0⟩]
def g43_4 : List AOper := [
  ⟨(some 35), (.mov (.t 0)), none, [], 0⟩,
  ⟨(some 36), (.mov (.t 1)), none, [], 0⟩,
  ⟨(some 37), (.load 3 .true (.t 5)), none, [], 0⟩,
  ⟨(some 38), (.mov (.t 1)), none, [], 0⟩,
  ⟨(some 39), (.call (.c (.f 22 [])) [(.t 37), (.t 38)]), none, [], 0⟩,
  ⟨(some 40), (.call (.c (.f 42 [])) [(.t 35), (.t 36), (.t 39)]), none, [], 0⟩,
  ⟨(some 34), (.mov (.t 40)), none, [], 0⟩,
  ⟨(some 41), (.ext (.t 34) 0), none, [], 0⟩,
  ⟨(some 42), (.ext (.t 34) 1), none, [], 0⟩,
  ⟨(some 9), (.mov (.t 41)), none, [], 0⟩,
  ⟨(some 10), (.mov (.t 42)), none, [], 0⟩]
def g43_5 : List AOper := [
  ⟨(some 43), (.mov (.t 10)), none, [], 0⟩]
def g43_6 : List AOper := [
  ⟨(some 44), (.mov (.t 8)), none, [], 0⟩,
  ⟨(some 45), (.mov (.t 9)), none, [], 0⟩,
  ⟨(some 46), (.load 3 .true (.t 5)), none, [], 0⟩,
  ⟨(some 47), (.iad 3 (.t 44) (.t 45)), none, [], 0⟩,
  ⟨none, (.store 3 (.t 47) (.t 46)), none, [], 0⟩]
def g43_7 : List AOper := [
  ⟨(some 48), (.mov (.t 8)), none, [], 0⟩,
  ⟨(some 6), (.mov (.t 48)), none, [], 0⟩,
  ⟨(some 7), (.mov (.c (.s (.int .i64 0)))), none, [], 0⟩]
def g43_8 : List AOper := [
  ⟨(some 49), (.mov (.t 8)), none, [], 0⟩,
  ⟨(some 50), (.mov (.t 9)), none, [], 0⟩,
  ⟨(some 51), (.load 3 .true (.t 5)), none, [], 0⟩,
  ⟨(some 52), (.bslice 3 [[(.d .true 5 []), (.d .true 1 []), (.d .true 2 [])]] [(0, (.t 51))]), none, [], 0⟩,
  ⟨(some 53), (.call (.c (.f 66 [])) [(.t 49), (.t 50), (.t 52)]), none, [], 0⟩,
  ⟨(some 6), (.mov (.t 53)), none, [], 0⟩,
  ⟨(some 7), (.mov (.c (.s (.int .i64 0)))), none, [], 0⟩]
def ac43 : AC :=
  (.seq (.region g43_0 live43) (.seq (.seq (.drawn g43_1 live43) (.cond (.t 31) (.seq (.region g43_2 live43) .ret) .skip)) (.seq (.region g43_3 live43) (.seq (.region g43_4 live43) (.seq (.seq (.region g43_5 live43) (.cond (.t 43) (.seq (.region g43_6 live43) (.seq (.region g43_7 live43) .ret)) .skip)) (.seq (.region g43_8 live43) .ret))))))
theorem fn43 : Den.Fn Try.prog 43 54 res43 ac43 := ⟨⟨Try.f43, _, live43, Try.func43, rfl, by kernel_rfl, rfl, by kernel_rfl, by kernel_rfl⟩⟩

/-- chapman/chapmanref06.CmpList; parameters: 2 -/
def live44 : List Nat := [0, 1, 4, 5, 6, 16, 29]
def res44 : List RO := [(.t 4)]
def g44_0 : List AOper := [
  ⟨(some 4), (.mov (.c (.s (.int .i64 0)))), none, [], 0⟩]
def g44_1 : List AOper := [
  ⟨(some 5), (.mov (.c (.s (.int .i64 0)))), none, [], 0⟩]
def g44_2 : List AOper := [
  ⟨(some 7), (.mov (.t 5)), none, [], 0⟩,
  ⟨(some 8), (.mov (.t 0)), none, [], 0⟩,
  ⟨(some 9), (.len (.t 8)), none, [], 0⟩,
  ⟨(some 10), (.bin .lss (.t 7) (.t 9)), none, [], 0⟩,
  ⟨(some 11), (.mov (.t 10)), none, [], 0⟩,
  ⟨(some 12), (.mov (.t 5)), (some (11, .true)), [], 0⟩,
  ⟨(some 13), (.mov (.t 1)), (some (11, .true)), [], 0⟩,
  ⟨(some 14), (.len (.t 13)), (some (11, .true)), [], 0⟩,
  ⟨(some 15), (.bin .lss (.t 12) (.t 14)), (some (11, .true)), [], 0⟩,
  ⟨(some 16), (.pick (.t 11) (.t 15) (.c (.s (.bool .false)))), none, [], 0⟩]
def g44_3 : List AOper := [
  ⟨(some 19), (.mov (.t 0)), none, [], 0⟩,
  ⟨(some 20), (.mov (.t 5)), none, [], 1⟩,
  ⟨(some 21), (.iad 3 (.t 19) (.t 20)), none, [], 2⟩,
  ⟨(some 22), (.load 3 .true (.t 21)), none, [], 3⟩,
  ⟨(some 23), (.mov (.t 1)), none, [], 4⟩,
  ⟨(some 24), (.mov (.t 5)), none, [], 5⟩,
  ⟨(some 25), (.iad 3 (.t 23) (.t 24)), none, [], 6⟩,
  ⟨(some 26), (.load 3 .true (.t 25)), none, [3], 7⟩,
  ⟨(some 27), (.call (.c (.f 67 [])) [(.t 22), (.t 26)]), none, [], 8⟩,
  ⟨(some 6), (.mov (.t 27)), none, [], 9⟩]
def g44_4 : List AOper := [
  ⟨(some 28), (.mov (.t 6)), none, [], 0⟩,
  ⟨(some 29), (.bin .neq (.t 28) (.c (.s (.int .i64 0)))), none, [], 0⟩]
def g44_5 : List AOper := [
  ⟨(some 30), (.mov (.t 6)), none, [], 0⟩,
  ⟨(some 4), (.mov (.t 30)), none, [], 0⟩]
def g44_6 : List AOper := [
  ⟨(some 17), (.mov (.t 5)), none, [], 0⟩,
  ⟨(some 18), (.bin .add (.t 17) (.c (.s (.int .i64 1)))), none, [], 0⟩,
  ⟨(some 5), (.mov (.t 18)), none, [], 0⟩]
def g44_7 : List AOper := [
  ⟨(some 31), (.mov (.t 0)), none, [], 0⟩,
  ⟨(some 32), (.len (.t 31)), none, [], 0⟩,
  ⟨(some 33), (.mov (.t 1)), none, [], 0⟩,
  ⟨(some 34), (.len (.t 33)), none, [], 0⟩,
  ⟨(some 35), (.call (.c (.f 68 [])) [(.t 32), (.t 34)]), none, [], 0⟩,
  ⟨(some 4), (.mov (.t 35)), none, [], 0⟩]
def ac44 : AC :=
  (.seq (.region g44_0 live44) (.seq (.seq (.region g44_1 live44) (.block 0 (.loop (.seq (.seq (.region g44_2 live44) (.cond (.t 16) .skip (.exit 0))) (.seq (.block 1 (.seq (.drawn g44_3 live44) (.seq (.region g44_4 live44) (.cond (.t 29) (.seq (.region g44_5 live44) .ret) .skip)))) (.region g44_6 live44)))))) (.seq (.region g44_7 live44) .ret)))
theorem fn44 : Den.Fn Try.prog 44 36 res44 ac44 := ⟨⟨Try.f44, _, live44, Try.func44, rfl, by kernel_rfl, rfl, by kernel_rfl, by kernel_rfl⟩⟩

/-- chapman/table.Delete; parameters: 3 -/
def live45 : List Nat := [0, 1, 2, 6, 7, 8, 9, 18]
def res45 : List RO := [(.t 6), (.t 7)]
def g45_0 : List AOper := [
  ⟨(some 6), (.mov (.c (.d .true 3 []))), none, [], 0⟩,
  ⟨(some 7), (.mov (.c (.s (.int .i64 0)))), none, [], 0⟩]
def g45_1 : List AOper := [
  ⟨(some 11), (.mov (.t 0)), none, [], 0⟩,
  ⟨(some 12), (.mov (.t 1)), none, [], 0⟩,
  ⟨(some 13), (.mov (.t 2)), none, [], 0⟩,
  ⟨(some 14), (.call (.c (.f 42 [])) [(.t 11), (.t 12), (.t 13)]), none, [], 0⟩,
  ⟨(some 10), (.mov (.t 14)), none, [], 0⟩,
  ⟨(some 15), (.ext (.t 10) 0), none, [], 0⟩,
  ⟨(some 16), (.ext (.t 10) 1), none, [], 0⟩,
  ⟨(some 8), (.mov (.t 15)), none, [], 0⟩,
  ⟨(some 9), (.mov (.t 16)), none, [], 0⟩]
def g45_2 : List AOper := [
  ⟨(some 17), (.mov (.t 9)), none, [], 0⟩,
  ⟨(some 18), (.un .not (.t 17)), none, [], 0⟩]
def g45_3 : List AOper := [
  ⟨(some 6), (.mov (.c (.d .true 3 []))), none, [], 0⟩,
  ⟨(some 7), (.mov (.c (.s (.int .i64 4)))), none, [], 0⟩]
def g45_4 : List AOper := [
  ⟨(some 19), (.mov (.t 0)), none, [], 0⟩,
  ⟨(some 20), (.call (.c (.f 52 [])) [(.t 19)]), none, [], 0⟩,
  ⟨(some 21), (.mov (.t 8)), none, [], 0⟩,
  ⟨(some 22), (.mov (.t 8)), none, [], 0⟩,
  ⟨(some 23), (.bin .add (.t 22) (.c (.s (.int .i64 1)))), none, [], 0⟩,
  ⟨(some 24), (.call (.c (.f 69 [])) [(.t 20), (.t 21), (.t 23)]), none, [], 0⟩,
  ⟨(some 6), (.mov (.t 24)), none, [], 0⟩,
  ⟨(some 7), (.mov (.c (.s (.int .i64 0)))), none, [], 0⟩]
def ac45 : AC :=
  (.seq (.region g45_0 live45) (.seq (.region g45_1 live45) (.seq (.seq (.region g45_2 live45) (.cond (.t 18) (.seq (.region g45_3 live45) .ret) .skip)) (.seq (.region g45_4 live45) .ret))))
theorem fn45 : Den.Fn Try.prog 45 25 res45 ac45 := ⟨⟨Try.f45, _, live45, Try.func45, rfl, by kernel_rfl, rfl, by kernel_rfl, by kernel_rfl⟩⟩

/-- chapman/table.compare; parameters: 1 -/
def live46 : List Nat := [0, 1, 2]
def res46 : List RO := [(.t 2)]
def g46_0 : List AOper := [
  ⟨(some 1), (.box (.t 0)), none, [], 0⟩,
  ⟨(some 2), (.mov (.c (.s .nilFunc))), none, [], 0⟩]
def g46_1 : List AOper := [
  ⟨(some 3), (.mkf 70 [(.t 1)]), none, [], 0⟩,
  ⟨(some 2), (.mov (.t 3)), none, [], 0⟩]
def ac46 : AC :=
  (.seq (.region g46_0 live46) (.seq (.region g46_1 live46) .ret))
theorem fn46 : Den.Fn Try.prog 46 4 res46 ac46 := ⟨⟨Try.f46, _, live46, Try.func46, rfl, by kernel_rfl, rfl, by kernel_rfl, by kernel_rfl⟩⟩

/-- chapman/table.Of; parameters: 2 -/
def live47 : List Nat := [0, 1, 4, 5, 6, 16]
def res47 : List RO := [(.t 4), (.t 5)]
def g47_0 : List AOper := [
  ⟨(some 4), (.mov (.c (.d .true 3 []))), none, [], 0⟩,
  ⟨(some 5), (.mov (.c (.s (.int .i64 0)))), none, [], 0⟩]
def g47_1 : List AOper := [
  ⟨(some 7), (.mov (.t 0)), none, [], 0⟩,
  ⟨(some 8), (.call (.c (.f 52 [])) [(.t 7)]), none, [], 0⟩,
  ⟨(some 6), (.mov (.t 8)), none, [], 0⟩]
def g47_2 : List AOper := [
  ⟨(some 9), (.mov (.t 6)), none, [], 0⟩,
  ⟨(some 10), (.mov (.t 1)), none, [], 0⟩,
  ⟨(some 11), (.call (.c (.f 46 [])) [(.t 10)]), none, [], 0⟩,
  ⟨(some 12), (.call (.c (.f 71 [])) [(.t 9), (.t 11)]), none, [], 0⟩]
def g47_3 : List AOper := [
  ⟨(some 13), (.mov (.t 6)), none, [], 0⟩,
  ⟨(some 14), (.mov (.t 1)), none, [], 0⟩,
  ⟨(some 15), (.call (.c (.f 17 [])) [(.t 13), (.t 14)]), none, [], 0⟩,
  ⟨(some 16), (.un .not (.t 15)), none, [], 0⟩]
def g47_4 : List AOper := [
  ⟨(some 4), (.mov (.c (.d .true 3 []))), none, [], 0⟩,
  ⟨(some 5), (.mov (.c (.s (.int .i64 140)))), none, [], 0⟩]
def g47_5 : List AOper := [
  ⟨(some 17), (.mov (.t 6)), none, [], 0⟩,
  ⟨(some 4), (.mov (.t 17)), none, [], 0⟩,
  ⟨(some 5), (.mov (.c (.s (.int .i64 0)))), none, [], 0⟩]
def ac47 : AC :=
  (.seq (.region g47_0 live47) (.seq (.region g47_1 live47) (.seq (.region g47_2 live47) (.seq (.seq (.region g47_3 live47) (.cond (.t 16) (.seq (.region g47_4 live47) .ret) .skip)) (.seq (.region g47_5 live47) .ret)))))
theorem fn47 : Den.Fn Try.prog 47 18 res47 ac47 := ⟨⟨Try.f47, _, live47, Try.func47, rfl, by kernel_rfl, rfl, by kernel_rfl, by kernel_rfl⟩⟩

/-- chapman/table.equal[chapman/api.Cell]; parameters: 2 -/
def live48 : List Nat := [0, 1, 4]
def res48 : List RO := [(.t 4)]
def g48_0 : List AOper := [
  ⟨(some 4), (.mov (.c (.s (.bool .false)))), none, [], 0⟩]
def g48_1 : List AOper := [
  ⟨(some 5), (.mov (.t 0)), none, [], 0⟩,
  ⟨(some 6), (.mov (.t 1)), none, [], 0⟩,
  ⟨(some 7), (.call (.c (.f 72 [])) [(.t 5), (.t 6)]), none, [], 0⟩,
  ⟨(some 4), (.mov (.t 7)), none, [], 0⟩]
def ac48 : AC :=
  (.seq (.region g48_0 live48) (.seq (.region g48_1 live48) .ret))
theorem fn48 : Den.Fn Try.prog 48 8 res48 ac48 := ⟨⟨Try.f48, _, live48, Try.func48, rfl, by kernel_rfl, rfl, by kernel_rfl, by kernel_rfl⟩⟩

/-- chapman/table.equal[int]; parameters: 2 -/
def live49 : List Nat := [0, 1, 4]
def res49 : List RO := [(.t 4)]
def g49_0 : List AOper := [
  ⟨(some 4), (.mov (.c (.s (.bool .false)))), none, [], 0⟩]
def g49_1 : List AOper := [
  ⟨(some 5), (.mov (.t 0)), none, [], 0⟩,
  ⟨(some 6), (.mov (.t 1)), none, [], 0⟩,
  ⟨(some 7), (.call (.c (.f 73 [])) [(.t 5), (.t 6)]), none, [], 0⟩,
  ⟨(some 4), (.mov (.t 7)), none, [], 0⟩]
def ac49 : AC :=
  (.seq (.region g49_0 live49) (.seq (.region g49_1 live49) .ret))
theorem fn49 : Den.Fn Try.prog 49 8 res49 ac49 := ⟨⟨Try.f49, _, live49, Try.func49, rfl, by kernel_rfl, rfl, by kernel_rfl, by kernel_rfl⟩⟩

/-- chapman/table.equal[chapman/api.Name]; parameters: 2 -/
def live50 : List Nat := [0, 1, 4]
def res50 : List RO := [(.t 4)]
def g50_0 : List AOper := [
  ⟨(some 4), (.mov (.c (.s (.bool .false)))), none, [], 0⟩]
def g50_1 : List AOper := [
  ⟨(some 5), (.mov (.t 0)), none, [], 0⟩,
  ⟨(some 6), (.mov (.t 1)), none, [], 0⟩,
  ⟨(some 7), (.call (.c (.f 74 [])) [(.t 5), (.t 6)]), none, [], 0⟩,
  ⟨(some 4), (.mov (.t 7)), none, [], 0⟩]
def ac50 : AC :=
  (.seq (.region g50_0 live50) (.seq (.region g50_1 live50) .ret))
theorem fn50 : Den.Fn Try.prog 50 8 res50 ac50 := ⟨⟨Try.f50, _, live50, Try.func50, rfl, by kernel_rfl, rfl, by kernel_rfl, by kernel_rfl⟩⟩

/-- chapman/table.Get; parameters: 3 -/
def live51 : List Nat := [0, 1, 2, 6, 7, 8, 9, 18]
def res51 : List RO := [(.c 6 3 .true), (.t 7)]
def g51_0 : List AOper := [
  ⟨(some 6), (.new [(.d .true 5 []), (.d .true 1 []), (.d .true 2 [])]), none, [], 0⟩,
  ⟨(some 7), (.mov (.c (.s (.int .i64 0)))), none, [], 0⟩]
def g51_1 : List AOper := [
  ⟨(some 11), (.mov (.t 0)), none, [], 0⟩,
  ⟨(some 12), (.mov (.t 1)), none, [], 0⟩,
  ⟨(some 13), (.mov (.t 2)), none, [], 0⟩,
  ⟨(some 14), (.call (.c (.f 42 [])) [(.t 11), (.t 12), (.t 13)]), none, [], 0⟩,
  ⟨(some 10), (.mov (.t 14)), none, [], 0⟩,
  ⟨(some 15), (.ext (.t 10) 0), none, [], 0⟩,
  ⟨(some 16), (.ext (.t 10) 1), none, [], 0⟩,
  ⟨(some 8), (.mov (.t 15)), none, [], 0⟩,
  ⟨(some 9), (.mov (.t 16)), none, [], 0⟩]
def g51_2 : List AOper := [
  ⟨(some 17), (.mov (.t 9)), none, [], 0⟩,
  ⟨(some 18), (.un .not (.t 17)), none, [], 0⟩]
def g51_3 : List AOper := [
  ⟨(some 19), (.build [(.d .true 5 []), (.d .true 1 []), (.d .true 2 [])] []), none, [], 0⟩,
  ⟨none, (.store 3 (.t 6) (.t 19)), none, [], 0⟩,
  ⟨(some 7), (.mov (.c (.s (.int .i64 4)))), none, [], 0⟩]
def g51_4 : List AOper := [
  ⟨(some 20), (.mov (.t 0)), none, [], 0⟩,
  ⟨(some 21), (.mov (.t 8)), none, [], 0⟩,
  ⟨(some 22), (.iad 3 (.t 20) (.t 21)), none, [], 0⟩,
  ⟨(some 23), (.load 3 .true (.t 22)), none, [], 0⟩,
  ⟨none, (.store 3 (.t 6) (.t 23)), none, [], 0⟩,
  ⟨(some 7), (.mov (.c (.s (.int .i64 0)))), none, [], 0⟩]
def ac51 : AC :=
  (.seq (.region g51_0 live51) (.seq (.region g51_1 live51) (.seq (.seq (.region g51_2 live51) (.cond (.t 18) (.seq (.region g51_3 live51) .ret) .skip)) (.seq (.region g51_4 live51) .ret))))
theorem fn51 : Den.Fn Try.prog 51 24 res51 ac51 := ⟨⟨Try.f51, _, live51, Try.func51, rfl, by kernel_rfl, rfl, by kernel_rfl, by kernel_rfl⟩⟩

/-- slices.EqualFunc[[][]chapman/api.Row,[][]chapman/api.Row,[]chapman/api.Row,[]chapman/api.Row]; parameters: 3 -/
def live53 : List Nat := [0, 1, 2, 6, 7, 8, 9, 14, 15, 16, 17, 18, 30]
def res53 : List RO := [(.t 6)]
def g53_0 : List AOper := [
  ⟨(some 6), (.mov (.c (.s (.bool .false)))), none, [], 0⟩]
def g53_1 : List AOper := [
  ⟨(some 10), (.mov (.t 0)), none, [], 0⟩,
  ⟨(some 11), (.len (.t 10)), none, [], 0⟩,
  ⟨(some 12), (.mov (.t 1)), none, [], 0⟩,
  ⟨(some 13), (.len (.t 12)), none, [], 0⟩,
  ⟨(some 14), (.bin .neq (.t 11) (.t 13)), none, [], 0⟩]
def g53_2 : List AOper := [
  ⟨(some 6), (.mov (.c (.s (.bool .false)))), none, [], 0⟩]
def g53_3 : List AOper := [
  ⟨(some 15), (.mov (.t 0)), none, [], 0⟩,
  ⟨(some 16), (.len (.t 15)), none, [], 0⟩,
  ⟨(some 17), (.mov (.c (.s (.int .i64 0)))), none, [], 0⟩]
def g53_4 : List AOper := [
  ⟨(some 18), (.bin .lss (.t 17) (.t 16)), none, [], 0⟩]
def g53_5 : List AOper := [
  ⟨(some 19), (.mov (.t 17)), none, [], 0⟩,
  ⟨(some 20), (.iad 1 (.t 15) (.t 17)), none, [], 0⟩,
  ⟨(some 21), (.load 1 .false (.t 20)), none, [], 0⟩,
  ⟨(some 7), (.mov (.t 19)), none, [], 0⟩,
  ⟨(some 8), (.mov (.t 21)), none, [], 0⟩]
def g53_6 : List AOper := [
  ⟨(some 22), (.mov (.t 1)), none, [], 0⟩,
  ⟨(some 23), (.mov (.t 7)), none, [], 0⟩,
  ⟨(some 24), (.iad 1 (.t 22) (.t 23)), none, [], 0⟩,
  ⟨(some 25), (.load 1 .false (.t 24)), none, [], 0⟩,
  ⟨(some 9), (.mov (.t 25)), none, [], 0⟩]
def g53_7 : List AOper := [
  ⟨(some 26), (.mov (.t 2)), none, [], 0⟩,
  ⟨(some 27), (.mov (.t 8)), none, [], 0⟩,
  ⟨(some 28), (.mov (.t 9)), none, [], 0⟩,
  ⟨(some 29), (.call (.t 26) [(.t 27), (.t 28)]), none, [], 0⟩,
  ⟨(some 30), (.un .not (.t 29)), none, [], 0⟩]
def g53_8 : List AOper := [
  ⟨(some 6), (.mov (.c (.s (.bool .false)))), none, [], 0⟩]
def g53_9 : List AOper := [
  ⟨(some 31), (.bin .add (.t 17) (.c (.s (.int .i64 1)))), none, [], 0⟩,
  ⟨(some 17), (.mov (.t 31)), none, [], 0⟩]
def g53_10 : List AOper := [
  ⟨(some 6), (.mov (.c (.s (.bool .true)))), none, [], 0⟩]
def ac53 : AC :=
  (.seq (.region g53_0 live53) (.seq (.seq (.region g53_1 live53) (.cond (.t 14) (.seq (.region g53_2 live53) .ret) .skip)) (.seq (.seq (.region g53_3 live53) (.block 0 (.loop (.seq (.region g53_4 live53) (.seq (.cond (.t 18) .skip (.exit 0)) (.seq (.block 1 (.seq (.region g53_5 live53) (.seq (.region g53_6 live53) (.seq (.region g53_7 live53) (.cond (.t 30) (.seq (.region g53_8 live53) .ret) .skip))))) (.region g53_9 live53))))))) (.seq (.region g53_10 live53) .ret))))
theorem fn53 : Den.Fn Try.prog 53 32 res53 ac53 := ⟨⟨Try.f53, _, live53, Try.func53, rfl, by kernel_rfl, rfl, by kernel_rfl, by kernel_rfl⟩⟩

/-- chapman/table.SameState$1; parameters: 2 -/
def live54 : List Nat := [0, 1, 4]
def res54 : List RO := [(.t 4)]
def g54_0 : List AOper := [
  ⟨(some 4), (.mov (.c (.s (.bool .false)))), none, [], 0⟩]
def g54_1 : List AOper := [
  ⟨(some 5), (.mov (.t 0)), none, [], 0⟩,
  ⟨(some 6), (.mov (.t 1)), none, [], 0⟩,
  ⟨(some 7), (.call (.c (.f 55 [])) [(.t 5), (.t 6), (.c (.f 25 []))]), none, [], 0⟩,
  ⟨(some 4), (.mov (.t 7)), none, [], 0⟩]
def ac54 : AC :=
  (.seq (.region g54_0 live54) (.seq (.region g54_1 live54) .ret))
theorem fn54 : Den.Fn Try.prog 54 8 res54 ac54 := ⟨⟨Try.f54, _, live54, Try.func54, rfl, by kernel_rfl, rfl, by kernel_rfl, by kernel_rfl⟩⟩

/-- slices.EqualFunc[[]chapman/api.Row,[]chapman/api.Row,chapman/api.Row,chapman/api.Row]; parameters: 3 -/
def live55 : List Nat := [0, 1, 2, 6, 7, 8, 9, 14, 15, 16, 17, 18, 30]
def res55 : List RO := [(.t 6)]
def g55_0 : List AOper := [
  ⟨(some 6), (.mov (.c (.s (.bool .false)))), none, [], 0⟩]
def g55_1 : List AOper := [
  ⟨(some 10), (.mov (.t 0)), none, [], 0⟩,
  ⟨(some 11), (.len (.t 10)), none, [], 0⟩,
  ⟨(some 12), (.mov (.t 1)), none, [], 0⟩,
  ⟨(some 13), (.len (.t 12)), none, [], 0⟩,
  ⟨(some 14), (.bin .neq (.t 11) (.t 13)), none, [], 0⟩]
def g55_2 : List AOper := [
  ⟨(some 6), (.mov (.c (.s (.bool .false)))), none, [], 0⟩]
def g55_3 : List AOper := [
  ⟨(some 15), (.mov (.t 0)), none, [], 0⟩,
  ⟨(some 16), (.len (.t 15)), none, [], 0⟩,
  ⟨(some 17), (.mov (.c (.s (.int .i64 0)))), none, [], 0⟩]
def g55_4 : List AOper := [
  ⟨(some 18), (.bin .lss (.t 17) (.t 16)), none, [], 0⟩]
def g55_5 : List AOper := [
  ⟨(some 19), (.mov (.t 17)), none, [], 0⟩,
  ⟨(some 20), (.iad 3 (.t 15) (.t 17)), none, [], 0⟩,
  ⟨(some 21), (.load 3 .true (.t 20)), none, [], 0⟩,
  ⟨(some 8), (.new [(.d .true 5 []), (.d .true 1 []), (.d .true 2 [])]), none, [], 0⟩,
  ⟨(some 7), (.mov (.t 19)), none, [], 0⟩,
  ⟨none, (.store 3 (.t 8) (.t 21)), none, [], 0⟩]
def g55_6 : List AOper := [
  ⟨(some 22), (.mov (.t 1)), none, [], 0⟩,
  ⟨(some 23), (.mov (.t 7)), none, [], 0⟩,
  ⟨(some 24), (.iad 3 (.t 22) (.t 23)), none, [], 0⟩,
  ⟨(some 25), (.load 3 .true (.t 24)), none, [], 0⟩,
  ⟨(some 9), (.new [(.d .true 5 []), (.d .true 1 []), (.d .true 2 [])]), none, [], 0⟩,
  ⟨none, (.store 3 (.t 9) (.t 25)), none, [], 0⟩]
def g55_7 : List AOper := [
  ⟨(some 26), (.mov (.t 2)), none, [], 0⟩,
  ⟨(some 27), (.load 3 .true (.t 8)), none, [], 0⟩,
  ⟨(some 28), (.load 3 .true (.t 9)), none, [], 0⟩,
  ⟨(some 29), (.call (.t 26) [(.t 27), (.t 28)]), none, [], 0⟩,
  ⟨(some 30), (.un .not (.t 29)), none, [], 0⟩]
def g55_8 : List AOper := [
  ⟨(some 6), (.mov (.c (.s (.bool .false)))), none, [], 0⟩]
def g55_9 : List AOper := [
  ⟨(some 31), (.bin .add (.t 17) (.c (.s (.int .i64 1)))), none, [], 0⟩,
  ⟨(some 17), (.mov (.t 31)), none, [], 0⟩]
def g55_10 : List AOper := [
  ⟨(some 6), (.mov (.c (.s (.bool .true)))), none, [], 0⟩]
def ac55 : AC :=
  (.seq (.region g55_0 live55) (.seq (.seq (.region g55_1 live55) (.cond (.t 14) (.seq (.region g55_2 live55) .ret) .skip)) (.seq (.seq (.region g55_3 live55) (.block 0 (.loop (.seq (.region g55_4 live55) (.seq (.cond (.t 18) .skip (.exit 0)) (.seq (.block 1 (.seq (.region g55_5 live55) (.seq (.region g55_6 live55) (.seq (.region g55_7 live55) (.cond (.t 30) (.seq (.region g55_8 live55) .ret) .skip))))) (.region g55_9 live55))))))) (.seq (.region g55_10 live55) .ret))))
theorem fn55 : Den.Fn Try.prog 55 32 res55 ac55 := ⟨⟨Try.f55, _, live55, Try.func55, rfl, by kernel_rfl, rfl, by kernel_rfl, by kernel_rfl⟩⟩

/-- chapman/chapmanref06.Whole; parameters: 1 -/
def live56 : List Nat := [0, 2]
def res56 : List RO := [(.c 2 3 .true)]
def g56_0 : List AOper := [
  ⟨(some 2), (.new [(.s (.int .i64 0)), (.s (.int .i64 0)), (.s (.string (ByteArray.mk #[])))]), none, [], 0⟩]
def g56_1 : List AOper := [
  ⟨(some 3), (.mov (.t 0)), none, [], 0⟩,
  ⟨(some 4), (.bin .mul (.t 3) (.c (.s (.int .i64 1000000)))), none, [], 0⟩,
  ⟨(some 5), (.call (.c (.f 59 [])) [(.t 4)]), none, [], 0⟩,
  ⟨none, (.store 3 (.t 2) (.t 5)), none, [], 0⟩]
def ac56 : AC :=
  (.seq (.region g56_0 live56) (.seq (.region g56_1 live56) .ret))
theorem fn56 : Den.Fn Try.prog 56 6 res56 ac56 := ⟨⟨Try.f56, _, live56, Try.func56, rfl, by kernel_rfl, rfl, by kernel_rfl, by kernel_rfl⟩⟩

/-- chapman/chapmanref06.Null; parameters: 0 -/
def live57 : List Nat := [0]
def res57 : List RO := [(.c 0 3 .true)]
def g57_0 : List AOper := [
  ⟨(some 0), (.new [(.s (.int .i64 0)), (.s (.int .i64 0)), (.s (.string (ByteArray.mk #[])))]), none, [], 0⟩]
def g57_1 : List AOper := [
  ⟨(some 1), (.build [(.s (.int .i64 0)), (.s (.int .i64 0)), (.s (.string (ByteArray.mk #[])))] []), none, [], 0⟩,
  ⟨none, (.store 3 (.t 0) (.t 1)), none, [], 0⟩]
def ac57 : AC :=
  (.seq (.region g57_0 live57) (.seq (.region g57_1 live57) .ret))
theorem fn57 : Den.Fn Try.prog 57 2 res57 ac57 := ⟨⟨Try.f57, _, live57, Try.func57, rfl, by kernel_rfl, rfl, by kernel_rfl, by kernel_rfl⟩⟩

/-- chapman/chapmanref06.Bool; parameters: 1 -/
def live58 : List Nat := [0, 2, 3]
def res58 : List RO := [(.c 2 3 .true)]
def g58_0 : List AOper := [
  ⟨(some 2), (.new [(.s (.int .i64 0)), (.s (.int .i64 0)), (.s (.string (ByteArray.mk #[])))]), none, [], 0⟩]
def g58_1 : List AOper := [
  ⟨(some 3), (.mov (.t 0)), none, [], 0⟩]
def g58_2 : List AOper := [
  ⟨(some 4), (.build [(.s (.int .i64 0)), (.s (.int .i64 0)), (.s (.string (ByteArray.mk #[])))] [(0, (1, (.c (.s (.int .i64 1))))), (1, (1, (.c (.s (.int .i64 1)))))]), none, [], 0⟩,
  ⟨none, (.store 3 (.t 2) (.t 4)), none, [], 0⟩]
def g58_3 : List AOper := [
  ⟨(some 5), (.build [(.s (.int .i64 0)), (.s (.int .i64 0)), (.s (.string (ByteArray.mk #[])))] [(0, (1, (.c (.s (.int .i64 1)))))]), none, [], 0⟩,
  ⟨none, (.store 3 (.t 2) (.t 5)), none, [], 0⟩]
def ac58 : AC :=
  (.seq (.region g58_0 live58) (.seq (.seq (.region g58_1 live58) (.cond (.t 3) (.seq (.region g58_2 live58) .ret) .skip)) (.seq (.region g58_3 live58) .ret)))
theorem fn58 : Den.Fn Try.prog 58 6 res58 ac58 := ⟨⟨Try.f58, _, live58, Try.func58, rfl, by kernel_rfl, rfl, by kernel_rfl, by kernel_rfl⟩⟩

/-- chapman/chapmanref06.Num; parameters: 1 -/
def live59 : List Nat := [0, 2]
def res59 : List RO := [(.c 2 3 .true)]
def g59_0 : List AOper := [
  ⟨(some 2), (.new [(.s (.int .i64 0)), (.s (.int .i64 0)), (.s (.string (ByteArray.mk #[])))]), none, [], 0⟩]
def g59_1 : List AOper := [
  ⟨(some 3), (.mov (.t 0)), none, [], 0⟩,
  ⟨(some 4), (.build [(.s (.int .i64 0)), (.s (.int .i64 0)), (.s (.string (ByteArray.mk #[])))] [(0, (1, (.c (.s (.int .i64 2))))), (1, (1, (.t 3)))]), none, [], 0⟩,
  ⟨none, (.store 3 (.t 2) (.t 4)), none, [], 0⟩]
def ac59 : AC :=
  (.seq (.region g59_0 live59) (.seq (.region g59_1 live59) .ret))
theorem fn59 : Den.Fn Try.prog 59 5 res59 ac59 := ⟨⟨Try.f59, _, live59, Try.func59, rfl, by kernel_rfl, rfl, by kernel_rfl, by kernel_rfl⟩⟩

/-- chapman/chapmanref06.Step; parameters: 1 -/
def live60 : List Nat := [0, 2, 3, 4, 7]
def res60 : List RO := [(.t 2)]
def g60_0 : List AOper := [
  ⟨(some 2), (.mov (.c (.s (.int .i64 0)))), none, [], 0⟩]
def g60_1 : List AOper := [
  ⟨(some 3), (.mov (.c (.s (.int .i64 1000000)))), none, [], 0⟩]
def g60_2 : List AOper := [
  ⟨(some 4), (.mov (.c (.s (.int .i64 0)))), none, [], 0⟩]
def g60_3 : List AOper := [
  ⟨(some 5), (.mov (.t 4)), none, [], 0⟩,
  ⟨(some 6), (.mov (.t 0)), none, [], 0⟩,
  ⟨(some 7), (.bin .lss (.t 5) (.t 6)), none, [], 0⟩]
def g60_4 : List AOper := [
  ⟨(some 10), (.mov (.t 3)), none, [], 0⟩,
  ⟨(some 11), (.bin .quo (.t 10) (.c (.s (.int .i64 10)))), none, [], 0⟩,
  ⟨(some 3), (.mov (.t 11)), none, [], 0⟩]
def g60_5 : List AOper := [
  ⟨(some 8), (.mov (.t 4)), none, [], 0⟩,
  ⟨(some 9), (.bin .add (.t 8) (.c (.s (.int .i64 1)))), none, [], 0⟩,
  ⟨(some 4), (.mov (.t 9)), none, [], 0⟩]
def g60_6 : List AOper := [
  ⟨(some 12), (.mov (.t 3)), none, [], 0⟩,
  ⟨(some 2), (.mov (.t 12)), none, [], 0⟩]
def ac60 : AC :=
  (.seq (.region g60_0 live60) (.seq (.region g60_1 live60) (.seq (.seq (.region g60_2 live60) (.block 0 (.loop (.seq (.seq (.region g60_3 live60) (.cond (.t 7) .skip (.exit 0))) (.seq (.block 1 (.region g60_4 live60)) (.region g60_5 live60)))))) (.seq (.region g60_6 live60) .ret))))
theorem fn60 : Den.Fn Try.prog 60 13 res60 ac60 := ⟨⟨Try.f60, _, live60, Try.func60, rfl, by kernel_rfl, rfl, by kernel_rfl, by kernel_rfl⟩⟩

/-- chapman/chapmanref06.Str; parameters: 1 -/
def live61 : List Nat := [0, 2]
def res61 : List RO := [(.c 2 3 .true)]
def g61_0 : List AOper := [
  ⟨(some 2), (.new [(.s (.int .i64 0)), (.s (.int .i64 0)), (.s (.string (ByteArray.mk #[])))]), none, [], 0⟩]
def g61_1 : List AOper := [
  ⟨(some 3), (.mov (.t 0)), none, [], 0⟩,
  ⟨(some 4), (.build [(.s (.int .i64 0)), (.s (.int .i64 0)), (.s (.string (ByteArray.mk #[])))] [(0, (1, (.c (.s (.int .i64 3))))), (2, (1, (.t 3)))]), none, [], 0⟩,
  ⟨none, (.store 3 (.t 2) (.t 4)), none, [], 0⟩]
def ac61 : AC :=
  (.seq (.region g61_0 live61) (.seq (.region g61_1 live61) .ret))
theorem fn61 : Den.Fn Try.prog 61 5 res61 ac61 := ⟨⟨Try.f61, _, live61, Try.func61, rfl, by kernel_rfl, rfl, by kernel_rfl, by kernel_rfl⟩⟩

/-- chapman/chapmanref06.words; parameters: 1 -/
def live62 : List Nat := [0, 2]
def res62 : List RO := [(.t 2)]
def g62_0 : List AOper := [
  ⟨(some 2), (.mov (.c (.s (.string (ByteArray.mk #[]))))), none, [], 0⟩]
def g62_1 : List AOper := [
  ⟨(some 3), (.bslice 1 [[(.s (.string (ByteArray.mk #[])))], [(.s (.string (ByteArray.mk #[])))], [(.s (.string (ByteArray.mk #[])))], [(.s (.string (ByteArray.mk #[])))], [(.s (.string (ByteArray.mk #[])))], [(.s (.string (ByteArray.mk #[])))], [(.s (.string (ByteArray.mk #[])))], [(.s (.string (ByteArray.mk #[])))], [(.s (.string (ByteArray.mk #[])))], [(.s (.string (ByteArray.mk #[])))], [(.s (.string (ByteArray.mk #[])))], [(.s (.string (ByteArray.mk #[])))], [(.s (.string (ByteArray.mk #[])))], [(.s (.string (ByteArray.mk #[])))], [(.s (.string (ByteArray.mk #[])))]] [(0, (.c (.s (.string (ByteArray.mk #[]))))), (1, (.c (.s (.string (ByteArray.mk #[97]))))), (2, (.c (.s (.string (ByteArray.mk #[98]))))), (3, (.c (.s (.string (ByteArray.mk #[97, 98]))))), (4, (.c (.s (.string (ByteArray.mk #[97, 32, 98]))))), (5, (.c (.s (.string (ByteArray.mk #[98, 32, 97, 32, 99]))))), (6, (.c (.s (.string (ByteArray.mk #[120, 45, 121]))))), (7, (.c (.s (.string (ByteArray.mk #[45]))))), (8, (.c (.s (.string (ByteArray.mk #[49, 50]))))), (9, (.c (.s (.string (ByteArray.mk #[45, 48, 46, 53]))))), (10, (.c (.s (.string (ByteArray.mk #[97, 34, 98]))))), (11, (.c (.s (.string (ByteArray.mk #[92]))))), (12, (.c (.s (.string (ByteArray.mk #[48]))))), (13, (.c (.s (.string (ByteArray.mk #[55, 46, 50, 53]))))), (14, (.c (.s (.string (ByteArray.mk #[97, 98, 99, 100, 101, 102, 103, 104, 105, 106, 107, 108, 109, 110, 111, 112, 113, 114, 115, 116, 117, 118, 119, 120, 121, 122, 97, 98, 99, 100, 101, 102, 103, 104, 105, 106, 107, 108, 109, 110])))))]), none, [], 0⟩,
  ⟨(some 4), (.mov (.t 0)), none, [], 0⟩,
  ⟨(some 5), (.bin .rem (.t 4) (.c (.s (.int .i64 15)))), none, [], 0⟩,
  ⟨(some 6), (.iad 1 (.t 3) (.t 5)), none, [], 0⟩,
  ⟨(some 7), (.load 1 .false (.t 6)), none, [], 0⟩,
  ⟨(some 2), (.mov (.t 7)), none, [], 0⟩]
def ac62 : AC :=
  (.seq (.region g62_0 live62) (.seq (.region g62_1 live62) .ret))
theorem fn62 : Den.Fn Try.prog 62 8 res62 ac62 := ⟨⟨Try.f62, _, live62, Try.func62, rfl, by kernel_rfl, rfl, by kernel_rfl, by kernel_rfl⟩⟩

/-- slices.BinarySearchFunc[[]chapman/api.Row,chapman/api.Row,[]chapman/api.Value]; parameters: 3 -/
def live63 : List Nat := [0, 1, 2, 6, 7, 8, 9, 10, 11, 17, 31]
def res63 : List RO := [(.t 6), (.t 7)]
def g63_0 : List AOper := [
  ⟨(some 6), (.mov (.c (.s (.int .i64 0)))), none, [], 0⟩,
  ⟨(some 7), (.mov (.c (.s (.bool .false)))), none, [], 0⟩]
def g63_1 : List AOper := [
  ⟨(some 12), (.mov (.t 0)), none, [], 0⟩,
  ⟨(some 13), (.len (.t 12)), none, [], 0⟩,
  ⟨(some 8), (.mov (.t 13)), none, [], 0⟩]
def g63_2 : List AOper := [
  ⟨(some 14), (.mov (.t 8)), none, [], 0⟩,
  ⟨(some 9), (.mov (.c (.s (.int .i64 0)))), none, [], 0⟩,
  ⟨(some 10), (.mov (.t 14)), none, [], 0⟩]
def g63_3 : List AOper := [
  ⟨(some 15), (.mov (.t 9)), none, [], 0⟩,
  ⟨(some 16), (.mov (.t 10)), none, [], 0⟩,
  ⟨(some 17), (.bin .lss (.t 15) (.t 16)), none, [], 0⟩]
def g63_4 : List AOper := [
  ⟨(some 18), (.mov (.t 9)), none, [], 0⟩,
  ⟨(some 19), (.mov (.t 10)), none, [], 0⟩,
  ⟨(some 20), (.bin .add (.t 18) (.t 19)), none, [], 0⟩,
  ⟨(some 21), (.cvI .u64 (.t 20)), none, [], 0⟩,
  ⟨(some 22), (.bin .shr (.t 21) (.c (.s (.int .u64 1)))), none, [], 0⟩,
  ⟨(some 23), (.cvI .i64 (.t 22)), none, [], 0⟩,
  ⟨(some 11), (.mov (.t 23)), none, [], 0⟩]
def g63_5 : List AOper := [
  ⟨(some 24), (.mov (.t 2)), none, [], 0⟩,
  ⟨(some 25), (.mov (.t 0)), none, [], 0⟩,
  ⟨(some 26), (.mov (.t 11)), none, [], 0⟩,
  ⟨(some 27), (.iad 3 (.t 25) (.t 26)), none, [], 0⟩,
  ⟨(some 28), (.load 3 .true (.t 27)), none, [], 0⟩,
  ⟨(some 29), (.mov (.t 1)), none, [], 0⟩,
  ⟨(some 30), (.call (.t 24) [(.t 28), (.t 29)]), none, [], 0⟩,
  ⟨(some 31), (.bin .lss (.t 30) (.c (.s (.int .i64 0)))), none, [], 0⟩]
def g63_6 : List AOper := [
  ⟨(some 32), (.mov (.t 11)), none, [], 0⟩,
  ⟨(some 33), (.bin .add (.t 32) (.c (.s (.int .i64 1)))), none, [], 0⟩,
  ⟨(some 9), (.mov (.t 33)), none, [], 0⟩]
def g63_7 : List AOper := [
  ⟨(some 34), (.mov (.t 11)), none, [], 0⟩,
  ⟨(some 10), (.mov (.t 34)), none, [], 0⟩]
def g63_8 : List AOper := [
  ⟨(some 35), (.mov (.t 9)), none, [], 0⟩,
  ⟨(some 36), (.mov (.t 9)), none, [], 0⟩,
  ⟨(some 37), (.mov (.t 8)), none, [], 0⟩,
  ⟨(some 38), (.bin .lss (.t 36) (.t 37)), none, [], 0⟩,
  ⟨(some 39), (.mov (.t 38)), none, [], 0⟩,
  ⟨(some 40), (.mov (.t 2)), (some (39, .true)), [], 0⟩,
  ⟨(some 41), (.mov (.t 0)), (some (39, .true)), [], 0⟩,
  ⟨(some 42), (.mov (.t 9)), (some (39, .true)), [], 0⟩,
  ⟨(some 43), (.iad 3 (.t 41) (.t 42)), (some (39, .true)), [], 0⟩,
  ⟨(some 44), (.load 3 .true (.t 43)), (some (39, .true)), [], 0⟩,
  ⟨(some 45), (.mov (.t 1)), (some (39, .true)), [], 0⟩,
  ⟨(some 46), (.call (.t 40) [(.t 44), (.t 45)]), (some (39, .true)), [], 0⟩,
  ⟨(some 47), (.bin .eql (.t 46) (.c (.s (.int .i64 0)))), (some (39, .true)), [], 0⟩,
  ⟨(some 48), (.pick (.t 39) (.t 47) (.c (.s (.bool .false)))), none, [], 0⟩,
  ⟨(some 6), (.mov (.t 35)), none, [], 0⟩,
  ⟨(some 7), (.mov (.t 48)), none, [], 0⟩]
def ac63 : AC :=
  (.seq (.region g63_0 live63) (.seq (.region g63_1 live63) (.seq (.region g63_2 live63) (.seq (.block 0 (.loop (.seq (.seq (.region g63_3 live63) (.cond (.t 17) .skip (.exit 0))) (.block 1 (.seq (.region g63_4 live63) (.seq (.region g63_5 live63) (.cond (.t 31) (.region g63_6 live63) (.region g63_7 live63)))))))) (.seq (.region g63_8 live63) .ret)))))
theorem fn63 : Den.Fn Try.prog 63 49 res63 ac63 := ⟨⟨Try.f63, _, live63, Try.func63, rfl, by kernel_rfl, rfl, by kernel_rfl, by kernel_rfl⟩⟩

/-- chapman/table.Find$1; parameters: 2 -/
def live64 : List Nat := [0, 1, 2, 3, 5]
def res64 : List RO := [(.t 5)]
def g64_0 : List AOper := [
  ⟨(some 3), (.box (.t 0)), none, [], 0⟩,
  ⟨(some 5), (.mov (.c (.s (.int .i64 0)))), none, [], 0⟩]
def g64_1 : List AOper := [
  ⟨(some 6), (.load 3 .true (.t 3)), none, [], 0⟩,
  ⟨(some 7), (.load 1 .false (.t 2)), none, [], 0⟩,
  ⟨(some 8), (.call (.c (.f 22 [])) [(.t 6), (.t 7)]), none, [], 0⟩,
  ⟨(some 9), (.mov (.t 1)), none, [], 0⟩,
  ⟨(some 10), (.call (.c (.f 65 [])) [(.t 8), (.t 9)]), none, [], 0⟩,
  ⟨(some 5), (.mov (.t 10)), none, [], 0⟩]
def ac64 : AC :=
  (.seq (.region g64_0 live64) (.seq (.region g64_1 live64) .ret))
theorem fn64 : Den.Fn Try.prog 64 11 res64 ac64 := ⟨⟨Try.f64, _, live64, Try.func64, rfl, by kernel_rfl, rfl, by kernel_rfl, by kernel_rfl⟩⟩

/-- chapman/value.CmpList; parameters: 2 -/
def live65 : List Nat := [0, 1, 4]
def res65 : List RO := [(.t 4)]
def g65_0 : List AOper := [
  ⟨(some 4), (.mov (.c (.s (.int .i64 0)))), none, [], 0⟩]
def g65_1 : List AOper := [
  ⟨(some 5), (.mov (.t 0)), none, [], 0⟩,
  ⟨(some 6), (.mov (.t 1)), none, [], 0⟩,
  ⟨(some 7), (.call (.c (.f 75 [])) [(.t 5), (.t 6), (.c (.f 76 []))]), none, [], 0⟩,
  ⟨(some 4), (.mov (.t 7)), none, [], 0⟩]
def ac65 : AC :=
  (.seq (.region g65_0 live65) (.seq (.region g65_1 live65) .ret))
theorem fn65 : Den.Fn Try.prog 65 8 res65 ac65 := ⟨⟨Try.f65, _, live65, Try.func65, rfl, by kernel_rfl, rfl, by kernel_rfl, by kernel_rfl⟩⟩

/-- chapman/chapmanref06.Cmp; parameters: 2 -/
def live67 : List Nat := [0, 1, 2, 3, 4, 9, 19]
def res67 : List RO := [(.t 4)]
def g67_0 : List AOper := [
  ⟨(some 2), (.box (.t 0)), none, [], 0⟩,
  ⟨(some 3), (.box (.t 1)), none, [], 0⟩,
  ⟨(some 4), (.mov (.c (.s (.int .i64 0)))), none, [], 0⟩]
def g67_1 : List AOper := [
  ⟨(some 5), (.fad 0 (.t 2)), none, [], 0⟩,
  ⟨(some 6), (.load 1 .false (.t 5)), none, [], 0⟩,
  ⟨(some 7), (.fad 0 (.t 3)), none, [], 0⟩,
  ⟨(some 8), (.load 1 .false (.t 7)), none, [], 0⟩,
  ⟨(some 9), (.bin .neq (.t 6) (.t 8)), none, [], 0⟩]
def g67_2 : List AOper := [
  ⟨(some 10), (.fad 0 (.t 2)), none, [], 0⟩,
  ⟨(some 11), (.load 1 .false (.t 10)), none, [], 0⟩,
  ⟨(some 12), (.fad 0 (.t 3)), none, [], 0⟩,
  ⟨(some 13), (.load 1 .false (.t 12)), none, [], 0⟩,
  ⟨(some 14), (.call (.c (.f 68 [])) [(.t 11), (.t 13)]), none, [], 0⟩,
  ⟨(some 4), (.mov (.t 14)), none, [], 0⟩]
def g67_3 : List AOper := [
  ⟨(some 15), (.fad 1 (.t 2)), none, [], 0⟩,
  ⟨(some 16), (.load 1 .false (.t 15)), none, [], 0⟩,
  ⟨(some 17), (.fad 1 (.t 3)), none, [], 0⟩,
  ⟨(some 18), (.load 1 .false (.t 17)), none, [], 0⟩,
  ⟨(some 19), (.bin .neq (.t 16) (.t 18)), none, [], 0⟩]
def g67_4 : List AOper := [
  ⟨(some 20), (.fad 1 (.t 2)), none, [], 0⟩,
  ⟨(some 21), (.load 1 .false (.t 20)), none, [], 0⟩,
  ⟨(some 22), (.fad 1 (.t 3)), none, [], 0⟩,
  ⟨(some 23), (.load 1 .false (.t 22)), none, [], 0⟩,
  ⟨(some 24), (.call (.c (.f 68 [])) [(.t 21), (.t 23)]), none, [], 0⟩,
  ⟨(some 4), (.mov (.t 24)), none, [], 0⟩]
def g67_5 : List AOper := [
  ⟨(some 25), (.fad 2 (.t 2)), none, [], 0⟩,
  ⟨(some 26), (.load 1 .false (.t 25)), none, [], 0⟩,
  ⟨(some 27), (.fad 2 (.t 3)), none, [], 0⟩,
  ⟨(some 28), (.load 1 .false (.t 27)), none, [], 0⟩,
  ⟨(some 29), (.call (.c (.f 79 [])) [(.t 26), (.t 28)]), none, [], 0⟩,
  ⟨(some 4), (.mov (.t 29)), none, [], 0⟩]
def ac67 : AC :=
  (.seq (.region g67_0 live67) (.seq (.seq (.region g67_1 live67) (.cond (.t 9) (.seq (.region g67_2 live67) .ret) .skip)) (.seq (.seq (.region g67_3 live67) (.cond (.t 19) (.seq (.region g67_4 live67) .ret) .skip)) (.seq (.region g67_5 live67) .ret))))
theorem fn67 : Den.Fn Try.prog 67 30 res67 ac67 := ⟨⟨Try.f67, _, live67, Try.func67, rfl, by kernel_rfl, rfl, by kernel_rfl, by kernel_rfl⟩⟩

/-- chapman/chapmanref06.sign; parameters: 2 -/
def live68 : List Nat := [0, 1, 4, 7, 10]
def res68 : List RO := [(.t 4)]
def g68_0 : List AOper := [
  ⟨(some 4), (.mov (.c (.s (.int .i64 0)))), none, [], 0⟩]
def g68_1 : List AOper := [
  ⟨(some 5), (.mov (.t 0)), none, [], 0⟩,
  ⟨(some 6), (.mov (.t 1)), none, [], 0⟩,
  ⟨(some 7), (.bin .lss (.t 5) (.t 6)), none, [], 0⟩]
def g68_2 : List AOper := [
  ⟨(some 4), (.mov (.c (.s (.int .i64 (-1))))), none, [], 0⟩]
def g68_3 : List AOper := [
  ⟨(some 8), (.mov (.t 0)), none, [], 0⟩,
  ⟨(some 9), (.mov (.t 1)), none, [], 0⟩,
  ⟨(some 10), (.bin .gtr (.t 8) (.t 9)), none, [], 0⟩]
def g68_4 : List AOper := [
  ⟨(some 4), (.mov (.c (.s (.int .i64 1)))), none, [], 0⟩]
def g68_5 : List AOper := [
  ⟨(some 4), (.mov (.c (.s (.int .i64 0)))), none, [], 0⟩]
def ac68 : AC :=
  (.seq (.region g68_0 live68) (.seq (.seq (.region g68_1 live68) (.cond (.t 7) (.seq (.region g68_2 live68) .ret) .skip)) (.seq (.seq (.region g68_3 live68) (.cond (.t 10) (.seq (.region g68_4 live68) .ret) .skip)) (.seq (.region g68_5 live68) .ret))))
theorem fn68 : Den.Fn Try.prog 68 11 res68 ac68 := ⟨⟨Try.f68, _, live68, Try.func68, rfl, by kernel_rfl, rfl, by kernel_rfl, by kernel_rfl⟩⟩

/-- slices.Delete[[]chapman/api.Row,chapman/api.Row]; parameters: 3 -/
def live69 : List Nat := [0, 1, 2, 6, 7, 16]
def res69 : List RO := [(.t 6)]
def g69_0 : List AOper := [
  ⟨(some 6), (.mov (.c (.d .true 3 []))), none, [], 0⟩]
def g69_1 : List AOper := [
  ⟨(some 8), (.mov (.t 0)), none, [], 0⟩,
  ⟨(some 9), (.mov (.t 1)), none, [], 0⟩,
  ⟨(some 10), (.mov (.t 2)), none, [], 0⟩,
  ⟨(some 11), (.mov (.t 0)), none, [], 0⟩,
  ⟨(some 12), (.len (.t 11)), none, [], 0⟩,
  ⟨(some 13), (.slc 3 (.t 8) (some (.t 9)) (some (.t 10)) (some (.t 12))), none, [], 0⟩]
def g69_2 : List AOper := [
  ⟨(some 14), (.mov (.t 1)), none, [], 0⟩,
  ⟨(some 15), (.mov (.t 2)), none, [], 0⟩,
  ⟨(some 16), (.bin .eql (.t 14) (.t 15)), none, [], 0⟩]
def g69_3 : List AOper := [
  ⟨(some 17), (.mov (.t 0)), none, [], 0⟩,
  ⟨(some 6), (.mov (.t 17)), none, [], 0⟩]
def g69_4 : List AOper := [
  ⟨(some 18), (.mov (.t 0)), none, [], 0⟩,
  ⟨(some 19), (.len (.t 18)), none, [], 0⟩,
  ⟨(some 7), (.mov (.t 19)), none, [], 0⟩]
def g69_5 : List AOper := [
  ⟨(some 20), (.mov (.t 0)), none, [], 0⟩,
  ⟨(some 21), (.mov (.t 1)), none, [], 1⟩,
  ⟨(some 22), (.slc 3 (.t 20) none (some (.t 21)) none), none, [], 2⟩,
  ⟨(some 23), (.mov (.t 0)), none, [], 3⟩,
  ⟨(some 24), (.mov (.t 2)), none, [], 4⟩,
  ⟨(some 25), (.slc 3 (.t 23) (some (.t 24)) none none), none, [], 5⟩,
  ⟨(some 26), (.app 3 72 (.t 22) (.t 25)), none, [], 6⟩,
  ⟨(some 0), (.mov (.t 26)), none, [], 7⟩]
def g69_6 : List AOper := [
  ⟨(some 27), (.mov (.t 0)), none, [], 0⟩,
  ⟨(some 28), (.mov (.t 0)), none, [], 0⟩,
  ⟨(some 29), (.len (.t 28)), none, [], 0⟩,
  ⟨(some 30), (.mov (.t 7)), none, [], 0⟩,
  ⟨(some 31), (.slc 3 (.t 27) (some (.t 29)) (some (.t 30)) none), none, [], 0⟩,
  ⟨none, (.clear 3 [(.d .true 5 []), (.d .true 1 []), (.d .true 2 [])] (.t 31)), none, [], 0⟩]
def g69_7 : List AOper := [
  ⟨(some 32), (.mov (.t 0)), none, [], 0⟩,
  ⟨(some 6), (.mov (.t 32)), none, [], 0⟩]
def ac69 : AC :=
  (.seq (.region g69_0 live69) (.seq (.region g69_1 live69) (.seq (.seq (.region g69_2 live69) (.cond (.t 16) (.seq (.region g69_3 live69) .ret) .skip)) (.seq (.region g69_4 live69) (.seq (.drawn g69_5 live69) (.seq (.region g69_6 live69) (.seq (.region g69_7 live69) .ret)))))))
theorem fn69 : Den.Fn Try.prog 69 33 res69 ac69 := ⟨⟨Try.f69, _, live69, Try.func69, rfl, by kernel_rfl, rfl, by kernel_rfl, by kernel_rfl⟩⟩

/-- chapman/table.compare$1; parameters: 2 -/
def live70 : List Nat := [0, 1, 2, 3, 4, 5]
def res70 : List RO := [(.t 5)]
def g70_0 : List AOper := [
  ⟨(some 3), (.box (.t 0)), none, [], 0⟩,
  ⟨(some 4), (.box (.t 1)), none, [], 0⟩,
  ⟨(some 5), (.mov (.c (.s (.int .i64 0)))), none, [], 0⟩]
def g70_1 : List AOper := [
  ⟨(some 6), (.load 3 .true (.t 3)), none, [], 0⟩,
  ⟨(some 7), (.load 1 .false (.t 2)), none, [0], 1⟩,
  ⟨(some 8), (.call (.c (.f 22 [])) [(.t 6), (.t 7)]), none, [], 2⟩,
  ⟨(some 9), (.load 3 .true (.t 4)), none, [0, 1, 2], 3⟩,
  ⟨(some 10), (.load 1 .false (.t 2)), none, [0, 1, 2, 3], 4⟩,
  ⟨(some 11), (.call (.c (.f 22 [])) [(.t 9), (.t 10)]), none, [], 5⟩,
  ⟨(some 12), (.call (.c (.f 65 [])) [(.t 8), (.t 11)]), none, [], 6⟩,
  ⟨(some 5), (.mov (.t 12)), none, [], 7⟩]
def ac70 : AC :=
  (.seq (.region g70_0 live70) (.seq (.drawn g70_1 live70) .ret))
theorem fn70 : Den.Fn Try.prog 70 13 res70 ac70 := ⟨⟨Try.f70, _, live70, Try.func70, rfl, by kernel_rfl, rfl, by kernel_rfl, by kernel_rfl⟩⟩

/-- slices.SortFunc[[]chapman/api.Row,chapman/api.Row]; parameters: 2 -/
def live71 : List Nat := [0, 1, 4]
def res71 : List RO := []
def g71_0 : List AOper := [
  ⟨(some 5), (.mov (.t 0)), none, [], 0⟩,
  ⟨(some 6), (.len (.t 5)), none, [], 0⟩,
  ⟨(some 4), (.mov (.t 6)), none, [], 0⟩]
def g71_1 : List AOper := [
  ⟨(some 7), (.mov (.t 0)), none, [], 0⟩,
  ⟨(some 8), (.mov (.t 4)), none, [], 0⟩,
  ⟨(some 9), (.mov (.t 4)), none, [], 0⟩,
  ⟨(some 10), (.cvI .u64 (.t 9)), none, [], 0⟩,
  ⟨(some 11), (.call (.c (.f 81 [])) [(.t 10)]), none, [], 0⟩,
  ⟨(some 12), (.mov (.t 1)), none, [], 0⟩,
  ⟨(some 13), (.call (.c (.f 80 [])) [(.t 7), (.c (.s (.int .i64 0))), (.t 8), (.t 11), (.t 12)]), none, [], 0⟩]
def ac71 : AC :=
  (.seq (.region g71_0 live71) (.region g71_1 live71))
theorem fn71 : Den.Fn Try.prog 71 14 res71 ac71 := ⟨⟨Try.f71, _, live71, Try.func71, rfl, by kernel_rfl, rfl, by kernel_rfl, by kernel_rfl⟩⟩

/-- slices.Equal[[]chapman/api.Cell,chapman/api.Cell]; parameters: 2 -/
def live72 : List Nat := [0, 1, 4, 5, 10, 12, 13, 14, 24]
def res72 : List RO := [(.t 4)]
def g72_0 : List AOper := [
  ⟨(some 4), (.mov (.c (.s (.bool .false)))), none, [], 0⟩]
def g72_1 : List AOper := [
  ⟨(some 6), (.mov (.t 0)), none, [], 0⟩,
  ⟨(some 7), (.len (.t 6)), none, [], 0⟩,
  ⟨(some 8), (.mov (.t 1)), none, [], 0⟩,
  ⟨(some 9), (.len (.t 8)), none, [], 0⟩,
  ⟨(some 10), (.bin .neq (.t 7) (.t 9)), none, [], 0⟩]
def g72_2 : List AOper := [
  ⟨(some 4), (.mov (.c (.s (.bool .false)))), none, [], 0⟩]
def g72_3 : List AOper := [
  ⟨(some 11), (.mov (.t 0)), none, [], 0⟩,
  ⟨(some 12), (.len (.t 11)), none, [], 0⟩,
  ⟨(some 13), (.mov (.c (.s (.int .i64 0)))), none, [], 0⟩]
def g72_4 : List AOper := [
  ⟨(some 14), (.bin .lss (.t 13) (.t 12)), none, [], 0⟩]
def g72_5 : List AOper := [
  ⟨(some 15), (.mov (.t 13)), none, [], 0⟩,
  ⟨(some 5), (.mov (.t 15)), none, [], 0⟩]
def g72_6 : List AOper := [
  ⟨(some 16), (.mov (.t 0)), none, [], 0⟩,
  ⟨(some 17), (.mov (.t 5)), none, [], 1⟩,
  ⟨(some 18), (.iad 5 (.t 16) (.t 17)), none, [], 2⟩,
  ⟨(some 19), (.load 5 .true (.t 18)), none, [], 3⟩,
  ⟨(some 20), (.mov (.t 1)), none, [], 4⟩,
  ⟨(some 21), (.mov (.t 5)), none, [], 5⟩,
  ⟨(some 22), (.iad 5 (.t 20) (.t 21)), none, [], 6⟩,
  ⟨(some 23), (.load 5 .true (.t 22)), none, [3], 7⟩,
  ⟨(some 24), (.eqA .true [0, 0, 2, 0, 0] (.t 19) (.t 23)), none, [], 8⟩]
def g72_7 : List AOper := [
  ⟨(some 4), (.mov (.c (.s (.bool .false)))), none, [], 0⟩]
def g72_8 : List AOper := [
  ⟨(some 25), (.bin .add (.t 13) (.c (.s (.int .i64 1)))), none, [], 0⟩,
  ⟨(some 13), (.mov (.t 25)), none, [], 0⟩]
def g72_9 : List AOper := [
  ⟨(some 4), (.mov (.c (.s (.bool .true)))), none, [], 0⟩]
def ac72 : AC :=
  (.seq (.region g72_0 live72) (.seq (.seq (.region g72_1 live72) (.cond (.t 10) (.seq (.region g72_2 live72) .ret) .skip)) (.seq (.seq (.region g72_3 live72) (.block 0 (.loop (.seq (.region g72_4 live72) (.seq (.cond (.t 14) .skip (.exit 0)) (.seq (.block 1 (.seq (.region g72_5 live72) (.seq (.drawn g72_6 live72) (.cond (.t 24) (.seq (.region g72_7 live72) .ret) .skip)))) (.region g72_8 live72))))))) (.seq (.region g72_9 live72) .ret))))
theorem fn72 : Den.Fn Try.prog 72 26 res72 ac72 := ⟨⟨Try.f72, _, live72, Try.func72, rfl, by kernel_rfl, rfl, by kernel_rfl, by kernel_rfl⟩⟩

/-- slices.Equal[[]int,int]; parameters: 2 -/
def live73 : List Nat := [0, 1, 4, 5, 10, 12, 13, 14, 24]
def res73 : List RO := [(.t 4)]
def g73_0 : List AOper := [
  ⟨(some 4), (.mov (.c (.s (.bool .false)))), none, [], 0⟩]
def g73_1 : List AOper := [
  ⟨(some 6), (.mov (.t 0)), none, [], 0⟩,
  ⟨(some 7), (.len (.t 6)), none, [], 0⟩,
  ⟨(some 8), (.mov (.t 1)), none, [], 0⟩,
  ⟨(some 9), (.len (.t 8)), none, [], 0⟩,
  ⟨(some 10), (.bin .neq (.t 7) (.t 9)), none, [], 0⟩]
def g73_2 : List AOper := [
  ⟨(some 4), (.mov (.c (.s (.bool .false)))), none, [], 0⟩]
def g73_3 : List AOper := [
  ⟨(some 11), (.mov (.t 0)), none, [], 0⟩,
  ⟨(some 12), (.len (.t 11)), none, [], 0⟩,
  ⟨(some 13), (.mov (.c (.s (.int .i64 0)))), none, [], 0⟩]
def g73_4 : List AOper := [
  ⟨(some 14), (.bin .lss (.t 13) (.t 12)), none, [], 0⟩]
def g73_5 : List AOper := [
  ⟨(some 15), (.mov (.t 13)), none, [], 0⟩,
  ⟨(some 5), (.mov (.t 15)), none, [], 0⟩]
def g73_6 : List AOper := [
  ⟨(some 16), (.mov (.t 0)), none, [], 0⟩,
  ⟨(some 17), (.mov (.t 5)), none, [], 1⟩,
  ⟨(some 18), (.iad 1 (.t 16) (.t 17)), none, [], 2⟩,
  ⟨(some 19), (.load 1 .false (.t 18)), none, [], 3⟩,
  ⟨(some 20), (.mov (.t 1)), none, [], 4⟩,
  ⟨(some 21), (.mov (.t 5)), none, [], 5⟩,
  ⟨(some 22), (.iad 1 (.t 20) (.t 21)), none, [], 6⟩,
  ⟨(some 23), (.load 1 .false (.t 22)), none, [3], 7⟩,
  ⟨(some 24), (.bin .neq (.t 19) (.t 23)), none, [], 8⟩]
def g73_7 : List AOper := [
  ⟨(some 4), (.mov (.c (.s (.bool .false)))), none, [], 0⟩]
def g73_8 : List AOper := [
  ⟨(some 25), (.bin .add (.t 13) (.c (.s (.int .i64 1)))), none, [], 0⟩,
  ⟨(some 13), (.mov (.t 25)), none, [], 0⟩]
def g73_9 : List AOper := [
  ⟨(some 4), (.mov (.c (.s (.bool .true)))), none, [], 0⟩]
def ac73 : AC :=
  (.seq (.region g73_0 live73) (.seq (.seq (.region g73_1 live73) (.cond (.t 10) (.seq (.region g73_2 live73) .ret) .skip)) (.seq (.seq (.region g73_3 live73) (.block 0 (.loop (.seq (.region g73_4 live73) (.seq (.cond (.t 14) .skip (.exit 0)) (.seq (.block 1 (.seq (.region g73_5 live73) (.seq (.drawn g73_6 live73) (.cond (.t 24) (.seq (.region g73_7 live73) .ret) .skip)))) (.region g73_8 live73))))))) (.seq (.region g73_9 live73) .ret))))
theorem fn73 : Den.Fn Try.prog 73 26 res73 ac73 := ⟨⟨Try.f73, _, live73, Try.func73, rfl, by kernel_rfl, rfl, by kernel_rfl, by kernel_rfl⟩⟩

/-- slices.Equal[[]chapman/api.Name,chapman/api.Name]; parameters: 2 -/
def live74 : List Nat := [0, 1, 4, 5, 10, 12, 13, 14, 24]
def res74 : List RO := [(.t 4)]
def g74_0 : List AOper := [
  ⟨(some 4), (.mov (.c (.s (.bool .false)))), none, [], 0⟩]
def g74_1 : List AOper := [
  ⟨(some 6), (.mov (.t 0)), none, [], 0⟩,
  ⟨(some 7), (.len (.t 6)), none, [], 0⟩,
  ⟨(some 8), (.mov (.t 1)), none, [], 0⟩,
  ⟨(some 9), (.len (.t 8)), none, [], 0⟩,
  ⟨(some 10), (.bin .neq (.t 7) (.t 9)), none, [], 0⟩]
def g74_2 : List AOper := [
  ⟨(some 4), (.mov (.c (.s (.bool .false)))), none, [], 0⟩]
def g74_3 : List AOper := [
  ⟨(some 11), (.mov (.t 0)), none, [], 0⟩,
  ⟨(some 12), (.len (.t 11)), none, [], 0⟩,
  ⟨(some 13), (.mov (.c (.s (.int .i64 0)))), none, [], 0⟩]
def g74_4 : List AOper := [
  ⟨(some 14), (.bin .lss (.t 13) (.t 12)), none, [], 0⟩]
def g74_5 : List AOper := [
  ⟨(some 15), (.mov (.t 13)), none, [], 0⟩,
  ⟨(some 5), (.mov (.t 15)), none, [], 0⟩]
def g74_6 : List AOper := [
  ⟨(some 16), (.mov (.t 0)), none, [], 0⟩,
  ⟨(some 17), (.mov (.t 5)), none, [], 1⟩,
  ⟨(some 18), (.iad 2 (.t 16) (.t 17)), none, [], 2⟩,
  ⟨(some 19), (.load 2 .true (.t 18)), none, [], 3⟩,
  ⟨(some 20), (.mov (.t 1)), none, [], 4⟩,
  ⟨(some 21), (.mov (.t 5)), none, [], 5⟩,
  ⟨(some 22), (.iad 2 (.t 20) (.t 21)), none, [], 6⟩,
  ⟨(some 23), (.load 2 .true (.t 22)), none, [3], 7⟩,
  ⟨(some 24), (.eqA .true [0, 0] (.t 19) (.t 23)), none, [], 8⟩]
def g74_7 : List AOper := [
  ⟨(some 4), (.mov (.c (.s (.bool .false)))), none, [], 0⟩]
def g74_8 : List AOper := [
  ⟨(some 25), (.bin .add (.t 13) (.c (.s (.int .i64 1)))), none, [], 0⟩,
  ⟨(some 13), (.mov (.t 25)), none, [], 0⟩]
def g74_9 : List AOper := [
  ⟨(some 4), (.mov (.c (.s (.bool .true)))), none, [], 0⟩]
def ac74 : AC :=
  (.seq (.region g74_0 live74) (.seq (.seq (.region g74_1 live74) (.cond (.t 10) (.seq (.region g74_2 live74) .ret) .skip)) (.seq (.seq (.region g74_3 live74) (.block 0 (.loop (.seq (.region g74_4 live74) (.seq (.cond (.t 14) .skip (.exit 0)) (.seq (.block 1 (.seq (.region g74_5 live74) (.seq (.drawn g74_6 live74) (.cond (.t 24) (.seq (.region g74_7 live74) .ret) .skip)))) (.region g74_8 live74))))))) (.seq (.region g74_9 live74) .ret))))
theorem fn74 : Den.Fn Try.prog 74 26 res74 ac74 := ⟨⟨Try.f74, _, live74, Try.func74, rfl, by kernel_rfl, rfl, by kernel_rfl, by kernel_rfl⟩⟩

/-- slices.CompareFunc[[]chapman/api.Value,[]chapman/api.Value,chapman/api.Value,chapman/api.Value]; parameters: 3 -/
def live75 : List Nat := [0, 1, 2, 6, 7, 8, 9, 10, 11, 12, 13, 14, 21, 31, 38]
def res75 : List RO := [(.t 6)]
def g75_0 : List AOper := [
  ⟨(some 6), (.mov (.c (.s (.int .i64 0)))), none, [], 0⟩]
def g75_1 : List AOper := [
  ⟨(some 11), (.mov (.t 0)), none, [], 0⟩,
  ⟨(some 12), (.len (.t 11)), none, [], 0⟩,
  ⟨(some 13), (.mov (.c (.s (.int .i64 0)))), none, [], 0⟩]
def g75_2 : List AOper := [
  ⟨(some 14), (.bin .lss (.t 13) (.t 12)), none, [], 0⟩]
def g75_3 : List AOper := [
  ⟨(some 15), (.mov (.t 13)), none, [], 0⟩,
  ⟨(some 16), (.iad 3 (.t 11) (.t 13)), none, [], 0⟩,
  ⟨(some 17), (.load 3 .true (.t 16)), none, [], 0⟩,
  ⟨(some 8), (.new [(.s (.int .i64 0)), (.s (.int .i64 0)), (.s (.string (ByteArray.mk #[])))]), none, [], 0⟩,
  ⟨(some 7), (.mov (.t 15)), none, [], 0⟩,
  ⟨none, (.store 3 (.t 8) (.t 17)), none, [], 0⟩]
def g75_4 : List AOper := [
  ⟨(some 18), (.mov (.t 7)), none, [], 0⟩,
  ⟨(some 19), (.mov (.t 1)), none, [], 0⟩,
  ⟨(some 20), (.len (.t 19)), none, [], 0⟩,
  ⟨(some 21), (.bin .geq (.t 18) (.t 20)), none, [], 0⟩]
def g75_5 : List AOper := [
  ⟨(some 6), (.mov (.c (.s (.int .i64 1)))), none, [], 0⟩]
def g75_6 : List AOper := [
  ⟨(some 22), (.mov (.t 1)), none, [], 0⟩,
  ⟨(some 23), (.mov (.t 7)), none, [], 0⟩,
  ⟨(some 24), (.iad 3 (.t 22) (.t 23)), none, [], 0⟩,
  ⟨(some 25), (.load 3 .true (.t 24)), none, [], 0⟩,
  ⟨(some 9), (.new [(.s (.int .i64 0)), (.s (.int .i64 0)), (.s (.string (ByteArray.mk #[])))]), none, [], 0⟩,
  ⟨none, (.store 3 (.t 9) (.t 25)), none, [], 0⟩]
def g75_7 : List AOper := [
  ⟨(some 26), (.mov (.t 2)), none, [], 0⟩,
  ⟨(some 27), (.load 3 .true (.t 8)), none, [], 0⟩,
  ⟨(some 28), (.load 3 .true (.t 9)), none, [], 0⟩,
  ⟨(some 29), (.call (.t 26) [(.t 27), (.t 28)]), none, [], 0⟩,
  ⟨(some 10), (.mov (.t 29)), none, [], 0⟩]
def g75_8 : List AOper := [
  ⟨(some 30), (.mov (.t 10)), none, [], 0⟩,
  ⟨(some 31), (.bin .neq (.t 30) (.c (.s (.int .i64 0)))), none, [], 0⟩]
def g75_9 : List AOper := [
  ⟨(some 32), (.mov (.t 10)), none, [], 0⟩,
  ⟨(some 6), (.mov (.t 32)), none, [], 0⟩]
def g75_10 : List AOper := [
  ⟨(some 33), (.bin .add (.t 13) (.c (.s (.int .i64 1)))), none, [], 0⟩,
  ⟨(some 13), (.mov (.t 33)), none, [], 0⟩]
def g75_11 : List AOper := [
  ⟨(some 34), (.mov (.t 0)), none, [], 0⟩,
  ⟨(some 35), (.len (.t 34)), none, [], 0⟩,
  ⟨(some 36), (.mov (.t 1)), none, [], 0⟩,
  ⟨(some 37), (.len (.t 36)), none, [], 0⟩,
  ⟨(some 38), (.bin .lss (.t 35) (.t 37)), none, [], 0⟩]
def g75_12 : List AOper := [
  ⟨(some 6), (.mov (.c (.s (.int .i64 (-1))))), none, [], 0⟩]
def g75_13 : List AOper := [
  ⟨(some 6), (.mov (.c (.s (.int .i64 0)))), none, [], 0⟩]
def ac75 : AC :=
  (.seq (.region g75_0 live75) (.seq (.seq (.region g75_1 live75) (.block 0 (.loop (.seq (.region g75_2 live75) (.seq (.cond (.t 14) .skip (.exit 0)) (.seq (.block 1 (.seq (.region g75_3 live75) (.seq (.seq (.region g75_4 live75) (.cond (.t 21) (.seq (.region g75_5 live75) .ret) .skip)) (.seq (.region g75_6 live75) (.seq (.region g75_7 live75) (.seq (.region g75_8 live75) (.cond (.t 31) (.seq (.region g75_9 live75) .ret) .skip))))))) (.region g75_10 live75))))))) (.seq (.seq (.region g75_11 live75) (.cond (.t 38) (.seq (.region g75_12 live75) .ret) .skip)) (.seq (.region g75_13 live75) .ret))))
theorem fn75 : Den.Fn Try.prog 75 39 res75 ac75 := ⟨⟨Try.f75, _, live75, Try.func75, rfl, by kernel_rfl, rfl, by kernel_rfl, by kernel_rfl⟩⟩

/-- chapman/value.Cmp; parameters: 2 -/
def live76 : List Nat := [0, 1, 2, 3, 4]
def res76 : List RO := [(.t 4)]
def g76_0 : List AOper := [
  ⟨(some 2), (.box (.t 0)), none, [], 0⟩,
  ⟨(some 3), (.box (.t 1)), none, [], 0⟩,
  ⟨(some 4), (.mov (.c (.s (.int .i64 0)))), none, [], 0⟩]
def g76_1 : List AOper := [
  ⟨(some 5), (.fad 0 (.t 2)), none, [], 0⟩,
  ⟨(some 6), (.load 1 .false (.t 5)), none, [], 1⟩,
  ⟨(some 7), (.fad 0 (.t 3)), none, [], 2⟩,
  ⟨(some 8), (.load 1 .false (.t 7)), none, [1], 3⟩,
  ⟨(some 9), (.call (.c (.f 83 [])) [(.t 6), (.t 8)]), none, [], 4⟩,
  ⟨(some 10), (.fad 1 (.t 2)), none, [], 5⟩,
  ⟨(some 11), (.load 1 .false (.t 10)), none, [1, 3, 4], 6⟩,
  ⟨(some 12), (.fad 1 (.t 3)), none, [], 7⟩,
  ⟨(some 13), (.load 1 .false (.t 12)), none, [1, 3, 4, 6], 8⟩,
  ⟨(some 14), (.call (.c (.f 83 [])) [(.t 11), (.t 13)]), none, [], 9⟩,
  ⟨(some 15), (.fad 2 (.t 2)), none, [], 10⟩,
  ⟨(some 16), (.load 1 .false (.t 15)), none, [1, 3, 4, 6, 8, 9], 11⟩,
  ⟨(some 17), (.fad 2 (.t 3)), none, [], 12⟩,
  ⟨(some 18), (.load 1 .false (.t 17)), none, [1, 3, 4, 6, 8, 9, 11], 13⟩,
  ⟨(some 19), (.call (.c (.f 84 [])) [(.t 16), (.t 18)]), none, [], 14⟩,
  ⟨(some 20), (.bslice 1 [[(.s (.int .i64 0))], [(.s (.int .i64 0))], [(.s (.int .i64 0))]] [(0, (.t 9)), (1, (.t 14)), (2, (.t 19))]), none, [], 15⟩,
  ⟨(some 21), (.call (.c (.f 82 [])) [(.t 20)]), none, [], 16⟩,
  ⟨(some 4), (.mov (.t 21)), none, [], 17⟩]
def ac76 : AC :=
  (.seq (.region g76_0 live76) (.seq (.drawn g76_1 live76) .ret))
theorem fn76 : Den.Fn Try.prog 76 22 res76 ac76 := ⟨⟨Try.f76, _, live76, Try.func76, rfl, by kernel_rfl, rfl, by kernel_rfl, by kernel_rfl⟩⟩

/-- chapman/chapmanref06.Strings; parameters: 2 -/
def live79 : List Nat := [0, 1, 4, 5, 15, 24]
def res79 : List RO := [(.t 4)]
def g79_0 : List AOper := [
  ⟨(some 4), (.mov (.c (.s (.int .i64 0)))), none, [], 0⟩]
def g79_1 : List AOper := [
  ⟨(some 5), (.mov (.c (.s (.int .i64 0)))), none, [], 0⟩]
def g79_2 : List AOper := [
  ⟨(some 6), (.mov (.t 5)), none, [], 0⟩,
  ⟨(some 7), (.mov (.t 0)), none, [], 0⟩,
  ⟨(some 8), (.lenS (.t 7)), none, [], 0⟩,
  ⟨(some 9), (.bin .lss (.t 6) (.t 8)), none, [], 0⟩,
  ⟨(some 10), (.mov (.t 9)), none, [], 0⟩,
  ⟨(some 11), (.mov (.t 5)), (some (10, .true)), [], 0⟩,
  ⟨(some 12), (.mov (.t 1)), (some (10, .true)), [], 0⟩,
  ⟨(some 13), (.lenS (.t 12)), (some (10, .true)), [], 0⟩,
  ⟨(some 14), (.bin .lss (.t 11) (.t 13)), (some (10, .true)), [], 0⟩,
  ⟨(some 15), (.pick (.t 10) (.t 14) (.c (.s (.bool .false)))), none, [], 0⟩]
def g79_3 : List AOper := [
  ⟨(some 18), (.mov (.t 0)), none, [], 0⟩,
  ⟨(some 19), (.mov (.t 5)), none, [], 1⟩,
  ⟨(some 20), (.idxS (.t 18) (.t 19)), none, [], 2⟩,
  ⟨(some 21), (.mov (.t 1)), none, [], 3⟩,
  ⟨(some 22), (.mov (.t 5)), none, [], 4⟩,
  ⟨(some 23), (.idxS (.t 21) (.t 22)), none, [], 5⟩,
  ⟨(some 24), (.bin .neq (.t 20) (.t 23)), none, [], 6⟩]
def g79_4 : List AOper := [
  ⟨(some 25), (.mov (.t 0)), none, [], 0⟩,
  ⟨(some 26), (.mov (.t 5)), none, [], 1⟩,
  ⟨(some 27), (.idxS (.t 25) (.t 26)), none, [], 2⟩,
  ⟨(some 28), (.cvI .i64 (.t 27)), none, [], 3⟩,
  ⟨(some 29), (.mov (.t 1)), none, [], 4⟩,
  ⟨(some 30), (.mov (.t 5)), none, [], 5⟩,
  ⟨(some 31), (.idxS (.t 29) (.t 30)), none, [], 6⟩,
  ⟨(some 32), (.cvI .i64 (.t 31)), none, [], 7⟩,
  ⟨(some 33), (.call (.c (.f 68 [])) [(.t 28), (.t 32)]), none, [], 8⟩,
  ⟨(some 4), (.mov (.t 33)), none, [], 9⟩]
def g79_5 : List AOper := [
  ⟨(some 16), (.mov (.t 5)), none, [], 0⟩,
  ⟨(some 17), (.bin .add (.t 16) (.c (.s (.int .i64 1)))), none, [], 0⟩,
  ⟨(some 5), (.mov (.t 17)), none, [], 0⟩]
def g79_6 : List AOper := [
  ⟨(some 34), (.mov (.t 0)), none, [], 0⟩,
  ⟨(some 35), (.lenS (.t 34)), none, [], 0⟩,
  ⟨(some 36), (.mov (.t 1)), none, [], 0⟩,
  ⟨(some 37), (.lenS (.t 36)), none, [], 0⟩,
  ⟨(some 38), (.call (.c (.f 68 [])) [(.t 35), (.t 37)]), none, [], 0⟩,
  ⟨(some 4), (.mov (.t 38)), none, [], 0⟩]
def ac79 : AC :=
  (.seq (.region g79_0 live79) (.seq (.seq (.region g79_1 live79) (.block 0 (.loop (.seq (.seq (.region g79_2 live79) (.cond (.t 15) .skip (.exit 0))) (.seq (.block 1 (.seq (.drawn g79_3 live79) (.cond (.t 24) (.seq (.drawn g79_4 live79) .ret) .skip))) (.region g79_5 live79)))))) (.seq (.region g79_6 live79) .ret)))
theorem fn79 : Den.Fn Try.prog 79 39 res79 ac79 := ⟨⟨Try.f79, _, live79, Try.func79, rfl, by kernel_rfl, rfl, by kernel_rfl, by kernel_rfl⟩⟩

/-- chapman/value.first[int]; parameters: 1 -/
def live82 : List Nat := [0, 2, 3, 5, 6, 7, 8, 9, 14]
def res82 : List RO := [(.t 2)]
def g82_0 : List AOper := [
  ⟨(some 2), (.mov (.c (.s (.int .i64 0)))), none, [], 0⟩]
def g82_1 : List AOper := [
  ⟨(some 3), (.mov (.c (.s (.int .i64 0)))), none, [], 0⟩]
def g82_2 : List AOper := [
  ⟨(some 6), (.mov (.t 0)), none, [], 0⟩,
  ⟨(some 7), (.len (.t 6)), none, [], 0⟩,
  ⟨(some 8), (.mov (.c (.s (.int .i64 0)))), none, [], 0⟩]
def g82_3 : List AOper := [
  ⟨(some 9), (.bin .lss (.t 8) (.t 7)), none, [], 0⟩]
def g82_4 : List AOper := [
  ⟨(some 10), (.iad 1 (.t 6) (.t 8)), none, [], 0⟩,
  ⟨(some 11), (.load 1 .false (.t 10)), none, [], 0⟩,
  ⟨(some 5), (.mov (.t 11)), none, [], 0⟩]
def g82_5 : List AOper := [
  ⟨(some 12), (.mov (.t 5)), none, [], 0⟩,
  ⟨(some 13), (.mov (.t 3)), none, [], 0⟩,
  ⟨(some 14), (.bin .neq (.t 12) (.t 13)), none, [], 0⟩]
def g82_6 : List AOper := [
  ⟨(some 15), (.mov (.t 5)), none, [], 0⟩,
  ⟨(some 2), (.mov (.t 15)), none, [], 0⟩]
def g82_7 : List AOper := [
  ⟨(some 16), (.bin .add (.t 8) (.c (.s (.int .i64 1)))), none, [], 0⟩,
  ⟨(some 8), (.mov (.t 16)), none, [], 0⟩]
def g82_8 : List AOper := [
  ⟨(some 17), (.mov (.t 3)), none, [], 0⟩,
  ⟨(some 2), (.mov (.t 17)), none, [], 0⟩]
def ac82 : AC :=
  (.seq (.region g82_0 live82) (.seq (.region g82_1 live82) (.seq (.seq (.region g82_2 live82) (.block 0 (.loop (.seq (.region g82_3 live82) (.seq (.cond (.t 9) .skip (.exit 0)) (.seq (.block 1 (.seq (.region g82_4 live82) (.seq (.region g82_5 live82) (.cond (.t 14) (.seq (.region g82_6 live82) .ret) .skip)))) (.region g82_7 live82))))))) (.seq (.region g82_8 live82) .ret))))
theorem fn82 : Den.Fn Try.prog 82 18 res82 ac82 := ⟨⟨Try.f82, _, live82, Try.func82, rfl, by kernel_rfl, rfl, by kernel_rfl, by kernel_rfl⟩⟩

/-- cmp.Compare[int]; parameters: 2 -/
def live83 : List Nat := [0, 1, 4, 5, 6, 11, 12, 13, 16, 19]
def res83 : List RO := [(.t 4)]
def g83_0 : List AOper := [
  ⟨(some 4), (.mov (.c (.s (.int .i64 0)))), none, [], 0⟩]
def g83_1 : List AOper := [
  ⟨(some 7), (.mov (.t 0)), none, [], 0⟩,
  ⟨(some 8), (.call (.c (.f 96 [])) [(.t 7)]), none, [], 0⟩,
  ⟨(some 5), (.mov (.t 8)), none, [], 0⟩]
def g83_2 : List AOper := [
  ⟨(some 9), (.mov (.t 1)), none, [], 0⟩,
  ⟨(some 10), (.call (.c (.f 96 [])) [(.t 9)]), none, [], 0⟩,
  ⟨(some 6), (.mov (.t 10)), none, [], 0⟩]
def g83_3 : List AOper := [
  ⟨(some 11), (.mov (.t 5)), none, [], 0⟩]
def g83_4 : List AOper := [
  ⟨(some 12), (.mov (.t 6)), none, [], 0⟩]
def g83_5 : List AOper := [
  ⟨(some 4), (.mov (.c (.s (.int .i64 0)))), none, [], 0⟩]
def g83_6 : List AOper := [
  ⟨(some 4), (.mov (.c (.s (.int .i64 (-1))))), none, [], 0⟩]
def g83_7 : List AOper := [
  ⟨(some 13), (.mov (.t 6)), none, [], 0⟩]
def g83_8 : List AOper := [
  ⟨(some 4), (.mov (.c (.s (.int .i64 1)))), none, [], 0⟩]
def g83_9 : List AOper := [
  ⟨(some 14), (.mov (.t 0)), none, [], 0⟩,
  ⟨(some 15), (.mov (.t 1)), none, [], 0⟩,
  ⟨(some 16), (.bin .lss (.t 14) (.t 15)), none, [], 0⟩]
def g83_10 : List AOper := [
  ⟨(some 4), (.mov (.c (.s (.int .i64 (-1))))), none, [], 0⟩]
def g83_11 : List AOper := [
  ⟨(some 17), (.mov (.t 0)), none, [], 0⟩,
  ⟨(some 18), (.mov (.t 1)), none, [], 0⟩,
  ⟨(some 19), (.bin .gtr (.t 17) (.t 18)), none, [], 0⟩]
def g83_12 : List AOper := [
  ⟨(some 4), (.mov (.c (.s (.int .i64 1)))), none, [], 0⟩]
def g83_13 : List AOper := [
  ⟨(some 4), (.mov (.c (.s (.int .i64 0)))), none, [], 0⟩]
def ac83 : AC :=
  (.seq (.region g83_0 live83) (.seq (.region g83_1 live83) (.seq (.region g83_2 live83) (.seq (.seq (.region g83_3 live83) (.cond (.t 11) (.seq (.seq (.region g83_4 live83) (.cond (.t 12) (.seq (.region g83_5 live83) .ret) .skip)) (.seq (.region g83_6 live83) .ret)) .skip)) (.seq (.seq (.region g83_7 live83) (.cond (.t 13) (.seq (.region g83_8 live83) .ret) .skip)) (.seq (.seq (.region g83_9 live83) (.cond (.t 16) (.seq (.region g83_10 live83) .ret) .skip)) (.seq (.seq (.region g83_11 live83) (.cond (.t 19) (.seq (.region g83_12 live83) .ret) .skip)) (.seq (.region g83_13 live83) .ret))))))))
theorem fn83 : Den.Fn Try.prog 83 20 res83 ac83 := ⟨⟨Try.f83, _, live83, Try.func83, rfl, by kernel_rfl, rfl, by kernel_rfl, by kernel_rfl⟩⟩

/-- cmp.Compare[string]; parameters: 2 -/
def live84 : List Nat := [0, 1, 4, 5, 6, 11, 12, 13, 16, 19]
def res84 : List RO := [(.t 4)]
def g84_0 : List AOper := [
  ⟨(some 4), (.mov (.c (.s (.int .i64 0)))), none, [], 0⟩]
def g84_1 : List AOper := [
  ⟨(some 7), (.mov (.t 0)), none, [], 0⟩,
  ⟨(some 8), (.call (.c (.f 97 [])) [(.t 7)]), none, [], 0⟩,
  ⟨(some 5), (.mov (.t 8)), none, [], 0⟩]
def g84_2 : List AOper := [
  ⟨(some 9), (.mov (.t 1)), none, [], 0⟩,
  ⟨(some 10), (.call (.c (.f 97 [])) [(.t 9)]), none, [], 0⟩,
  ⟨(some 6), (.mov (.t 10)), none, [], 0⟩]
def g84_3 : List AOper := [
  ⟨(some 11), (.mov (.t 5)), none, [], 0⟩]
def g84_4 : List AOper := [
  ⟨(some 12), (.mov (.t 6)), none, [], 0⟩]
def g84_5 : List AOper := [
  ⟨(some 4), (.mov (.c (.s (.int .i64 0)))), none, [], 0⟩]
def g84_6 : List AOper := [
  ⟨(some 4), (.mov (.c (.s (.int .i64 (-1))))), none, [], 0⟩]
def g84_7 : List AOper := [
  ⟨(some 13), (.mov (.t 6)), none, [], 0⟩]
def g84_8 : List AOper := [
  ⟨(some 4), (.mov (.c (.s (.int .i64 1)))), none, [], 0⟩]
def g84_9 : List AOper := [
  ⟨(some 14), (.mov (.t 0)), none, [], 0⟩,
  ⟨(some 15), (.mov (.t 1)), none, [], 0⟩,
  ⟨(some 16), (.bin .lss (.t 14) (.t 15)), none, [], 0⟩]
def g84_10 : List AOper := [
  ⟨(some 4), (.mov (.c (.s (.int .i64 (-1))))), none, [], 0⟩]
def g84_11 : List AOper := [
  ⟨(some 17), (.mov (.t 0)), none, [], 0⟩,
  ⟨(some 18), (.mov (.t 1)), none, [], 0⟩,
  ⟨(some 19), (.bin .gtr (.t 17) (.t 18)), none, [], 0⟩]
def g84_12 : List AOper := [
  ⟨(some 4), (.mov (.c (.s (.int .i64 1)))), none, [], 0⟩]
def g84_13 : List AOper := [
  ⟨(some 4), (.mov (.c (.s (.int .i64 0)))), none, [], 0⟩]
def ac84 : AC :=
  (.seq (.region g84_0 live84) (.seq (.region g84_1 live84) (.seq (.region g84_2 live84) (.seq (.seq (.region g84_3 live84) (.cond (.t 11) (.seq (.seq (.region g84_4 live84) (.cond (.t 12) (.seq (.region g84_5 live84) .ret) .skip)) (.seq (.region g84_6 live84) .ret)) .skip)) (.seq (.seq (.region g84_7 live84) (.cond (.t 13) (.seq (.region g84_8 live84) .ret) .skip)) (.seq (.seq (.region g84_9 live84) (.cond (.t 16) (.seq (.region g84_10 live84) .ret) .skip)) (.seq (.seq (.region g84_11 live84) (.cond (.t 19) (.seq (.region g84_12 live84) .ret) .skip)) (.seq (.region g84_13 live84) .ret))))))))
theorem fn84 : Den.Fn Try.prog 84 20 res84 ac84 := ⟨⟨Try.f84, _, live84, Try.func84, rfl, by kernel_rfl, rfl, by kernel_rfl, by kernel_rfl⟩⟩

/-- slices.insertionSortCmpFunc[chapman/api.Row]; parameters: 4 -/
def live86 : List Nat := [0, 1, 2, 3, 8, 9, 14, 34]
def res86 : List RO := []
def g86_0 : List AOper := [
  ⟨(some 10), (.mov (.t 1)), none, [], 0⟩,
  ⟨(some 11), (.bin .add (.t 10) (.c (.s (.int .i64 1)))), none, [], 0⟩,
  ⟨(some 8), (.mov (.t 11)), none, [], 0⟩]
def g86_1 : List AOper := [
  ⟨(some 12), (.mov (.t 8)), none, [], 0⟩,
  ⟨(some 13), (.mov (.t 2)), none, [], 0⟩,
  ⟨(some 14), (.bin .lss (.t 12) (.t 13)), none, [], 0⟩]
def g86_2 : List AOper := [
  ⟨(some 17), (.mov (.t 8)), none, [], 0⟩,
  ⟨(some 9), (.mov (.t 17)), none, [], 0⟩]
def g86_3 : List AOper := [
  ⟨(some 18), (.mov (.t 9)), none, [], 0⟩,
  ⟨(some 19), (.mov (.t 1)), none, [], 1⟩,
  ⟨(some 20), (.bin .gtr (.t 18) (.t 19)), none, [], 2⟩,
  ⟨(some 21), (.mov (.t 20)), none, [], 3⟩,
  ⟨(some 22), (.mov (.t 3)), (some (21, .true)), [], 4⟩,
  ⟨(some 23), (.mov (.t 0)), (some (21, .true)), [], 5⟩,
  ⟨(some 24), (.mov (.t 9)), (some (21, .true)), [], 6⟩,
  ⟨(some 25), (.iad 3 (.t 23) (.t 24)), (some (21, .true)), [], 7⟩,
  ⟨(some 26), (.load 3 .true (.t 25)), (some (21, .true)), [], 8⟩,
  ⟨(some 27), (.mov (.t 0)), (some (21, .true)), [], 9⟩,
  ⟨(some 28), (.mov (.t 9)), (some (21, .true)), [], 10⟩,
  ⟨(some 29), (.bin .sub (.t 28) (.c (.s (.int .i64 1)))), (some (21, .true)), [], 11⟩,
  ⟨(some 30), (.iad 3 (.t 27) (.t 29)), (some (21, .true)), [], 12⟩,
  ⟨(some 31), (.load 3 .true (.t 30)), (some (21, .true)), [8], 13⟩,
  ⟨(some 32), (.call (.t 22) [(.t 26), (.t 31)]), (some (21, .true)), [], 14⟩,
  ⟨(some 33), (.bin .lss (.t 32) (.c (.s (.int .i64 0)))), (some (21, .true)), [], 15⟩,
  ⟨(some 34), (.pick (.t 21) (.t 33) (.c (.s (.bool .false)))), none, [], 16⟩]
def g86_4 : List AOper := [
  ⟨(some 37), (.mov (.t 0)), none, [], 0⟩,
  ⟨(some 38), (.mov (.t 9)), none, [], 1⟩,
  ⟨(some 39), (.mov (.t 0)), none, [], 2⟩,
  ⟨(some 40), (.mov (.t 9)), none, [], 3⟩,
  ⟨(some 41), (.bin .sub (.t 40) (.c (.s (.int .i64 1)))), none, [], 4⟩,
  ⟨(some 42), (.mov (.t 0)), none, [], 5⟩,
  ⟨(some 43), (.mov (.t 9)), none, [], 6⟩,
  ⟨(some 44), (.bin .sub (.t 43) (.c (.s (.int .i64 1)))), none, [], 7⟩,
  ⟨(some 45), (.iad 3 (.t 42) (.t 44)), none, [], 8⟩,
  ⟨(some 46), (.load 3 .true (.t 45)), none, [], 9⟩,
  ⟨(some 47), (.mov (.t 0)), none, [], 10⟩,
  ⟨(some 48), (.mov (.t 9)), none, [], 11⟩,
  ⟨(some 49), (.iad 3 (.t 47) (.t 48)), none, [], 12⟩,
  ⟨(some 50), (.load 3 .true (.t 49)), none, [9], 13⟩,
  ⟨(some 51), (.iad 3 (.t 37) (.t 38)), none, [], 14⟩,
  ⟨none, (.store 3 (.t 51) (.t 46)), none, [], 15⟩,
  ⟨(some 52), (.iad 3 (.t 39) (.t 41)), none, [], 16⟩,
  ⟨none, (.store 3 (.t 52) (.t 50)), none, [], 17⟩]
def g86_5 : List AOper := [
  ⟨(some 35), (.mov (.t 9)), none, [], 0⟩,
  ⟨(some 36), (.bin .sub (.t 35) (.c (.s (.int .i64 1)))), none, [], 0⟩,
  ⟨(some 9), (.mov (.t 36)), none, [], 0⟩]
def g86_6 : List AOper := [
  ⟨(some 15), (.mov (.t 8)), none, [], 0⟩,
  ⟨(some 16), (.bin .add (.t 15) (.c (.s (.int .i64 1)))), none, [], 0⟩,
  ⟨(some 8), (.mov (.t 16)), none, [], 0⟩]
def ac86 : AC :=
  (.seq (.region g86_0 live86) (.block 0 (.loop (.seq (.seq (.region g86_1 live86) (.cond (.t 14) .skip (.exit 0))) (.seq (.block 1 (.seq (.region g86_2 live86) (.block 2 (.loop (.seq (.seq (.drawn g86_3 live86) (.cond (.t 34) .skip (.exit 2))) (.seq (.block 3 (.drawn g86_4 live86)) (.region g86_5 live86))))))) (.region g86_6 live86))))))
theorem fn86 : Den.Fn Try.prog 86 53 res86 ac86 := ⟨⟨Try.f86, _, live86, Try.func86, rfl, by kernel_rfl, rfl, by kernel_rfl, by kernel_rfl⟩⟩

/-- cmp.isNaN[int]; parameters: 1 -/
def live96 : List Nat := [0, 2]
def res96 : List RO := [(.t 2)]
def g96_0 : List AOper := [
  ⟨(some 2), (.mov (.c (.s (.bool .false)))), none, [], 0⟩]
def g96_1 : List AOper := [
  ⟨(some 3), (.mov (.t 0)), none, [], 0⟩,
  ⟨(some 4), (.mov (.t 0)), none, [], 0⟩,
  ⟨(some 5), (.bin .neq (.t 3) (.t 4)), none, [], 0⟩,
  ⟨(some 2), (.mov (.t 5)), none, [], 0⟩]
def ac96 : AC :=
  (.seq (.region g96_0 live96) (.seq (.region g96_1 live96) .ret))
theorem fn96 : Den.Fn Try.prog 96 6 res96 ac96 := ⟨⟨Try.f96, _, live96, Try.func96, rfl, by kernel_rfl, rfl, by kernel_rfl, by kernel_rfl⟩⟩

/-- cmp.isNaN[string]; parameters: 1 -/
def live97 : List Nat := [0, 2]
def res97 : List RO := [(.t 2)]
def g97_0 : List AOper := [
  ⟨(some 2), (.mov (.c (.s (.bool .false)))), none, [], 0⟩]
def g97_1 : List AOper := [
  ⟨(some 3), (.mov (.t 0)), none, [], 0⟩,
  ⟨(some 4), (.mov (.t 0)), none, [], 0⟩,
  ⟨(some 5), (.bin .neq (.t 3) (.t 4)), none, [], 0⟩,
  ⟨(some 2), (.mov (.t 5)), none, [], 0⟩]
def ac97 : AC :=
  (.seq (.region g97_0 live97) (.seq (.region g97_1 live97) .ret))
theorem fn97 : Den.Fn Try.prog 97 6 res97 ac97 := ⟨⟨Try.f97, _, live97, Try.func97, rfl, by kernel_rfl, rfl, by kernel_rfl, by kernel_rfl⟩⟩


end Go.Proofs.Ytcmgfnhlnefchaa
