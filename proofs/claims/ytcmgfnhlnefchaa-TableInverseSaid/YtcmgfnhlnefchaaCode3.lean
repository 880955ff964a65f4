/-
  The code of functions, as a program of this work has printed it out of the loaded program (tools/DenPrint.lean), and that it is theirs.
-/
import Derived.Test.YtcmgfnhlnefchaaDenQ
import Derived.Test.YtcmgfnhlnefchaaProg
namespace Go.Proofs.Ytcmgfnhlnefchaa
open Go.Den

/-- slices.Clone[[]chapman/api.Row,chapman/api.Row]; parameters: 1 -/
def live52 : List Nat := [0, 2, 4]
def res52 : List RO := [(.t 2)]
def g52_0 : List AOper := [
  ⟨(some 2), (.mov (.c (.d .true 3 []))), none, [], 0⟩]
def g52_1 : List AOper := [
  ⟨(some 3), (.mov (.t 0)), none, [], 0⟩,
  ⟨(some 4), (.nilS .false (.t 3)), none, [], 0⟩]
def g52_2 : List AOper := [
  ⟨(some 2), (.mov (.c (.d .true 3 []))), none, [], 0⟩]
def g52_3 : List AOper := [
  ⟨(some 5), (.bslice 3 [] []), none, [], 0⟩,
  ⟨(some 6), (.mov (.t 0)), none, [], 0⟩,
  ⟨(some 7), (.app 3 72 (.t 5) (.t 6)), none, [], 0⟩,
  ⟨(some 2), (.mov (.t 7)), none, [], 0⟩]
def ac52 : AC :=
  (.seq (.region g52_0 live52) (.seq (.seq (.region g52_1 live52) (.cond (.t 4) (.seq (.region g52_2 live52) .ret) .skip)) (.seq (.region g52_3 live52) .ret)))
theorem fn52 : Den.Fn Try.prog 52 8 res52 ac52 := ⟨⟨Try.f52, _, live52, Try.func52, rfl, by kernel_rfl, rfl, by kernel_rfl, by kernel_rfl⟩⟩

/-- slices.Insert[[]chapman/api.Row,chapman/api.Row]; parameters: 3 -/
def live66 : List Nat := [0, 1, 2, 6, 7, 8, 9, 16, 22, 31, 68]
def res66 : List RO := [(.t 6)]
def g66_0 : List AOper := [
  ⟨(some 6), (.mov (.c (.d .true 3 []))), none, [], 0⟩]
def g66_1 : List AOper := [
  ⟨(some 10), (.mov (.t 0)), none, [], 0⟩,
  ⟨(some 11), (.mov (.t 1)), none, [], 0⟩,
  ⟨(some 12), (.slc 3 (.t 10) (some (.t 11)) none none), none, [], 0⟩]
def g66_2 : List AOper := [
  ⟨(some 13), (.mov (.t 2)), none, [], 0⟩,
  ⟨(some 14), (.len (.t 13)), none, [], 0⟩,
  ⟨(some 7), (.mov (.t 14)), none, [], 0⟩]
def g66_3 : List AOper := [
  ⟨(some 15), (.mov (.t 7)), none, [], 0⟩,
  ⟨(some 16), (.bin .eql (.t 15) (.c (.s (.int .i64 0)))), none, [], 0⟩]
def g66_4 : List AOper := [
  ⟨(some 17), (.mov (.t 0)), none, [], 0⟩,
  ⟨(some 6), (.mov (.t 17)), none, [], 0⟩]
def g66_5 : List AOper := [
  ⟨(some 18), (.mov (.t 0)), none, [], 0⟩,
  ⟨(some 19), (.len (.t 18)), none, [], 0⟩,
  ⟨(some 8), (.mov (.t 19)), none, [], 0⟩]
def g66_6 : List AOper := [
  ⟨(some 20), (.mov (.t 1)), none, [], 0⟩,
  ⟨(some 21), (.mov (.t 8)), none, [], 0⟩,
  ⟨(some 22), (.bin .eql (.t 20) (.t 21)), none, [], 0⟩]
def g66_7 : List AOper := [
  ⟨(some 23), (.mov (.t 0)), none, [], 0⟩,
  ⟨(some 24), (.mov (.t 2)), none, [], 0⟩,
  ⟨(some 25), (.app 3 72 (.t 23) (.t 24)), none, [], 0⟩,
  ⟨(some 6), (.mov (.t 25)), none, [], 0⟩]
def g66_8 : List AOper := [
  ⟨(some 26), (.mov (.t 8)), none, [], 0⟩,
  ⟨(some 27), (.mov (.t 7)), none, [], 0⟩,
  ⟨(some 28), (.bin .add (.t 26) (.t 27)), none, [], 0⟩,
  ⟨(some 29), (.mov (.t 0)), none, [], 0⟩,
  ⟨(some 30), (.capS (.t 29)), none, [], 0⟩,
  ⟨(some 31), (.bin .gtr (.t 28) (.t 30)), none, [], 0⟩]
def g66_9 : List AOper := [
  ⟨(some 32), (.mov (.t 0)), none, [], 0⟩,
  ⟨(some 33), (.mov (.t 1)), none, [], 0⟩,
  ⟨(some 34), (.slc 3 (.t 32) none (some (.t 33)) none), none, [], 0⟩,
  ⟨(some 35), (.mov (.t 8)), none, [], 0⟩,
  ⟨(some 36), (.mov (.t 7)), none, [], 0⟩,
  ⟨(some 37), (.bin .add (.t 35) (.t 36)), none, [], 0⟩,
  ⟨(some 38), (.mov (.t 1)), none, [], 0⟩,
  ⟨(some 39), (.bin .sub (.t 37) (.t 38)), none, [], 0⟩,
  ⟨(some 40), (.appz 3 72 [(.d .true 5 []), (.d .true 1 []), (.d .true 2 [])] (.t 34) (.t 39)), none, [], 0⟩,
  ⟨(some 9), (.mov (.t 40)), none, [], 0⟩]
def g66_10 : List AOper := [
  ⟨(some 41), (.mov (.t 9)), none, [], 0⟩,
  ⟨(some 42), (.mov (.t 1)), none, [], 0⟩,
  ⟨(some 43), (.slc 3 (.t 41) (some (.t 42)) none none), none, [], 0⟩,
  ⟨(some 44), (.mov (.t 2)), none, [], 0⟩,
  ⟨(some 45), (.copy 3 (.t 43) (.t 44)), none, [], 0⟩]
def g66_11 : List AOper := [
  ⟨(some 46), (.mov (.t 9)), none, [], 0⟩,
  ⟨(some 47), (.mov (.t 1)), none, [], 1⟩,
  ⟨(some 48), (.mov (.t 7)), none, [], 2⟩,
  ⟨(some 49), (.bin .add (.t 47) (.t 48)), none, [], 3⟩,
  ⟨(some 50), (.slc 3 (.t 46) (some (.t 49)) none none), none, [], 4⟩,
  ⟨(some 51), (.mov (.t 0)), none, [], 5⟩,
  ⟨(some 52), (.mov (.t 1)), none, [], 6⟩,
  ⟨(some 53), (.slc 3 (.t 51) (some (.t 52)) none none), none, [], 7⟩,
  ⟨(some 54), (.copy 3 (.t 50) (.t 53)), none, [], 8⟩]
def g66_12 : List AOper := [
  ⟨(some 55), (.mov (.t 9)), none, [], 0⟩,
  ⟨(some 6), (.mov (.t 55)), none, [], 0⟩]
def g66_13 : List AOper := [
  ⟨(some 56), (.mov (.t 0)), none, [], 0⟩,
  ⟨(some 57), (.mov (.t 8)), none, [], 0⟩,
  ⟨(some 58), (.mov (.t 7)), none, [], 0⟩,
  ⟨(some 59), (.bin .add (.t 57) (.t 58)), none, [], 0⟩,
  ⟨(some 60), (.slc 3 (.t 56) none (some (.t 59)) none), none, [], 0⟩,
  ⟨(some 0), (.mov (.t 60)), none, [], 0⟩]
def g66_14 : List AOper := [
  ⟨(some 61), (.mov (.t 2)), none, [], 0⟩,
  ⟨(some 62), (.mov (.t 0)), none, [], 0⟩,
  ⟨(some 63), (.mov (.t 1)), none, [], 0⟩,
  ⟨(some 64), (.mov (.t 7)), none, [], 0⟩,
  ⟨(some 65), (.bin .add (.t 63) (.t 64)), none, [], 0⟩,
  ⟨(some 66), (.slc 3 (.t 62) (some (.t 65)) none none), none, [], 0⟩,
  ⟨(some 67), (.call (.c (.f 77 [])) [(.t 61), (.t 66)]), none, [], 0⟩,
  ⟨(some 68), (.un .not (.t 67)), none, [], 0⟩]
def g66_15 : List AOper := [
  ⟨(some 69), (.mov (.t 0)), none, [], 0⟩,
  ⟨(some 70), (.mov (.t 1)), none, [], 1⟩,
  ⟨(some 71), (.mov (.t 7)), none, [], 2⟩,
  ⟨(some 72), (.bin .add (.t 70) (.t 71)), none, [], 3⟩,
  ⟨(some 73), (.slc 3 (.t 69) (some (.t 72)) none none), none, [], 4⟩,
  ⟨(some 74), (.mov (.t 0)), none, [], 5⟩,
  ⟨(some 75), (.mov (.t 1)), none, [], 6⟩,
  ⟨(some 76), (.slc 3 (.t 74) (some (.t 75)) none none), none, [], 7⟩,
  ⟨(some 77), (.copy 3 (.t 73) (.t 76)), none, [], 8⟩]
def g66_16 : List AOper := [
  ⟨(some 78), (.mov (.t 0)), none, [], 0⟩,
  ⟨(some 79), (.mov (.t 1)), none, [], 0⟩,
  ⟨(some 80), (.slc 3 (.t 78) (some (.t 79)) none none), none, [], 0⟩,
  ⟨(some 81), (.mov (.t 2)), none, [], 0⟩,
  ⟨(some 82), (.copy 3 (.t 80) (.t 81)), none, [], 0⟩]
def g66_17 : List AOper := [
  ⟨(some 83), (.mov (.t 0)), none, [], 0⟩,
  ⟨(some 6), (.mov (.t 83)), none, [], 0⟩]
def g66_18 : List AOper := [
  ⟨(some 84), (.mov (.t 0)), none, [], 0⟩,
  ⟨(some 85), (.mov (.t 8)), none, [], 0⟩,
  ⟨(some 86), (.slc 3 (.t 84) (some (.t 85)) none none), none, [], 0⟩,
  ⟨(some 87), (.mov (.t 2)), none, [], 0⟩,
  ⟨(some 88), (.copy 3 (.t 86) (.t 87)), none, [], 0⟩]
def g66_19 : List AOper := [
  ⟨(some 89), (.mov (.t 0)), none, [], 0⟩,
  ⟨(some 90), (.mov (.t 1)), none, [], 0⟩,
  ⟨(some 91), (.slc 3 (.t 89) (some (.t 90)) none none), none, [], 0⟩,
  ⟨(some 92), (.mov (.t 7)), none, [], 0⟩,
  ⟨(some 93), (.call (.c (.f 78 [])) [(.t 91), (.t 92)]), none, [], 0⟩]
def g66_20 : List AOper := [
  ⟨(some 94), (.mov (.t 0)), none, [], 0⟩,
  ⟨(some 6), (.mov (.t 94)), none, [], 0⟩]
def ac66 : AC :=
  (.seq (.region g66_0 live66) (.seq (.region g66_1 live66) (.seq (.region g66_2 live66) (.seq (.seq (.region g66_3 live66) (.cond (.t 16) (.seq (.region g66_4 live66) .ret) .skip)) (.seq (.region g66_5 live66) (.seq (.seq (.region g66_6 live66) (.cond (.t 22) (.seq (.region g66_7 live66) .ret) .skip)) (.seq (.seq (.region g66_8 live66) (.cond (.t 31) (.seq (.region g66_9 live66) (.seq (.region g66_10 live66) (.seq (.drawn g66_11 live66) (.seq (.region g66_12 live66) .ret)))) .skip)) (.seq (.region g66_13 live66) (.seq (.seq (.region g66_14 live66) (.cond (.t 68) (.seq (.drawn g66_15 live66) (.seq (.region g66_16 live66) (.seq (.region g66_17 live66) .ret))) .skip)) (.seq (.region g66_18 live66) (.seq (.region g66_19 live66) (.seq (.region g66_20 live66) .ret))))))))))))
theorem fn66 : Den.Fn Try.prog 66 95 res66 ac66 := ⟨⟨Try.f66, _, live66, Try.func66, rfl, by kernel_rfl, rfl, by kernel_rfl, by kernel_rfl⟩⟩


end Go.Proofs.Ytcmgfnhlnefchaa
