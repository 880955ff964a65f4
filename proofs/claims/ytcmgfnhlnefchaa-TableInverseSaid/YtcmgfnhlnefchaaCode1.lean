/-
  The code of functions, as a program of this work has printed it out of the loaded program (tools/DenPrint.lean), and that it is theirs.
-/
import Derived.Test.YtcmgfnhlnefchaaDenQ
import Derived.Test.YtcmgfnhlnefchaaProg
namespace Go.Proofs.Ytcmgfnhlnefchaa
open Go.Den

/-- chapman/chapmanref14.Made; parameters: 2 -/
def live7 : List Nat := [0, 1, 4, 5, 6, 7, 16, 31]
def res7 : List RO := [(.t 4)]
def g7_0 : List AOper := [
  ⟨(some 4), (.mov (.c (.d .true 3 []))), none, [], 0⟩]
def g7_1 : List AOper := [
  ⟨(some 8), (.bslice 3 [] []), none, [], 0⟩,
  ⟨(some 5), (.mov (.t 8)), none, [], 0⟩]
def g7_2 : List AOper := [
  ⟨(some 6), (.mov (.c (.s (.int .i64 0)))), none, [], 0⟩]
def g7_3 : List AOper := [
  ⟨(some 9), (.mov (.t 6)), none, [], 0⟩,
  ⟨(some 10), (.mov (.t 0)), none, [], 0⟩,
  ⟨(some 11), (.len (.t 10)), none, [], 0⟩,
  ⟨(some 12), (.bin .lss (.t 9) (.t 11)), none, [], 0⟩,
  ⟨(some 13), (.mov (.t 12)), none, [], 0⟩,
  ⟨(some 14), (.mov (.t 6)), (some (13, .true)), [], 0⟩,
  ⟨(some 15), (.bin .lss (.t 14) (.c (.s (.int .i64 12)))), (some (13, .true)), [], 0⟩,
  ⟨(some 16), (.pick (.t 13) (.t 15) (.c (.s (.bool .false)))), none, [], 0⟩]
def g7_4 : List AOper := [
  ⟨(some 19), (.mov (.t 0)), none, [], 0⟩,
  ⟨(some 20), (.mov (.t 6)), none, [], 0⟩,
  ⟨(some 21), (.iad 4 (.t 19) (.t 20)), none, [], 0⟩,
  ⟨(some 22), (.load 4 .true (.t 21)), none, [], 0⟩,
  ⟨(some 23), (.call (.c (.f 8 [])) [(.t 22)]), none, [], 0⟩,
  ⟨(some 7), (.new [(.d .true 5 []), (.d .true 1 []), (.d .true 2 [])]), none, [], 0⟩,
  ⟨none, (.store 3 (.t 7) (.t 23)), none, [], 0⟩]
def g7_5 : List AOper := [
  ⟨(some 24), (.mov (.t 5)), none, [], 0⟩,
  ⟨(some 25), (.mov (.t 1)), none, [], 0⟩,
  ⟨(some 26), (.load 3 .true (.t 7)), none, [], 0⟩,
  ⟨(some 27), (.mov (.t 1)), none, [], 0⟩,
  ⟨(some 28), (.call (.c (.f 9 [])) [(.t 26), (.t 27)]), none, [], 0⟩,
  ⟨(some 29), (.call (.c (.f 26 [])) [(.t 24), (.t 25), (.t 28)]), none, [], 0⟩,
  ⟨(some 30), (.fld .false 1 1 (.t 29)), none, [], 0⟩,
  ⟨(some 31), (.un .not (.t 30)), none, [], 0⟩]
def g7_6 : List AOper := [
  ⟨(some 32), (.mov (.t 5)), none, [], 0⟩,
  ⟨(some 33), (.mov (.t 1)), none, [], 0⟩,
  ⟨(some 34), (.load 3 .true (.t 7)), none, [], 0⟩,
  ⟨(some 35), (.call (.c (.f 27 [])) [(.t 32), (.t 33), (.t 34)]), none, [], 0⟩,
  ⟨(some 36), (.fld .false 0 1 (.t 35)), none, [], 0⟩,
  ⟨(some 5), (.mov (.t 36)), none, [], 0⟩]
def g7_7 : List AOper := [
  ⟨(some 17), (.mov (.t 6)), none, [], 0⟩,
  ⟨(some 18), (.bin .add (.t 17) (.c (.s (.int .i64 1)))), none, [], 0⟩,
  ⟨(some 6), (.mov (.t 18)), none, [], 0⟩]
def g7_8 : List AOper := [
  ⟨(some 37), (.mov (.t 5)), none, [], 0⟩,
  ⟨(some 4), (.mov (.t 37)), none, [], 0⟩]
def ac7 : AC :=
  (.seq (.region g7_0 live7) (.seq (.region g7_1 live7) (.seq (.seq (.region g7_2 live7) (.block 0 (.loop (.seq (.seq (.region g7_3 live7) (.cond (.t 16) .skip (.exit 0))) (.seq (.block 1 (.seq (.region g7_4 live7) (.seq (.region g7_5 live7) (.cond (.t 31) (.region g7_6 live7) .skip)))) (.region g7_7 live7)))))) (.seq (.region g7_8 live7) .ret))))
theorem fn7 : Den.Fn Try.prog 7 38 res7 ac7 := ⟨⟨Try.f7, _, live7, Try.func7, rfl, by kernel_rfl, rfl, by kernel_rfl, by kernel_rfl⟩⟩

/-- chapman/chapmanref14.Row; parameters: 1 -/
def live8 : List Nat := [0, 1, 2, 3, 4, 5, 6, 31, 61, 73]
def res8 : List RO := [(.c 2 3 .true)]
def g8_0 : List AOper := [
  ⟨(some 1), (.box (.t 0)), none, [], 0⟩,
  ⟨(some 2), (.new [(.d .true 5 []), (.d .true 1 []), (.d .true 2 [])]), none, [], 0⟩]
def g8_1 : List AOper := [
  ⟨(some 7), (.build [(.d .true 5 []), (.d .true 1 []), (.d .true 2 [])] []), none, [], 0⟩,
  ⟨(some 3), (.new [(.d .true 5 []), (.d .true 1 []), (.d .true 2 [])]), none, [], 0⟩,
  ⟨none, (.store 3 (.t 3) (.t 7)), none, [], 0⟩]
def g8_2 : List AOper := [
  ⟨(some 8), (.call (.c (.f 40 [])) []), none, [], 0⟩,
  ⟨(some 4), (.mov (.t 8)), none, [], 0⟩]
def g8_3 : List AOper := [
  ⟨(some 9), (.iadA 4 1 (.t 1) (.c (.s (.int .i64 0)))), none, [], 0⟩,
  ⟨(some 10), (.load 1 .false (.t 9)), none, [], 0⟩,
  ⟨(some 11), (.bin .rem (.t 10) (.c (.s (.int .u8 4)))), none, [], 0⟩,
  ⟨(some 12), (.bin .add (.c (.s (.int .u8 12))) (.t 11)), none, [], 0⟩,
  ⟨(some 13), (.build [(.s (.int .u8 0)), (.s (.int .u8 0))] [(0, (1, (.c (.s (.int .u8 0))))), (1, (1, (.t 12)))]), none, [], 0⟩,
  ⟨(some 14), (.iadA 4 1 (.t 1) (.c (.s (.int .i64 1)))), none, [], 0⟩,
  ⟨(some 15), (.load 1 .false (.t 14)), none, [], 0⟩,
  ⟨(some 16), (.bin .rem (.t 15) (.c (.s (.int .u8 6)))), none, [], 0⟩,
  ⟨(some 17), (.iadA 4 1 (.t 1) (.c (.s (.int .i64 1)))), none, [], 0⟩,
  ⟨(some 18), (.load 1 .false (.t 17)), none, [], 0⟩,
  ⟨(some 19), (.bin .quo (.t 18) (.c (.s (.int .u8 6)))), none, [], 0⟩,
  ⟨(some 20), (.bin .rem (.t 19) (.c (.s (.int .u8 5)))), none, [], 0⟩,
  ⟨(some 21), (.build [(.s (.int .u8 0)), (.s (.int .u8 0))] [(0, (1, (.t 16))), (1, (1, (.t 20)))]), none, [], 0⟩,
  ⟨(some 22), (.iadA 4 1 (.t 1) (.c (.s (.int .i64 2)))), none, [], 0⟩,
  ⟨(some 23), (.load 1 .false (.t 22)), none, [], 0⟩,
  ⟨(some 24), (.iadA 4 1 (.t 1) (.c (.s (.int .i64 3)))), none, [], 0⟩,
  ⟨(some 25), (.load 1 .false (.t 24)), none, [], 0⟩,
  ⟨(some 26), (.build [(.s (.int .u8 0)), (.s (.int .u8 0))] [(0, (1, (.t 23))), (1, (1, (.t 25)))]), none, [], 0⟩,
  ⟨(some 27), (.bslice 2 [[(.s (.int .u8 0)), (.s (.int .u8 0))], [(.s (.int .u8 0)), (.s (.int .u8 0))], [(.s (.int .u8 0)), (.s (.int .u8 0))]] [(0, (.t 13)), (1, (.t 21)), (2, (.t 26))]), none, [], 0⟩,
  ⟨(some 5), (.mov (.t 27)), none, [], 0⟩]
def g8_4 : List AOper := [
  ⟨(some 6), (.mov (.c (.s (.int .i64 0)))), none, [], 0⟩]
def g8_5 : List AOper := [
  ⟨(some 28), (.mov (.t 6)), none, [], 0⟩,
  ⟨(some 29), (.mov (.t 4)), none, [], 0⟩,
  ⟨(some 30), (.len (.t 29)), none, [], 0⟩,
  ⟨(some 31), (.bin .lss (.t 28) (.t 30)), none, [], 0⟩]
def g8_6 : List AOper := [
  ⟨(some 34), (.fad 0 (.t 3)), none, [], 0⟩,
  ⟨(some 35), (.load 1 .false (.t 34)), none, [], 1⟩,
  ⟨(some 36), (.mov (.t 4)), none, [], 2⟩,
  ⟨(some 37), (.mov (.t 6)), none, [], 3⟩,
  ⟨(some 38), (.iad 3 (.t 36) (.t 37)), none, [], 4⟩,
  ⟨(some 39), (.load 3 .true (.t 38)), none, [1], 5⟩,
  ⟨(some 40), (.mov (.t 5)), none, [], 6⟩,
  ⟨(some 41), (.mov (.t 6)), none, [], 7⟩,
  ⟨(some 42), (.iad 2 (.t 40) (.t 41)), none, [], 8⟩,
  ⟨(some 43), (.load 2 .true (.t 42)), none, [1, 5], 9⟩,
  ⟨(some 44), (.call (.c (.f 41 [])) [(.t 39), (.t 43)]), none, [1], 10⟩,
  ⟨(some 45), (.iadA 4 1 (.t 1) (.c (.s (.int .i64 3)))), none, [], 11⟩,
  ⟨(some 46), (.load 1 .false (.t 45)), none, [1, 5, 9, 10], 12⟩,
  ⟨(some 47), (.bin .rem (.t 46) (.c (.s (.int .u8 3)))), none, [], 13⟩,
  ⟨(some 48), (.cvI .i64 (.t 47)), none, [], 14⟩,
  ⟨(some 49), (.iadA 4 1 (.t 1) (.c (.s (.int .i64 2)))), none, [], 15⟩,
  ⟨(some 50), (.load 1 .false (.t 49)), none, [1, 5, 9, 10, 12], 16⟩,
  ⟨(some 51), (.bin .rem (.t 50) (.c (.s (.int .u8 4)))), none, [], 17⟩,
  ⟨(some 52), (.cvI .i64 (.t 51)), none, [], 18⟩,
  ⟨(some 53), (.build [(.s (.int .i64 0)), (.s (.int .i64 0))] [(0, (1, (.t 48))), (1, (1, (.t 52)))]), none, [], 19⟩,
  ⟨(some 54), (.build [(.s (.int .i64 0)), (.s (.int .i64 0)), (.s (.string (ByteArray.mk #[]))), (.s (.int .i64 0)), (.s (.int .i64 0))] [(0, (3, (.t 44))), (3, (2, (.t 53)))]), none, [], 20⟩,
  ⟨(some 55), (.bslice 5 [[(.s (.int .i64 0)), (.s (.int .i64 0)), (.s (.string (ByteArray.mk #[]))), (.s (.int .i64 0)), (.s (.int .i64 0))]] [(0, (.t 54))]), none, [1], 21⟩,
  ⟨(some 56), (.app 5 48 (.t 35) (.t 55)), none, [], 22⟩,
  ⟨(some 57), (.fad 0 (.t 3)), none, [], 23⟩,
  ⟨none, (.store 1 (.t 57) (.t 56)), none, [], 24⟩]
def g8_7 : List AOper := [
  ⟨(some 32), (.mov (.t 6)), none, [], 0⟩,
  ⟨(some 33), (.bin .add (.t 32) (.c (.s (.int .i64 1)))), none, [], 0⟩,
  ⟨(some 6), (.mov (.t 33)), none, [], 0⟩]
def g8_8 : List AOper := [
  ⟨(some 58), (.iadA 4 1 (.t 1) (.c (.s (.int .i64 3)))), none, [], 0⟩,
  ⟨(some 59), (.load 1 .false (.t 58)), none, [], 0⟩,
  ⟨(some 60), (.bin .rem (.t 59) (.c (.s (.int .u8 4)))), none, [], 0⟩,
  ⟨(some 61), (.bin .eql (.t 60) (.c (.s (.int .u8 1)))), none, [], 0⟩]
def g8_9 : List AOper := [
  ⟨(some 62), (.iadA 4 1 (.t 1) (.c (.s (.int .i64 2)))), none, [], 0⟩,
  ⟨(some 63), (.load 1 .false (.t 62)), none, [], 0⟩,
  ⟨(some 64), (.cvI .i64 (.t 63)), none, [], 0⟩,
  ⟨(some 65), (.iadA 4 1 (.t 1) (.c (.s (.int .i64 0)))), none, [], 0⟩,
  ⟨(some 66), (.load 1 .false (.t 65)), none, [], 0⟩,
  ⟨(some 67), (.cvI .i64 (.t 66)), none, [], 0⟩,
  ⟨(some 68), (.bslice 1 [[(.s (.int .i64 0))], [(.s (.int .i64 0))], [(.s (.int .i64 0))], [(.s (.int .i64 0))], [(.s (.int .i64 0))], [(.s (.int .i64 0))]] [(0, (.t 64)), (1, (.c (.s (.int .i64 0)))), (2, (.c (.s (.int .i64 0)))), (3, (.c (.s (.int .i64 0)))), (4, (.c (.s (.int .i64 0)))), (5, (.t 67))]), none, [], 0⟩,
  ⟨(some 69), (.fad 1 (.t 3)), none, [], 0⟩,
  ⟨none, (.store 1 (.t 69) (.t 68)), none, [], 0⟩]
def g8_10 : List AOper := [
  ⟨(some 70), (.iadA 4 1 (.t 1) (.c (.s (.int .i64 3)))), none, [], 0⟩,
  ⟨(some 71), (.load 1 .false (.t 70)), none, [], 0⟩,
  ⟨(some 72), (.bin .rem (.t 71) (.c (.s (.int .u8 4)))), none, [], 0⟩,
  ⟨(some 73), (.bin .eql (.t 72) (.c (.s (.int .u8 2)))), none, [], 0⟩]
def g8_11 : List AOper := [
  ⟨(some 74), (.iadA 4 1 (.t 1) (.c (.s (.int .i64 0)))), none, [], 0⟩,
  ⟨(some 75), (.load 1 .false (.t 74)), none, [], 0⟩,
  ⟨(some 76), (.bin .rem (.t 75) (.c (.s (.int .u8 3)))), none, [], 0⟩,
  ⟨(some 77), (.cvI .i64 (.t 76)), none, [], 0⟩,
  ⟨(some 78), (.iadA 4 1 (.t 1) (.c (.s (.int .i64 2)))), none, [], 0⟩,
  ⟨(some 79), (.load 1 .false (.t 78)), none, [], 0⟩,
  ⟨(some 80), (.bin .rem (.t 79) (.c (.s (.int .u8 3)))), none, [], 0⟩,
  ⟨(some 81), (.cvI .i64 (.t 80)), none, [], 0⟩,
  ⟨(some 82), (.bin .add (.c (.s (.int .i64 1))) (.t 81)), none, [], 0⟩,
  ⟨(some 83), (.build [(.s (.int .i64 0)), (.s (.int .i64 0))] [(0, (1, (.t 77))), (1, (1, (.t 82)))]), none, [], 0⟩,
  ⟨(some 84), (.bslice 2 [[(.s (.int .i64 0)), (.s (.int .i64 0))]] [(0, (.t 83))]), none, [], 0⟩,
  ⟨(some 85), (.fad 2 (.t 3)), none, [], 0⟩,
  ⟨none, (.store 1 (.t 85) (.t 84)), none, [], 0⟩]
def g8_12 : List AOper := [
  ⟨(some 86), (.load 3 .true (.t 3)), none, [], 0⟩,
  ⟨none, (.store 3 (.t 2) (.t 86)), none, [], 0⟩]
def ac8 : AC :=
  (.seq (.region g8_0 live8) (.seq (.region g8_1 live8) (.seq (.region g8_2 live8) (.seq (.region g8_3 live8) (.seq (.seq (.region g8_4 live8) (.block 0 (.loop (.seq (.seq (.region g8_5 live8) (.cond (.t 31) .skip (.exit 0))) (.seq (.block 1 (.drawn g8_6 live8)) (.region g8_7 live8)))))) (.seq (.seq (.region g8_8 live8) (.cond (.t 61) (.region g8_9 live8) .skip)) (.seq (.seq (.region g8_10 live8) (.cond (.t 73) (.region g8_11 live8) .skip)) (.seq (.region g8_12 live8) .ret))))))))
theorem fn8 : Den.Fn Try.prog 8 87 res8 ac8 := ⟨⟨Try.f8, _, live8, Try.func8, rfl, by kernel_rfl, rfl, by kernel_rfl, by kernel_rfl⟩⟩

/-- chapman/chapmanref14.Key; parameters: 2 -/
def live9 : List Nat := [0, 1, 2, 4]
def res9 : List RO := [(.t 4)]
def g9_0 : List AOper := [
  ⟨(some 2), (.box (.t 0)), none, [], 0⟩,
  ⟨(some 4), (.mov (.c (.d .true 3 []))), none, [], 0⟩]
def g9_1 : List AOper := [
  ⟨(some 5), (.load 3 .true (.t 2)), none, [], 0⟩,
  ⟨(some 6), (.call (.c (.f 24 [])) [(.t 5)]), none, [], 1⟩,
  ⟨(some 7), (.mov (.t 1)), none, [], 2⟩,
  ⟨(some 8), (.fad 0 (.t 2)), none, [], 3⟩,
  ⟨(some 9), (.load 1 .false (.t 8)), none, [0, 1], 4⟩,
  ⟨(some 10), (.len (.t 9)), none, [], 5⟩,
  ⟨(some 11), (.mm .false [(.t 7), (.t 10)]), none, [], 6⟩,
  ⟨(some 12), (.mm .true [(.c (.s (.int .i64 0))), (.t 11)]), none, [], 7⟩,
  ⟨(some 13), (.slc 3 (.t 6) none (some (.t 12)) none), none, [], 8⟩,
  ⟨(some 4), (.mov (.t 13)), none, [], 9⟩]
def ac9 : AC :=
  (.seq (.region g9_0 live9) (.seq (.drawn g9_1 live9) .ret))
theorem fn9 : Den.Fn Try.prog 9 14 res9 ac9 := ⟨⟨Try.f9, _, live9, Try.func9, rfl, by kernel_rfl, rfl, by kernel_rfl, by kernel_rfl⟩⟩

/-- chapman/chapmanlaw14.find; parameters: 3 -/
def live10 : List Nat := [0, 1, 2, 6, 7, 8]
def res10 : List RO := [(.c 6 2 .true)]
def g10_0 : List AOper := [
  ⟨(some 6), (.new [(.s (.int .i64 0)), (.s (.bool .false))]), none, [], 0⟩]
def g10_1 : List AOper := [
  ⟨(some 10), (.mov (.t 0)), none, [], 0⟩,
  ⟨(some 11), (.mov (.t 1)), none, [], 0⟩,
  ⟨(some 12), (.mov (.t 2)), none, [], 0⟩,
  ⟨(some 13), (.call (.c (.f 42 [])) [(.t 10), (.t 11), (.t 12)]), none, [], 0⟩,
  ⟨(some 9), (.mov (.t 13)), none, [], 0⟩,
  ⟨(some 14), (.ext (.t 9) 0), none, [], 0⟩,
  ⟨(some 15), (.ext (.t 9) 1), none, [], 0⟩,
  ⟨(some 7), (.mov (.t 14)), none, [], 0⟩,
  ⟨(some 8), (.mov (.t 15)), none, [], 0⟩]
def g10_2 : List AOper := [
  ⟨(some 16), (.mov (.t 7)), none, [], 0⟩,
  ⟨(some 17), (.mov (.t 8)), none, [], 0⟩,
  ⟨(some 18), (.build [(.s (.int .i64 0)), (.s (.bool .false))] [(0, (1, (.t 16))), (1, (1, (.t 17)))]), none, [], 0⟩,
  ⟨none, (.store 2 (.t 6) (.t 18)), none, [], 0⟩]
def ac10 : AC :=
  (.seq (.region g10_0 live10) (.seq (.region g10_1 live10) (.seq (.region g10_2 live10) .ret)))
theorem fn10 : Den.Fn Try.prog 10 19 res10 ac10 := ⟨⟨Try.f10, _, live10, Try.func10, rfl, by kernel_rfl, rfl, by kernel_rfl, by kernel_rfl⟩⟩

/-- chapman/chapmanlaw14.put; parameters: 3 -/
def live11 : List Nat := [0, 1, 2, 5, 6, 7, 8]
def res11 : List RO := [(.c 6 2 .true)]
def g11_0 : List AOper := [
  ⟨(some 5), (.box (.t 2)), none, [], 0⟩,
  ⟨(some 6), (.new [(.d .true 3 []), (.s (.int .i64 0))]), none, [], 0⟩]
def g11_1 : List AOper := [
  ⟨(some 10), (.mov (.t 0)), none, [], 0⟩,
  ⟨(some 11), (.mov (.t 1)), none, [], 0⟩,
  ⟨(some 12), (.load 3 .true (.t 5)), none, [], 0⟩,
  ⟨(some 13), (.call (.c (.f 43 [])) [(.t 10), (.t 11), (.t 12)]), none, [], 0⟩,
  ⟨(some 9), (.mov (.t 13)), none, [], 0⟩,
  ⟨(some 14), (.ext (.t 9) 0), none, [], 0⟩,
  ⟨(some 15), (.ext (.t 9) 1), none, [], 0⟩,
  ⟨(some 7), (.mov (.t 14)), none, [], 0⟩,
  ⟨(some 8), (.mov (.t 15)), none, [], 0⟩]
def g11_2 : List AOper := [
  ⟨(some 16), (.mov (.t 7)), none, [], 0⟩,
  ⟨(some 17), (.mov (.t 8)), none, [], 0⟩,
  ⟨(some 18), (.build [(.d .true 3 []), (.s (.int .i64 0))] [(0, (1, (.t 16))), (1, (1, (.t 17)))]), none, [], 0⟩,
  ⟨none, (.store 2 (.t 6) (.t 18)), none, [], 0⟩]
def ac11 : AC :=
  (.seq (.region g11_0 live11) (.seq (.region g11_1 live11) (.seq (.region g11_2 live11) .ret)))
theorem fn11 : Den.Fn Try.prog 11 19 res11 ac11 := ⟨⟨Try.f11, _, live11, Try.func11, rfl, by kernel_rfl, rfl, by kernel_rfl, by kernel_rfl⟩⟩

/-- chapman/chapmanref14.Valid; parameters: 2 -/
def live12 : List Nat := [0, 1, 4, 5, 9, 33, 52]
def res12 : List RO := [(.t 4)]
def g12_0 : List AOper := [
  ⟨(some 4), (.mov (.c (.s (.bool .false)))), none, [], 0⟩]
def g12_1 : List AOper := [
  ⟨(some 5), (.mov (.c (.s (.int .i64 0)))), none, [], 0⟩]
def g12_2 : List AOper := [
  ⟨(some 6), (.mov (.t 5)), none, [], 0⟩,
  ⟨(some 7), (.mov (.t 0)), none, [], 0⟩,
  ⟨(some 8), (.len (.t 7)), none, [], 0⟩,
  ⟨(some 9), (.bin .lss (.t 6) (.t 8)), none, [], 0⟩]
def g12_3 : List AOper := [
  ⟨(some 12), (.mov (.t 0)), none, [], 0⟩,
  ⟨(some 13), (.mov (.t 5)), none, [], 1⟩,
  ⟨(some 14), (.iad 3 (.t 12) (.t 13)), none, [], 2⟩,
  ⟨(some 15), (.fad 0 (.t 14)), none, [], 3⟩,
  ⟨(some 16), (.load 1 .false (.t 15)), none, [], 4⟩,
  ⟨(some 17), (.len (.t 16)), none, [], 5⟩,
  ⟨(some 18), (.mov (.t 1)), none, [], 6⟩,
  ⟨(some 19), (.bin .lss (.t 17) (.t 18)), none, [], 7⟩,
  ⟨(some 20), (.mov (.t 19)), none, [], 8⟩,
  ⟨(some 21), (.mov (.t 0)), (some (20, .false)), [], 9⟩,
  ⟨(some 22), (.mov (.t 5)), (some (20, .false)), [], 10⟩,
  ⟨(some 23), (.iad 3 (.t 21) (.t 22)), (some (20, .false)), [], 11⟩,
  ⟨(some 24), (.fad 0 (.t 23)), (some (20, .false)), [], 12⟩,
  ⟨(some 25), (.load 1 .false (.t 24)), (some (20, .false)), [], 13⟩,
  ⟨(some 26), (.len (.t 25)), (some (20, .false)), [], 14⟩,
  ⟨(some 27), (.mov (.t 0)), (some (20, .false)), [], 15⟩,
  ⟨(some 28), (.iad 3 (.t 27) (.c (.s (.int .i64 0)))), (some (20, .false)), [], 16⟩,
  ⟨(some 29), (.fad 0 (.t 28)), (some (20, .false)), [], 17⟩,
  ⟨(some 30), (.load 1 .false (.t 29)), (some (20, .false)), [13], 18⟩,
  ⟨(some 31), (.len (.t 30)), (some (20, .false)), [], 19⟩,
  ⟨(some 32), (.bin .neq (.t 26) (.t 31)), (some (20, .false)), [], 20⟩,
  ⟨(some 33), (.pick (.t 20) (.c (.s (.bool .true))) (.t 32)), none, [], 21⟩]
def g12_4 : List AOper := [
  ⟨(some 4), (.mov (.c (.s (.bool .false)))), none, [], 0⟩]
def g12_5 : List AOper := [
  ⟨(some 34), (.mov (.t 5)), none, [], 0⟩,
  ⟨(some 35), (.bin .gtr (.t 34) (.c (.s (.int .i64 0)))), none, [], 1⟩,
  ⟨(some 36), (.mov (.t 35)), none, [], 2⟩,
  ⟨(some 37), (.mov (.t 0)), (some (36, .true)), [], 3⟩,
  ⟨(some 38), (.mov (.t 5)), (some (36, .true)), [], 4⟩,
  ⟨(some 39), (.bin .sub (.t 38) (.c (.s (.int .i64 1)))), (some (36, .true)), [], 5⟩,
  ⟨(some 40), (.iad 3 (.t 37) (.t 39)), (some (36, .true)), [], 6⟩,
  ⟨(some 41), (.load 3 .true (.t 40)), (some (36, .true)), [], 7⟩,
  ⟨(some 42), (.mov (.t 1)), (some (36, .true)), [], 8⟩,
  ⟨(some 43), (.call (.c (.f 9 [])) [(.t 41), (.t 42)]), (some (36, .true)), [], 9⟩,
  ⟨(some 44), (.mov (.t 0)), (some (36, .true)), [], 10⟩,
  ⟨(some 45), (.mov (.t 5)), (some (36, .true)), [], 11⟩,
  ⟨(some 46), (.iad 3 (.t 44) (.t 45)), (some (36, .true)), [], 12⟩,
  ⟨(some 47), (.load 3 .true (.t 46)), (some (36, .true)), [7, 9], 13⟩,
  ⟨(some 48), (.mov (.t 1)), (some (36, .true)), [], 14⟩,
  ⟨(some 49), (.call (.c (.f 9 [])) [(.t 47), (.t 48)]), (some (36, .true)), [], 15⟩,
  ⟨(some 50), (.call (.c (.f 44 [])) [(.t 43), (.t 49)]), (some (36, .true)), [], 16⟩,
  ⟨(some 51), (.bin .geq (.t 50) (.c (.s (.int .i64 0)))), (some (36, .true)), [], 17⟩,
  ⟨(some 52), (.pick (.t 36) (.t 51) (.c (.s (.bool .false)))), none, [], 18⟩]
def g12_6 : List AOper := [
  ⟨(some 4), (.mov (.c (.s (.bool .false)))), none, [], 0⟩]
def g12_7 : List AOper := [
  ⟨(some 10), (.mov (.t 5)), none, [], 0⟩,
  ⟨(some 11), (.bin .add (.t 10) (.c (.s (.int .i64 1)))), none, [], 0⟩,
  ⟨(some 5), (.mov (.t 11)), none, [], 0⟩]
def g12_8 : List AOper := [
  ⟨(some 53), (.mov (.t 1)), none, [], 0⟩,
  ⟨(some 54), (.bin .geq (.t 53) (.c (.s (.int .i64 1)))), none, [], 0⟩,
  ⟨(some 4), (.mov (.t 54)), none, [], 0⟩]
def ac12 : AC :=
  (.seq (.region g12_0 live12) (.seq (.seq (.region g12_1 live12) (.block 0 (.loop (.seq (.seq (.region g12_2 live12) (.cond (.t 9) .skip (.exit 0))) (.seq (.block 1 (.seq (.seq (.drawn g12_3 live12) (.cond (.t 33) (.seq (.region g12_4 live12) .ret) .skip)) (.seq (.drawn g12_5 live12) (.cond (.t 52) (.seq (.region g12_6 live12) .ret) .skip)))) (.region g12_7 live12)))))) (.seq (.region g12_8 live12) .ret)))
theorem fn12 : Den.Fn Try.prog 12 55 res12 ac12 := ⟨⟨Try.f12, _, live12, Try.func12, rfl, by kernel_rfl, rfl, by kernel_rfl, by kernel_rfl⟩⟩

/-- chapman/chapmanref14.Same; parameters: 2 -/
def live13 : List Nat := [0, 1, 2, 3, 4, 5, 6, 7, 32, 37, 50, 55, 68, 73, 86]
def res13 : List RO := [(.t 4)]
def g13_0 : List AOper := [
  ⟨(some 2), (.box (.t 0)), none, [], 0⟩,
  ⟨(some 3), (.box (.t 1)), none, [], 0⟩,
  ⟨(some 4), (.mov (.c (.s (.bool .false)))), none, [], 0⟩]
def g13_1 : List AOper := [
  ⟨(some 8), (.fad 0 (.t 2)), none, [], 0⟩,
  ⟨(some 9), (.load 1 .false (.t 8)), none, [], 0⟩,
  ⟨(some 10), (.len (.t 9)), none, [], 0⟩,
  ⟨(some 11), (.fad 0 (.t 3)), none, [], 0⟩,
  ⟨(some 12), (.load 1 .false (.t 11)), none, [], 0⟩,
  ⟨(some 13), (.len (.t 12)), none, [], 0⟩,
  ⟨(some 14), (.bin .neq (.t 10) (.t 13)), none, [], 0⟩,
  ⟨(some 15), (.mov (.t 14)), none, [], 0⟩,
  ⟨(some 16), (.fad 1 (.t 2)), (some (15, .false)), [], 0⟩,
  ⟨(some 17), (.load 1 .false (.t 16)), (some (15, .false)), [], 0⟩,
  ⟨(some 18), (.len (.t 17)), (some (15, .false)), [], 0⟩,
  ⟨(some 19), (.fad 1 (.t 3)), (some (15, .false)), [], 0⟩,
  ⟨(some 20), (.load 1 .false (.t 19)), (some (15, .false)), [], 0⟩,
  ⟨(some 21), (.len (.t 20)), (some (15, .false)), [], 0⟩,
  ⟨(some 22), (.bin .neq (.t 18) (.t 21)), (some (15, .false)), [], 0⟩,
  ⟨(some 23), (.pick (.t 15) (.c (.s (.bool .true))) (.t 22)), none, [], 0⟩,
  ⟨(some 24), (.mov (.t 23)), none, [], 0⟩,
  ⟨(some 25), (.fad 2 (.t 2)), (some (24, .false)), [], 0⟩,
  ⟨(some 26), (.load 1 .false (.t 25)), (some (24, .false)), [], 0⟩,
  ⟨(some 27), (.len (.t 26)), (some (24, .false)), [], 0⟩,
  ⟨(some 28), (.fad 2 (.t 3)), (some (24, .false)), [], 0⟩,
  ⟨(some 29), (.load 1 .false (.t 28)), (some (24, .false)), [], 0⟩,
  ⟨(some 30), (.len (.t 29)), (some (24, .false)), [], 0⟩,
  ⟨(some 31), (.bin .neq (.t 27) (.t 30)), (some (24, .false)), [], 0⟩,
  ⟨(some 32), (.pick (.t 24) (.c (.s (.bool .true))) (.t 31)), none, [], 0⟩]
def g13_2 : List AOper := [
  ⟨(some 4), (.mov (.c (.s (.bool .false)))), none, [], 0⟩]
def g13_3 : List AOper := [
  ⟨(some 5), (.mov (.c (.s (.int .i64 0)))), none, [], 0⟩]
def g13_4 : List AOper := [
  ⟨(some 33), (.mov (.t 5)), none, [], 0⟩,
  ⟨(some 34), (.fad 0 (.t 2)), none, [], 0⟩,
  ⟨(some 35), (.load 1 .false (.t 34)), none, [], 0⟩,
  ⟨(some 36), (.len (.t 35)), none, [], 0⟩,
  ⟨(some 37), (.bin .lss (.t 33) (.t 36)), none, [], 0⟩]
def g13_5 : List AOper := [
  ⟨(some 40), (.fad 0 (.t 2)), none, [], 0⟩,
  ⟨(some 41), (.load 1 .false (.t 40)), none, [], 1⟩,
  ⟨(some 42), (.mov (.t 5)), none, [], 2⟩,
  ⟨(some 43), (.iad 5 (.t 41) (.t 42)), none, [], 3⟩,
  ⟨(some 44), (.load 5 .true (.t 43)), none, [], 4⟩,
  ⟨(some 45), (.fad 0 (.t 3)), none, [], 5⟩,
  ⟨(some 46), (.load 1 .false (.t 45)), none, [1, 4], 6⟩,
  ⟨(some 47), (.mov (.t 5)), none, [], 7⟩,
  ⟨(some 48), (.iad 5 (.t 46) (.t 47)), none, [], 8⟩,
  ⟨(some 49), (.load 5 .true (.t 48)), none, [1, 4], 9⟩,
  ⟨(some 50), (.eqA .true [0, 0, 2, 0, 0] (.t 44) (.t 49)), none, [], 10⟩]
def g13_6 : List AOper := [
  ⟨(some 4), (.mov (.c (.s (.bool .false)))), none, [], 0⟩]
def g13_7 : List AOper := [
  ⟨(some 38), (.mov (.t 5)), none, [], 0⟩,
  ⟨(some 39), (.bin .add (.t 38) (.c (.s (.int .i64 1)))), none, [], 0⟩,
  ⟨(some 5), (.mov (.t 39)), none, [], 0⟩]
def g13_8 : List AOper := [
  ⟨(some 6), (.mov (.c (.s (.int .i64 0)))), none, [], 0⟩]
def g13_9 : List AOper := [
  ⟨(some 51), (.mov (.t 6)), none, [], 0⟩,
  ⟨(some 52), (.fad 1 (.t 2)), none, [], 0⟩,
  ⟨(some 53), (.load 1 .false (.t 52)), none, [], 0⟩,
  ⟨(some 54), (.len (.t 53)), none, [], 0⟩,
  ⟨(some 55), (.bin .lss (.t 51) (.t 54)), none, [], 0⟩]
def g13_10 : List AOper := [
  ⟨(some 58), (.fad 1 (.t 2)), none, [], 0⟩,
  ⟨(some 59), (.load 1 .false (.t 58)), none, [], 1⟩,
  ⟨(some 60), (.mov (.t 6)), none, [], 2⟩,
  ⟨(some 61), (.iad 1 (.t 59) (.t 60)), none, [], 3⟩,
  ⟨(some 62), (.load 1 .false (.t 61)), none, [], 4⟩,
  ⟨(some 63), (.fad 1 (.t 3)), none, [], 5⟩,
  ⟨(some 64), (.load 1 .false (.t 63)), none, [1, 4], 6⟩,
  ⟨(some 65), (.mov (.t 6)), none, [], 7⟩,
  ⟨(some 66), (.iad 1 (.t 64) (.t 65)), none, [], 8⟩,
  ⟨(some 67), (.load 1 .false (.t 66)), none, [1, 4], 9⟩,
  ⟨(some 68), (.bin .neq (.t 62) (.t 67)), none, [], 10⟩]
def g13_11 : List AOper := [
  ⟨(some 4), (.mov (.c (.s (.bool .false)))), none, [], 0⟩]
def g13_12 : List AOper := [
  ⟨(some 56), (.mov (.t 6)), none, [], 0⟩,
  ⟨(some 57), (.bin .add (.t 56) (.c (.s (.int .i64 1)))), none, [], 0⟩,
  ⟨(some 6), (.mov (.t 57)), none, [], 0⟩]
def g13_13 : List AOper := [
  ⟨(some 7), (.mov (.c (.s (.int .i64 0)))), none, [], 0⟩]
def g13_14 : List AOper := [
  ⟨(some 69), (.mov (.t 7)), none, [], 0⟩,
  ⟨(some 70), (.fad 2 (.t 2)), none, [], 0⟩,
  ⟨(some 71), (.load 1 .false (.t 70)), none, [], 0⟩,
  ⟨(some 72), (.len (.t 71)), none, [], 0⟩,
  ⟨(some 73), (.bin .lss (.t 69) (.t 72)), none, [], 0⟩]
def g13_15 : List AOper := [
  ⟨(some 76), (.fad 2 (.t 2)), none, [], 0⟩,
  ⟨(some 77), (.load 1 .false (.t 76)), none, [], 1⟩,
  ⟨(some 78), (.mov (.t 7)), none, [], 2⟩,
  ⟨(some 79), (.iad 2 (.t 77) (.t 78)), none, [], 3⟩,
  ⟨(some 80), (.load 2 .true (.t 79)), none, [], 4⟩,
  ⟨(some 81), (.fad 2 (.t 3)), none, [], 5⟩,
  ⟨(some 82), (.load 1 .false (.t 81)), none, [1, 4], 6⟩,
  ⟨(some 83), (.mov (.t 7)), none, [], 7⟩,
  ⟨(some 84), (.iad 2 (.t 82) (.t 83)), none, [], 8⟩,
  ⟨(some 85), (.load 2 .true (.t 84)), none, [1, 4], 9⟩,
  ⟨(some 86), (.eqA .true [0, 0] (.t 80) (.t 85)), none, [], 10⟩]
def g13_16 : List AOper := [
  ⟨(some 4), (.mov (.c (.s (.bool .false)))), none, [], 0⟩]
def g13_17 : List AOper := [
  ⟨(some 74), (.mov (.t 7)), none, [], 0⟩,
  ⟨(some 75), (.bin .add (.t 74) (.c (.s (.int .i64 1)))), none, [], 0⟩,
  ⟨(some 7), (.mov (.t 75)), none, [], 0⟩]
def g13_18 : List AOper := [
  ⟨(some 4), (.mov (.c (.s (.bool .true)))), none, [], 0⟩]
def ac13 : AC :=
  (.seq (.region g13_0 live13) (.seq (.seq (.region g13_1 live13) (.cond (.t 32) (.seq (.region g13_2 live13) .ret) .skip)) (.seq (.seq (.region g13_3 live13) (.block 0 (.loop (.seq (.seq (.region g13_4 live13) (.cond (.t 37) .skip (.exit 0))) (.seq (.block 1 (.seq (.drawn g13_5 live13) (.cond (.t 50) (.seq (.region g13_6 live13) .ret) .skip))) (.region g13_7 live13)))))) (.seq (.seq (.region g13_8 live13) (.block 2 (.loop (.seq (.seq (.region g13_9 live13) (.cond (.t 55) .skip (.exit 2))) (.seq (.block 3 (.seq (.drawn g13_10 live13) (.cond (.t 68) (.seq (.region g13_11 live13) .ret) .skip))) (.region g13_12 live13)))))) (.seq (.seq (.region g13_13 live13) (.block 4 (.loop (.seq (.seq (.region g13_14 live13) (.cond (.t 73) .skip (.exit 4))) (.seq (.block 5 (.seq (.drawn g13_15 live13) (.cond (.t 86) (.seq (.region g13_16 live13) .ret) .skip))) (.region g13_17 live13)))))) (.seq (.region g13_18 live13) .ret))))))
theorem fn13 : Den.Fn Try.prog 13 87 res13 ac13 := ⟨⟨Try.f13, _, live13, Try.func13, rfl, by kernel_rfl, rfl, by kernel_rfl, by kernel_rfl⟩⟩

/-- chapman/chapmanref14.Alike; parameters: 2 -/
def live14 : List Nat := [0, 1, 2, 3, 4]
def res14 : List RO := [(.t 4)]
def g14_0 : List AOper := [
  ⟨(some 2), (.box (.t 0)), none, [], 0⟩,
  ⟨(some 3), (.box (.t 1)), none, [], 0⟩,
  ⟨(some 4), (.mov (.c (.s (.bool .false)))), none, [], 0⟩]
def g14_1 : List AOper := [
  ⟨(some 5), (.fad 1 (.t 2)), none, [], 0⟩,
  ⟨(some 6), (.load 1 .false (.t 5)), none, [], 0⟩,
  ⟨(some 7), (.fad 1 (.t 3)), none, [], 0⟩,
  ⟨(some 8), (.load 1 .false (.t 7)), none, [], 0⟩,
  ⟨(some 9), (.bin .eql (.t 6) (.t 8)), none, [], 0⟩,
  ⟨(some 10), (.mov (.t 9)), none, [], 0⟩,
  ⟨(some 11), (.fad 0 (.t 2)), (some (10, .true)), [], 0⟩,
  ⟨(some 12), (.load 1 .false (.t 11)), (some (10, .true)), [], 0⟩,
  ⟨(some 13), (.fad 0 (.t 3)), (some (10, .true)), [], 0⟩,
  ⟨(some 14), (.load 1 .false (.t 13)), (some (10, .true)), [], 0⟩,
  ⟨(some 15), (.call (.c (.f 31 [])) [(.t 12), (.t 14)]), (some (10, .true)), [], 0⟩,
  ⟨(some 16), (.pick (.t 10) (.t 15) (.c (.s (.bool .false)))), none, [], 0⟩,
  ⟨(some 4), (.mov (.t 16)), none, [], 0⟩]
def ac14 : AC :=
  (.seq (.region g14_0 live14) (.seq (.region g14_1 live14) .ret))
theorem fn14 : Den.Fn Try.prog 14 17 res14 ac14 := ⟨⟨Try.f14, _, live14, Try.func14, rfl, by kernel_rfl, rfl, by kernel_rfl, by kernel_rfl⟩⟩

/-- chapman/chapmanlaw14.without; parameters: 3 -/
def live15 : List Nat := [0, 1, 2, 6, 7, 8]
def res15 : List RO := [(.c 6 2 .true)]
def g15_0 : List AOper := [
  ⟨(some 6), (.new [(.d .true 3 []), (.s (.int .i64 0))]), none, [], 0⟩]
def g15_1 : List AOper := [
  ⟨(some 10), (.mov (.t 0)), none, [], 0⟩,
  ⟨(some 11), (.mov (.t 1)), none, [], 0⟩,
  ⟨(some 12), (.mov (.t 2)), none, [], 0⟩,
  ⟨(some 13), (.call (.c (.f 45 [])) [(.t 10), (.t 11), (.t 12)]), none, [], 0⟩,
  ⟨(some 9), (.mov (.t 13)), none, [], 0⟩,
  ⟨(some 14), (.ext (.t 9) 0), none, [], 0⟩,
  ⟨(some 15), (.ext (.t 9) 1), none, [], 0⟩,
  ⟨(some 7), (.mov (.t 14)), none, [], 0⟩,
  ⟨(some 8), (.mov (.t 15)), none, [], 0⟩]
def g15_2 : List AOper := [
  ⟨(some 16), (.mov (.t 7)), none, [], 0⟩,
  ⟨(some 17), (.mov (.t 8)), none, [], 0⟩,
  ⟨(some 18), (.build [(.d .true 3 []), (.s (.int .i64 0))] [(0, (1, (.t 16))), (1, (1, (.t 17)))]), none, [], 0⟩,
  ⟨none, (.store 2 (.t 6) (.t 18)), none, [], 0⟩]
def ac15 : AC :=
  (.seq (.region g15_0 live15) (.seq (.region g15_1 live15) (.seq (.region g15_2 live15) .ret)))
theorem fn15 : Den.Fn Try.prog 15 19 res15 ac15 := ⟨⟨Try.f15, _, live15, Try.func15, rfl, by kernel_rfl, rfl, by kernel_rfl, by kernel_rfl⟩⟩

/-- chapman/chapmanlaw14.short; parameters: 1 -/
def live16 : List Nat := [0, 2, 3, 11, 38]
def res16 : List RO := [(.t 2)]
def g16_0 : List AOper := [
  ⟨(some 2), (.mov (.c (.s (.bool .false)))), none, [], 0⟩]
def g16_1 : List AOper := [
  ⟨(some 3), (.mov (.c (.s (.int .i64 0)))), none, [], 0⟩]
def g16_2 : List AOper := [
  ⟨(some 4), (.mov (.t 3)), none, [], 0⟩,
  ⟨(some 5), (.mov (.t 0)), none, [], 0⟩,
  ⟨(some 6), (.len (.t 5)), none, [], 0⟩,
  ⟨(some 7), (.bin .lss (.t 4) (.t 6)), none, [], 0⟩,
  ⟨(some 8), (.mov (.t 7)), none, [], 0⟩,
  ⟨(some 9), (.mov (.t 3)), (some (8, .true)), [], 0⟩,
  ⟨(some 10), (.bin .lss (.t 9) (.c (.s (.int .i64 13)))), (some (8, .true)), [], 0⟩,
  ⟨(some 11), (.pick (.t 8) (.t 10) (.c (.s (.bool .false)))), none, [], 0⟩]
def g16_3 : List AOper := [
  ⟨(some 14), (.mov (.t 0)), none, [], 0⟩,
  ⟨(some 15), (.mov (.t 3)), none, [], 0⟩,
  ⟨(some 16), (.iad 3 (.t 14) (.t 15)), none, [], 0⟩,
  ⟨(some 17), (.fad 0 (.t 16)), none, [], 0⟩,
  ⟨(some 18), (.load 1 .false (.t 17)), none, [], 0⟩,
  ⟨(some 19), (.len (.t 18)), none, [], 0⟩,
  ⟨(some 20), (.bin .gtr (.t 19) (.c (.s (.int .i64 8)))), none, [], 0⟩,
  ⟨(some 21), (.mov (.t 20)), none, [], 0⟩,
  ⟨(some 22), (.mov (.t 0)), (some (21, .false)), [], 0⟩,
  ⟨(some 23), (.mov (.t 3)), (some (21, .false)), [], 0⟩,
  ⟨(some 24), (.iad 3 (.t 22) (.t 23)), (some (21, .false)), [], 0⟩,
  ⟨(some 25), (.fad 1 (.t 24)), (some (21, .false)), [], 0⟩,
  ⟨(some 26), (.load 1 .false (.t 25)), (some (21, .false)), [], 0⟩,
  ⟨(some 27), (.len (.t 26)), (some (21, .false)), [], 0⟩,
  ⟨(some 28), (.bin .gtr (.t 27) (.c (.s (.int .i64 8)))), (some (21, .false)), [], 0⟩,
  ⟨(some 29), (.pick (.t 21) (.c (.s (.bool .true))) (.t 28)), none, [], 0⟩,
  ⟨(some 30), (.mov (.t 29)), none, [], 0⟩,
  ⟨(some 31), (.mov (.t 0)), (some (30, .false)), [], 0⟩,
  ⟨(some 32), (.mov (.t 3)), (some (30, .false)), [], 0⟩,
  ⟨(some 33), (.iad 3 (.t 31) (.t 32)), (some (30, .false)), [], 0⟩,
  ⟨(some 34), (.fad 2 (.t 33)), (some (30, .false)), [], 0⟩,
  ⟨(some 35), (.load 1 .false (.t 34)), (some (30, .false)), [], 0⟩,
  ⟨(some 36), (.len (.t 35)), (some (30, .false)), [], 0⟩,
  ⟨(some 37), (.bin .gtr (.t 36) (.c (.s (.int .i64 8)))), (some (30, .false)), [], 0⟩,
  ⟨(some 38), (.pick (.t 30) (.c (.s (.bool .true))) (.t 37)), none, [], 0⟩]
def g16_4 : List AOper := [
  ⟨(some 2), (.mov (.c (.s (.bool .false)))), none, [], 0⟩]
def g16_5 : List AOper := [
  ⟨(some 12), (.mov (.t 3)), none, [], 0⟩,
  ⟨(some 13), (.bin .add (.t 12) (.c (.s (.int .i64 1)))), none, [], 0⟩,
  ⟨(some 3), (.mov (.t 13)), none, [], 0⟩]
def g16_6 : List AOper := [
  ⟨(some 39), (.mov (.t 0)), none, [], 0⟩,
  ⟨(some 40), (.len (.t 39)), none, [], 0⟩,
  ⟨(some 41), (.bin .leq (.t 40) (.c (.s (.int .i64 12)))), none, [], 0⟩,
  ⟨(some 2), (.mov (.t 41)), none, [], 0⟩]
def ac16 : AC :=
  (.seq (.region g16_0 live16) (.seq (.seq (.region g16_1 live16) (.block 0 (.loop (.seq (.seq (.region g16_2 live16) (.cond (.t 11) .skip (.exit 0))) (.seq (.block 1 (.seq (.region g16_3 live16) (.cond (.t 38) (.seq (.region g16_4 live16) .ret) .skip))) (.region g16_5 live16)))))) (.seq (.region g16_6 live16) .ret)))
theorem fn16 : Den.Fn Try.prog 16 42 res16 ac16 := ⟨⟨Try.f16, _, live16, Try.func16, rfl, by kernel_rfl, rfl, by kernel_rfl, by kernel_rfl⟩⟩

/-- chapman/table.Valid; parameters: 2 -/
def live17 : List Nat := [0, 1, 4, 5, 6, 7, 9, 12, 13, 14, 15, 49]
def res17 : List RO := [(.t 4)]
def g17_0 : List AOper := [
  ⟨(some 4), (.mov (.c (.s (.bool .false)))), none, [], 0⟩]
def g17_1 : List AOper := [
  ⟨(some 8), (.mov (.t 1)), none, [], 0⟩,
  ⟨(some 9), (.bin .lss (.t 8) (.c (.s (.int .i64 1)))), none, [], 0⟩]
def g17_2 : List AOper := [
  ⟨(some 4), (.mov (.c (.s (.bool .false)))), none, [], 0⟩]
def g17_3 : List AOper := [
  ⟨(some 10), (.mov (.t 1)), none, [], 0⟩,
  ⟨(some 11), (.call (.c (.f 46 [])) [(.t 10)]), none, [], 0⟩,
  ⟨(some 5), (.mov (.t 11)), none, [], 0⟩]
def g17_4 : List AOper := [
  ⟨(some 12), (.mov (.t 0)), none, [], 0⟩,
  ⟨(some 13), (.len (.t 12)), none, [], 0⟩,
  ⟨(some 14), (.mov (.c (.s (.int .i64 0)))), none, [], 0⟩]
def g17_5 : List AOper := [
  ⟨(some 15), (.bin .lss (.t 14) (.t 13)), none, [], 0⟩]
def g17_6 : List AOper := [
  ⟨(some 16), (.mov (.t 14)), none, [], 0⟩,
  ⟨(some 17), (.iad 3 (.t 12) (.t 14)), none, [], 0⟩,
  ⟨(some 18), (.load 3 .true (.t 17)), none, [], 0⟩,
  ⟨(some 7), (.new [(.d .true 5 []), (.d .true 1 []), (.d .true 2 [])]), none, [], 0⟩,
  ⟨(some 6), (.mov (.t 16)), none, [], 0⟩,
  ⟨none, (.store 3 (.t 7) (.t 18)), none, [], 0⟩]
def g17_7 : List AOper := [
  ⟨(some 19), (.fad 0 (.t 7)), none, [], 0⟩,
  ⟨(some 20), (.load 1 .false (.t 19)), none, [], 1⟩,
  ⟨(some 21), (.len (.t 20)), none, [], 2⟩,
  ⟨(some 22), (.mov (.t 1)), none, [], 3⟩,
  ⟨(some 23), (.bin .lss (.t 21) (.t 22)), none, [], 4⟩,
  ⟨(some 24), (.mov (.t 23)), none, [], 5⟩,
  ⟨(some 25), (.fad 0 (.t 7)), (some (24, .false)), [], 6⟩,
  ⟨(some 26), (.load 1 .false (.t 25)), (some (24, .false)), [], 7⟩,
  ⟨(some 27), (.len (.t 26)), (some (24, .false)), [], 8⟩,
  ⟨(some 28), (.mov (.t 0)), (some (24, .false)), [], 9⟩,
  ⟨(some 29), (.iad 3 (.t 28) (.c (.s (.int .i64 0)))), (some (24, .false)), [], 10⟩,
  ⟨(some 30), (.fad 0 (.t 29)), (some (24, .false)), [], 11⟩,
  ⟨(some 31), (.load 1 .false (.t 30)), (some (24, .false)), [7], 12⟩,
  ⟨(some 32), (.len (.t 31)), (some (24, .false)), [], 13⟩,
  ⟨(some 33), (.bin .neq (.t 27) (.t 32)), (some (24, .false)), [], 14⟩,
  ⟨(some 34), (.pick (.t 24) (.c (.s (.bool .true))) (.t 33)), none, [], 15⟩,
  ⟨(some 35), (.mov (.t 34)), none, [], 16⟩,
  ⟨(some 36), (.mov (.t 6)), (some (35, .false)), [], 17⟩,
  ⟨(some 37), (.bin .gtr (.t 36) (.c (.s (.int .i64 0)))), (some (35, .false)), [], 18⟩,
  ⟨(some 38), (.mov (.t 37)), (some (35, .false)), [], 19⟩,
  ⟨(some 39), (.mov (.t 5)), (some (38, .true)), [], 20⟩,
  ⟨(some 40), (.mov (.t 0)), (some (38, .true)), [], 21⟩,
  ⟨(some 41), (.mov (.t 6)), (some (38, .true)), [], 22⟩,
  ⟨(some 42), (.bin .sub (.t 41) (.c (.s (.int .i64 1)))), (some (38, .true)), [], 23⟩,
  ⟨(some 43), (.iad 3 (.t 40) (.t 42)), (some (38, .true)), [], 24⟩,
  ⟨(some 44), (.load 3 .true (.t 43)), (some (38, .true)), [], 25⟩,
  ⟨(some 45), (.load 3 .true (.t 7)), (some (38, .true)), [25], 26⟩,
  ⟨(some 46), (.call (.t 39) [(.t 44), (.t 45)]), (some (38, .true)), [], 27⟩,
  ⟨(some 47), (.bin .geq (.t 46) (.c (.s (.int .i64 0)))), (some (38, .true)), [], 28⟩,
  ⟨(some 48), (.pick (.t 38) (.t 47) (.c (.s (.bool .false)))), (some (35, .false)), [], 29⟩,
  ⟨(some 49), (.pick (.t 35) (.c (.s (.bool .true))) (.t 48)), none, [], 30⟩]
def g17_8 : List AOper := [
  ⟨(some 4), (.mov (.c (.s (.bool .false)))), none, [], 0⟩]
def g17_9 : List AOper := [
  ⟨(some 50), (.bin .add (.t 14) (.c (.s (.int .i64 1)))), none, [], 0⟩,
  ⟨(some 14), (.mov (.t 50)), none, [], 0⟩]
def g17_10 : List AOper := [
  ⟨(some 4), (.mov (.c (.s (.bool .true)))), none, [], 0⟩]
def ac17 : AC :=
  (.seq (.region g17_0 live17) (.seq (.seq (.region g17_1 live17) (.cond (.t 9) (.seq (.region g17_2 live17) .ret) .skip)) (.seq (.region g17_3 live17) (.seq (.seq (.region g17_4 live17) (.block 0 (.loop (.seq (.region g17_5 live17) (.seq (.cond (.t 15) .skip (.exit 0)) (.seq (.block 1 (.seq (.region g17_6 live17) (.seq (.drawn g17_7 live17) (.cond (.t 49) (.seq (.region g17_8 live17) .ret) .skip)))) (.region g17_9 live17))))))) (.seq (.region g17_10 live17) .ret)))))
theorem fn17 : Den.Fn Try.prog 17 51 res17 ac17 := ⟨⟨Try.f17, _, live17, Try.func17, rfl, by kernel_rfl, rfl, by kernel_rfl, by kernel_rfl⟩⟩

/-- chapman/chapmanlaw14.sorted; parameters: 2 -/
def live18 : List Nat := [0, 1, 4, 5, 6]
def res18 : List RO := [(.c 4 2 .true)]
def g18_0 : List AOper := [
  ⟨(some 4), (.new [(.d .true 3 []), (.s (.int .i64 0))]), none, [], 0⟩]
def g18_1 : List AOper := [
  ⟨(some 8), (.mov (.t 0)), none, [], 0⟩,
  ⟨(some 9), (.mov (.t 1)), none, [], 0⟩,
  ⟨(some 10), (.call (.c (.f 47 [])) [(.t 8), (.t 9)]), none, [], 0⟩,
  ⟨(some 7), (.mov (.t 10)), none, [], 0⟩,
  ⟨(some 11), (.ext (.t 7) 0), none, [], 0⟩,
  ⟨(some 12), (.ext (.t 7) 1), none, [], 0⟩,
  ⟨(some 5), (.mov (.t 11)), none, [], 0⟩,
  ⟨(some 6), (.mov (.t 12)), none, [], 0⟩]
def g18_2 : List AOper := [
  ⟨(some 13), (.mov (.t 5)), none, [], 0⟩,
  ⟨(some 14), (.mov (.t 6)), none, [], 0⟩,
  ⟨(some 15), (.build [(.d .true 3 []), (.s (.int .i64 0))] [(0, (1, (.t 13))), (1, (1, (.t 14)))]), none, [], 0⟩,
  ⟨none, (.store 2 (.t 4) (.t 15)), none, [], 0⟩]
def ac18 : AC :=
  (.seq (.region g18_0 live18) (.seq (.region g18_1 live18) (.seq (.region g18_2 live18) .ret)))
theorem fn18 : Den.Fn Try.prog 18 16 res18 ac18 := ⟨⟨Try.f18, _, live18, Try.func18, rfl, by kernel_rfl, rfl, by kernel_rfl, by kernel_rfl⟩⟩

/-- chapman/chapmanref14.OfIn; parameters: 2 -/
def live19 : List Nat := [0, 1, 4, 5, 6, 7, 12, 34, 55]
def res19 : List RO := [(.c 4 2 .true)]
def g19_0 : List AOper := [
  ⟨(some 4), (.new [(.d .true 3 []), (.s (.int .i64 0))]), none, [], 0⟩]
def g19_1 : List AOper := [
  ⟨(some 8), (.bslice 3 [] []), none, [], 0⟩,
  ⟨(some 5), (.mov (.t 8)), none, [], 0⟩]
def g19_2 : List AOper := [
  ⟨(some 6), (.mov (.c (.s (.int .i64 0)))), none, [], 0⟩]
def g19_3 : List AOper := [
  ⟨(some 9), (.mov (.t 6)), none, [], 0⟩,
  ⟨(some 10), (.mov (.t 0)), none, [], 0⟩,
  ⟨(some 11), (.len (.t 10)), none, [], 0⟩,
  ⟨(some 12), (.bin .lss (.t 9) (.t 11)), none, [], 0⟩]
def g19_4 : List AOper := [
  ⟨(some 7), (.mov (.c (.s (.int .i64 0)))), none, [], 0⟩]
def g19_5 : List AOper := [
  ⟨(some 15), (.mov (.t 7)), none, [], 0⟩,
  ⟨(some 16), (.mov (.t 5)), none, [], 1⟩,
  ⟨(some 17), (.len (.t 16)), none, [], 2⟩,
  ⟨(some 18), (.bin .lss (.t 15) (.t 17)), none, [], 3⟩,
  ⟨(some 19), (.mov (.t 18)), none, [], 4⟩,
  ⟨(some 20), (.mov (.t 5)), (some (19, .true)), [], 5⟩,
  ⟨(some 21), (.mov (.t 7)), (some (19, .true)), [], 6⟩,
  ⟨(some 22), (.iad 3 (.t 20) (.t 21)), (some (19, .true)), [], 7⟩,
  ⟨(some 23), (.load 3 .true (.t 22)), (some (19, .true)), [], 8⟩,
  ⟨(some 24), (.mov (.t 1)), (some (19, .true)), [], 9⟩,
  ⟨(some 25), (.call (.c (.f 9 [])) [(.t 23), (.t 24)]), (some (19, .true)), [], 10⟩,
  ⟨(some 26), (.mov (.t 0)), (some (19, .true)), [], 11⟩,
  ⟨(some 27), (.mov (.t 6)), (some (19, .true)), [], 12⟩,
  ⟨(some 28), (.iad 3 (.t 26) (.t 27)), (some (19, .true)), [], 13⟩,
  ⟨(some 29), (.load 3 .true (.t 28)), (some (19, .true)), [8, 10], 14⟩,
  ⟨(some 30), (.mov (.t 1)), (some (19, .true)), [], 15⟩,
  ⟨(some 31), (.call (.c (.f 9 [])) [(.t 29), (.t 30)]), (some (19, .true)), [], 16⟩,
  ⟨(some 32), (.call (.c (.f 44 [])) [(.t 25), (.t 31)]), (some (19, .true)), [], 17⟩,
  ⟨(some 33), (.bin .lss (.t 32) (.c (.s (.int .i64 0)))), (some (19, .true)), [], 18⟩,
  ⟨(some 34), (.pick (.t 19) (.t 33) (.c (.s (.bool .false)))), none, [], 19⟩]
def g19_6 : List AOper := [
  ⟨(some 35), (.mov (.t 7)), none, [], 0⟩,
  ⟨(some 36), (.bin .add (.t 35) (.c (.s (.int .i64 1)))), none, [], 0⟩,
  ⟨(some 7), (.mov (.t 36)), none, [], 0⟩]
def g19_7 : List AOper := [
  ⟨(some 37), (.bslice 3 [] []), none, [], 0⟩,
  ⟨(some 38), (.mov (.t 5)), none, [], 1⟩,
  ⟨(some 39), (.mov (.t 7)), none, [], 2⟩,
  ⟨(some 40), (.slc 3 (.t 38) none (some (.t 39)) none), none, [], 3⟩,
  ⟨(some 41), (.app 3 72 (.t 37) (.t 40)), none, [], 4⟩,
  ⟨(some 42), (.mov (.t 0)), none, [], 5⟩,
  ⟨(some 43), (.mov (.t 6)), none, [], 6⟩,
  ⟨(some 44), (.iad 3 (.t 42) (.t 43)), none, [], 7⟩,
  ⟨(some 45), (.load 3 .true (.t 44)), none, [0, 4], 8⟩,
  ⟨(some 46), (.bslice 3 [[(.d .true 5 []), (.d .true 1 []), (.d .true 2 [])]] [(0, (.t 45))]), none, [0, 4], 9⟩,
  ⟨(some 47), (.app 3 72 (.t 41) (.t 46)), none, [], 10⟩,
  ⟨(some 48), (.mov (.t 5)), none, [], 11⟩,
  ⟨(some 49), (.mov (.t 7)), none, [], 12⟩,
  ⟨(some 50), (.slc 3 (.t 48) (some (.t 49)) none none), none, [], 13⟩,
  ⟨(some 51), (.app 3 72 (.t 47) (.t 50)), none, [], 14⟩,
  ⟨(some 5), (.mov (.t 51)), none, [], 15⟩]
def g19_8 : List AOper := [
  ⟨(some 13), (.mov (.t 6)), none, [], 0⟩,
  ⟨(some 14), (.bin .add (.t 13) (.c (.s (.int .i64 1)))), none, [], 0⟩,
  ⟨(some 6), (.mov (.t 14)), none, [], 0⟩]
def g19_9 : List AOper := [
  ⟨(some 52), (.mov (.t 5)), none, [], 0⟩,
  ⟨(some 53), (.mov (.t 1)), none, [], 0⟩,
  ⟨(some 54), (.call (.c (.f 12 [])) [(.t 52), (.t 53)]), none, [], 0⟩,
  ⟨(some 55), (.un .not (.t 54)), none, [], 0⟩]
def g19_10 : List AOper := [
  ⟨(some 56), (.build [(.d .true 3 []), (.s (.int .i64 0))] [(1, (1, (.c (.s (.int .i64 140)))))]), none, [], 0⟩,
  ⟨none, (.store 2 (.t 4) (.t 56)), none, [], 0⟩]
def g19_11 : List AOper := [
  ⟨(some 57), (.mov (.t 5)), none, [], 0⟩,
  ⟨(some 58), (.build [(.d .true 3 []), (.s (.int .i64 0))] [(0, (1, (.t 57)))]), none, [], 0⟩,
  ⟨none, (.store 2 (.t 4) (.t 58)), none, [], 0⟩]
def ac19 : AC :=
  (.seq (.region g19_0 live19) (.seq (.region g19_1 live19) (.seq (.seq (.region g19_2 live19) (.block 0 (.loop (.seq (.seq (.region g19_3 live19) (.cond (.t 12) .skip (.exit 0))) (.seq (.block 1 (.seq (.region g19_4 live19) (.seq (.block 2 (.loop (.seq (.seq (.drawn g19_5 live19) (.cond (.t 34) .skip (.exit 2))) (.block 3 (.region g19_6 live19))))) (.drawn g19_7 live19)))) (.region g19_8 live19)))))) (.seq (.seq (.region g19_9 live19) (.cond (.t 55) (.seq (.region g19_10 live19) .ret) .skip)) (.seq (.region g19_11 live19) .ret)))))
theorem fn19 : Den.Fn Try.prog 19 59 res19 ac19 := ⟨⟨Try.f19, _, live19, Try.func19, rfl, by kernel_rfl, rfl, by kernel_rfl, by kernel_rfl⟩⟩

/-- chapman/chapmanref14.Spoiled; parameters: 2 -/
def live20 : List Nat := [0, 1, 2, 3, 4, 5, 6, 23, 36, 45, 63, 81, 94, 104]
def res20 : List RO := [(.c 4 3 .true)]
def g20_0 : List AOper := [
  ⟨(some 2), (.box (.t 0)), none, [], 0⟩,
  ⟨(some 3), (.box (.t 1)), none, [], 0⟩,
  ⟨(some 4), (.new [(.d .true 5 []), (.d .true 1 []), (.d .true 2 [])]), none, [], 0⟩]
def g20_1 : List AOper := [
  ⟨(some 7), (.bslice 5 [] []), none, [], 0⟩,
  ⟨(some 8), (.fad 0 (.t 2)), none, [], 1⟩,
  ⟨(some 9), (.load 1 .false (.t 8)), none, [0], 2⟩,
  ⟨(some 10), (.app 5 48 (.t 7) (.t 9)), none, [], 3⟩,
  ⟨(some 11), (.bslice 1 [] []), none, [0, 2, 3], 4⟩,
  ⟨(some 12), (.fad 1 (.t 2)), none, [], 5⟩,
  ⟨(some 13), (.load 1 .false (.t 12)), none, [0, 2, 3, 4], 6⟩,
  ⟨(some 14), (.app 1 8 (.t 11) (.t 13)), none, [], 7⟩,
  ⟨(some 15), (.bslice 2 [] []), none, [0, 2, 3, 4, 6, 7], 8⟩,
  ⟨(some 16), (.fad 2 (.t 2)), none, [], 9⟩,
  ⟨(some 17), (.load 1 .false (.t 16)), none, [0, 2, 3, 4, 6, 7, 8], 10⟩,
  ⟨(some 18), (.app 2 16 (.t 15) (.t 17)), none, [], 11⟩,
  ⟨(some 19), (.build [(.d .true 5 []), (.d .true 1 []), (.d .true 2 [])] [(0, (1, (.t 10))), (1, (1, (.t 14))), (2, (1, (.t 18)))]), none, [], 12⟩,
  ⟨(some 5), (.new [(.d .true 5 []), (.d .true 1 []), (.d .true 2 [])]), none, [0, 2, 3, 4, 6, 7, 8, 10, 11], 13⟩,
  ⟨none, (.store 3 (.t 5) (.t 19)), none, [], 14⟩]
def g20_2 : List AOper := [
  ⟨(some 20), (.fad 0 (.t 5)), none, [], 0⟩,
  ⟨(some 21), (.load 1 .false (.t 20)), none, [], 0⟩,
  ⟨(some 22), (.len (.t 21)), none, [], 0⟩,
  ⟨(some 23), (.bin .eql (.t 22) (.c (.s (.int .i64 0)))), none, [], 0⟩]
def g20_3 : List AOper := [
  ⟨(some 24), (.build [(.s (.int .i64 0)), (.s (.int .i64 0)), (.s (.string (ByteArray.mk #[]))), (.s (.int .i64 0)), (.s (.int .i64 0))] []), none, [], 0⟩,
  ⟨(some 25), (.bslice 5 [[(.s (.int .i64 0)), (.s (.int .i64 0)), (.s (.string (ByteArray.mk #[]))), (.s (.int .i64 0)), (.s (.int .i64 0))]] [(0, (.t 24))]), none, [], 0⟩,
  ⟨(some 26), (.build [(.d .true 5 []), (.d .true 1 []), (.d .true 2 [])] [(0, (1, (.t 25)))]), none, [], 0⟩,
  ⟨none, (.store 3 (.t 4) (.t 26)), none, [], 0⟩]
def g20_4 : List AOper := [
  ⟨(some 27), (.iadA 3 1 (.t 3) (.c (.s (.int .i64 1)))), none, [], 0⟩,
  ⟨(some 28), (.load 1 .false (.t 27)), none, [], 0⟩,
  ⟨(some 29), (.cvI .i64 (.t 28)), none, [], 0⟩,
  ⟨(some 30), (.fad 0 (.t 5)), none, [], 0⟩,
  ⟨(some 31), (.load 1 .false (.t 30)), none, [], 0⟩,
  ⟨(some 32), (.len (.t 31)), none, [], 0⟩,
  ⟨(some 33), (.bin .rem (.t 29) (.t 32)), none, [], 0⟩,
  ⟨(some 6), (.mov (.t 33)), none, [], 0⟩]
def g20_5 : List AOper := [
  ⟨(some 34), (.iadA 3 1 (.t 3) (.c (.s (.int .i64 0)))), none, [], 0⟩,
  ⟨(some 35), (.load 1 .false (.t 34)), none, [], 0⟩,
  ⟨(some 36), (.bin .rem (.t 35) (.c (.s (.int .u8 6)))), none, [], 0⟩]
def g20_6 : List AOper := [
  ⟨(some 46), (.bin .eql (.t 36) (.c (.s (.int .u8 0)))), none, [], 0⟩,
  ⟨(some 45), (.mov (.t 46)), none, [], 0⟩]
def g20_7 : List AOper := [
  ⟨(some 47), (.fad 0 (.t 5)), none, [], 0⟩,
  ⟨(some 48), (.load 1 .false (.t 47)), none, [], 1⟩,
  ⟨(some 49), (.mov (.t 6)), none, [], 2⟩,
  ⟨(some 50), (.iad 5 (.t 48) (.t 49)), none, [], 3⟩,
  ⟨(some 51), (.fad 0 (.t 50)), none, [], 4⟩,
  ⟨(some 52), (.fad 1 (.t 51)), none, [], 5⟩,
  ⟨(some 53), (.load 1 .false (.t 52)), none, [], 6⟩,
  ⟨(some 54), (.iadA 3 1 (.t 3) (.c (.s (.int .i64 2)))), none, [], 7⟩,
  ⟨(some 55), (.load 1 .false (.t 54)), none, [1, 6], 8⟩,
  ⟨(some 56), (.bin .rem (.t 55) (.c (.s (.int .u8 3)))), none, [], 9⟩,
  ⟨(some 57), (.cvI .i64 (.t 56)), none, [], 10⟩,
  ⟨(some 58), (.bin .add (.c (.s (.int .i64 1))) (.t 57)), none, [], 11⟩,
  ⟨(some 59), (.bin .add (.t 53) (.t 58)), none, [], 12⟩,
  ⟨(some 60), (.iad 5 (.t 48) (.t 49)), none, [], 13⟩,
  ⟨(some 61), (.fad 0 (.t 60)), none, [], 14⟩,
  ⟨(some 62), (.fad 1 (.t 61)), none, [], 15⟩,
  ⟨none, (.store 1 (.t 62) (.t 59)), none, [], 16⟩]
def g20_8 : List AOper := [
  ⟨(some 64), (.bin .eql (.t 36) (.c (.s (.int .u8 1)))), none, [], 0⟩,
  ⟨(some 63), (.mov (.t 64)), none, [], 0⟩]
def g20_9 : List AOper := [
  ⟨(some 65), (.fad 0 (.t 5)), none, [], 0⟩,
  ⟨(some 66), (.load 1 .false (.t 65)), none, [], 1⟩,
  ⟨(some 67), (.mov (.t 6)), none, [], 2⟩,
  ⟨(some 68), (.iad 5 (.t 66) (.t 67)), none, [], 3⟩,
  ⟨(some 69), (.fad 3 (.t 68)), none, [], 4⟩,
  ⟨(some 70), (.fad 1 (.t 69)), none, [], 5⟩,
  ⟨(some 71), (.load 1 .false (.t 70)), none, [], 6⟩,
  ⟨(some 72), (.iadA 3 1 (.t 3) (.c (.s (.int .i64 2)))), none, [], 7⟩,
  ⟨(some 73), (.load 1 .false (.t 72)), none, [1, 6], 8⟩,
  ⟨(some 74), (.bin .rem (.t 73) (.c (.s (.int .u8 3)))), none, [], 9⟩,
  ⟨(some 75), (.cvI .i64 (.t 74)), none, [], 10⟩,
  ⟨(some 76), (.bin .add (.c (.s (.int .i64 1))) (.t 75)), none, [], 11⟩,
  ⟨(some 77), (.bin .add (.t 71) (.t 76)), none, [], 12⟩,
  ⟨(some 78), (.iad 5 (.t 66) (.t 67)), none, [], 13⟩,
  ⟨(some 79), (.fad 3 (.t 78)), none, [], 14⟩,
  ⟨(some 80), (.fad 1 (.t 79)), none, [], 15⟩,
  ⟨none, (.store 1 (.t 80) (.t 77)), none, [], 16⟩]
def g20_10 : List AOper := [
  ⟨(some 82), (.bin .eql (.t 36) (.c (.s (.int .u8 2)))), none, [], 0⟩,
  ⟨(some 81), (.mov (.t 82)), none, [], 0⟩]
def g20_11 : List AOper := [
  ⟨(some 83), (.fad 0 (.t 5)), none, [], 0⟩,
  ⟨(some 84), (.load 1 .false (.t 83)), none, [], 0⟩,
  ⟨(some 85), (.mov (.t 6)), none, [], 0⟩,
  ⟨(some 86), (.iad 5 (.t 84) (.t 85)), none, [], 0⟩,
  ⟨(some 87), (.fad 0 (.t 86)), none, [], 0⟩,
  ⟨(some 88), (.fad 2 (.t 87)), none, [], 0⟩,
  ⟨(some 89), (.load 1 .false (.t 88)), none, [], 0⟩,
  ⟨(some 90), (.bin .add (.t 89) (.c (.s (.string (ByteArray.mk #[120]))))), none, [], 0⟩,
  ⟨(some 91), (.iad 5 (.t 84) (.t 85)), none, [], 0⟩,
  ⟨(some 92), (.fad 0 (.t 91)), none, [], 0⟩,
  ⟨(some 93), (.fad 2 (.t 92)), none, [], 0⟩,
  ⟨none, (.store 1 (.t 93) (.t 90)), none, [], 0⟩]
def g20_12 : List AOper := [
  ⟨(some 95), (.bin .eql (.t 36) (.c (.s (.int .u8 3)))), none, [], 0⟩,
  ⟨(some 94), (.mov (.t 95)), none, [], 0⟩]
def g20_13 : List AOper := [
  ⟨(some 96), (.fad 1 (.t 5)), none, [], 0⟩,
  ⟨(some 97), (.load 1 .false (.t 96)), none, [], 0⟩,
  ⟨(some 98), (.iadA 3 1 (.t 3) (.c (.s (.int .i64 2)))), none, [], 0⟩,
  ⟨(some 99), (.load 1 .false (.t 98)), none, [], 0⟩,
  ⟨(some 100), (.cvI .i64 (.t 99)), none, [], 0⟩,
  ⟨(some 101), (.bslice 1 [[(.s (.int .i64 0))]] [(0, (.t 100))]), none, [], 0⟩,
  ⟨(some 102), (.app 1 8 (.t 97) (.t 101)), none, [], 0⟩,
  ⟨(some 103), (.fad 1 (.t 5)), none, [], 0⟩,
  ⟨none, (.store 1 (.t 103) (.t 102)), none, [], 0⟩]
def g20_14 : List AOper := [
  ⟨(some 105), (.bin .eql (.t 36) (.c (.s (.int .u8 4)))), none, [], 0⟩,
  ⟨(some 104), (.mov (.t 105)), none, [], 0⟩]
def g20_15 : List AOper := [
  ⟨(some 106), (.fad 2 (.t 5)), none, [], 0⟩,
  ⟨(some 107), (.load 1 .false (.t 106)), none, [], 0⟩,
  ⟨(some 108), (.iadA 3 1 (.t 3) (.c (.s (.int .i64 2)))), none, [], 0⟩,
  ⟨(some 109), (.load 1 .false (.t 108)), none, [], 0⟩,
  ⟨(some 110), (.cvI .i64 (.t 109)), none, [], 0⟩,
  ⟨(some 111), (.build [(.s (.int .i64 0)), (.s (.int .i64 0))] [(1, (1, (.t 110)))]), none, [], 0⟩,
  ⟨(some 112), (.bslice 2 [[(.s (.int .i64 0)), (.s (.int .i64 0))]] [(0, (.t 111))]), none, [], 0⟩,
  ⟨(some 113), (.app 2 16 (.t 107) (.t 112)), none, [], 0⟩,
  ⟨(some 114), (.fad 2 (.t 5)), none, [], 0⟩,
  ⟨none, (.store 1 (.t 114) (.t 113)), none, [], 0⟩]
def g20_16 : List AOper := [
  ⟨(some 37), (.fad 0 (.t 5)), none, [], 0⟩,
  ⟨(some 38), (.load 1 .false (.t 37)), none, [], 0⟩,
  ⟨(some 39), (.fad 0 (.t 5)), none, [], 0⟩,
  ⟨(some 40), (.load 1 .false (.t 39)), none, [], 0⟩,
  ⟨(some 41), (.len (.t 40)), none, [], 0⟩,
  ⟨(some 42), (.bin .sub (.t 41) (.c (.s (.int .i64 1)))), none, [], 0⟩,
  ⟨(some 43), (.slc 5 (.t 38) none (some (.t 42)) none), none, [], 0⟩,
  ⟨(some 44), (.fad 0 (.t 5)), none, [], 0⟩,
  ⟨none, (.store 1 (.t 44) (.t 43)), none, [], 0⟩]
def g20_17 : List AOper := [
  ⟨(some 115), (.load 3 .true (.t 5)), none, [], 0⟩,
  ⟨none, (.store 3 (.t 4) (.t 115)), none, [], 0⟩]
def ac20 : AC :=
  (.seq (.region g20_0 live20) (.seq (.drawn g20_1 live20) (.seq (.seq (.region g20_2 live20) (.cond (.t 23) (.seq (.region g20_3 live20) .ret) .skip)) (.seq (.region g20_4 live20) (.seq (.seq (.region g20_5 live20) (.block 0 (.seq (.region g20_6 live20) (.cond (.t 45) (.drawn g20_7 live20) (.seq (.region g20_8 live20) (.cond (.t 63) (.drawn g20_9 live20) (.seq (.region g20_10 live20) (.cond (.t 81) (.region g20_11 live20) (.seq (.region g20_12 live20) (.cond (.t 94) (.region g20_13 live20) (.seq (.region g20_14 live20) (.cond (.t 104) (.region g20_15 live20) (.region g20_16 live20))))))))))))) (.seq (.region g20_17 live20) .ret))))))
theorem fn20 : Den.Fn Try.prog 20 116 res20 ac20 := ⟨⟨Try.f20, _, live20, Try.func20, rfl, by kernel_rfl, rfl, by kernel_rfl, by kernel_rfl⟩⟩

/-- chapman/chapmanref06.Same; parameters: 2 -/
def live21 : List Nat := [0, 1, 4]
def res21 : List RO := [(.t 4)]
def g21_0 : List AOper := [
  ⟨(some 4), (.mov (.c (.s (.bool .false)))), none, [], 0⟩]
def g21_1 : List AOper := [
  ⟨(some 5), (.mov (.t 0)), none, [], 0⟩,
  ⟨(some 6), (.mov (.t 1)), none, [], 0⟩,
  ⟨(some 7), (.call (.c (.f 44 [])) [(.t 5), (.t 6)]), none, [], 0⟩,
  ⟨(some 8), (.bin .eql (.t 7) (.c (.s (.int .i64 0)))), none, [], 0⟩,
  ⟨(some 4), (.mov (.t 8)), none, [], 0⟩]
def ac21 : AC :=
  (.seq (.region g21_0 live21) (.seq (.region g21_1 live21) .ret))
theorem fn21 : Den.Fn Try.prog 21 9 res21 ac21 := ⟨⟨Try.f21, _, live21, Try.func21, rfl, by kernel_rfl, rfl, by kernel_rfl, by kernel_rfl⟩⟩

/-- chapman/table.Key; parameters: 2 -/
def live22 : List Nat := [0, 1, 2, 4]
def res22 : List RO := [(.t 4)]
def g22_0 : List AOper := [
  ⟨(some 2), (.box (.t 0)), none, [], 0⟩,
  ⟨(some 4), (.mov (.c (.d .true 3 []))), none, [], 0⟩]
def g22_1 : List AOper := [
  ⟨(some 5), (.load 3 .true (.t 2)), none, [], 0⟩,
  ⟨(some 6), (.call (.c (.f 23 [])) [(.t 5)]), none, [], 1⟩,
  ⟨(some 7), (.mov (.t 1)), none, [], 2⟩,
  ⟨(some 8), (.fad 0 (.t 2)), none, [], 3⟩,
  ⟨(some 9), (.load 1 .false (.t 8)), none, [0, 1], 4⟩,
  ⟨(some 10), (.len (.t 9)), none, [], 5⟩,
  ⟨(some 11), (.mm .false [(.t 7), (.t 10)]), none, [], 6⟩,
  ⟨(some 12), (.mm .true [(.c (.s (.int .i64 0))), (.t 11)]), none, [], 7⟩,
  ⟨(some 13), (.slc 3 (.t 6) none (some (.t 12)) none), none, [], 8⟩,
  ⟨(some 4), (.mov (.t 13)), none, [], 9⟩]
def ac22 : AC :=
  (.seq (.region g22_0 live22) (.seq (.drawn g22_1 live22) .ret))
theorem fn22 : Den.Fn Try.prog 22 14 res22 ac22 := ⟨⟨Try.f22, _, live22, Try.func22, rfl, by kernel_rfl, rfl, by kernel_rfl, by kernel_rfl⟩⟩

/-- chapman/table.Values; parameters: 1 -/
def live23 : List Nat := [0, 1, 2, 3, 4, 10, 11, 12]
def res23 : List RO := [(.t 2)]
def g23_0 : List AOper := [
  ⟨(some 1), (.box (.t 0)), none, [], 0⟩,
  ⟨(some 2), (.mov (.c (.d .true 3 []))), none, [], 0⟩]
def g23_1 : List AOper := [
  ⟨(some 5), (.fad 0 (.t 1)), none, [], 0⟩,
  ⟨(some 6), (.load 1 .false (.t 5)), none, [], 0⟩,
  ⟨(some 7), (.len (.t 6)), none, [], 0⟩,
  ⟨(some 8), (.mks 3 32 [(.s (.int .i64 0)), (.s (.int .i64 0)), (.s (.string (ByteArray.mk #[])))] (.t 7) (.t 7)), none, [], 0⟩,
  ⟨(some 3), (.mov (.t 8)), none, [], 0⟩]
def g23_2 : List AOper := [
  ⟨(some 9), (.mov (.t 3)), none, [], 0⟩,
  ⟨(some 10), (.len (.t 9)), none, [], 0⟩,
  ⟨(some 11), (.mov (.c (.s (.int .i64 0)))), none, [], 0⟩]
def g23_3 : List AOper := [
  ⟨(some 12), (.bin .lss (.t 11) (.t 10)), none, [], 0⟩]
def g23_4 : List AOper := [
  ⟨(some 13), (.mov (.t 11)), none, [], 0⟩,
  ⟨(some 4), (.mov (.t 13)), none, [], 0⟩]
def g23_5 : List AOper := [
  ⟨(some 14), (.mov (.t 3)), none, [], 0⟩,
  ⟨(some 15), (.mov (.t 4)), none, [], 0⟩,
  ⟨(some 16), (.fad 0 (.t 1)), none, [], 0⟩,
  ⟨(some 17), (.load 1 .false (.t 16)), none, [], 0⟩,
  ⟨(some 18), (.mov (.t 4)), none, [], 0⟩,
  ⟨(some 19), (.iad 5 (.t 17) (.t 18)), none, [], 0⟩,
  ⟨(some 20), (.fad 0 (.t 19)), none, [], 0⟩,
  ⟨(some 21), (.load 3 .true (.t 20)), none, [], 0⟩,
  ⟨(some 22), (.iad 3 (.t 14) (.t 15)), none, [], 0⟩,
  ⟨none, (.store 3 (.t 22) (.t 21)), none, [], 0⟩]
def g23_6 : List AOper := [
  ⟨(some 23), (.bin .add (.t 11) (.c (.s (.int .i64 1)))), none, [], 0⟩,
  ⟨(some 11), (.mov (.t 23)), none, [], 0⟩]
def g23_7 : List AOper := [
  ⟨(some 24), (.mov (.t 3)), none, [], 0⟩,
  ⟨(some 2), (.mov (.t 24)), none, [], 0⟩]
def ac23 : AC :=
  (.seq (.region g23_0 live23) (.seq (.region g23_1 live23) (.seq (.seq (.region g23_2 live23) (.block 0 (.loop (.seq (.region g23_3 live23) (.seq (.cond (.t 12) .skip (.exit 0)) (.seq (.block 1 (.seq (.region g23_4 live23) (.region g23_5 live23))) (.region g23_6 live23))))))) (.seq (.region g23_7 live23) .ret))))
theorem fn23 : Den.Fn Try.prog 23 25 res23 ac23 := ⟨⟨Try.f23, _, live23, Try.func23, rfl, by kernel_rfl, rfl, by kernel_rfl, by kernel_rfl⟩⟩

/-- chapman/chapmanref14.Values; parameters: 1 -/
def live24 : List Nat := [0, 1, 2, 3, 4, 10]
def res24 : List RO := [(.t 2)]
def g24_0 : List AOper := [
  ⟨(some 1), (.box (.t 0)), none, [], 0⟩,
  ⟨(some 2), (.mov (.c (.d .true 3 []))), none, [], 0⟩]
def g24_1 : List AOper := [
  ⟨(some 5), (.bslice 3 [] []), none, [], 0⟩,
  ⟨(some 3), (.mov (.t 5)), none, [], 0⟩]
def g24_2 : List AOper := [
  ⟨(some 4), (.mov (.c (.s (.int .i64 0)))), none, [], 0⟩]
def g24_3 : List AOper := [
  ⟨(some 6), (.mov (.t 4)), none, [], 0⟩,
  ⟨(some 7), (.fad 0 (.t 1)), none, [], 0⟩,
  ⟨(some 8), (.load 1 .false (.t 7)), none, [], 0⟩,
  ⟨(some 9), (.len (.t 8)), none, [], 0⟩,
  ⟨(some 10), (.bin .lss (.t 6) (.t 9)), none, [], 0⟩]
def g24_4 : List AOper := [
  ⟨(some 13), (.mov (.t 3)), none, [], 0⟩,
  ⟨(some 14), (.fad 0 (.t 1)), none, [], 0⟩,
  ⟨(some 15), (.load 1 .false (.t 14)), none, [], 0⟩,
  ⟨(some 16), (.mov (.t 4)), none, [], 0⟩,
  ⟨(some 17), (.iad 5 (.t 15) (.t 16)), none, [], 0⟩,
  ⟨(some 18), (.fad 0 (.t 17)), none, [], 0⟩,
  ⟨(some 19), (.load 3 .true (.t 18)), none, [], 0⟩,
  ⟨(some 20), (.bslice 3 [[(.s (.int .i64 0)), (.s (.int .i64 0)), (.s (.string (ByteArray.mk #[])))]] [(0, (.t 19))]), none, [], 0⟩,
  ⟨(some 21), (.app 3 32 (.t 13) (.t 20)), none, [], 0⟩,
  ⟨(some 3), (.mov (.t 21)), none, [], 0⟩]
def g24_5 : List AOper := [
  ⟨(some 11), (.mov (.t 4)), none, [], 0⟩,
  ⟨(some 12), (.bin .add (.t 11) (.c (.s (.int .i64 1)))), none, [], 0⟩,
  ⟨(some 4), (.mov (.t 12)), none, [], 0⟩]
def g24_6 : List AOper := [
  ⟨(some 22), (.mov (.t 3)), none, [], 0⟩,
  ⟨(some 2), (.mov (.t 22)), none, [], 0⟩]
def ac24 : AC :=
  (.seq (.region g24_0 live24) (.seq (.region g24_1 live24) (.seq (.seq (.region g24_2 live24) (.block 0 (.loop (.seq (.seq (.region g24_3 live24) (.cond (.t 10) .skip (.exit 0))) (.seq (.block 1 (.region g24_4 live24)) (.region g24_5 live24)))))) (.seq (.region g24_6 live24) .ret))))
theorem fn24 : Den.Fn Try.prog 24 23 res24 ac24 := ⟨⟨Try.f24, _, live24, Try.func24, rfl, by kernel_rfl, rfl, by kernel_rfl, by kernel_rfl⟩⟩

/-- chapman/table.Same; parameters: 2 -/
def live25 : List Nat := [0, 1, 2, 3, 4]
def res25 : List RO := [(.t 4)]
def g25_0 : List AOper := [
  ⟨(some 2), (.box (.t 0)), none, [], 0⟩,
  ⟨(some 3), (.box (.t 1)), none, [], 0⟩,
  ⟨(some 4), (.mov (.c (.s (.bool .false)))), none, [], 0⟩]
def g25_1 : List AOper := [
  ⟨(some 5), (.fad 0 (.t 2)), none, [], 0⟩,
  ⟨(some 6), (.load 1 .false (.t 5)), none, [], 0⟩,
  ⟨(some 7), (.fad 0 (.t 3)), none, [], 0⟩,
  ⟨(some 8), (.load 1 .false (.t 7)), none, [], 0⟩,
  ⟨(some 9), (.call (.c (.f 48 [])) [(.t 6), (.t 8)]), none, [], 0⟩,
  ⟨(some 10), (.mov (.t 9)), none, [], 0⟩,
  ⟨(some 11), (.fad 1 (.t 2)), (some (10, .true)), [], 0⟩,
  ⟨(some 12), (.load 1 .false (.t 11)), (some (10, .true)), [], 0⟩,
  ⟨(some 13), (.fad 1 (.t 3)), (some (10, .true)), [], 0⟩,
  ⟨(some 14), (.load 1 .false (.t 13)), (some (10, .true)), [], 0⟩,
  ⟨(some 15), (.call (.c (.f 49 [])) [(.t 12), (.t 14)]), (some (10, .true)), [], 0⟩,
  ⟨(some 16), (.pick (.t 10) (.t 15) (.c (.s (.bool .false)))), none, [], 0⟩,
  ⟨(some 17), (.mov (.t 16)), none, [], 0⟩,
  ⟨(some 18), (.fad 2 (.t 2)), (some (17, .true)), [], 0⟩,
  ⟨(some 19), (.load 1 .false (.t 18)), (some (17, .true)), [], 0⟩,
  ⟨(some 20), (.fad 2 (.t 3)), (some (17, .true)), [], 0⟩,
  ⟨(some 21), (.load 1 .false (.t 20)), (some (17, .true)), [], 0⟩,
  ⟨(some 22), (.call (.c (.f 50 [])) [(.t 19), (.t 21)]), (some (17, .true)), [], 0⟩,
  ⟨(some 23), (.pick (.t 17) (.t 22) (.c (.s (.bool .false)))), none, [], 0⟩,
  ⟨(some 4), (.mov (.t 23)), none, [], 0⟩]
def ac25 : AC :=
  (.seq (.region g25_0 live25) (.seq (.region g25_1 live25) .ret))
theorem fn25 : Den.Fn Try.prog 25 24 res25 ac25 := ⟨⟨Try.f25, _, live25, Try.func25, rfl, by kernel_rfl, rfl, by kernel_rfl, by kernel_rfl⟩⟩

/-- chapman/chapmanref14.FindIn; parameters: 3 -/
def live26 : List Nat := [0, 1, 2, 6, 7, 8, 12, 24]
def res26 : List RO := [(.c 6 2 .true)]
def g26_0 : List AOper := [
  ⟨(some 6), (.new [(.s (.int .i64 0)), (.s (.bool .false))]), none, [], 0⟩]
def g26_1 : List AOper := [
  ⟨(some 7), (.mov (.c (.s (.int .i64 0)))), none, [], 0⟩]
def g26_2 : List AOper := [
  ⟨(some 9), (.mov (.t 7)), none, [], 0⟩,
  ⟨(some 10), (.mov (.t 0)), none, [], 0⟩,
  ⟨(some 11), (.len (.t 10)), none, [], 0⟩,
  ⟨(some 12), (.bin .lss (.t 9) (.t 11)), none, [], 0⟩]
def g26_3 : List AOper := [
  ⟨(some 15), (.mov (.t 0)), none, [], 0⟩,
  ⟨(some 16), (.mov (.t 7)), none, [], 0⟩,
  ⟨(some 17), (.iad 3 (.t 15) (.t 16)), none, [], 0⟩,
  ⟨(some 18), (.load 3 .true (.t 17)), none, [], 0⟩,
  ⟨(some 19), (.mov (.t 1)), none, [], 0⟩,
  ⟨(some 20), (.call (.c (.f 9 [])) [(.t 18), (.t 19)]), none, [], 0⟩,
  ⟨(some 21), (.mov (.t 2)), none, [], 0⟩,
  ⟨(some 22), (.call (.c (.f 44 [])) [(.t 20), (.t 21)]), none, [], 0⟩,
  ⟨(some 8), (.mov (.t 22)), none, [], 0⟩]
def g26_4 : List AOper := [
  ⟨(some 23), (.mov (.t 8)), none, [], 0⟩,
  ⟨(some 24), (.bin .geq (.t 23) (.c (.s (.int .i64 0)))), none, [], 0⟩]
def g26_5 : List AOper := [
  ⟨(some 25), (.mov (.t 7)), none, [], 0⟩,
  ⟨(some 26), (.mov (.t 8)), none, [], 0⟩,
  ⟨(some 27), (.bin .eql (.t 26) (.c (.s (.int .i64 0)))), none, [], 0⟩,
  ⟨(some 28), (.build [(.s (.int .i64 0)), (.s (.bool .false))] [(0, (1, (.t 25))), (1, (1, (.t 27)))]), none, [], 0⟩,
  ⟨none, (.store 2 (.t 6) (.t 28)), none, [], 0⟩]
def g26_6 : List AOper := [
  ⟨(some 13), (.mov (.t 7)), none, [], 0⟩,
  ⟨(some 14), (.bin .add (.t 13) (.c (.s (.int .i64 1)))), none, [], 0⟩,
  ⟨(some 7), (.mov (.t 14)), none, [], 0⟩]
def g26_7 : List AOper := [
  ⟨(some 29), (.mov (.t 0)), none, [], 0⟩,
  ⟨(some 30), (.len (.t 29)), none, [], 0⟩,
  ⟨(some 31), (.build [(.s (.int .i64 0)), (.s (.bool .false))] [(0, (1, (.t 30)))]), none, [], 0⟩,
  ⟨none, (.store 2 (.t 6) (.t 31)), none, [], 0⟩]
def ac26 : AC :=
  (.seq (.region g26_0 live26) (.seq (.seq (.region g26_1 live26) (.block 0 (.loop (.seq (.seq (.region g26_2 live26) (.cond (.t 12) .skip (.exit 0))) (.seq (.block 1 (.seq (.region g26_3 live26) (.seq (.region g26_4 live26) (.cond (.t 24) (.seq (.region g26_5 live26) .ret) .skip)))) (.region g26_6 live26)))))) (.seq (.region g26_7 live26) .ret)))
theorem fn26 : Den.Fn Try.prog 26 32 res26 ac26 := ⟨⟨Try.f26, _, live26, Try.func26, rfl, by kernel_rfl, rfl, by kernel_rfl, by kernel_rfl⟩⟩

/-- chapman/chapmanref14.PutIn; parameters: 3 -/
def live27 : List Nat := [0, 1, 2, 5, 6, 7, 8, 29, 47]
def res27 : List RO := [(.c 6 2 .true)]
def g27_0 : List AOper := [
  ⟨(some 5), (.box (.t 2)), none, [], 0⟩,
  ⟨(some 6), (.new [(.d .true 3 []), (.s (.int .i64 0))]), none, [], 0⟩]
def g27_1 : List AOper := [
  ⟨(some 9), (.fad 0 (.t 5)), none, [], 0⟩,
  ⟨(some 10), (.load 1 .false (.t 9)), none, [], 1⟩,
  ⟨(some 11), (.len (.t 10)), none, [], 2⟩,
  ⟨(some 12), (.mov (.t 1)), none, [], 3⟩,
  ⟨(some 13), (.bin .lss (.t 11) (.t 12)), none, [], 4⟩,
  ⟨(some 14), (.mov (.t 13)), none, [], 5⟩,
  ⟨(some 15), (.mov (.t 0)), (some (14, .false)), [], 6⟩,
  ⟨(some 16), (.len (.t 15)), (some (14, .false)), [], 7⟩,
  ⟨(some 17), (.bin .gtr (.t 16) (.c (.s (.int .i64 0)))), (some (14, .false)), [], 8⟩,
  ⟨(some 18), (.mov (.t 17)), (some (14, .false)), [], 9⟩,
  ⟨(some 19), (.fad 0 (.t 5)), (some (18, .true)), [], 10⟩,
  ⟨(some 20), (.load 1 .false (.t 19)), (some (18, .true)), [], 11⟩,
  ⟨(some 21), (.len (.t 20)), (some (18, .true)), [], 12⟩,
  ⟨(some 22), (.mov (.t 0)), (some (18, .true)), [], 13⟩,
  ⟨(some 23), (.iad 3 (.t 22) (.c (.s (.int .i64 0)))), (some (18, .true)), [], 14⟩,
  ⟨(some 24), (.fad 0 (.t 23)), (some (18, .true)), [], 15⟩,
  ⟨(some 25), (.load 1 .false (.t 24)), (some (18, .true)), [11], 16⟩,
  ⟨(some 26), (.len (.t 25)), (some (18, .true)), [], 17⟩,
  ⟨(some 27), (.bin .neq (.t 21) (.t 26)), (some (18, .true)), [], 18⟩,
  ⟨(some 28), (.pick (.t 18) (.t 27) (.c (.s (.bool .false)))), (some (14, .false)), [], 19⟩,
  ⟨(some 29), (.pick (.t 14) (.c (.s (.bool .true))) (.t 28)), none, [], 20⟩]
def g27_2 : List AOper := [
  ⟨(some 30), (.build [(.d .true 3 []), (.s (.int .i64 0))] [(1, (1, (.c (.s (.int .i64 140)))))]), none, [], 0⟩,
  ⟨none, (.store 2 (.t 6) (.t 30)), none, [], 0⟩]
def g27_3 : List AOper := [
  ⟨(some 31), (.mov (.t 0)), none, [], 0⟩,
  ⟨(some 32), (.mov (.t 1)), none, [], 0⟩,
  ⟨(some 33), (.load 3 .true (.t 5)), none, [], 0⟩,
  ⟨(some 34), (.mov (.t 1)), none, [], 0⟩,
  ⟨(some 35), (.call (.c (.f 9 [])) [(.t 33), (.t 34)]), none, [], 0⟩,
  ⟨(some 36), (.call (.c (.f 26 [])) [(.t 31), (.t 32), (.t 35)]), none, [], 0⟩,
  ⟨(some 7), (.new [(.s (.int .i64 0)), (.s (.bool .false))]), none, [], 0⟩,
  ⟨none, (.store 2 (.t 7) (.t 36)), none, [], 0⟩]
def g27_4 : List AOper := [
  ⟨(some 37), (.bslice 3 [] []), none, [], 0⟩,
  ⟨(some 38), (.mov (.t 0)), none, [], 1⟩,
  ⟨(some 39), (.fad 0 (.t 7)), none, [], 2⟩,
  ⟨(some 40), (.load 1 .false (.t 39)), none, [0], 3⟩,
  ⟨(some 41), (.slc 3 (.t 38) none (some (.t 40)) none), none, [], 4⟩,
  ⟨(some 42), (.app 3 72 (.t 37) (.t 41)), none, [], 5⟩,
  ⟨(some 43), (.load 3 .true (.t 5)), none, [0, 3, 5], 6⟩,
  ⟨(some 44), (.bslice 3 [[(.d .true 5 []), (.d .true 1 []), (.d .true 2 [])]] [(0, (.t 43))]), none, [0, 3, 5], 7⟩,
  ⟨(some 45), (.app 3 72 (.t 42) (.t 44)), none, [], 8⟩,
  ⟨(some 8), (.mov (.t 45)), none, [], 9⟩]
def g27_5 : List AOper := [
  ⟨(some 46), (.fad 1 (.t 7)), none, [], 0⟩,
  ⟨(some 47), (.load 1 .false (.t 46)), none, [], 0⟩]
def g27_6 : List AOper := [
  ⟨(some 48), (.fad 0 (.t 7)), none, [], 0⟩,
  ⟨(some 49), (.load 1 .false (.t 48)), none, [], 0⟩,
  ⟨(some 50), (.bin .add (.t 49) (.c (.s (.int .i64 1)))), none, [], 0⟩,
  ⟨(some 51), (.fad 0 (.t 7)), none, [], 0⟩,
  ⟨none, (.store 1 (.t 51) (.t 50)), none, [], 0⟩]
def g27_7 : List AOper := [
  ⟨(some 52), (.mov (.t 8)), none, [], 0⟩,
  ⟨(some 53), (.mov (.t 0)), none, [], 0⟩,
  ⟨(some 54), (.fad 0 (.t 7)), none, [], 0⟩,
  ⟨(some 55), (.load 1 .false (.t 54)), none, [], 0⟩,
  ⟨(some 56), (.slc 3 (.t 53) (some (.t 55)) none none), none, [], 0⟩,
  ⟨(some 57), (.app 3 72 (.t 52) (.t 56)), none, [], 0⟩,
  ⟨(some 58), (.build [(.d .true 3 []), (.s (.int .i64 0))] [(0, (1, (.t 57)))]), none, [], 0⟩,
  ⟨none, (.store 2 (.t 6) (.t 58)), none, [], 0⟩]
def ac27 : AC :=
  (.seq (.region g27_0 live27) (.seq (.seq (.drawn g27_1 live27) (.cond (.t 29) (.seq (.region g27_2 live27) .ret) .skip)) (.seq (.region g27_3 live27) (.seq (.drawn g27_4 live27) (.seq (.seq (.region g27_5 live27) (.cond (.t 47) (.region g27_6 live27) .skip)) (.seq (.region g27_7 live27) .ret))))))
theorem fn27 : Den.Fn Try.prog 27 59 res27 ac27 := ⟨⟨Try.f27, _, live27, Try.func27, rfl, by kernel_rfl, rfl, by kernel_rfl, by kernel_rfl⟩⟩

/-- chapman/chapmanref14.DeleteIn; parameters: 3 -/
def live28 : List Nat := [0, 1, 2, 6, 7, 14]
def res28 : List RO := [(.c 6 2 .true)]
def g28_0 : List AOper := [
  ⟨(some 6), (.new [(.d .true 3 []), (.s (.int .i64 0))]), none, [], 0⟩]
def g28_1 : List AOper := [
  ⟨(some 8), (.mov (.t 0)), none, [], 0⟩,
  ⟨(some 9), (.mov (.t 1)), none, [], 0⟩,
  ⟨(some 10), (.mov (.t 2)), none, [], 0⟩,
  ⟨(some 11), (.call (.c (.f 26 [])) [(.t 8), (.t 9), (.t 10)]), none, [], 0⟩,
  ⟨(some 7), (.new [(.s (.int .i64 0)), (.s (.bool .false))]), none, [], 0⟩,
  ⟨none, (.store 2 (.t 7) (.t 11)), none, [], 0⟩]
def g28_2 : List AOper := [
  ⟨(some 12), (.fad 1 (.t 7)), none, [], 0⟩,
  ⟨(some 13), (.load 1 .false (.t 12)), none, [], 0⟩,
  ⟨(some 14), (.un .not (.t 13)), none, [], 0⟩]
def g28_3 : List AOper := [
  ⟨(some 15), (.build [(.d .true 3 []), (.s (.int .i64 0))] [(1, (1, (.c (.s (.int .i64 4)))))]), none, [], 0⟩,
  ⟨none, (.store 2 (.t 6) (.t 15)), none, [], 0⟩]
def g28_4 : List AOper := [
  ⟨(some 16), (.bslice 3 [] []), none, [], 0⟩,
  ⟨(some 17), (.mov (.t 0)), none, [], 1⟩,
  ⟨(some 18), (.fad 0 (.t 7)), none, [], 2⟩,
  ⟨(some 19), (.load 1 .false (.t 18)), none, [0], 3⟩,
  ⟨(some 20), (.slc 3 (.t 17) none (some (.t 19)) none), none, [], 4⟩,
  ⟨(some 21), (.app 3 72 (.t 16) (.t 20)), none, [], 5⟩,
  ⟨(some 22), (.mov (.t 0)), none, [], 6⟩,
  ⟨(some 23), (.fad 0 (.t 7)), none, [], 7⟩,
  ⟨(some 24), (.load 1 .false (.t 23)), none, [0, 3, 5], 8⟩,
  ⟨(some 25), (.bin .add (.t 24) (.c (.s (.int .i64 1)))), none, [], 9⟩,
  ⟨(some 26), (.slc 3 (.t 22) (some (.t 25)) none none), none, [], 10⟩,
  ⟨(some 27), (.app 3 72 (.t 21) (.t 26)), none, [], 11⟩,
  ⟨(some 28), (.build [(.d .true 3 []), (.s (.int .i64 0))] [(0, (1, (.t 27)))]), none, [], 12⟩,
  ⟨none, (.store 2 (.t 6) (.t 28)), none, [], 13⟩]
def ac28 : AC :=
  (.seq (.region g28_0 live28) (.seq (.region g28_1 live28) (.seq (.seq (.region g28_2 live28) (.cond (.t 14) (.seq (.region g28_3 live28) .ret) .skip)) (.seq (.drawn g28_4 live28) .ret))))
theorem fn28 : Den.Fn Try.prog 28 29 res28 ac28 := ⟨⟨Try.f28, _, live28, Try.func28, rfl, by kernel_rfl, rfl, by kernel_rfl, by kernel_rfl⟩⟩

/-- chapman/chapmanlaw14.get; parameters: 3 -/
def live29 : List Nat := [0, 1, 2, 6, 7, 8]
def res29 : List RO := [(.c 6 4 .true)]
def g29_0 : List AOper := [
  ⟨(some 6), (.new [(.d .true 5 []), (.d .true 1 []), (.d .true 2 []), (.s (.int .i64 0))]), none, [], 0⟩]
def g29_1 : List AOper := [
  ⟨(some 10), (.mov (.t 0)), none, [], 0⟩,
  ⟨(some 11), (.mov (.t 1)), none, [], 0⟩,
  ⟨(some 12), (.mov (.t 2)), none, [], 0⟩,
  ⟨(some 13), (.call (.c (.f 51 [])) [(.t 10), (.t 11), (.t 12)]), none, [], 0⟩,
  ⟨(some 9), (.mov (.t 13)), none, [], 0⟩,
  ⟨(some 14), (.ext (.t 9) 0), none, [], 0⟩,
  ⟨(some 15), (.ext (.t 9) 1), none, [], 0⟩,
  ⟨(some 7), (.new [(.d .true 5 []), (.d .true 1 []), (.d .true 2 [])]), none, [], 0⟩,
  ⟨none, (.store 3 (.t 7) (.t 14)), none, [], 0⟩,
  ⟨(some 8), (.mov (.t 15)), none, [], 0⟩]
def g29_2 : List AOper := [
  ⟨(some 16), (.load 3 .true (.t 7)), none, [], 0⟩,
  ⟨(some 17), (.mov (.t 8)), none, [], 0⟩,
  ⟨(some 18), (.build [(.d .true 5 []), (.d .true 1 []), (.d .true 2 []), (.s (.int .i64 0))] [(0, (3, (.t 16))), (3, (1, (.t 17)))]), none, [], 0⟩,
  ⟨none, (.store 4 (.t 6) (.t 18)), none, [], 0⟩]
def ac29 : AC :=
  (.seq (.region g29_0 live29) (.seq (.region g29_1 live29) (.seq (.region g29_2 live29) .ret)))
theorem fn29 : Den.Fn Try.prog 29 19 res29 ac29 := ⟨⟨Try.f29, _, live29, Try.func29, rfl, by kernel_rfl, rfl, by kernel_rfl, by kernel_rfl⟩⟩

/-- chapman/chapmanref14.GetIn; parameters: 3 -/
def live30 : List Nat := [0, 1, 2, 6, 7, 14]
def res30 : List RO := [(.c 6 4 .true)]
def g30_0 : List AOper := [
  ⟨(some 6), (.new [(.d .true 5 []), (.d .true 1 []), (.d .true 2 []), (.s (.int .i64 0))]), none, [], 0⟩]
def g30_1 : List AOper := [
  ⟨(some 8), (.mov (.t 0)), none, [], 0⟩,
  ⟨(some 9), (.mov (.t 1)), none, [], 0⟩,
  ⟨(some 10), (.mov (.t 2)), none, [], 0⟩,
  ⟨(some 11), (.call (.c (.f 26 [])) [(.t 8), (.t 9), (.t 10)]), none, [], 0⟩,
  ⟨(some 7), (.new [(.s (.int .i64 0)), (.s (.bool .false))]), none, [], 0⟩,
  ⟨none, (.store 2 (.t 7) (.t 11)), none, [], 0⟩]
def g30_2 : List AOper := [
  ⟨(some 12), (.fad 1 (.t 7)), none, [], 0⟩,
  ⟨(some 13), (.load 1 .false (.t 12)), none, [], 0⟩,
  ⟨(some 14), (.un .not (.t 13)), none, [], 0⟩]
def g30_3 : List AOper := [
  ⟨(some 15), (.build [(.d .true 5 []), (.d .true 1 []), (.d .true 2 []), (.s (.int .i64 0))] [(3, (1, (.c (.s (.int .i64 4)))))]), none, [], 0⟩,
  ⟨none, (.store 4 (.t 6) (.t 15)), none, [], 0⟩]
def g30_4 : List AOper := [
  ⟨(some 16), (.mov (.t 0)), none, [], 0⟩,
  ⟨(some 17), (.fad 0 (.t 7)), none, [], 0⟩,
  ⟨(some 18), (.load 1 .false (.t 17)), none, [], 0⟩,
  ⟨(some 19), (.iad 3 (.t 16) (.t 18)), none, [], 0⟩,
  ⟨(some 20), (.load 3 .true (.t 19)), none, [], 0⟩,
  ⟨(some 21), (.build [(.d .true 5 []), (.d .true 1 []), (.d .true 2 []), (.s (.int .i64 0))] [(0, (3, (.t 20)))]), none, [], 0⟩,
  ⟨none, (.store 4 (.t 6) (.t 21)), none, [], 0⟩]
def ac30 : AC :=
  (.seq (.region g30_0 live30) (.seq (.region g30_1 live30) (.seq (.seq (.region g30_2 live30) (.cond (.t 14) (.seq (.region g30_3 live30) .ret) .skip)) (.seq (.region g30_4 live30) .ret))))
theorem fn30 : Den.Fn Try.prog 30 22 res30 ac30 := ⟨⟨Try.f30, _, live30, Try.func30, rfl, by kernel_rfl, rfl, by kernel_rfl, by kernel_rfl⟩⟩

/-- chapman/chapmanref14.SameList; parameters: 2 -/
def live31 : List Nat := [0, 1, 4, 5, 10, 14, 26]
def res31 : List RO := [(.t 4)]
def g31_0 : List AOper := [
  ⟨(some 4), (.mov (.c (.s (.bool .false)))), none, [], 0⟩]
def g31_1 : List AOper := [
  ⟨(some 6), (.mov (.t 0)), none, [], 0⟩,
  ⟨(some 7), (.len (.t 6)), none, [], 0⟩,
  ⟨(some 8), (.mov (.t 1)), none, [], 0⟩,
  ⟨(some 9), (.len (.t 8)), none, [], 0⟩,
  ⟨(some 10), (.bin .neq (.t 7) (.t 9)), none, [], 0⟩]
def g31_2 : List AOper := [
  ⟨(some 4), (.mov (.c (.s (.bool .false)))), none, [], 0⟩]
def g31_3 : List AOper := [
  ⟨(some 5), (.mov (.c (.s (.int .i64 0)))), none, [], 0⟩]
def g31_4 : List AOper := [
  ⟨(some 11), (.mov (.t 5)), none, [], 0⟩,
  ⟨(some 12), (.mov (.t 0)), none, [], 0⟩,
  ⟨(some 13), (.len (.t 12)), none, [], 0⟩,
  ⟨(some 14), (.bin .lss (.t 11) (.t 13)), none, [], 0⟩]
def g31_5 : List AOper := [
  ⟨(some 17), (.mov (.t 0)), none, [], 0⟩,
  ⟨(some 18), (.mov (.t 5)), none, [], 1⟩,
  ⟨(some 19), (.iad 3 (.t 17) (.t 18)), none, [], 2⟩,
  ⟨(some 20), (.load 3 .true (.t 19)), none, [], 3⟩,
  ⟨(some 21), (.mov (.t 1)), none, [], 4⟩,
  ⟨(some 22), (.mov (.t 5)), none, [], 5⟩,
  ⟨(some 23), (.iad 3 (.t 21) (.t 22)), none, [], 6⟩,
  ⟨(some 24), (.load 3 .true (.t 23)), none, [3], 7⟩,
  ⟨(some 25), (.call (.c (.f 13 [])) [(.t 20), (.t 24)]), none, [], 8⟩,
  ⟨(some 26), (.un .not (.t 25)), none, [], 9⟩]
def g31_6 : List AOper := [
  ⟨(some 4), (.mov (.c (.s (.bool .false)))), none, [], 0⟩]
def g31_7 : List AOper := [
  ⟨(some 15), (.mov (.t 5)), none, [], 0⟩,
  ⟨(some 16), (.bin .add (.t 15) (.c (.s (.int .i64 1)))), none, [], 0⟩,
  ⟨(some 5), (.mov (.t 16)), none, [], 0⟩]
def g31_8 : List AOper := [
  ⟨(some 4), (.mov (.c (.s (.bool .true)))), none, [], 0⟩]
def ac31 : AC :=
  (.seq (.region g31_0 live31) (.seq (.seq (.region g31_1 live31) (.cond (.t 10) (.seq (.region g31_2 live31) .ret) .skip)) (.seq (.seq (.region g31_3 live31) (.block 0 (.loop (.seq (.seq (.region g31_4 live31) (.cond (.t 14) .skip (.exit 0))) (.seq (.block 1 (.seq (.drawn g31_5 live31) (.cond (.t 26) (.seq (.region g31_6 live31) .ret) .skip))) (.region g31_7 live31)))))) (.seq (.region g31_8 live31) .ret))))
theorem fn31 : Den.Fn Try.prog 31 27 res31 ac31 := ⟨⟨Try.f31, _, live31, Try.func31, rfl, by kernel_rfl, rfl, by kernel_rfl, by kernel_rfl⟩⟩

/-- chapman/table.Range; parameters: 4 -/
def live32 : List Nat := [0, 1, 2, 3, 8, 9, 10, 11, 12, 17, 27, 36]
def res32 : List RO := [(.t 8)]
def g32_0 : List AOper := [
  ⟨(some 8), (.mov (.c (.d .true 3 []))), none, [], 0⟩]
def g32_1 : List AOper := [
  ⟨(some 13), (.mov (.t 0)), none, [], 0⟩,
  ⟨(some 14), (.len (.t 13)), none, [], 0⟩,
  ⟨(some 9), (.mov (.c (.s (.int .i64 0)))), none, [], 0⟩,
  ⟨(some 10), (.mov (.t 14)), none, [], 0⟩]
def g32_2 : List AOper := [
  ⟨(some 15), (.mov (.t 2)), none, [], 0⟩,
  ⟨(some 16), (.len (.t 15)), none, [], 0⟩,
  ⟨(some 17), (.bin .gtr (.t 16) (.c (.s (.int .i64 0)))), none, [], 0⟩]
def g32_3 : List AOper := [
  ⟨(some 19), (.mov (.t 0)), none, [], 0⟩,
  ⟨(some 20), (.mov (.t 1)), none, [], 0⟩,
  ⟨(some 21), (.mov (.t 2)), none, [], 0⟩,
  ⟨(some 22), (.call (.c (.f 42 [])) [(.t 19), (.t 20), (.t 21)]), none, [], 0⟩,
  ⟨(some 18), (.mov (.t 22)), none, [], 0⟩,
  ⟨(some 23), (.ext (.t 18) 0), none, [], 0⟩,
  ⟨(some 24), (.ext (.t 18) 1), none, [], 0⟩,
  ⟨(some 9), (.mov (.t 23)), none, [], 0⟩]
def g32_4 : List AOper := [
  ⟨(some 25), (.mov (.t 3)), none, [], 0⟩,
  ⟨(some 26), (.len (.t 25)), none, [], 0⟩,
  ⟨(some 27), (.bin .gtr (.t 26) (.c (.s (.int .i64 0)))), none, [], 0⟩]
def g32_5 : List AOper := [
  ⟨(some 29), (.mov (.t 0)), none, [], 0⟩,
  ⟨(some 30), (.mov (.t 1)), none, [], 0⟩,
  ⟨(some 31), (.mov (.t 3)), none, [], 0⟩,
  ⟨(some 32), (.call (.c (.f 42 [])) [(.t 29), (.t 30), (.t 31)]), none, [], 0⟩,
  ⟨(some 28), (.mov (.t 32)), none, [], 0⟩,
  ⟨(some 33), (.ext (.t 28) 0), none, [], 0⟩,
  ⟨(some 34), (.ext (.t 28) 1), none, [], 0⟩,
  ⟨(some 11), (.mov (.t 33)), none, [], 0⟩,
  ⟨(some 12), (.mov (.t 34)), none, [], 0⟩]
def g32_6 : List AOper := [
  ⟨(some 35), (.mov (.t 11)), none, [], 0⟩,
  ⟨(some 10), (.mov (.t 35)), none, [], 0⟩]
def g32_7 : List AOper := [
  ⟨(some 36), (.mov (.t 12)), none, [], 0⟩]
def g32_8 : List AOper := [
  ⟨(some 37), (.mov (.t 10)), none, [], 0⟩,
  ⟨(some 38), (.bin .add (.t 37) (.c (.s (.int .i64 1)))), none, [], 0⟩,
  ⟨(some 10), (.mov (.t 38)), none, [], 0⟩]
def g32_9 : List AOper := [
  ⟨(some 39), (.mov (.t 0)), none, [], 0⟩,
  ⟨(some 40), (.mov (.t 9)), none, [], 0⟩,
  ⟨(some 41), (.mov (.t 9)), none, [], 0⟩,
  ⟨(some 42), (.mov (.t 10)), none, [], 0⟩,
  ⟨(some 43), (.mm .true [(.t 41), (.t 42)]), none, [], 0⟩,
  ⟨(some 44), (.slc 3 (.t 39) (some (.t 40)) (some (.t 43)) none), none, [], 0⟩,
  ⟨(some 45), (.call (.c (.f 52 [])) [(.t 44)]), none, [], 0⟩,
  ⟨(some 8), (.mov (.t 45)), none, [], 0⟩]
def ac32 : AC :=
  (.seq (.region g32_0 live32) (.seq (.region g32_1 live32) (.seq (.seq (.region g32_2 live32) (.cond (.t 17) (.region g32_3 live32) .skip)) (.seq (.seq (.region g32_4 live32) (.cond (.t 27) (.seq (.region g32_5 live32) (.seq (.region g32_6 live32) (.seq (.region g32_7 live32) (.cond (.t 36) (.region g32_8 live32) .skip)))) .skip)) (.seq (.region g32_9 live32) .ret)))))
theorem fn32 : Den.Fn Try.prog 32 46 res32 ac32 := ⟨⟨Try.f32, _, live32, Try.func32, rfl, by kernel_rfl, rfl, by kernel_rfl, by kernel_rfl⟩⟩

/-- chapman/chapmanref14.Range; parameters: 3 -/
def live33 : List Nat := [0, 1, 2, 5, 6, 7, 8, 9, 14, 46]
def res33 : List RO := [(.t 6)]
def g33_0 : List AOper := [
  ⟨(some 5), (.box (.t 2)), none, [], 0⟩,
  ⟨(some 6), (.mov (.c (.d .true 3 []))), none, [], 0⟩]
def g33_1 : List AOper := [
  ⟨(some 10), (.bslice 3 [] []), none, [], 0⟩,
  ⟨(some 7), (.mov (.t 10)), none, [], 0⟩]
def g33_2 : List AOper := [
  ⟨(some 8), (.mov (.c (.s (.int .i64 0)))), none, [], 0⟩]
def g33_3 : List AOper := [
  ⟨(some 11), (.mov (.t 8)), none, [], 0⟩,
  ⟨(some 12), (.mov (.t 0)), none, [], 0⟩,
  ⟨(some 13), (.len (.t 12)), none, [], 0⟩,
  ⟨(some 14), (.bin .lss (.t 11) (.t 13)), none, [], 0⟩]
def g33_4 : List AOper := [
  ⟨(some 17), (.mov (.t 0)), none, [], 0⟩,
  ⟨(some 18), (.mov (.t 8)), none, [], 0⟩,
  ⟨(some 19), (.iad 3 (.t 17) (.t 18)), none, [], 0⟩,
  ⟨(some 20), (.load 3 .true (.t 19)), none, [], 0⟩,
  ⟨(some 21), (.mov (.t 1)), none, [], 0⟩,
  ⟨(some 22), (.call (.c (.f 9 [])) [(.t 20), (.t 21)]), none, [], 0⟩,
  ⟨(some 9), (.mov (.t 22)), none, [], 0⟩]
def g33_5 : List AOper := [
  ⟨(some 23), (.iadA 2 1 (.t 5) (.c (.s (.int .i64 0)))), none, [], 0⟩,
  ⟨(some 24), (.load 1 .false (.t 23)), none, [], 0⟩,
  ⟨(some 25), (.len (.t 24)), none, [], 0⟩,
  ⟨(some 26), (.bin .eql (.t 25) (.c (.s (.int .i64 0)))), none, [], 0⟩,
  ⟨(some 27), (.mov (.t 26)), none, [], 0⟩,
  ⟨(some 28), (.mov (.t 9)), (some (27, .false)), [], 0⟩,
  ⟨(some 29), (.iadA 2 1 (.t 5) (.c (.s (.int .i64 0)))), (some (27, .false)), [], 0⟩,
  ⟨(some 30), (.load 1 .false (.t 29)), (some (27, .false)), [], 0⟩,
  ⟨(some 31), (.call (.c (.f 44 [])) [(.t 28), (.t 30)]), (some (27, .false)), [], 0⟩,
  ⟨(some 32), (.bin .geq (.t 31) (.c (.s (.int .i64 0)))), (some (27, .false)), [], 0⟩,
  ⟨(some 33), (.pick (.t 27) (.c (.s (.bool .true))) (.t 32)), none, [], 0⟩,
  ⟨(some 34), (.mov (.t 33)), none, [], 0⟩,
  ⟨(some 35), (.iadA 2 1 (.t 5) (.c (.s (.int .i64 1)))), (some (34, .true)), [], 0⟩,
  ⟨(some 36), (.load 1 .false (.t 35)), (some (34, .true)), [], 0⟩,
  ⟨(some 37), (.len (.t 36)), (some (34, .true)), [], 0⟩,
  ⟨(some 38), (.bin .eql (.t 37) (.c (.s (.int .i64 0)))), (some (34, .true)), [], 0⟩,
  ⟨(some 39), (.mov (.t 38)), (some (34, .true)), [], 0⟩,
  ⟨(some 40), (.mov (.t 9)), (some (39, .false)), [], 0⟩,
  ⟨(some 41), (.iadA 2 1 (.t 5) (.c (.s (.int .i64 1)))), (some (39, .false)), [], 0⟩,
  ⟨(some 42), (.load 1 .false (.t 41)), (some (39, .false)), [], 0⟩,
  ⟨(some 43), (.call (.c (.f 44 [])) [(.t 40), (.t 42)]), (some (39, .false)), [], 0⟩,
  ⟨(some 44), (.bin .leq (.t 43) (.c (.s (.int .i64 0)))), (some (39, .false)), [], 0⟩,
  ⟨(some 45), (.pick (.t 39) (.c (.s (.bool .true))) (.t 44)), (some (34, .true)), [], 0⟩,
  ⟨(some 46), (.pick (.t 34) (.t 45) (.c (.s (.bool .false)))), none, [], 0⟩]
def g33_6 : List AOper := [
  ⟨(some 47), (.mov (.t 7)), none, [], 0⟩,
  ⟨(some 48), (.mov (.t 0)), none, [], 0⟩,
  ⟨(some 49), (.mov (.t 8)), none, [], 0⟩,
  ⟨(some 50), (.iad 3 (.t 48) (.t 49)), none, [], 0⟩,
  ⟨(some 51), (.load 3 .true (.t 50)), none, [], 0⟩,
  ⟨(some 52), (.bslice 3 [[(.d .true 5 []), (.d .true 1 []), (.d .true 2 [])]] [(0, (.t 51))]), none, [], 0⟩,
  ⟨(some 53), (.app 3 72 (.t 47) (.t 52)), none, [], 0⟩,
  ⟨(some 7), (.mov (.t 53)), none, [], 0⟩]
def g33_7 : List AOper := [
  ⟨(some 15), (.mov (.t 8)), none, [], 0⟩,
  ⟨(some 16), (.bin .add (.t 15) (.c (.s (.int .i64 1)))), none, [], 0⟩,
  ⟨(some 8), (.mov (.t 16)), none, [], 0⟩]
def g33_8 : List AOper := [
  ⟨(some 54), (.mov (.t 7)), none, [], 0⟩,
  ⟨(some 6), (.mov (.t 54)), none, [], 0⟩]
def ac33 : AC :=
  (.seq (.region g33_0 live33) (.seq (.region g33_1 live33) (.seq (.seq (.region g33_2 live33) (.block 0 (.loop (.seq (.seq (.region g33_3 live33) (.cond (.t 14) .skip (.exit 0))) (.seq (.block 1 (.seq (.region g33_4 live33) (.seq (.region g33_5 live33) (.cond (.t 46) (.region g33_6 live33) .skip)))) (.region g33_7 live33)))))) (.seq (.region g33_8 live33) .ret))))
theorem fn33 : Den.Fn Try.prog 33 55 res33 ac33 := ⟨⟨Try.f33, _, live33, Try.func33, rfl, by kernel_rfl, rfl, by kernel_rfl, by kernel_rfl⟩⟩

/-- chapman/table.ValidState; parameters: 2 -/
def live34 : List Nat := [0, 1, 2, 4, 5, 11, 12, 13, 25]
def res34 : List RO := [(.t 4)]
def g34_0 : List AOper := [
  ⟨(some 2), (.box (.t 0)), none, [], 0⟩,
  ⟨(some 4), (.mov (.c (.s (.bool .false)))), none, [], 0⟩]
def g34_1 : List AOper := [
  ⟨(some 6), (.mov (.t 1)), none, [], 0⟩,
  ⟨(some 7), (.len (.t 6)), none, [], 0⟩,
  ⟨(some 8), (.fad 0 (.t 2)), none, [], 0⟩,
  ⟨(some 9), (.load 1 .false (.t 8)), none, [], 0⟩,
  ⟨(some 10), (.len (.t 9)), none, [], 0⟩,
  ⟨(some 11), (.mm .false [(.t 7), (.t 10)]), none, [], 0⟩,
  ⟨(some 12), (.mov (.c (.s (.int .i64 0)))), none, [], 0⟩]
def g34_2 : List AOper := [
  ⟨(some 13), (.bin .lss (.t 12) (.t 11)), none, [], 0⟩]
def g34_3 : List AOper := [
  ⟨(some 14), (.mov (.t 12)), none, [], 0⟩,
  ⟨(some 5), (.mov (.t 14)), none, [], 0⟩]
def g34_4 : List AOper := [
  ⟨(some 15), (.fad 0 (.t 2)), none, [], 0⟩,
  ⟨(some 16), (.load 1 .false (.t 15)), none, [], 1⟩,
  ⟨(some 17), (.mov (.t 5)), none, [], 2⟩,
  ⟨(some 18), (.iad 1 (.t 16) (.t 17)), none, [], 3⟩,
  ⟨(some 19), (.load 1 .false (.t 18)), none, [], 4⟩,
  ⟨(some 20), (.mov (.t 1)), none, [], 5⟩,
  ⟨(some 21), (.mov (.t 5)), none, [], 6⟩,
  ⟨(some 22), (.iad 1 (.t 20) (.t 21)), none, [], 7⟩,
  ⟨(some 23), (.load 1 .false (.t 22)), none, [1, 4], 8⟩,
  ⟨(some 24), (.call (.c (.f 17 [])) [(.t 19), (.t 23)]), none, [], 9⟩,
  ⟨(some 25), (.un .not (.t 24)), none, [], 10⟩]
def g34_5 : List AOper := [
  ⟨(some 4), (.mov (.c (.s (.bool .false)))), none, [], 0⟩]
def g34_6 : List AOper := [
  ⟨(some 26), (.bin .add (.t 12) (.c (.s (.int .i64 1)))), none, [], 0⟩,
  ⟨(some 12), (.mov (.t 26)), none, [], 0⟩]
def g34_7 : List AOper := [
  ⟨(some 27), (.mov (.t 1)), none, [], 0⟩,
  ⟨(some 28), (.len (.t 27)), none, [], 0⟩,
  ⟨(some 29), (.fad 0 (.t 2)), none, [], 0⟩,
  ⟨(some 30), (.load 1 .false (.t 29)), none, [], 0⟩,
  ⟨(some 31), (.len (.t 30)), none, [], 0⟩,
  ⟨(some 32), (.bin .eql (.t 28) (.t 31)), none, [], 0⟩,
  ⟨(some 4), (.mov (.t 32)), none, [], 0⟩]
def ac34 : AC :=
  (.seq (.region g34_0 live34) (.seq (.seq (.region g34_1 live34) (.block 0 (.loop (.seq (.region g34_2 live34) (.seq (.cond (.t 13) .skip (.exit 0)) (.seq (.block 1 (.seq (.region g34_3 live34) (.seq (.drawn g34_4 live34) (.cond (.t 25) (.seq (.region g34_5 live34) .ret) .skip)))) (.region g34_6 live34))))))) (.seq (.region g34_7 live34) .ret)))
theorem fn34 : Den.Fn Try.prog 34 33 res34 ac34 := ⟨⟨Try.f34, _, live34, Try.func34, rfl, by kernel_rfl, rfl, by kernel_rfl, by kernel_rfl⟩⟩

/-- chapman/chapmanref14.ValidState; parameters: 2 -/
def live35 : List Nat := [0, 1, 2, 4, 5, 11, 15, 28]
def res35 : List RO := [(.t 4)]
def g35_0 : List AOper := [
  ⟨(some 2), (.box (.t 0)), none, [], 0⟩,
  ⟨(some 4), (.mov (.c (.s (.bool .false)))), none, [], 0⟩]
def g35_1 : List AOper := [
  ⟨(some 6), (.fad 0 (.t 2)), none, [], 0⟩,
  ⟨(some 7), (.load 1 .false (.t 6)), none, [], 0⟩,
  ⟨(some 8), (.len (.t 7)), none, [], 0⟩,
  ⟨(some 9), (.mov (.t 1)), none, [], 0⟩,
  ⟨(some 10), (.len (.t 9)), none, [], 0⟩,
  ⟨(some 11), (.bin .neq (.t 8) (.t 10)), none, [], 0⟩]
def g35_2 : List AOper := [
  ⟨(some 4), (.mov (.c (.s (.bool .false)))), none, [], 0⟩]
def g35_3 : List AOper := [
  ⟨(some 5), (.mov (.c (.s (.int .i64 0)))), none, [], 0⟩]
def g35_4 : List AOper := [
  ⟨(some 12), (.mov (.t 5)), none, [], 0⟩,
  ⟨(some 13), (.mov (.t 1)), none, [], 0⟩,
  ⟨(some 14), (.len (.t 13)), none, [], 0⟩,
  ⟨(some 15), (.bin .lss (.t 12) (.t 14)), none, [], 0⟩]
def g35_5 : List AOper := [
  ⟨(some 18), (.fad 0 (.t 2)), none, [], 0⟩,
  ⟨(some 19), (.load 1 .false (.t 18)), none, [], 1⟩,
  ⟨(some 20), (.mov (.t 5)), none, [], 2⟩,
  ⟨(some 21), (.iad 1 (.t 19) (.t 20)), none, [], 3⟩,
  ⟨(some 22), (.load 1 .false (.t 21)), none, [], 4⟩,
  ⟨(some 23), (.mov (.t 1)), none, [], 5⟩,
  ⟨(some 24), (.mov (.t 5)), none, [], 6⟩,
  ⟨(some 25), (.iad 1 (.t 23) (.t 24)), none, [], 7⟩,
  ⟨(some 26), (.load 1 .false (.t 25)), none, [1, 4], 8⟩,
  ⟨(some 27), (.call (.c (.f 12 [])) [(.t 22), (.t 26)]), none, [], 9⟩,
  ⟨(some 28), (.un .not (.t 27)), none, [], 10⟩]
def g35_6 : List AOper := [
  ⟨(some 4), (.mov (.c (.s (.bool .false)))), none, [], 0⟩]
def g35_7 : List AOper := [
  ⟨(some 16), (.mov (.t 5)), none, [], 0⟩,
  ⟨(some 17), (.bin .add (.t 16) (.c (.s (.int .i64 1)))), none, [], 0⟩,
  ⟨(some 5), (.mov (.t 17)), none, [], 0⟩]
def g35_8 : List AOper := [
  ⟨(some 4), (.mov (.c (.s (.bool .true)))), none, [], 0⟩]
def ac35 : AC :=
  (.seq (.region g35_0 live35) (.seq (.seq (.region g35_1 live35) (.cond (.t 11) (.seq (.region g35_2 live35) .ret) .skip)) (.seq (.seq (.region g35_3 live35) (.block 0 (.loop (.seq (.seq (.region g35_4 live35) (.cond (.t 15) .skip (.exit 0))) (.seq (.block 1 (.seq (.drawn g35_5 live35) (.cond (.t 28) (.seq (.region g35_6 live35) .ret) .skip))) (.region g35_7 live35)))))) (.seq (.region g35_8 live35) .ret))))
theorem fn35 : Den.Fn Try.prog 35 29 res35 ac35 := ⟨⟨Try.f35, _, live35, Try.func35, rfl, by kernel_rfl, rfl, by kernel_rfl, by kernel_rfl⟩⟩

/-- chapman/table.SameState; parameters: 2 -/
def live36 : List Nat := [0, 1, 2, 3, 4]
def res36 : List RO := [(.t 4)]
def g36_0 : List AOper := [
  ⟨(some 2), (.box (.t 0)), none, [], 0⟩,
  ⟨(some 3), (.box (.t 1)), none, [], 0⟩,
  ⟨(some 4), (.mov (.c (.s (.bool .false)))), none, [], 0⟩]
def g36_1 : List AOper := [
  ⟨(some 5), (.fad 0 (.t 2)), none, [], 0⟩,
  ⟨(some 6), (.load 1 .false (.t 5)), none, [], 0⟩,
  ⟨(some 7), (.fad 0 (.t 3)), none, [], 0⟩,
  ⟨(some 8), (.load 1 .false (.t 7)), none, [], 0⟩,
  ⟨(some 9), (.call (.c (.f 53 [])) [(.t 6), (.t 8), (.c (.f 54 []))]), none, [], 0⟩,
  ⟨(some 4), (.mov (.t 9)), none, [], 0⟩]
def ac36 : AC :=
  (.seq (.region g36_0 live36) (.seq (.region g36_1 live36) .ret))
theorem fn36 : Den.Fn Try.prog 36 10 res36 ac36 := ⟨⟨Try.f36, _, live36, Try.func36, rfl, by kernel_rfl, rfl, by kernel_rfl, by kernel_rfl⟩⟩

/-- chapman/chapmanref14.SameState; parameters: 2 -/
def live37 : List Nat := [0, 1, 2, 3, 4, 5, 12, 17, 31]
def res37 : List RO := [(.t 4)]
def g37_0 : List AOper := [
  ⟨(some 2), (.box (.t 0)), none, [], 0⟩,
  ⟨(some 3), (.box (.t 1)), none, [], 0⟩,
  ⟨(some 4), (.mov (.c (.s (.bool .false)))), none, [], 0⟩]
def g37_1 : List AOper := [
  ⟨(some 6), (.fad 0 (.t 2)), none, [], 0⟩,
  ⟨(some 7), (.load 1 .false (.t 6)), none, [], 0⟩,
  ⟨(some 8), (.len (.t 7)), none, [], 0⟩,
  ⟨(some 9), (.fad 0 (.t 3)), none, [], 0⟩,
  ⟨(some 10), (.load 1 .false (.t 9)), none, [], 0⟩,
  ⟨(some 11), (.len (.t 10)), none, [], 0⟩,
  ⟨(some 12), (.bin .neq (.t 8) (.t 11)), none, [], 0⟩]
def g37_2 : List AOper := [
  ⟨(some 4), (.mov (.c (.s (.bool .false)))), none, [], 0⟩]
def g37_3 : List AOper := [
  ⟨(some 5), (.mov (.c (.s (.int .i64 0)))), none, [], 0⟩]
def g37_4 : List AOper := [
  ⟨(some 13), (.mov (.t 5)), none, [], 0⟩,
  ⟨(some 14), (.fad 0 (.t 2)), none, [], 0⟩,
  ⟨(some 15), (.load 1 .false (.t 14)), none, [], 0⟩,
  ⟨(some 16), (.len (.t 15)), none, [], 0⟩,
  ⟨(some 17), (.bin .lss (.t 13) (.t 16)), none, [], 0⟩]
def g37_5 : List AOper := [
  ⟨(some 20), (.fad 0 (.t 2)), none, [], 0⟩,
  ⟨(some 21), (.load 1 .false (.t 20)), none, [], 1⟩,
  ⟨(some 22), (.mov (.t 5)), none, [], 2⟩,
  ⟨(some 23), (.iad 1 (.t 21) (.t 22)), none, [], 3⟩,
  ⟨(some 24), (.load 1 .false (.t 23)), none, [], 4⟩,
  ⟨(some 25), (.fad 0 (.t 3)), none, [], 5⟩,
  ⟨(some 26), (.load 1 .false (.t 25)), none, [1, 4], 6⟩,
  ⟨(some 27), (.mov (.t 5)), none, [], 7⟩,
  ⟨(some 28), (.iad 1 (.t 26) (.t 27)), none, [], 8⟩,
  ⟨(some 29), (.load 1 .false (.t 28)), none, [1, 4], 9⟩,
  ⟨(some 30), (.call (.c (.f 31 [])) [(.t 24), (.t 29)]), none, [], 10⟩,
  ⟨(some 31), (.un .not (.t 30)), none, [], 11⟩]
def g37_6 : List AOper := [
  ⟨(some 4), (.mov (.c (.s (.bool .false)))), none, [], 0⟩]
def g37_7 : List AOper := [
  ⟨(some 18), (.mov (.t 5)), none, [], 0⟩,
  ⟨(some 19), (.bin .add (.t 18) (.c (.s (.int .i64 1)))), none, [], 0⟩,
  ⟨(some 5), (.mov (.t 19)), none, [], 0⟩]
def g37_8 : List AOper := [
  ⟨(some 4), (.mov (.c (.s (.bool .true)))), none, [], 0⟩]
def ac37 : AC :=
  (.seq (.region g37_0 live37) (.seq (.seq (.region g37_1 live37) (.cond (.t 12) (.seq (.region g37_2 live37) .ret) .skip)) (.seq (.seq (.region g37_3 live37) (.block 0 (.loop (.seq (.seq (.region g37_4 live37) (.cond (.t 17) .skip (.exit 0))) (.seq (.block 1 (.seq (.drawn g37_5 live37) (.cond (.t 31) (.seq (.region g37_6 live37) .ret) .skip))) (.region g37_7 live37)))))) (.seq (.region g37_8 live37) .ret))))
theorem fn37 : Den.Fn Try.prog 37 32 res37 ac37 := ⟨⟨Try.f37, _, live37, Try.func37, rfl, by kernel_rfl, rfl, by kernel_rfl, by kernel_rfl⟩⟩

/-- chapman/chapmanlaw14.row; parameters: 2 -/
def live38 : List Nat := [0, 1, 4]
def res38 : List RO := [(.c 4 3 .true)]
def g38_0 : List AOper := [
  ⟨(some 4), (.new [(.d .true 5 []), (.d .true 1 []), (.d .true 2 [])]), none, [], 0⟩]
def g38_1 : List AOper := [
  ⟨(some 5), (.mov (.t 0)), none, [], 0⟩,
  ⟨(some 6), (.call (.c (.f 56 [])) [(.t 5)]), none, [], 0⟩,
  ⟨(some 7), (.build [(.s (.int .i64 0)), (.s (.int .i64 0)), (.s (.string (ByteArray.mk #[]))), (.s (.int .i64 0)), (.s (.int .i64 0))] [(0, (3, (.t 6)))]), none, [], 0⟩,
  ⟨(some 8), (.mov (.t 1)), none, [], 0⟩,
  ⟨(some 9), (.call (.c (.f 56 [])) [(.t 8)]), none, [], 0⟩,
  ⟨(some 10), (.build [(.s (.int .i64 0)), (.s (.int .i64 0)), (.s (.string (ByteArray.mk #[]))), (.s (.int .i64 0)), (.s (.int .i64 0))] [(0, (3, (.t 9)))]), none, [], 0⟩,
  ⟨(some 11), (.bslice 5 [[(.s (.int .i64 0)), (.s (.int .i64 0)), (.s (.string (ByteArray.mk #[]))), (.s (.int .i64 0)), (.s (.int .i64 0))], [(.s (.int .i64 0)), (.s (.int .i64 0)), (.s (.string (ByteArray.mk #[]))), (.s (.int .i64 0)), (.s (.int .i64 0))]] [(0, (.t 7)), (1, (.t 10))]), none, [], 0⟩,
  ⟨(some 12), (.build [(.d .true 5 []), (.d .true 1 []), (.d .true 2 [])] [(0, (1, (.t 11)))]), none, [], 0⟩,
  ⟨none, (.store 3 (.t 4) (.t 12)), none, [], 0⟩]
def ac38 : AC :=
  (.seq (.region g38_0 live38) (.seq (.region g38_1 live38) .ret))
theorem fn38 : Den.Fn Try.prog 38 13 res38 ac38 := ⟨⟨Try.f38, _, live38, Try.func38, rfl, by kernel_rfl, rfl, by kernel_rfl, by kernel_rfl⟩⟩

/-- chapman/chapmanlaw14.key; parameters: 1 -/
def live39 : List Nat := [0, 2]
def res39 : List RO := [(.t 2)]
def g39_0 : List AOper := [
  ⟨(some 2), (.mov (.c (.d .true 3 []))), none, [], 0⟩]
def g39_1 : List AOper := [
  ⟨(some 3), (.mov (.t 0)), none, [], 0⟩,
  ⟨(some 4), (.call (.c (.f 56 [])) [(.t 3)]), none, [], 0⟩,
  ⟨(some 5), (.bslice 3 [[(.s (.int .i64 0)), (.s (.int .i64 0)), (.s (.string (ByteArray.mk #[])))]] [(0, (.t 4))]), none, [], 0⟩,
  ⟨(some 2), (.mov (.t 5)), none, [], 0⟩]
def ac39 : AC :=
  (.seq (.region g39_0 live39) (.seq (.region g39_1 live39) .ret))
theorem fn39 : Den.Fn Try.prog 39 6 res39 ac39 := ⟨⟨Try.f39, _, live39, Try.func39, rfl, by kernel_rfl, rfl, by kernel_rfl, by kernel_rfl⟩⟩

/-- chapman/chapmanref14.types; parameters: 0 -/
def live40 : List Nat := [0]
def res40 : List RO := [(.t 0)]
def g40_0 : List AOper := [
  ⟨(some 0), (.mov (.c (.d .true 3 []))), none, [], 0⟩]
def g40_1 : List AOper := [
  ⟨(some 1), (.build [(.s (.int .i64 0)), (.s (.int .i64 0)), (.s (.bool .false))] [(0, (1, (.c (.s (.int .i64 2)))))]), none, [], 0⟩,
  ⟨(some 2), (.build [(.s (.int .i64 0)), (.s (.int .i64 0)), (.s (.bool .false))] [(0, (1, (.c (.s (.int .i64 3))))), (2, (1, (.c (.s (.bool .true)))))]), none, [], 0⟩,
  ⟨(some 3), (.build [(.s (.int .i64 0)), (.s (.int .i64 0)), (.s (.bool .false))] [(0, (1, (.c (.s (.int .i64 2))))), (1, (1, (.c (.s (.int .i64 2))))), (2, (1, (.c (.s (.bool .true)))))]), none, [], 0⟩,
  ⟨(some 4), (.bslice 3 [[(.s (.int .i64 0)), (.s (.int .i64 0)), (.s (.bool .false))], [(.s (.int .i64 0)), (.s (.int .i64 0)), (.s (.bool .false))], [(.s (.int .i64 0)), (.s (.int .i64 0)), (.s (.bool .false))]] [(0, (.t 1)), (1, (.t 2)), (2, (.t 3))]), none, [], 0⟩,
  ⟨(some 0), (.mov (.t 4)), none, [], 0⟩]
def ac40 : AC :=
  (.seq (.region g40_0 live40) (.seq (.region g40_1 live40) .ret))
theorem fn40 : Den.Fn Try.prog 40 5 res40 ac40 := ⟨⟨Try.f40, _, live40, Try.func40, rfl, by kernel_rfl, rfl, by kernel_rfl, by kernel_rfl⟩⟩

/-- chapman/chapmanref06.Value; parameters: 2 -/
def live41 : List Nat := [0, 1, 2, 3, 4, 5, 13, 16, 17, 24, 34]
def res41 : List RO := [(.c 4 3 .true)]
def g41_0 : List AOper := [
  ⟨(some 2), (.box (.t 0)), none, [], 0⟩,
  ⟨(some 3), (.box (.t 1)), none, [], 0⟩,
  ⟨(some 4), (.new [(.s (.int .i64 0)), (.s (.int .i64 0)), (.s (.string (ByteArray.mk #[])))]), none, [], 0⟩]
def g41_1 : List AOper := [
  ⟨(some 6), (.fad 2 (.t 2)), none, [], 0⟩,
  ⟨(some 7), (.load 1 .false (.t 6)), none, [], 0⟩,
  ⟨(some 8), (.mov (.t 7)), none, [], 0⟩,
  ⟨(some 9), (.iadA 2 1 (.t 3) (.c (.s (.int .i64 0)))), (some (8, .true)), [], 0⟩,
  ⟨(some 10), (.load 1 .false (.t 9)), (some (8, .true)), [], 0⟩,
  ⟨(some 11), (.bin .rem (.t 10) (.c (.s (.int .u8 5)))), (some (8, .true)), [], 0⟩,
  ⟨(some 12), (.bin .eql (.t 11) (.c (.s (.int .u8 0)))), (some (8, .true)), [], 0⟩,
  ⟨(some 13), (.pick (.t 8) (.t 12) (.c (.s (.bool .false)))), none, [], 0⟩]
def g41_2 : List AOper := [
  ⟨(some 14), (.call (.c (.f 57 [])) []), none, [], 0⟩,
  ⟨none, (.store 3 (.t 4) (.t 14)), none, [], 0⟩]
def g41_3 : List AOper := [
  ⟨(some 15), (.fad 0 (.t 2)), none, [], 0⟩,
  ⟨(some 16), (.load 1 .false (.t 15)), none, [], 0⟩]
def g41_4 : List AOper := [
  ⟨(some 18), (.bin .eql (.t 16) (.c (.s (.int .i64 1)))), none, [], 0⟩,
  ⟨(some 17), (.mov (.t 18)), none, [], 0⟩]
def g41_5 : List AOper := [
  ⟨(some 19), (.iadA 2 1 (.t 3) (.c (.s (.int .i64 1)))), none, [], 0⟩,
  ⟨(some 20), (.load 1 .false (.t 19)), none, [], 0⟩,
  ⟨(some 21), (.bin .rem (.t 20) (.c (.s (.int .u8 2)))), none, [], 0⟩,
  ⟨(some 22), (.bin .eql (.t 21) (.c (.s (.int .u8 1)))), none, [], 0⟩,
  ⟨(some 23), (.call (.c (.f 58 [])) [(.t 22)]), none, [], 0⟩,
  ⟨none, (.store 3 (.t 4) (.t 23)), none, [], 0⟩]
def g41_6 : List AOper := [
  ⟨(some 25), (.bin .eql (.t 16) (.c (.s (.int .i64 2)))), none, [], 0⟩,
  ⟨(some 24), (.mov (.t 25)), none, [], 0⟩]
def g41_7 : List AOper := [
  ⟨(some 26), (.iadA 2 1 (.t 3) (.c (.s (.int .i64 1)))), none, [], 0⟩,
  ⟨(some 27), (.load 1 .false (.t 26)), none, [], 0⟩,
  ⟨(some 28), (.bin .rem (.t 27) (.c (.s (.int .u8 40)))), none, [], 0⟩,
  ⟨(some 29), (.cvI .i64 (.t 28)), none, [], 0⟩,
  ⟨(some 30), (.bin .sub (.t 29) (.c (.s (.int .i64 12)))), none, [], 0⟩,
  ⟨(some 5), (.mov (.t 30)), none, [], 0⟩]
def g41_8 : List AOper := [
  ⟨(some 31), (.iadA 2 1 (.t 3) (.c (.s (.int .i64 0)))), none, [], 0⟩,
  ⟨(some 32), (.load 1 .false (.t 31)), none, [], 0⟩,
  ⟨(some 33), (.bin .rem (.t 32) (.c (.s (.int .u8 4)))), none, [], 0⟩,
  ⟨(some 34), (.bin .eql (.t 33) (.c (.s (.int .u8 1)))), none, [], 0⟩]
def g41_9 : List AOper := [
  ⟨(some 35), (.mov (.t 5)), none, [], 0⟩,
  ⟨(some 36), (.fad 1 (.t 2)), none, [], 0⟩,
  ⟨(some 37), (.load 1 .false (.t 36)), none, [], 0⟩,
  ⟨(some 38), (.call (.c (.f 60 [])) [(.t 37)]), none, [], 0⟩,
  ⟨(some 39), (.bin .mul (.t 35) (.t 38)), none, [], 0⟩,
  ⟨(some 40), (.call (.c (.f 59 [])) [(.t 39)]), none, [], 0⟩,
  ⟨none, (.store 3 (.t 4) (.t 40)), none, [], 0⟩]
def g41_10 : List AOper := [
  ⟨(some 41), (.mov (.t 5)), none, [], 0⟩,
  ⟨(some 42), (.call (.c (.f 56 [])) [(.t 41)]), none, [], 0⟩,
  ⟨none, (.store 3 (.t 4) (.t 42)), none, [], 0⟩]
def g41_11 : List AOper := [
  ⟨(some 43), (.iadA 2 1 (.t 3) (.c (.s (.int .i64 1)))), none, [], 0⟩,
  ⟨(some 44), (.load 1 .false (.t 43)), none, [], 0⟩,
  ⟨(some 45), (.cvI .i64 (.t 44)), none, [], 0⟩,
  ⟨(some 46), (.call (.c (.f 62 [])) [(.t 45)]), none, [], 0⟩,
  ⟨(some 47), (.call (.c (.f 61 [])) [(.t 46)]), none, [], 0⟩,
  ⟨none, (.store 3 (.t 4) (.t 47)), none, [], 0⟩]
def ac41 : AC :=
  (.seq (.region g41_0 live41) (.seq (.seq (.region g41_1 live41) (.cond (.t 13) (.seq (.region g41_2 live41) .ret) .skip)) (.seq (.seq (.region g41_3 live41) (.block 0 (.seq (.region g41_4 live41) (.cond (.t 17) (.seq (.region g41_5 live41) .ret) (.seq (.region g41_6 live41) (.cond (.t 24) (.seq (.region g41_7 live41) (.seq (.seq (.region g41_8 live41) (.cond (.t 34) (.seq (.region g41_9 live41) .ret) .skip)) (.seq (.region g41_10 live41) .ret))) .skip)))))) (.seq (.region g41_11 live41) .ret))))
theorem fn41 : Den.Fn Try.prog 41 48 res41 ac41 := ⟨⟨Try.f41, _, live41, Try.func41, rfl, by kernel_rfl, rfl, by kernel_rfl, by kernel_rfl⟩⟩


end Go.Proofs.Ytcmgfnhlnefchaa
