/- The IR of this program's functions, as printed by MkIC.lean. Conditions: none. -/
import Derived.Test.YtkkccabchhnebaaFwZ
import Derived.Test.YtkkccabchhnebaaChecked
namespace Go.Proofs.Ytkkccabchhnebaa
open Go.SB
set_option maxRecDepth 100000
/-- signalbox/signalboxlaw22.CycNil -/
def ic7 : IC :=
 (.seq (.region 0 [
   ⟨(some 2), .mv (.c (.bool false)), none, 0, []⟩] [2])
 (.seq (.region 0 [
   ⟨(some 3), .mv (.c .nilp), none, 0, []⟩] [])
 (.seq (.region 1 [
   ⟨(some 10), .mv (.t 3), none, 0, []⟩,
   ⟨(some 11), .call (.c (.fn 32 [] [])) [(.t 10)], none, 0, [0]⟩,
   ⟨(some 9), .mv (.t 11), none, 0, [1]⟩,
   ⟨(some 12), .ext 0 (.t 9), none, 0, [2]⟩,
   ⟨(some 13), .ext 1 (.t 9), none, 0, [2]⟩,
   ⟨(some 4), .alloc [(.int .i64 0), (.int .i64 0), (.int .i64 0), (.str [])], none, 0, []⟩,
   ⟨none, .store 4 (.t 4) (.t 12), none, 1, [5, 3, 1, 0, 1, 2, 3, 5]⟩,
   ⟨(some 5), .mv (.t 13), none, 1, [4, 6, 0, 1, 2, 3, 4, 5, 6]⟩] [9, 10, 11, 12, 13])
 (.seq (.region 0 [
   ⟨(some 15), .mv (.t 3), none, 0, []⟩,
   ⟨(some 16), .call (.c (.fn 33 [] [])) [(.t 15)], none, 0, [0]⟩,
   ⟨(some 14), .mv (.t 16), none, 0, [1]⟩,
   ⟨(some 17), .ext 0 (.t 14), none, 0, [2]⟩,
   ⟨(some 18), .ext 1 (.t 14), none, 0, [2]⟩,
   ⟨(some 6), .mv (.t 17), none, 0, [3, 1, 0, 1, 2, 3]⟩,
   ⟨(some 7), .mv (.t 18), none, 0, [4, 5, 0, 1, 2, 3, 4, 5]⟩] [14, 15, 16, 17, 18])
 (.seq (.region 1 [
   ⟨(some 19), .mv (.t 3), none, 0, []⟩,
   ⟨(some 20), .call (.c (.fn 28 [] [])) [(.t 19)], none, 0, [0]⟩,
   ⟨(some 8), .alloc [(.int .i64 0), (.int .i64 0), (.int .i64 0), (.int .i64 0), .nils, (.bool false), (.bool false)], none, 0, []⟩,
   ⟨none, .store 7 (.t 8) (.t 20), none, 1, [2, 1, 1, 0, 1, 2]⟩] [19, 20])
 (.seq (.regionD 0 [
   ⟨(some 21), .load (some 4) (.t 4), none, 0, []⟩,
   ⟨(some 22), .build [(.int .i64 0), (.int .i64 0), (.int .i64 0), (.str [])] [], none, 0, []⟩,
   ⟨(some 23), .eqv false (.struct [.int, .int, .int, .str]) (.t 21) (.t 22), none, 0, [0, 1]⟩,
   ⟨(some 24), .mv (.t 23), none, 0, [2]⟩,
   ⟨(some 25), .mv (.t 5), (some (24, true)), 0, [3]⟩,
   ⟨(some 26), .un .not (.t 25), (some (24, true)), 0, [4, 3]⟩,
   ⟨(some 27), .pick (.t 24) (.t 26) (.c (.bool false)), none, 0, [3, 5]⟩,
   ⟨(some 28), .mv (.t 27), none, 0, [6, 3]⟩,
   ⟨(some 29), .mv (.t 6), (some (28, true)), 0, [7]⟩,
   ⟨(some 30), .bin .eql (.t 29) (.c (.int .i64 0)), (some (28, true)), 0, [8, 7]⟩,
   ⟨(some 31), .pick (.t 28) (.t 30) (.c (.bool false)), none, 0, [7, 9]⟩,
   ⟨(some 32), .mv (.t 31), none, 0, [10, 7]⟩,
   ⟨(some 33), .mv (.t 7), (some (32, true)), 0, [11]⟩,
   ⟨(some 34), .un .not (.t 33), (some (32, true)), 0, [12, 11]⟩,
   ⟨(some 35), .pick (.t 32) (.t 34) (.c (.bool false)), none, 0, [11, 13]⟩,
   ⟨(some 36), .mv (.t 35), none, 0, [14, 11]⟩,
   ⟨(some 37), .mv (.t 3), (some (36, true)), 0, [15]⟩,
   ⟨(some 38), .mv (.t 0), (some (36, true)), 0, [15]⟩,
   ⟨(some 39), .call (.c (.fn 34 [] [])) [(.t 37), (.t 38)], (some (36, true)), 0, [16, 17, 15, 15]⟩,
   ⟨(some 40), .build [(.int .i64 0), (.int .i64 0), (.int .i64 0), (.str []), (.bool false), (.bool false)] [], (some (36, true)), 0, [15]⟩,
   ⟨(some 41), .eqv false (.struct [.int, .int, .int, .str, .bool, .bool]) (.t 39) (.t 40), (some (36, true)), 0, [18, 19, 15]⟩,
   ⟨(some 42), .pick (.t 36) (.t 41) (.c (.bool false)), none, 0, [15, 20]⟩,
   ⟨(some 43), .mv (.t 42), none, 0, [21, 18]⟩,
   ⟨(some 44), .mv (.t 3), (some (43, true)), 0, [22]⟩,
   ⟨(some 45), .call (.c (.fn 35 [] [])) [(.t 44)], (some (43, true)), 0, [23, 22, 22]⟩,
   ⟨(some 46), .faddr 1 (.t 8), (some (43, true)), 0, [22]⟩,
   ⟨(some 47), .load none (.t 46), (some (43, true)), 0, [25, 22]⟩,
   ⟨(some 48), .bin .add (.t 45) (.t 47), (some (43, true)), 0, [24, 26, 22]⟩,
   ⟨(some 49), .faddr 4 (.t 8), (some (43, true)), 0, [22]⟩,
   ⟨(some 50), .load none (.t 49), (some (43, true)), 0, [28, 22]⟩,
   ⟨(some 51), .lens (.t 50), (some (43, true)), 0, [29, 22]⟩,
   ⟨(some 52), .bin .add (.t 48) (.t 51), (some (43, true)), 0, [27, 30, 22]⟩,
   ⟨(some 53), .bin .eql (.t 52) (.c (.int .i64 0)), (some (43, true)), 0, [31, 22]⟩,
   ⟨(some 54), .pick (.t 43) (.t 53) (.c (.bool false)), none, 0, [22, 32]⟩,
   ⟨(some 55), .mv (.t 54), none, 0, [33, 24]⟩,
   ⟨(some 56), .call (.c (.fn 24 [] [])) [], (some (55, true)), 0, [34, 34]⟩,
   ⟨(some 57), .pick (.t 55) (.t 56) (.c (.bool false)), none, 0, [34, 35]⟩,
   ⟨(some 2), .mv (.t 57), none, 0, [36, 35, 0, 1, 2, 3, 4, 5, 6, 7, 8, 9, 10, 11, 12, 13, 14, 15, 16, 17, 18, 19, 20, 21, 22, 23, 24, 25, 26, 27, 28, 29, 30, 31, 32, 33, 34, 35, 36]⟩]
   [1, 0, 2, 3, 4, 5, 6, 7, 8, 9, 10, 11, 12, 13, 14, 15, 16, 17, 19, 18, 20, 21, 22, 23, 25, 28, 26, 29, 30, 24, 27, 31, 32, 33, 34, 35, 36, 37] [0, 0, 3, 7, 15, 31, 63, 127, 255, 511, 1023, 2047, 4095, 8191, 16383, 32767, 65535, 65535, 262143, 65535, 1048575, 2097151, 4194303, 8388607, 16777215, 8388607, 41943039, 134217727, 8388607, 276824063, 813694975, 2147483647, 4294967295, 8589934591, 17179869183, 34359738367, 68719476735, 137438953471] [0, 3, 4, 5, 6, 7, 8, 21, 22, 23, 24, 25, 26, 27, 28, 29, 30, 31, 32, 33, 34, 35, 36, 37, 38, 39, 40, 41, 42, 43, 44, 45, 46, 47, 48, 49, 50, 51, 52, 53, 54, 55, 56, 57])
 .ret))))))
def hs7 : List (List Nat) := [[2], [], [9, 10, 11, 12, 13], [14, 15, 16, 17, 18], [19, 20], [1, 0, 2, 3, 4, 5, 6, 7, 8, 9, 10, 11, 12, 13, 14, 15, 16, 17, 19, 18, 20, 21, 22, 23, 25, 28, 26, 29, 30, 24, 27, 31, 32, 33, 34, 35, 36, 37], [0, 0, 3, 7, 15, 31, 63, 127, 255, 511, 1023, 2047, 4095, 8191, 16383, 32767, 65535, 65535, 262143, 65535, 1048575, 2097151, 4194303, 8388607, 16777215, 8388607, 41943039, 134217727, 8388607, 276824063, 813694975, 2147483647, 4294967295, 8589934591, 17179869183, 34359738367, 68719476735, 137438953471], [0, 3, 4, 5, 6, 7, 8, 21, 22, 23, 24, 25, 26, 27, 28, 29, 30, 31, 32, 33, 34, 35, 36, 37, 38, 39, 40, 41, 42, 43, 44, 45, 46, 47, 48, 49, 50, 51, 52, 53, 54, 55, 56, 57]]
theorem ok7 : FnOk Try.prog 7 ic7 [.t 2] 58 := ⟨Try.f7, hs7, Try.func7, by kernel_rfl, by kernel_rfl, by kernel_rfl, by kernel_rfl⟩

/-- signalbox/signalboxref09.Ints -/
def ic17 : IC :=
 (.seq (.region 0 [
   ⟨(some 4), .mv (.c (.bool false)), none, 0, []⟩] [4])
 (.seq (.seq (.region 0 [
   ⟨(some 6), .mv (.t 0), none, 0, []⟩,
   ⟨(some 7), .lens (.t 6), none, 0, [0]⟩,
   ⟨(some 8), .mv (.t 1), none, 0, []⟩,
   ⟨(some 9), .lens (.t 8), none, 0, [2]⟩,
   ⟨(some 10), .bin .neq (.t 7) (.t 9), none, 0, [1, 3]⟩] [6, 7, 8, 9])
 (.cond (.t 10) [10]
  (.seq (.region 0 [
    ⟨(some 4), .mv (.c (.bool false)), none, 0, []⟩] [])
  .ret)
  .skip))
 (.seq (.seq (.region 0 [
   ⟨(some 5), .mv (.c (.int .i64 0)), none, 0, []⟩] [])
 (.block 0 (.loop [4, 6, 7, 8, 9, 10, 11, 12, 13, 14, 15, 16, 17, 18, 19, 20, 21, 22, 23, 24, 25]
  (.seq (.seq (.region 0 [
    ⟨(some 11), .mv (.t 5), none, 0, []⟩,
    ⟨(some 12), .mv (.t 0), none, 0, []⟩,
    ⟨(some 13), .lens (.t 12), none, 0, [1]⟩,
    ⟨(some 14), .bin .lss (.t 11) (.t 13), none, 0, [0, 2]⟩] [11, 12, 13])
  (.cond (.t 14) [14]
   .skip
   (.exit 0)))
  (.seq (.block 1 (.seq (.regionD 0 [
    ⟨(some 17), .mv (.t 0), none, 0, []⟩,
    ⟨(some 18), .mv (.t 5), none, 0, []⟩,
    ⟨(some 19), .iaddr 1 (.t 17) (.t 18), none, 0, [0, 1]⟩,
    ⟨(some 20), .load none (.t 19), none, 0, [2]⟩,
    ⟨(some 21), .mv (.t 1), none, 0, []⟩,
    ⟨(some 22), .mv (.t 5), none, 0, []⟩,
    ⟨(some 23), .iaddr 1 (.t 21) (.t 22), none, 0, [4, 5]⟩,
    ⟨(some 24), .load none (.t 23), none, 0, [6]⟩,
    ⟨(some 25), .bin .neq (.t 20) (.t 24), none, 0, [3, 7]⟩]
    [0, 1, 2, 4, 5, 6, 3, 7, 8] [0, 0, 3, 7, 0, 0, 48, 112, 255] [17, 18, 19, 20, 21, 22, 23, 24])
  (.cond (.t 25) [25]
   (.seq (.region 0 [
     ⟨(some 4), .mv (.c (.bool false)), none, 0, []⟩] [])
   .ret)
   .skip)))
  (.region 0 [
    ⟨(some 15), .mv (.t 5), none, 0, []⟩,
    ⟨(some 16), .bin .add (.t 15) (.c (.int .i64 1)), none, 0, [0]⟩,
    ⟨(some 5), .mv (.t 16), none, 0, [1, 0, 1]⟩] [15, 16]))))))
 (.seq (.region 0 [
   ⟨(some 4), .mv (.c (.bool true)), none, 0, []⟩] [])
 .ret))))
def hs17 : List (List Nat) := [[4], [6, 7, 8, 9], [10], [], [], [4, 6, 7, 8, 9, 10, 11, 12, 13, 14, 15, 16, 17, 18, 19, 20, 21, 22, 23, 24, 25], [11, 12, 13], [14], [0, 1, 2, 4, 5, 6, 3, 7, 8], [0, 0, 3, 7, 0, 0, 48, 112, 255], [17, 18, 19, 20, 21, 22, 23, 24], [25], [], [15, 16], []]
theorem ok17 : FnOk Try.prog 17 ic17 [.t 4] 26 := ⟨Try.f17, hs17, Try.func17, by kernel_rfl, by kernel_rfl, by kernel_rfl, by kernel_rfl⟩

/-- signalbox/signalboxlaw22.alive -/
def ic24 : IC :=
 (.seq (.region 0 [
   ⟨(some 0), .mv (.c (.bool false)), none, 0, []⟩] [0])
 (.seq (.region 0 [
   ⟨(some 6), .call (.c (.fn 50 [] [])) [(.c (.int .i64 2)), (.c (.int .i64 3)), (.c (.int .i64 10))], none, 0, []⟩,
   ⟨(some 7), .call (.c (.fn 25 [] [])) [(.t 6), (.c (.int .i64 0))], none, 0, [0, 0]⟩,
   ⟨(some 5), .mv (.t 7), none, 0, [1]⟩,
   ⟨(some 8), .ext 0 (.t 5), none, 0, [2]⟩,
   ⟨(some 9), .ext 1 (.t 5), none, 0, [2]⟩,
   ⟨(some 1), .mv (.t 8), none, 0, [3, 1, 0, 1, 2, 3]⟩,
   ⟨(some 2), .mv (.t 9), none, 0, [4, 5, 0, 1, 2, 3, 4, 5]⟩] [5, 6, 7, 8, 9])
 (.seq (.region 2 [
   ⟨(some 10), .mv (.t 1), none, 0, []⟩,
   ⟨(some 11), .call (.c (.fn 34 [] [])) [(.t 10), (.c (.int .i64 3))], none, 0, [0]⟩,
   ⟨(some 12), .mv (.t 1), none, 0, []⟩,
   ⟨(some 13), .call (.c (.fn 34 [] [])) [(.t 12), (.c (.int .i64 6))], none, 0, [2, 1]⟩,
   ⟨(some 3), .alloc [(.int .i64 0), (.int .i64 0), (.int .i64 0), (.str []), (.bool false), (.bool false)], none, 0, []⟩,
   ⟨(some 4), .alloc [(.int .i64 0), (.int .i64 0), (.int .i64 0), (.str []), (.bool false), (.bool false)], none, 1, []⟩,
   ⟨none, .store 6 (.t 3) (.t 11), none, 2, [4, 1, 3, 0, 1, 4, 5]⟩,
   ⟨none, .store 6 (.t 4) (.t 13), none, 2, [5, 3, 6, 0, 1, 2, 3, 4, 5, 6]⟩] [1, 10, 11, 12, 13])
 (.seq (.region 1 [
   ⟨(some 14), .mv (.t 2), none, 0, []⟩,
   ⟨(some 15), .bin .eql (.t 14) (.c (.int .i64 0)), none, 0, [0]⟩,
   ⟨(some 16), .mv (.t 15), none, 0, [1]⟩,
   ⟨(some 17), .faddr 4 (.t 3), (some (16, true)), 0, [2]⟩,
   ⟨(some 18), .load none (.t 17), (some (16, true)), 0, [3, 2]⟩,
   ⟨(some 19), .pick (.t 16) (.t 18) (.c (.bool false)), none, 0, [2, 4]⟩,
   ⟨(some 20), .mv (.t 19), none, 0, [5, 2]⟩,
   ⟨(some 21), .faddr 0 (.t 3), (some (20, true)), 0, [6]⟩,
   ⟨(some 22), .faddr 0 (.t 21), (some (20, true)), 0, [7, 6]⟩,
   ⟨(some 23), .load none (.t 22), (some (20, true)), 0, [8, 6]⟩,
   ⟨(some 24), .bin .eql (.t 23) (.c (.int .i64 1)), (some (20, true)), 0, [9, 6]⟩,
   ⟨(some 25), .pick (.t 20) (.t 24) (.c (.bool false)), none, 0, [6, 10]⟩,
   ⟨(some 26), .mv (.t 25), none, 0, [11, 6]⟩,
   ⟨(some 27), .faddr 5 (.t 3), (some (26, true)), 0, [12]⟩,
   ⟨(some 28), .load none (.t 27), (some (26, true)), 0, [13, 12]⟩,
   ⟨(some 29), .un .not (.t 28), (some (26, true)), 0, [14, 12]⟩,
   ⟨(some 30), .pick (.t 26) (.t 29) (.c (.bool false)), none, 0, [12, 15]⟩,
   ⟨(some 31), .mv (.t 30), none, 0, [16, 12]⟩,
   ⟨(some 32), .faddr 0 (.t 4), (some (31, true)), 0, [17]⟩,
   ⟨(some 33), .faddr 0 (.t 32), (some (31, true)), 0, [18, 17]⟩,
   ⟨(some 34), .load none (.t 33), (some (31, true)), 0, [19, 17]⟩,
   ⟨(some 35), .bin .eql (.t 34) (.c (.int .i64 2)), (some (31, true)), 0, [20, 17]⟩,
   ⟨(some 36), .pick (.t 31) (.t 35) (.c (.bool false)), none, 0, [17, 21]⟩,
   ⟨(some 37), .mv (.t 36), none, 0, [22, 17]⟩,
   ⟨(some 38), .faddr 5 (.t 4), (some (37, true)), 0, [23]⟩,
   ⟨(some 39), .load none (.t 38), (some (37, true)), 0, [24, 23]⟩,
   ⟨(some 40), .pick (.t 37) (.t 39) (.c (.bool false)), none, 0, [23, 25]⟩,
   ⟨(some 41), .mv (.t 40), none, 0, [26, 23]⟩,
   ⟨(some 42), .call (.c (.fn 50 [] [])) [(.c (.int .i64 2)), (.c (.int .i64 3)), (.c (.int .i64 10))], (some (41, true)), 0, [27, 27]⟩,
   ⟨(some 43), .call (.c (.fn 30 [] [])) [(.t 42), (.c (.int .i64 0)), (.c (.int .i64 26))], (some (41, true)), 0, [28, 28, 27]⟩,
   ⟨(some 44), .bslice 1 [(.c (.int .i64 3)), (.c (.int .i64 6)), (.c (.int .i64 16)), (.c (.int .i64 26))], (some (41, true)), 0, [27]⟩,
   ⟨(some 45), .call (.c (.fn 17 [] [])) [(.t 43), (.t 44)], (some (41, true)), 1, [29, 30, 29, 27]⟩,
   ⟨(some 46), .pick (.t 41) (.t 45) (.c (.bool false)), none, 1, [27, 31]⟩,
   ⟨(some 0), .mv (.t 46), none, 1, [32, 31, 0, 1, 2, 3, 4, 5, 6, 7, 8, 9, 10, 11, 12, 13, 14, 15, 16, 17, 18, 19, 20, 21, 22, 23, 24, 25, 26, 27, 28, 29, 30, 31, 32]⟩] [2, 3, 4, 14, 15, 16, 17, 18, 19, 20, 21, 22, 23, 24, 25, 26, 27, 28, 29, 30, 31, 32, 33, 34, 35, 36, 37, 38, 39, 40, 41, 42, 43, 44, 45, 46])
 .ret))))
def hs24 : List (List Nat) := [[0], [5, 6, 7, 8, 9], [1, 10, 11, 12, 13], [2, 3, 4, 14, 15, 16, 17, 18, 19, 20, 21, 22, 23, 24, 25, 26, 27, 28, 29, 30, 31, 32, 33, 34, 35, 36, 37, 38, 39, 40, 41, 42, 43, 44, 45, 46]]
theorem ok24 : FnOk Try.prog 24 ic24 [.t 0] 47 := ⟨Try.f24, hs24, Try.func24, by kernel_rfl, by kernel_rfl, by kernel_rfl, by kernel_rfl⟩

/-- signalbox/cyc.New -/
def ic25 : IC :=
 (.seq (.region 1 [
   ⟨(some 2), .box (.t 0), none, 0, []⟩,
   ⟨(some 4), .mv (.c .nilp), none, 1, []⟩,
   ⟨(some 5), .mv (.c (.int .i64 0)), none, 1, [1]⟩] [0, 4, 5])
 (.seq (.seq (.region 0 [
   ⟨(some 8), .mv (.t 1), none, 0, []⟩,
   ⟨(some 9), .call (.c (.fn 51 [] [])) [(.t 8)], none, 0, [0]⟩,
   ⟨(some 10), .un .not (.t 9), none, 0, [1]⟩] [8, 9])
 (.cond (.t 10) [10]
  (.seq (.region 0 [
    ⟨(some 4), .mv (.c .nilp), none, 0, []⟩,
    ⟨(some 5), .mv (.c (.int .i64 2)), none, 0, [0, 0]⟩] [])
  .ret)
  .skip))
 (.seq (.seq (.region 0 [
   ⟨(some 11), .load (some 7) (.t 2), none, 0, []⟩,
   ⟨(some 12), .call (.c (.fn 27 [] [])) [(.t 11)], none, 0, [0]⟩,
   ⟨(some 6), .mv (.t 12), none, 0, [1, 1, 0, 1]⟩] [11, 12])
 (.seq (.region 0 [
   ⟨(some 13), .mv (.t 6), none, 0, []⟩,
   ⟨(some 14), .bin .neq (.t 13) (.c (.int .i64 0)), none, 0, [0]⟩] [13])
 (.cond (.t 14) [14]
  (.seq (.region 0 [
    ⟨(some 15), .mv (.t 6), none, 0, []⟩,
    ⟨(some 4), .mv (.c .nilp), none, 0, []⟩,
    ⟨(some 5), .mv (.t 15), none, 0, [0, 1, 0, 1]⟩] [6, 15])
  .ret)
  .skip)))
 (.seq (.region 0 [
   ⟨(some 16), .faddr 4 (.t 2), none, 0, []⟩,
   ⟨(some 17), .load none (.t 16), none, 0, [0]⟩,
   ⟨(some 18), .call (.c (.fn 52 [] [])) [(.t 17)], none, 0, [1]⟩,
   ⟨(some 19), .faddr 4 (.t 2), none, 0, [0, 1, 2]⟩,
   ⟨none, .store 1 (.t 19) (.t 18), none, 0, [3, 2, 2, 0, 1, 2]⟩] [16, 17, 18, 19])
 (.seq (.regionD 1 [
   ⟨(some 20), .load (some 7) (.t 2), none, 0, []⟩,
   ⟨(some 21), .faddr 4 (.t 2), none, 0, []⟩,
   ⟨(some 22), .load none (.t 21), none, 0, [1]⟩,
   ⟨(some 23), .call (.c (.fn 53 [] [])) [(.t 22)], none, 0, [2]⟩,
   ⟨(some 24), .build [(.int .i64 0), (.int .i64 0), (.int .i64 0), (.int .i64 0), .nils, (.bool false), (.bool false), .nilf, (.bool false), (.int .i64 0), (.int .i64 0), (.bool false)] [(0, 7, (.t 20)), (7, 1, (.t 23))], none, 0, [0, 3]⟩,
   ⟨(some 25), .box (.t 24), none, 0, [4]⟩,
   ⟨(some 7), .mv (.t 25), none, 1, [5, 3, 0, 1, 2, 3, 4, 5]⟩]
   [1, 0, 2, 3, 4, 5, 6] [0, 0, 2, 6, 15, 31, 63] [20, 21, 22, 23, 24, 25])
 (.seq (.seq (.region 0 [
   ⟨(some 26), .faddr 2 (.t 2), none, 0, []⟩,
   ⟨(some 27), .load none (.t 26), none, 0, [0]⟩,
   ⟨(some 28), .bin .gtr (.t 27) (.c (.int .i64 0)), none, 0, [1]⟩] [26, 27])
 (.cond (.t 28) [28]
  (.region 0 [
    ⟨(some 29), .mv (.t 7), none, 0, []⟩,
    ⟨(some 30), .faddr 1 (.t 2), none, 0, []⟩,
    ⟨(some 31), .load none (.t 30), none, 0, [1]⟩,
    ⟨(some 32), .nilck (.t 29), none, 0, [0, 0, 1, 2]⟩,
    ⟨(some 33), .faddr 9 (.t 32), none, 0, [3, 0, 1, 2]⟩,
    ⟨none, .store 1 (.t 33) (.t 31), none, 0, [4, 2, 0, 1, 2]⟩] [2, 29, 30, 31, 32, 33])
  .skip))
 (.seq (.region 0 [
   ⟨(some 34), .mv (.t 7), none, 0, []⟩,
   ⟨(some 35), .mv (.t 1), none, 0, []⟩,
   ⟨(some 36), .call (.c (.fn 54 [] [])) [(.t 34), (.t 35)], none, 0, [0, 1]⟩] [1, 34, 35, 36])
 (.seq (.region 0 [
   ⟨(some 37), .mv (.t 7), none, 0, []⟩,
   ⟨(some 4), .mv (.t 37), none, 0, [0, 0]⟩,
   ⟨(some 5), .mv (.c (.int .i64 0)), none, 0, [1, 0, 1]⟩] [7, 37])
 .ret))))))))
def hs25 : List (List Nat) := [[0, 4, 5], [8, 9], [10], [], [11, 12], [13], [14], [6, 15], [16, 17, 18, 19], [1, 0, 2, 3, 4, 5, 6], [0, 0, 2, 6, 15, 31, 63], [20, 21, 22, 23, 24, 25], [26, 27], [28], [2, 29, 30, 31, 32, 33], [1, 34, 35, 36], [7, 37]]
theorem ok25 : FnOk Try.prog 25 ic25 [.t 4, .t 5] 38 := ⟨Try.f25, hs25, Try.func25, by kernel_rfl, by kernel_rfl, by kernel_rfl, by kernel_rfl⟩

/-- signalbox/cyc.Right -/
def ic27 : IC :=
 (.seq (.region 1 [
   ⟨(some 1), .box (.t 0), none, 0, []⟩,
   ⟨(some 2), .mv (.c (.int .i64 0)), none, 1, []⟩] [0, 2])
 (.seq (.block 0 (.seq (.block 4 (.seq (.block 3 (.block 2 (.seq (.block 1 (.seq (.seq (.seq (.region 0 [
   ⟨(some 4), .faddr 4 (.t 1), none, 0, []⟩,
   ⟨(some 5), .load none (.t 4), none, 0, [0]⟩,
   ⟨(some 6), .lens (.t 5), none, 0, [1]⟩,
   ⟨(some 7), .bin .gtr (.t 6) (.c (.int .i64 256)), none, 0, [2]⟩,
   ⟨(some 3), .mv (.t 7), none, 0, [3]⟩] [4, 5, 6, 7])
 (.cond (.t 3) [3]
  (.exit 1)
  .skip))
 (.seq (.seq (.region 0 [
   ⟨(some 9), .faddr 4 (.t 1), none, 0, []⟩,
   ⟨(some 10), .load none (.t 9), none, 0, [0]⟩,
   ⟨(some 11), .lens (.t 10), none, 0, [1]⟩,
   ⟨(some 12), .bin .eql (.t 11) (.c (.int .i64 0)), none, 0, [2]⟩,
   ⟨(some 8), .mv (.t 12), none, 0, [3]⟩] [9, 10, 11, 12])
 (.cond (.t 8) [8]
  (.exit 2)
  .skip))
 (.seq (.seq (.region 0 [
   ⟨(some 14), .faddr 1 (.t 1), none, 0, []⟩,
   ⟨(some 15), .load none (.t 14), none, 0, [0]⟩,
   ⟨(some 16), .call (.c (.fn 51 [] [])) [(.t 15)], none, 0, [1]⟩,
   ⟨(some 17), .un .not (.t 16), none, 0, [2]⟩,
   ⟨(some 18), .mv (.t 17), none, 0, [3, 2]⟩,
   ⟨(some 19), .faddr 2 (.t 1), (some (18, false)), 0, [4]⟩,
   ⟨(some 20), .load none (.t 19), (some (18, false)), 0, [5, 4]⟩,
   ⟨(some 21), .call (.c (.fn 51 [] [])) [(.t 20)], (some (18, false)), 0, [6, 4, 4]⟩,
   ⟨(some 22), .un .not (.t 21), (some (18, false)), 0, [7, 4]⟩,
   ⟨(some 23), .pick (.t 18) (.c (.bool true)) (.t 22), none, 0, [4, 8]⟩,
   ⟨(some 24), .mv (.t 23), none, 0, [9, 7]⟩,
   ⟨(some 25), .faddr 3 (.t 1), (some (24, false)), 0, [10]⟩,
   ⟨(some 26), .load none (.t 25), (some (24, false)), 0, [11, 10]⟩,
   ⟨(some 27), .call (.c (.fn 51 [] [])) [(.t 26)], (some (24, false)), 0, [12, 10, 10]⟩,
   ⟨(some 28), .un .not (.t 27), (some (24, false)), 0, [13, 10]⟩,
   ⟨(some 29), .pick (.t 24) (.c (.bool true)) (.t 28), none, 0, [10, 14]⟩,
   ⟨(some 13), .mv (.t 29), none, 0, [15, 13]⟩] [14, 15, 16, 17, 18, 19, 20, 21, 22, 23, 24, 25, 26, 27, 28, 29])
 (.cond (.t 13) [13]
  (.exit 3)
  .skip))
 (.seq (.region 0 [
   ⟨(some 31), .faddr 4 (.t 1), none, 0, []⟩,
   ⟨(some 32), .load none (.t 31), none, 0, [0]⟩,
   ⟨(some 33), .call (.c (.fn 56 [] [])) [(.t 32), (.c (.fn 57 [] []))], none, 0, [1]⟩,
   ⟨(some 30), .mv (.t 33), none, 0, [2, 2]⟩] [1, 31, 32, 33])
 (.cond (.t 30) [30]
  (.exit 4)
  .skip)))))
 (.exit 0)))
 (.seq (.seq (.region 0 [
   ⟨(some 2), .mv (.c (.int .i64 9)), none, 0, []⟩] [])
 .ret)
 (.exit 0)))))
 (.seq (.seq (.region 0 [
   ⟨(some 2), .mv (.c (.int .i64 2)), none, 0, []⟩] [])
 .ret)
 (.exit 0))))
 (.seq (.seq (.region 0 [
   ⟨(some 2), .mv (.c (.int .i64 4)), none, 0, []⟩] [])
 .ret)
 (.exit 0))))
 (.seq (.region 0 [
   ⟨(some 2), .mv (.c (.int .i64 0)), none, 0, []⟩] [])
 .ret)))
def hs27 : List (List Nat) := [[0, 2], [4, 5, 6, 7], [3], [9, 10, 11, 12], [8], [14, 15, 16, 17, 18, 19, 20, 21, 22, 23, 24, 25, 26, 27, 28, 29], [13], [1, 31, 32, 33], [30], [], [], [], []]
theorem ok27 : FnOk Try.prog 27 ic27 [.t 2] 34 := ⟨Try.f27, hs27, Try.func27, by kernel_rfl, by kernel_rfl, by kernel_rfl, by kernel_rfl⟩

/-- (*signalbox/cyc.Cyc).Job -/
def ic28 : IC :=
 (.seq (.region 1 [
   ⟨(some 2), .alloc [(.int .i64 0), (.int .i64 0), (.int .i64 0), (.int .i64 0), .nils, (.bool false), (.bool false)], none, 0, []⟩] [])
 (.seq (.seq (.region 0 [
   ⟨(some 4), .mv (.t 0), none, 0, []⟩,
   ⟨(some 5), .eqv false .ptr (.t 4) (.c .nilp), none, 0, [0]⟩] [4])
 (.cond (.t 5) [5]
  (.seq (.region 0 [
    ⟨(some 6), .build [(.int .i64 0), (.int .i64 0), (.int .i64 0), (.int .i64 0), .nils, (.bool false), (.bool false)] [], none, 0, []⟩,
    ⟨none, .store 7 (.t 2) (.t 6), none, 0, [0, 0]⟩] [6])
  .ret)
  .skip))
 (.seq (.region 1 [
   ⟨(some 7), .mv (.t 0), none, 0, []⟩,
   ⟨(some 8), .nilck (.t 7), none, 0, [0]⟩,
   ⟨(some 9), .faddr 0 (.t 8), none, 0, [1]⟩,
   ⟨(some 10), .load (some 7) (.t 9), none, 0, [2]⟩,
   ⟨(some 3), .alloc [(.int .i64 0), (.int .i64 0), (.int .i64 0), (.int .i64 0), .nils, (.bool false), (.bool false)], none, 0, []⟩,
   ⟨none, .store 7 (.t 3) (.t 10), none, 1, [4, 3, 0, 1, 2, 3, 4]⟩] [0, 7, 8, 9, 10])
 (.seq (.region 0 [
   ⟨(some 11), .faddr 4 (.t 3), none, 0, []⟩,
   ⟨(some 12), .load none (.t 11), none, 0, [0]⟩,
   ⟨(some 13), .call (.c (.fn 52 [] [])) [(.t 12)], none, 0, [1]⟩,
   ⟨(some 14), .faddr 4 (.t 3), none, 0, [0, 1, 2]⟩,
   ⟨none, .store 1 (.t 14) (.t 13), none, 0, [3, 2, 2, 0, 1, 2]⟩] [11, 12, 13, 14])
 (.seq (.region 0 [
   ⟨(some 15), .load (some 7) (.t 3), none, 0, []⟩,
   ⟨none, .store 7 (.t 2) (.t 15), none, 0, [0, 0]⟩] [3, 15])
 .ret)))))
def hs28 : List (List Nat) := [[], [4], [5], [6], [0, 7, 8, 9, 10], [11, 12, 13, 14], [3, 15]]
theorem ok28 : FnOk Try.prog 28 ic28 [.cell 2 (some 7)] 16 := ⟨Try.f28, hs28, Try.func28, by kernel_rfl, by kernel_rfl, by kernel_rfl, by kernel_rfl⟩

/-- signalbox/cyc.Times -/
def ic30 : IC :=
 (.seq (.region 1 [
   ⟨(some 3), .box (.t 0), none, 0, []⟩,
   ⟨(some 6), .mv (.c .nils), none, 1, []⟩] [0, 6])
 (.scope 0 [0, 1, 3, 6, 9, 10, 11, 12, 13, 14, 15, 16, 17, 18, 19, 20, 21, 22, 23, 24, 25, 26, 27, 28, 32, 33, 37, 38, 39, 40, 41, 42, 43, 44, 45]
  (.seq (.region 0 [
    ⟨(some 7), .mv (.c .nils), none, 0, []⟩] [])
  (.seq (.region 0 [
    ⟨(some 13), .load (some 7) (.t 3), none, 0, []⟩,
    ⟨(some 14), .mv (.t 1), none, 0, []⟩,
    ⟨(some 15), .call (.c (.fn 25 [] [])) [(.t 13), (.t 14)], none, 0, [0, 1]⟩,
    ⟨(some 12), .mv (.t 15), none, 0, [2]⟩,
    ⟨(some 16), .ext 0 (.t 12), none, 0, [3]⟩,
    ⟨(some 17), .ext 1 (.t 12), none, 0, [3]⟩,
    ⟨(some 8), .mv (.t 16), none, 0, [4, 2, 0, 1, 2, 3, 4]⟩,
    ⟨(some 9), .mv (.t 17), none, 0, [5, 6, 0, 1, 2, 3, 4, 5, 6]⟩] [1, 3, 12, 13, 14, 15, 16, 17])
  (.seq (.seq (.region 0 [
    ⟨(some 18), .mv (.t 9), none, 0, []⟩,
    ⟨(some 19), .bin .neq (.t 18) (.c (.int .i64 0)), none, 0, [0]⟩] [9, 18])
  (.cond (.t 19) [19]
   (.seq (.region 0 [
     ⟨(some 20), .mv (.t 7), none, 0, []⟩,
     ⟨(some 6), .mv (.t 20), none, 0, [0, 0]⟩] [7, 20])
   .ret)
   .skip))
  (.seq (.label 0)
  (.seq (.region 0 [
    ⟨(some 22), .mv (.t 8), none, 0, []⟩,
    ⟨(some 23), .call (.c (.fn 33 [] [])) [(.t 22)], none, 0, [0]⟩,
    ⟨(some 21), .mv (.t 23), none, 0, [1]⟩,
    ⟨(some 24), .ext 0 (.t 21), none, 0, [2]⟩,
    ⟨(some 25), .ext 1 (.t 21), none, 0, [2]⟩,
    ⟨(some 10), .mv (.t 24), none, 0, [3, 1, 0, 1, 2, 3]⟩,
    ⟨(some 11), .mv (.t 25), none, 0, [4, 5, 0, 1, 2, 3, 4, 5]⟩] [21, 22, 23, 24, 25])
  (.seq (.seq (.region 0 [
    ⟨(some 26), .mv (.t 11), none, 0, []⟩,
    ⟨(some 27), .un .not (.t 26), none, 0, [0]⟩,
    ⟨(some 28), .mv (.t 27), none, 0, [1]⟩,
    ⟨(some 29), .mv (.t 10), (some (28, false)), 0, [2]⟩,
    ⟨(some 30), .mv (.t 2), (some (28, false)), 0, [2]⟩,
    ⟨(some 31), .bin .gtr (.t 29) (.t 30), (some (28, false)), 0, [3, 4, 2]⟩,
    ⟨(some 32), .pick (.t 28) (.c (.bool true)) (.t 31), none, 0, [2, 5]⟩,
    ⟨(some 33), .mv (.t 32), none, 0, [6, 2]⟩,
    ⟨(some 34), .mv (.t 7), (some (33, false)), 0, [7]⟩,
    ⟨(some 35), .lens (.t 34), (some (33, false)), 0, [8, 7]⟩,
    ⟨(some 36), .bin .eql (.t 35) (.c (.int .i64 1000)), (some (33, false)), 0, [9, 7]⟩,
    ⟨(some 37), .pick (.t 33) (.c (.bool true)) (.t 36), none, 0, [7, 10]⟩] [11, 26, 27, 28, 32, 33])
  (.cond (.t 37) [37]
   (.seq (.region 0 [
     ⟨(some 38), .mv (.t 7), none, 0, []⟩,
     ⟨(some 6), .mv (.t 38), none, 0, [0, 0]⟩] [7, 38])
   .ret)
   .skip))
  (.seq (.region 2 [
    ⟨(some 39), .mv (.t 7), none, 0, []⟩,
    ⟨(some 40), .mv (.t 10), none, 0, []⟩,
    ⟨(some 41), .bslice 1 [(.t 40)], none, 0, [1]⟩,
    ⟨(some 42), .app 1 8 (.t 39) (.t 41), none, 1, [0, 2]⟩,
    ⟨(some 7), .mv (.t 42), none, 2, [3, 3, 0, 1, 2, 3]⟩] [39, 40, 41, 42])
  (.seq (.region 0 [
    ⟨(some 43), .mv (.t 8), none, 0, []⟩,
    ⟨(some 44), .mv (.t 10), none, 0, []⟩,
    ⟨(some 45), .call (.c (.fn 34 [] [])) [(.t 43), (.t 44)], none, 0, [0, 1]⟩] [10, 43, 44, 45])
  (.goto 0)))))))))
  (.seq .skip
  (.seq (.region 0 [
    ⟨(some 22), .mv (.t 8), none, 0, []⟩,
    ⟨(some 23), .call (.c (.fn 33 [] [])) [(.t 22)], none, 0, [0]⟩,
    ⟨(some 21), .mv (.t 23), none, 0, [1]⟩,
    ⟨(some 24), .ext 0 (.t 21), none, 0, [2]⟩,
    ⟨(some 25), .ext 1 (.t 21), none, 0, [2]⟩,
    ⟨(some 10), .mv (.t 24), none, 0, [3, 1, 0, 1, 2, 3]⟩,
    ⟨(some 11), .mv (.t 25), none, 0, [4, 5, 0, 1, 2, 3, 4, 5]⟩] [21, 22, 23, 24, 25])
  (.seq (.seq (.region 0 [
    ⟨(some 26), .mv (.t 11), none, 0, []⟩,
    ⟨(some 27), .un .not (.t 26), none, 0, [0]⟩,
    ⟨(some 28), .mv (.t 27), none, 0, [1]⟩,
    ⟨(some 29), .mv (.t 10), (some (28, false)), 0, [2]⟩,
    ⟨(some 30), .mv (.t 2), (some (28, false)), 0, [2]⟩,
    ⟨(some 31), .bin .gtr (.t 29) (.t 30), (some (28, false)), 0, [3, 4, 2]⟩,
    ⟨(some 32), .pick (.t 28) (.c (.bool true)) (.t 31), none, 0, [2, 5]⟩,
    ⟨(some 33), .mv (.t 32), none, 0, [6, 2]⟩,
    ⟨(some 34), .mv (.t 7), (some (33, false)), 0, [7]⟩,
    ⟨(some 35), .lens (.t 34), (some (33, false)), 0, [8, 7]⟩,
    ⟨(some 36), .bin .eql (.t 35) (.c (.int .i64 1000)), (some (33, false)), 0, [9, 7]⟩,
    ⟨(some 37), .pick (.t 33) (.c (.bool true)) (.t 36), none, 0, [7, 10]⟩] [11, 26, 27, 28, 32, 33])
  (.cond (.t 37) [37]
   (.seq (.region 0 [
     ⟨(some 38), .mv (.t 7), none, 0, []⟩,
     ⟨(some 6), .mv (.t 38), none, 0, [0, 0]⟩] [7, 38])
   .ret)
   .skip))
  (.seq (.region 2 [
    ⟨(some 39), .mv (.t 7), none, 0, []⟩,
    ⟨(some 40), .mv (.t 10), none, 0, []⟩,
    ⟨(some 41), .bslice 1 [(.t 40)], none, 0, [1]⟩,
    ⟨(some 42), .app 1 8 (.t 39) (.t 41), none, 1, [0, 2]⟩,
    ⟨(some 7), .mv (.t 42), none, 2, [3, 3, 0, 1, 2, 3]⟩] [39, 40, 41, 42])
  (.seq (.region 0 [
    ⟨(some 43), .mv (.t 8), none, 0, []⟩,
    ⟨(some 44), .mv (.t 10), none, 0, []⟩,
    ⟨(some 45), .call (.c (.fn 34 [] [])) [(.t 43), (.t 44)], none, 0, [0, 1]⟩] [10, 43, 44, 45])
  (.goto 0))))))))
def hs30 : List (List Nat) := [[0, 6], [0], [0, 1, 3, 6, 9, 10, 11, 12, 13, 14, 15, 16, 17, 18, 19, 20, 21, 22, 23, 24, 25, 26, 27, 28, 32, 33, 37, 38, 39, 40, 41, 42, 43, 44, 45], [], [1, 3, 12, 13, 14, 15, 16, 17], [9, 18], [19], [7, 20], [21, 22, 23, 24, 25], [11, 26, 27, 28, 32, 33], [37], [7, 38], [39, 40, 41, 42], [10, 43, 44, 45]]
theorem ok30 : FnOk Try.prog 30 ic30 [.t 6] 46 := ⟨Try.f30, hs30, Try.func30, by kernel_rfl, by kernel_rfl, by kernel_rfl, by kernel_rfl⟩

/-- (*signalbox/cyc.Cyc).Begin -/
def ic32 : IC :=
 (.seq (.region 1 [
   ⟨(some 2), .alloc [(.int .i64 0), (.int .i64 0), (.int .i64 0), (.str [])], none, 0, []⟩,
   ⟨(some 3), .mv (.c (.bool false)), none, 1, []⟩] [3])
 (.seq (.seq (.region 0 [
   ⟨(some 4), .mv (.t 0), none, 0, []⟩,
   ⟨(some 5), .eqv false .ptr (.t 4) (.c .nilp), none, 0, [0]⟩,
   ⟨(some 6), .mv (.t 5), none, 0, [1]⟩,
   ⟨(some 7), .mv (.t 0), (some (6, false)), 0, [2]⟩,
   ⟨(some 8), .nilck (.t 7), (some (6, false)), 0, [3, 2]⟩,
   ⟨(some 9), .faddr 8 (.t 8), (some (6, false)), 0, [4, 2]⟩,
   ⟨(some 10), .load none (.t 9), (some (6, false)), 0, [5, 2]⟩,
   ⟨(some 11), .pick (.t 6) (.c (.bool true)) (.t 10), none, 0, [2, 6]⟩,
   ⟨(some 12), .mv (.t 11), none, 0, [7, 2]⟩,
   ⟨(some 13), .mv (.t 0), (some (12, false)), 0, [8]⟩,
   ⟨(some 14), .nilck (.t 13), (some (12, false)), 0, [9, 8]⟩,
   ⟨(some 15), .faddr 0 (.t 14), (some (12, false)), 0, [10, 8]⟩,
   ⟨(some 16), .faddr 5 (.t 15), (some (12, false)), 0, [11, 8]⟩,
   ⟨(some 17), .load none (.t 16), (some (12, false)), 0, [12, 8]⟩,
   ⟨(some 18), .un .not (.t 17), (some (12, false)), 0, [13, 8]⟩,
   ⟨(some 19), .pick (.t 12) (.c (.bool true)) (.t 18), none, 0, [8, 14]⟩] [4, 5, 6, 7, 8, 9, 10, 11, 12, 13, 14, 15, 16, 17, 18])
 (.cond (.t 19) [19]
  (.seq (.region 0 [
    ⟨(some 20), .build [(.int .i64 0), (.int .i64 0), (.int .i64 0), (.str [])] [], none, 0, []⟩,
    ⟨none, .store 4 (.t 2) (.t 20), none, 0, [0, 0]⟩,
    ⟨(some 3), .mv (.c (.bool false)), none, 0, [1, 0, 1]⟩] [20])
  .ret)
  .skip))
 (.seq (.region 0 [
   ⟨(some 21), .mv (.t 0), none, 0, []⟩,
   ⟨(some 22), .nilck (.t 21), none, 0, [0, 0]⟩,
   ⟨(some 23), .faddr 8 (.t 22), none, 0, [1, 0]⟩,
   ⟨none, .store 1 (.t 23) (.c (.bool true)), none, 0, [2, 0]⟩] [21, 22, 23])
 (.seq (.region 0 [
   ⟨(some 24), .mv (.t 0), none, 0, []⟩,
   ⟨(some 25), .nilck (.t 24), none, 0, [0]⟩,
   ⟨(some 26), .faddr 7 (.t 25), none, 0, [1]⟩,
   ⟨(some 27), .load none (.t 26), none, 0, [2]⟩,
   ⟨(some 28), .call (.t 27) [], none, 0, [3]⟩,
   ⟨none, .store 4 (.t 2) (.t 28), none, 0, [4, 4, 0, 1, 2, 3, 4]⟩,
   ⟨(some 3), .mv (.c (.bool true)), none, 0, [5, 0, 1, 2, 3, 4, 5]⟩] [0, 24, 25, 26, 27, 28])
 .ret))))
def hs32 : List (List Nat) := [[3], [4, 5, 6, 7, 8, 9, 10, 11, 12, 13, 14, 15, 16, 17, 18], [19], [20], [21, 22, 23], [0, 24, 25, 26, 27, 28]]
theorem ok32 : FnOk Try.prog 32 ic32 [.cell 2 (some 4), .t 3] 29 := ⟨Try.f32, hs32, Try.func32, by kernel_rfl, by kernel_rfl, by kernel_rfl, by kernel_rfl⟩

/-- (*signalbox/cyc.Cyc).Due -/
def ic33 : IC :=
 (.seq (.region 0 [
   ⟨(some 2), .mv (.c (.int .i64 0)), none, 0, []⟩,
   ⟨(some 3), .mv (.c (.bool false)), none, 0, [0]⟩] [2, 3])
 (.seq (.seq (.region 0 [
   ⟨(some 4), .mv (.t 0), none, 0, []⟩,
   ⟨(some 5), .eqv false .ptr (.t 4) (.c .nilp), none, 0, [0]⟩,
   ⟨(some 6), .mv (.t 5), none, 0, [1]⟩,
   ⟨(some 7), .mv (.t 0), (some (6, false)), 0, [2]⟩,
   ⟨(some 8), .nilck (.t 7), (some (6, false)), 0, [3, 2]⟩,
   ⟨(some 9), .faddr 11 (.t 8), (some (6, false)), 0, [4, 2]⟩,
   ⟨(some 10), .load none (.t 9), (some (6, false)), 0, [5, 2]⟩,
   ⟨(some 11), .un .not (.t 10), (some (6, false)), 0, [6, 2]⟩,
   ⟨(some 12), .pick (.t 6) (.c (.bool true)) (.t 11), none, 0, [2, 7]⟩] [4, 5, 6, 7, 8, 9, 10, 11])
 (.cond (.t 12) [12]
  (.seq (.region 0 [
    ⟨(some 2), .mv (.c (.int .i64 0)), none, 0, []⟩,
    ⟨(some 3), .mv (.c (.bool false)), none, 0, [0, 0]⟩] [])
  .ret)
  .skip))
 (.seq (.region 0 [
   ⟨(some 13), .mv (.t 0), none, 0, []⟩,
   ⟨(some 14), .nilck (.t 13), none, 0, [0]⟩,
   ⟨(some 15), .faddr 10 (.t 14), none, 0, [1]⟩,
   ⟨(some 16), .load none (.t 15), none, 0, [2]⟩,
   ⟨(some 2), .mv (.t 16), none, 0, [3, 0, 1, 2, 3]⟩,
   ⟨(some 3), .mv (.c (.bool true)), none, 0, [4, 0, 1, 2, 3, 4]⟩] [0, 13, 14, 15, 16])
 .ret)))
def hs33 : List (List Nat) := [[2, 3], [4, 5, 6, 7, 8, 9, 10, 11], [12], [], [0, 13, 14, 15, 16]]
theorem ok33 : FnOk Try.prog 33 ic33 [.t 2, .t 3] 17 := ⟨Try.f33, hs33, Try.func33, by kernel_rfl, by kernel_rfl, by kernel_rfl, by kernel_rfl⟩

/-- (*signalbox/cyc.Cyc).Tick -/
def ic34 : IC :=
 (.seq (.region 1 [
   ⟨(some 4), .alloc [(.int .i64 0), (.int .i64 0), (.int .i64 0), (.str []), (.bool false), (.bool false)], none, 0, []⟩] [])
 (.seq (.seq (.region 0 [
   ⟨(some 6), .mv (.t 0), none, 0, []⟩,
   ⟨(some 7), .eqv false .ptr (.t 6) (.c .nilp), none, 0, [0]⟩,
   ⟨(some 8), .mv (.t 7), none, 0, [1]⟩,
   ⟨(some 9), .mv (.t 0), (some (8, false)), 0, [2]⟩,
   ⟨(some 10), .nilck (.t 9), (some (8, false)), 0, [3, 2]⟩,
   ⟨(some 11), .faddr 11 (.t 10), (some (8, false)), 0, [4, 2]⟩,
   ⟨(some 12), .load none (.t 11), (some (8, false)), 0, [5, 2]⟩,
   ⟨(some 13), .un .not (.t 12), (some (8, false)), 0, [6, 2]⟩,
   ⟨(some 14), .pick (.t 8) (.c (.bool true)) (.t 13), none, 0, [2, 7]⟩,
   ⟨(some 15), .mv (.t 14), none, 0, [8, 2]⟩,
   ⟨(some 16), .mv (.t 1), (some (15, false)), 0, [9]⟩,
   ⟨(some 17), .mv (.t 0), (some (15, false)), 0, [9]⟩,
   ⟨(some 18), .nilck (.t 17), (some (15, false)), 0, [11, 9]⟩,
   ⟨(some 19), .faddr 10 (.t 18), (some (15, false)), 0, [12, 9]⟩,
   ⟨(some 20), .load none (.t 19), (some (15, false)), 0, [13, 9]⟩,
   ⟨(some 21), .bin .lss (.t 16) (.t 20), (some (15, false)), 0, [10, 14, 9]⟩,
   ⟨(some 22), .pick (.t 15) (.c (.bool true)) (.t 21), none, 0, [9, 15]⟩] [6, 7, 8, 9, 10, 11, 12, 13, 14, 15, 16, 17, 18, 19, 20, 21])
 (.cond (.t 22) [22]
  (.seq (.region 0 [
    ⟨(some 23), .build [(.int .i64 0), (.int .i64 0), (.int .i64 0), (.str []), (.bool false), (.bool false)] [], none, 0, []⟩,
    ⟨none, .store 6 (.t 4) (.t 23), none, 0, [0, 0]⟩] [23])
  .ret)
  .skip))
 (.seq (.region 0 [
   ⟨(some 5), .mv (.c (.bool false)), none, 0, []⟩] [])
 (.seq (.seq (.region 0 [
   ⟨(some 24), .mv (.t 0), none, 0, []⟩,
   ⟨(some 25), .nilck (.t 24), none, 0, [0]⟩,
   ⟨(some 26), .faddr 9 (.t 25), none, 0, [1]⟩,
   ⟨(some 27), .load none (.t 26), none, 0, [2]⟩,
   ⟨(some 28), .bin .gtr (.t 27) (.c (.int .i64 0)), none, 0, [3]⟩] [24, 25, 26, 27])
 (.cond (.t 28) [28]
  (.seq (.region 0 [
    ⟨(some 29), .mv (.t 0), none, 0, []⟩,
    ⟨(some 30), .nilck (.t 29), none, 0, [0]⟩,
    ⟨(some 31), .faddr 9 (.t 30), none, 0, [1]⟩,
    ⟨(some 32), .load none (.t 31), none, 0, [2]⟩,
    ⟨(some 33), .bin .sub (.t 32) (.c (.int .i64 1)), none, 0, [3]⟩,
    ⟨(some 34), .nilck (.t 29), none, 0, [0, 0, 1, 2, 3, 4]⟩,
    ⟨(some 35), .faddr 9 (.t 34), none, 0, [5, 0, 1, 2, 3, 4]⟩,
    ⟨none, .store 1 (.t 35) (.t 33), none, 0, [6, 4, 0, 1, 2, 3, 4]⟩] [29, 30, 31, 32, 33, 34, 35])
  (.region 0 [
    ⟨(some 36), .mv (.t 0), none, 0, []⟩,
    ⟨(some 37), .nilck (.t 36), none, 0, [0]⟩,
    ⟨(some 38), .faddr 9 (.t 37), none, 0, [1]⟩,
    ⟨(some 39), .load none (.t 38), none, 0, [2]⟩,
    ⟨(some 40), .bin .eql (.t 39) (.c (.int .i64 0)), none, 0, [3]⟩,
    ⟨(some 41), .mv (.t 40), none, 0, [4]⟩,
    ⟨(some 42), .mv (.t 0), (some (41, true)), 0, [5]⟩,
    ⟨(some 43), .nilck (.t 42), (some (41, true)), 0, [6, 5]⟩,
    ⟨(some 44), .faddr 0 (.t 43), (some (41, true)), 0, [7, 5]⟩,
    ⟨(some 45), .faddr 6 (.t 44), (some (41, true)), 0, [8, 5]⟩,
    ⟨(some 46), .load none (.t 45), (some (41, true)), 0, [9, 5]⟩,
    ⟨(some 47), .pick (.t 41) (.t 46) (.c (.bool false)), none, 0, [5, 10]⟩,
    ⟨(some 5), .mv (.t 47), none, 0, [11, 5, 0, 1, 2, 3, 4, 5, 6, 7, 8, 9, 10, 11]⟩] [36, 37, 38, 39, 40, 41, 42, 43, 44, 45, 46, 47]))
  .skip))
 (.seq (.region 0 [
   ⟨(some 48), .mv (.t 0), none, 0, []⟩,
   ⟨(some 49), .mv (.t 1), none, 0, []⟩,
   ⟨(some 50), .mn [(.t 49), (.c (.int .i64 2305843009213693952))], none, 0, [1]⟩,
   ⟨(some 51), .call (.c (.fn 54 [] [])) [(.t 48), (.t 50)], none, 0, [0, 2]⟩] [1, 48, 49, 50, 51])
 (.seq (.region 0 [
   ⟨(some 52), .mv (.t 0), none, 0, []⟩,
   ⟨(some 53), .nilck (.t 52), none, 0, [0]⟩,
   ⟨(some 54), .faddr 7 (.t 53), none, 0, [1]⟩,
   ⟨(some 55), .load none (.t 54), none, 0, [2]⟩,
   ⟨(some 56), .call (.t 55) [], none, 0, [3]⟩,
   ⟨(some 57), .mv (.t 5), none, 0, []⟩,
   ⟨(some 58), .build [(.int .i64 0), (.int .i64 0), (.int .i64 0), (.str []), (.bool false), (.bool false)] [(0, 4, (.t 56)), (4, 1, (.c (.bool true))), (5, 1, (.t 57))], none, 0, [4, 5]⟩,
   ⟨none, .store 6 (.t 4) (.t 58), none, 0, [6, 4, 0, 1, 2, 3, 4, 5, 6]⟩] [0, 5, 52, 53, 54, 55, 56, 57, 58])
 .ret))))))
def hs34 : List (List Nat) := [[], [6, 7, 8, 9, 10, 11, 12, 13, 14, 15, 16, 17, 18, 19, 20, 21], [22], [23], [], [24, 25, 26, 27], [28], [29, 30, 31, 32, 33, 34, 35], [36, 37, 38, 39, 40, 41, 42, 43, 44, 45, 46, 47], [1, 48, 49, 50, 51], [0, 5, 52, 53, 54, 55, 56, 57, 58]]
theorem ok34 : FnOk Try.prog 34 ic34 [.cell 4 (some 6)] 59 := ⟨Try.f34, hs34, Try.func34, by kernel_rfl, by kernel_rfl, by kernel_rfl, by kernel_rfl⟩

/-- (*signalbox/cyc.Cyc).Left -/
def ic35 : IC :=
 (.seq (.region 0 [
   ⟨(some 2), .mv (.c (.int .i64 0)), none, 0, []⟩] [2])
 (.seq (.seq (.region 0 [
   ⟨(some 3), .mv (.t 0), none, 0, []⟩,
   ⟨(some 4), .eqv false .ptr (.t 3) (.c .nilp), none, 0, [0]⟩] [3])
 (.cond (.t 4) [4]
  (.seq (.region 0 [
    ⟨(some 2), .mv (.c (.int .i64 0)), none, 0, []⟩] [])
  .ret)
  .skip))
 (.seq (.region 0 [
   ⟨(some 5), .mv (.t 0), none, 0, []⟩,
   ⟨(some 6), .nilck (.t 5), none, 0, [0]⟩,
   ⟨(some 7), .faddr 9 (.t 6), none, 0, [1]⟩,
   ⟨(some 8), .load none (.t 7), none, 0, [2]⟩,
   ⟨(some 2), .mv (.t 8), none, 0, [3, 0, 1, 2, 3]⟩] [0, 5, 6, 7, 8])
 .ret)))
def hs35 : List (List Nat) := [[2], [3], [4], [], [0, 5, 6, 7, 8]]
theorem ok35 : FnOk Try.prog 35 ic35 [.t 2] 9 := ⟨Try.f35, hs35, Try.func35, by kernel_rfl, by kernel_rfl, by kernel_rfl, by kernel_rfl⟩

/-- signalbox/frame.Key -/
def ic37 : IC :=
 (.seq (.region 1 [
   ⟨(some 1), .box (.t 0), none, 0, []⟩,
   ⟨(some 2), .mv (.c (.int .i64 0)), none, 1, []⟩] [0, 2])
 (.seq (.seq (.region 0 [
   ⟨(some 4), .load (some 4) (.t 1), none, 0, []⟩,
   ⟨(some 5), .call (.c (.fn 59 [] [])) [(.t 4)], none, 0, [0]⟩,
   ⟨(some 6), .bin .neq (.t 5) (.c (.int .i64 0)), none, 0, [1]⟩,
   ⟨(some 7), .mv (.t 6), none, 0, [2, 1]⟩,
   ⟨(some 8), .load (some 4) (.t 1), (some (7, false)), 0, [3]⟩,
   ⟨(some 9), .call (.c (.fn 60 [] [])) [(.t 8), (.c (.int .i64 4))], (some (7, false)), 0, [4, 3, 3]⟩,
   ⟨(some 10), .pick (.t 7) (.c (.bool true)) (.t 9), none, 0, [3, 5]⟩] [4, 5, 6, 7, 8, 9])
 (.cond (.t 10) [10]
  (.seq (.region 0 [
    ⟨(some 2), .mv (.c (.int .i64 (-1))), none, 0, []⟩] [])
  .ret)
  .skip))
 (.seq (.region 0 [
   ⟨(some 3), .mv (.c (.int .i64 0)), none, 0, []⟩] [3])
 (.seq (.seq (.region 0 [
   ⟨(some 11), .load (some 4) (.t 1), none, 0, []⟩,
   ⟨(some 12), .call (.c (.fn 60 [] [])) [(.t 11), (.c (.int .i64 1))], none, 0, [0]⟩] [11])
 (.cond (.t 12) [12]
  (.seq (.region 0 [
    ⟨(some 13), .faddr 0 (.t 1), none, 0, []⟩,
    ⟨(some 14), .load none (.t 13), none, 0, [0]⟩,
    ⟨(some 15), .bin .shr (.t 14) (.c (.int .u64 18)), none, 0, [1]⟩,
    ⟨(some 16), .bin .shl (.t 15) (.c (.int .u64 2)), none, 0, [2]⟩,
    ⟨(some 17), .bin .or (.t 16) (.c (.int .i64 3)), none, 0, [3]⟩,
    ⟨(some 3), .mv (.t 17), none, 0, [4, 0, 1, 2, 3, 4]⟩] [13, 14, 15, 16, 17])
  (.seq (.region 0 [
    ⟨(some 18), .mv (.t 3), none, 0, []⟩,
    ⟨(some 19), .bin .shl (.t 18) (.c (.int .u64 18)), none, 0, [0]⟩,
    ⟨(some 20), .faddr 0 (.t 1), none, 0, []⟩,
    ⟨(some 21), .load none (.t 20), none, 0, [2]⟩,
    ⟨(some 22), .bin .and (.t 21) (.c (.int .i64 262143)), none, 0, [3]⟩,
    ⟨(some 23), .bin .or (.t 19) (.t 22), none, 0, [1, 4]⟩,
    ⟨(some 3), .mv (.t 23), none, 0, [5, 0, 1, 2, 3, 4, 5]⟩] [18, 19, 20, 21, 22, 23])
  (.region 0 [
    ⟨(some 24), .mv (.t 3), none, 0, []⟩,
    ⟨(some 25), .bin .shl (.t 24) (.c (.int .u64 1)), none, 0, [0]⟩,
    ⟨(some 26), .load (some 4) (.t 1), none, 0, []⟩,
    ⟨(some 27), .call (.c (.fn 61 [] [])) [(.t 26), (.c (.int .i64 2))], none, 0, [2]⟩,
    ⟨(some 28), .bin .or (.t 25) (.t 27), none, 0, [1, 3]⟩,
    ⟨(some 3), .mv (.t 28), none, 0, [4, 3, 0, 1, 2, 3, 4]⟩] [24, 25, 26, 27, 28])))
  (.seq (.regionD 0 [
    ⟨(some 29), .faddr 0 (.t 1), none, 0, []⟩,
    ⟨(some 30), .load none (.t 29), none, 0, [0]⟩,
    ⟨(some 31), .bin .shl (.t 30) (.c (.int .u64 2)), none, 0, [1]⟩,
    ⟨(some 32), .load (some 4) (.t 1), none, 0, []⟩,
    ⟨(some 33), .call (.c (.fn 61 [] [])) [(.t 32), (.c (.int .i64 2))], none, 0, [3]⟩,
    ⟨(some 34), .bin .shl (.t 33) (.c (.int .u64 1)), none, 0, [4]⟩,
    ⟨(some 35), .bin .or (.t 31) (.t 34), none, 0, [2, 5]⟩,
    ⟨(some 3), .mv (.t 35), none, 0, [6, 4, 0, 1, 2, 3, 4, 5, 6]⟩]
    [0, 1, 2, 3, 4, 5, 6, 7] [0, 1, 3, 0, 8, 24, 63, 127] [29, 30, 31, 32, 33, 34, 35])
  (.region 0 [
    ⟨(some 36), .mv (.t 3), none, 0, []⟩,
    ⟨(some 37), .bin .shl (.t 36) (.c (.int .u64 19)), none, 0, [0]⟩,
    ⟨(some 3), .mv (.t 37), none, 0, [1, 0, 1]⟩] [36, 37]))))
 (.seq (.region 0 [
   ⟨(some 38), .mv (.t 3), none, 0, []⟩,
   ⟨(some 39), .bin .shl (.t 38) (.c (.int .u64 1)), none, 0, [0]⟩,
   ⟨(some 40), .load (some 4) (.t 1), none, 0, []⟩,
   ⟨(some 41), .call (.c (.fn 61 [] [])) [(.t 40), (.c (.int .i64 8))], none, 0, [2]⟩,
   ⟨(some 42), .bin .or (.t 39) (.t 41), none, 0, [1, 3]⟩,
   ⟨(some 2), .mv (.t 42), none, 0, [4, 3, 0, 1, 2, 3, 4]⟩] [1, 3, 38, 39, 40, 41, 42])
 .ret)))))
def hs37 : List (List Nat) := [[0, 2], [4, 5, 6, 7, 8, 9], [10], [], [3], [11], [12], [13, 14, 15, 16, 17], [18, 19, 20, 21, 22, 23], [24, 25, 26, 27, 28], [0, 1, 2, 3, 4, 5, 6, 7], [0, 1, 3, 0, 8, 24, 63, 127], [29, 30, 31, 32, 33, 34, 35], [36, 37], [1, 3, 38, 39, 40, 41, 42]]
theorem ok37 : FnOk Try.prog 37 ic37 [.t 2] 43 := ⟨Try.f37, hs37, Try.func37, by kernel_rfl, by kernel_rfl, by kernel_rfl, by kernel_rfl⟩

/-- signalbox/signalboxlaw22.job -/
def ic50 : IC :=
 (.seq (.region 1 [
   ⟨(some 6), .alloc [(.int .i64 0), (.int .i64 0), (.int .i64 0), (.int .i64 0), .nils, (.bool false), (.bool false)], none, 0, []⟩] [])
 (.seq (.region 1 [
   ⟨(some 7), .mv (.t 0), none, 0, []⟩,
   ⟨(some 8), .mv (.t 1), none, 0, []⟩,
   ⟨(some 9), .mv (.t 2), none, 0, []⟩,
   ⟨(some 10), .build [(.int .i64 0), (.int .i64 0), (.int .i64 0), (.str [])] [(0, 1, (.c (.int .i64 1)))], none, 0, []⟩,
   ⟨(some 11), .build [(.int .i64 0), (.int .i64 0), (.int .i64 0), (.str [])] [(0, 1, (.c (.int .i64 2)))], none, 0, []⟩,
   ⟨(some 12), .bslice 4 [(.t 10), (.t 11)], none, 0, [3, 4]⟩,
   ⟨(some 13), .build [(.int .i64 0), (.int .i64 0), (.int .i64 0), (.int .i64 0), .nils, (.bool false), (.bool false)] [(1, 1, (.t 7)), (2, 1, (.t 8)), (3, 1, (.t 9)), (4, 1, (.t 12)), (6, 1, (.c (.bool true)))], none, 1, [0, 1, 2, 5]⟩,
   ⟨none, .store 7 (.t 6) (.t 13), none, 1, [6, 0, 1, 2, 3, 4, 5, 6]⟩] [0, 1, 2, 7, 8, 9, 10, 11, 12, 13])
 .ret))
def hs50 : List (List Nat) := [[], [0, 1, 2, 7, 8, 9, 10, 11, 12, 13]]
theorem ok50 : FnOk Try.prog 50 ic50 [.cell 6 (some 7)] 14 := ⟨Try.f50, hs50, Try.func50, by kernel_rfl, by kernel_rfl, by kernel_rfl, by kernel_rfl⟩

/-- signalbox/cyc.count -/
def ic51 : IC :=
 (.seq (.region 0 [
   ⟨(some 2), .mv (.c (.bool false)), none, 0, []⟩] [2])
 (.seq (.region 0 [
   ⟨(some 3), .mv (.t 0), none, 0, []⟩,
   ⟨(some 4), .bin .geq (.t 3) (.c (.int .i64 0)), none, 0, [0]⟩,
   ⟨(some 5), .mv (.t 4), none, 0, [1]⟩,
   ⟨(some 6), .mv (.t 0), (some (5, true)), 0, [2]⟩,
   ⟨(some 7), .bin .leq (.t 6) (.c (.int .i64 1099511627776)), (some (5, true)), 0, [3, 2]⟩,
   ⟨(some 8), .pick (.t 5) (.t 7) (.c (.bool false)), none, 0, [2, 4]⟩,
   ⟨(some 2), .mv (.t 8), none, 0, [5, 2, 0, 1, 2, 3, 4, 5]⟩] [0, 3, 4, 5, 6, 7, 8])
 .ret))
def hs51 : List (List Nat) := [[2], [0, 3, 4, 5, 6, 7, 8]]
theorem ok51 : FnOk Try.prog 51 ic51 [.t 2] 9 := ⟨Try.f51, hs51, Try.func51, by kernel_rfl, by kernel_rfl, by kernel_rfl, by kernel_rfl⟩

/-- slices.Clone[[]signalbox/api.Frame,signalbox/api.Frame] -/
def ic52 : IC :=
 (.seq (.region 0 [
   ⟨(some 2), .mv (.c .nils), none, 0, []⟩] [2])
 (.seq (.seq (.region 0 [
   ⟨(some 3), .mv (.t 0), none, 0, []⟩,
   ⟨(some 4), .eqv false .slice (.t 3) (.c .nils), none, 0, [0]⟩] [3])
 (.cond (.t 4) [4]
  (.seq (.region 0 [
    ⟨(some 2), .mv (.c .nils), none, 0, []⟩] [])
  .ret)
  .skip))
 (.seq (.region 2 [
   ⟨(some 5), .bslice 4 [], none, 0, []⟩,
   ⟨(some 6), .mv (.t 0), none, 1, []⟩,
   ⟨(some 7), .app 4 40 (.t 5) (.t 6), none, 1, [0, 1]⟩,
   ⟨(some 2), .mv (.t 7), none, 2, [2, 2, 0, 1, 2]⟩] [0, 5, 6, 7])
 .ret)))
def hs52 : List (List Nat) := [[2], [3], [4], [], [0, 5, 6, 7]]
theorem ok52 : FnOk Try.prog 52 ic52 [.t 2] 8 := ⟨Try.f52, hs52, Try.func52, by kernel_rfl, by kernel_rfl, by kernel_rfl, by kernel_rfl⟩

/-- signalbox/cyc.turns -/
def ic53 : IC :=
 (.seq (.region 1 [
   ⟨(some 1), .box (.t 0), none, 0, []⟩,
   ⟨(some 2), .mv (.c .nilf), none, 1, []⟩] [0, 2])
 (.seq (.region 1 [
   ⟨(some 3), .alloc [(.int .i64 0)], none, 0, []⟩,
   ⟨none, .store 1 (.t 3) (.c (.int .i64 0)), none, 1, [0, 0]⟩] [])
 (.seq (.region 0 [
   ⟨(some 4), .mkfn 64 [] [(.t 1), (.t 3)], none, 0, []⟩,
   ⟨(some 2), .mv (.t 4), none, 0, [0, 0]⟩] [1, 3, 4])
 .ret)))
def hs53 : List (List Nat) := [[0, 2], [], [1, 3, 4]]
theorem ok53 : FnOk Try.prog 53 ic53 [.t 2] 5 := ⟨Try.f53, hs53, Try.func53, by kernel_rfl, by kernel_rfl, by kernel_rfl, by kernel_rfl⟩

/-- (*signalbox/cyc.Cyc).plan -/
def ic54 : IC :=
 (.seq (.region 0 [
   ⟨(some 5), .mv (.t 0), none, 0, []⟩,
   ⟨(some 6), .nilck (.t 5), none, 0, [0]⟩,
   ⟨(some 7), .faddr 0 (.t 6), none, 0, [1]⟩,
   ⟨(some 8), .faddr 3 (.t 7), none, 0, [2]⟩,
   ⟨(some 9), .load none (.t 8), none, 0, [3]⟩,
   ⟨(some 4), .mv (.t 9), none, 0, [4, 0, 1, 2, 3, 4]⟩] [5, 6, 7, 8, 9])
 (.seq (.seq (.region 0 [
   ⟨(some 10), .mv (.t 0), none, 0, []⟩,
   ⟨(some 11), .nilck (.t 10), none, 0, [0]⟩,
   ⟨(some 12), .faddr 9 (.t 11), none, 0, [1]⟩,
   ⟨(some 13), .load none (.t 12), none, 0, [2]⟩,
   ⟨(some 14), .bin .gtr (.t 13) (.c (.int .i64 0)), none, 0, [3]⟩] [10, 11, 12, 13])
 (.cond (.t 14) [14]
  (.region 0 [
    ⟨(some 15), .mv (.t 0), none, 0, []⟩,
    ⟨(some 16), .nilck (.t 15), none, 0, [0]⟩,
    ⟨(some 17), .faddr 0 (.t 16), none, 0, [1]⟩,
    ⟨(some 18), .faddr 2 (.t 17), none, 0, [2]⟩,
    ⟨(some 19), .load none (.t 18), none, 0, [3]⟩,
    ⟨(some 4), .mv (.t 19), none, 0, [4, 0, 1, 2, 3, 4]⟩] [15, 16, 17, 18, 19])
  .skip))
 (.region 0 [
   ⟨(some 20), .mv (.t 0), none, 0, []⟩,
   ⟨(some 21), .mv (.t 0), none, 0, []⟩,
   ⟨(some 22), .mv (.t 1), none, 0, []⟩,
   ⟨(some 23), .mv (.t 4), none, 0, []⟩,
   ⟨(some 24), .bin .add (.t 22) (.t 23), none, 0, [2, 3]⟩,
   ⟨(some 25), .mv (.t 4), none, 0, []⟩,
   ⟨(some 26), .bin .gtr (.t 25) (.c (.int .i64 0)), none, 0, [5]⟩,
   ⟨(some 27), .nilck (.t 20), none, 0, [0, 0, 2, 3, 4]⟩,
   ⟨(some 28), .faddr 10 (.t 27), none, 0, [7, 0, 2, 3, 4]⟩,
   ⟨none, .store 1 (.t 28) (.t 24), none, 0, [8, 4, 0, 2, 3, 4]⟩,
   ⟨(some 29), .nilck (.t 21), none, 0, [1, 0, 1, 2, 3, 4, 5, 6, 7, 8, 9]⟩,
   ⟨(some 30), .faddr 11 (.t 29), none, 0, [10, 0, 1, 2, 3, 4, 5, 6, 7, 8, 9]⟩,
   ⟨none, .store 1 (.t 30) (.t 26), none, 0, [11, 6, 9, 0, 1, 2, 3, 4, 5, 6, 7, 8, 9]⟩] [0, 1, 4, 20, 21, 22, 23, 24, 25, 26, 27, 28, 29, 30])))
def hs54 : List (List Nat) := [[5, 6, 7, 8, 9], [10, 11, 12, 13], [14], [15, 16, 17, 18, 19], [0, 1, 4, 20, 21, 22, 23, 24, 25, 26, 27, 28, 29, 30]]
theorem ok54 : FnOk Try.prog 54 ic54 [] 31 := ⟨Try.f54, hs54, Try.func54, by kernel_rfl, by kernel_rfl, by kernel_rfl, by kernel_rfl⟩

/-- slices.ContainsFunc[[]signalbox/api.Frame,signalbox/api.Frame] -/
def ic56 : IC :=
 (.seq (.region 0 [
   ⟨(some 4), .mv (.c (.bool false)), none, 0, []⟩] [4])
 (.seq (.region 0 [
   ⟨(some 5), .mv (.t 0), none, 0, []⟩,
   ⟨(some 6), .mv (.t 1), none, 0, []⟩,
   ⟨(some 7), .call (.c (.fn 65 [] [])) [(.t 5), (.t 6)], none, 0, [0, 1]⟩,
   ⟨(some 8), .bin .geq (.t 7) (.c (.int .i64 0)), none, 0, [2]⟩,
   ⟨(some 4), .mv (.t 8), none, 0, [3, 2, 0, 1, 2, 3]⟩] [0, 1, 5, 6, 7, 8])
 .ret))
def hs56 : List (List Nat) := [[4], [0, 1, 5, 6, 7, 8]]
theorem ok56 : FnOk Try.prog 56 ic56 [.t 4] 9 := ⟨Try.f56, hs56, Try.func56, by kernel_rfl, by kernel_rfl, by kernel_rfl, by kernel_rfl⟩

/-- signalbox/cyc.Right$1 -/
def ic57 : IC :=
 (.seq (.region 1 [
   ⟨(some 1), .box (.t 0), none, 0, []⟩,
   ⟨(some 2), .mv (.c (.bool false)), none, 1, []⟩] [0, 2])
 (.seq (.region 0 [
   ⟨(some 3), .load (some 4) (.t 1), none, 0, []⟩,
   ⟨(some 4), .call (.c (.fn 37 [] [])) [(.t 3)], none, 0, [0]⟩,
   ⟨(some 5), .bin .lss (.t 4) (.c (.int .i64 0)), none, 0, [1]⟩,
   ⟨(some 2), .mv (.t 5), none, 0, [2, 1, 0, 1, 2]⟩] [1, 3, 4, 5])
 .ret))
def hs57 : List (List Nat) := [[0, 2], [1, 3, 4, 5]]
theorem ok57 : FnOk Try.prog 57 ic57 [.t 2] 6 := ⟨Try.f57, hs57, Try.func57, by kernel_rfl, by kernel_rfl, by kernel_rfl, by kernel_rfl⟩

/-- signalbox/frame.Right -/
def ic59 : IC :=
 (.seq (.region 1 [
   ⟨(some 1), .box (.t 0), none, 0, []⟩,
   ⟨(some 2), .mv (.c (.int .i64 0)), none, 1, []⟩] [0, 2])
 (.seq (.region 0 [
   ⟨(some 4), .faddr 2 (.t 1), none, 0, []⟩,
   ⟨(some 5), .load none (.t 4), none, 0, [0]⟩,
   ⟨(some 3), .mv (.t 5), none, 0, [1, 0, 1]⟩] [4, 5])
 (.seq (.block 0 (.seq (.block 3 (.seq (.block 2 (.block 1 (.seq (.seq (.seq (.regionD 0 [
   ⟨(some 7), .load (some 4) (.t 1), none, 0, []⟩,
   ⟨(some 8), .call (.c (.fn 67 [] [])) [(.t 7)], none, 0, [0]⟩,
   ⟨(some 9), .un .not (.t 8), none, 0, [1]⟩,
   ⟨(some 10), .mv (.t 9), none, 0, [2, 1]⟩,
   ⟨(some 11), .faddr 0 (.t 1), (some (10, false)), 0, [3]⟩,
   ⟨(some 12), .load none (.t 11), (some (10, false)), 0, [4, 3]⟩,
   ⟨(some 13), .bin .lss (.t 12) (.c (.int .i64 0)), (some (10, false)), 0, [5, 3]⟩,
   ⟨(some 14), .pick (.t 10) (.c (.bool true)) (.t 13), none, 0, [3, 6]⟩,
   ⟨(some 15), .mv (.t 14), none, 0, [7, 3]⟩,
   ⟨(some 16), .faddr 0 (.t 1), (some (15, false)), 0, [8]⟩,
   ⟨(some 17), .load none (.t 16), (some (15, false)), 0, [9, 8]⟩,
   ⟨(some 18), .load (some 4) (.t 1), (some (15, false)), 0, [8]⟩,
   ⟨(some 19), .call (.c (.fn 68 [] [])) [(.t 18)], (some (15, false)), 0, [11, 8, 8]⟩,
   ⟨(some 20), .bin .gtr (.t 17) (.t 19), (some (15, false)), 0, [10, 12, 8]⟩,
   ⟨(some 21), .pick (.t 15) (.c (.bool true)) (.t 20), none, 0, [8, 13]⟩,
   ⟨(some 6), .mv (.t 21), none, 0, [14, 12]⟩]
   [0, 1, 2, 3, 4, 5, 6, 7, 8, 9, 10, 11, 12, 13, 14, 15] [0, 1, 3, 7, 15, 31, 63, 127, 255, 511, 1023, 511, 2559, 8191, 16383, 32767] [7, 8, 9, 10, 11, 12, 13, 14, 15, 16, 17, 18, 19, 20, 21])
 (.cond (.t 6) [6]
  (.exit 1)
  .skip))
 (.seq (.seq (.region 0 [
   ⟨(some 23), .load (some 4) (.t 1), none, 0, []⟩,
   ⟨(some 24), .call (.c (.fn 69 [] [])) [(.t 23)], none, 0, [0]⟩,
   ⟨(some 25), .un .not (.t 24), none, 0, [1]⟩,
   ⟨(some 22), .mv (.t 25), none, 0, [2, 1]⟩] [23, 24, 25])
 (.cond (.t 22) [22]
  (.exit 2)
  .skip))
 (.seq (.region 0 [
   ⟨(some 27), .load (some 4) (.t 1), none, 0, []⟩,
   ⟨(some 28), .call (.c (.fn 60 [] [])) [(.t 27), (.c (.int .i64 2))], none, 0, [0]⟩,
   ⟨(some 26), .mv (.t 28), none, 0, [1, 1]⟩] [27, 28])
 (.cond (.t 26) [26]
  (.exit 3)
  .skip))))
 (.exit 0))))
 (.seq (.seq (.region 0 [
   ⟨(some 2), .mv (.c (.int .i64 4)), none, 0, []⟩] [])
 .ret)
 (.exit 0))))
 (.seq (.region 0 [
   ⟨(some 3), .mv (.c (.int .i64 0)), none, 0, []⟩] [])
 (.exit 0))))
 (.seq (.seq (.region 0 [
   ⟨(some 29), .faddr 3 (.t 1), none, 0, []⟩,
   ⟨(some 30), .load none (.t 29), none, 0, [0]⟩,
   ⟨(some 31), .lenst (.t 30), none, 0, [1]⟩,
   ⟨(some 32), .mv (.t 3), none, 0, []⟩,
   ⟨(some 33), .bin .neq (.t 31) (.t 32), none, 0, [2, 3]⟩] [1, 3, 29, 30, 31, 32])
 (.cond (.t 33) [33]
  (.seq (.region 0 [
    ⟨(some 2), .mv (.c (.int .i64 4)), none, 0, []⟩] [])
  .ret)
  .skip))
 (.seq (.region 0 [
   ⟨(some 2), .mv (.c (.int .i64 0)), none, 0, []⟩] [])
 .ret)))))
def hs59 : List (List Nat) := [[0, 2], [4, 5], [0, 1, 2, 3, 4, 5, 6, 7, 8, 9, 10, 11, 12, 13, 14, 15], [0, 1, 3, 7, 15, 31, 63, 127, 255, 511, 1023, 511, 2559, 8191, 16383, 32767], [7, 8, 9, 10, 11, 12, 13, 14, 15, 16, 17, 18, 19, 20, 21], [6], [23, 24, 25], [22], [27, 28], [26], [], [], [1, 3, 29, 30, 31, 32], [33], [], []]
theorem ok59 : FnOk Try.prog 59 ic59 [.t 2] 34 := ⟨Try.f59, hs59, Try.func59, by kernel_rfl, by kernel_rfl, by kernel_rfl, by kernel_rfl⟩

/-- signalbox/frame.has -/
def ic60 : IC :=
 (.seq (.region 1 [
   ⟨(some 2), .box (.t 0), none, 0, []⟩,
   ⟨(some 4), .mv (.c (.bool false)), none, 1, []⟩] [0, 4])
 (.seq (.region 0 [
   ⟨(some 5), .faddr 1 (.t 2), none, 0, []⟩,
   ⟨(some 6), .load none (.t 5), none, 0, [0]⟩,
   ⟨(some 7), .mv (.t 1), none, 0, []⟩,
   ⟨(some 8), .bin .and (.t 6) (.t 7), none, 0, [1, 2]⟩,
   ⟨(some 9), .bin .neq (.t 8) (.c (.int .i64 0)), none, 0, [3]⟩,
   ⟨(some 4), .mv (.t 9), none, 0, [4, 0, 1, 2, 3, 4]⟩] [1, 2, 5, 6, 7, 8, 9])
 .ret))
def hs60 : List (List Nat) := [[0, 4], [1, 2, 5, 6, 7, 8, 9]]
theorem ok60 : FnOk Try.prog 60 ic60 [.t 4] 10 := ⟨Try.f60, hs60, Try.func60, by kernel_rfl, by kernel_rfl, by kernel_rfl, by kernel_rfl⟩

/-- signalbox/frame.bit -/
def ic61 : IC :=
 (.seq (.region 1 [
   ⟨(some 2), .box (.t 0), none, 0, []⟩,
   ⟨(some 4), .mv (.c (.int .i64 0)), none, 1, []⟩] [0, 4])
 (.seq (.seq (.region 0 [
   ⟨(some 5), .load (some 4) (.t 2), none, 0, []⟩,
   ⟨(some 6), .mv (.t 1), none, 0, []⟩,
   ⟨(some 7), .call (.c (.fn 60 [] [])) [(.t 5), (.t 6)], none, 0, [0, 1]⟩] [1, 2, 5, 6])
 (.cond (.t 7) [7]
  (.seq (.region 0 [
    ⟨(some 4), .mv (.c (.int .i64 1)), none, 0, []⟩] [])
  .ret)
  .skip))
 (.seq (.region 0 [
   ⟨(some 4), .mv (.c (.int .i64 0)), none, 0, []⟩] [])
 .ret)))
def hs61 : List (List Nat) := [[0, 4], [1, 2, 5, 6], [7], [], []]
theorem ok61 : FnOk Try.prog 61 ic61 [.t 4] 8 := ⟨Try.f61, hs61, Try.func61, by kernel_rfl, by kernel_rfl, by kernel_rfl, by kernel_rfl⟩

/-- signalbox/cyc.turns$1 -/
def ic64 : IC :=
 (.seq (.region 1 [
   ⟨(some 2), .alloc [(.int .i64 0), (.int .i64 0), (.int .i64 0), (.str [])], none, 0, []⟩] [])
 (.seq (.region 1 [
   ⟨(some 4), .load none (.t 0), none, 0, []⟩,
   ⟨(some 5), .load none (.t 1), none, 0, []⟩,
   ⟨(some 6), .iaddr 4 (.t 4) (.t 5), none, 0, [0, 1]⟩,
   ⟨(some 7), .load (some 4) (.t 6), none, 0, [2]⟩,
   ⟨(some 3), .alloc [(.int .i64 0), (.int .i64 0), (.int .i64 0), (.str [])], none, 0, []⟩,
   ⟨none, .store 4 (.t 3) (.t 7), none, 1, [4, 3, 0, 1, 2, 3, 4]⟩] [4, 5, 6, 7])
 (.seq (.region 0 [
   ⟨(some 8), .load none (.t 1), none, 0, []⟩,
   ⟨(some 9), .bin .add (.t 8) (.c (.int .i64 1)), none, 0, [0]⟩,
   ⟨(some 10), .load none (.t 0), none, 0, []⟩,
   ⟨(some 11), .lens (.t 10), none, 0, [2]⟩,
   ⟨(some 12), .bin .rem (.t 9) (.t 11), none, 0, [1, 3]⟩,
   ⟨none, .store 1 (.t 1) (.t 12), none, 0, [4, 0, 1, 2, 3, 4]⟩] [0, 1, 8, 9, 10, 11, 12])
 (.seq (.region 0 [
   ⟨(some 13), .load (some 4) (.t 3), none, 0, []⟩,
   ⟨none, .store 4 (.t 2) (.t 13), none, 0, [0, 0]⟩] [3, 13])
 .ret))))
def hs64 : List (List Nat) := [[], [4, 5, 6, 7], [0, 1, 8, 9, 10, 11, 12], [3, 13]]
theorem ok64 : FnOk Try.prog 64 ic64 [.cell 2 (some 4)] 14 := ⟨Try.f64, hs64, Try.func64, by kernel_rfl, by kernel_rfl, by kernel_rfl, by kernel_rfl⟩

/-- slices.IndexFunc[[]signalbox/api.Frame,signalbox/api.Frame] -/
def ic65 : IC :=
 (.seq (.region 0 [
   ⟨(some 4), .mv (.c (.int .i64 0)), none, 0, []⟩] [4])
 (.seq (.seq (.region 0 [
   ⟨(some 6), .mv (.t 0), none, 0, []⟩,
   ⟨(some 7), .lens (.t 6), none, 0, [0]⟩,
   ⟨(some 8), .mv (.c (.int .i64 0)), none, 0, []⟩] [6])
 (.block 0 (.loop [4, 5, 6, 9, 10, 11, 12, 13, 14, 15, 16, 17, 18]
  (.seq (.region 0 [
    ⟨(some 9), .bin .lss (.t 8) (.t 7), none, 0, []⟩] [])
  (.seq (.cond (.t 9) [9]
   .skip
   (.exit 0))
  (.seq (.block 1 (.seq (.region 0 [
    ⟨(some 10), .mv (.t 8), none, 0, []⟩,
    ⟨(some 5), .mv (.t 10), none, 0, [0, 0]⟩] [10])
  (.seq (.region 0 [
    ⟨(some 11), .mv (.t 1), none, 0, []⟩,
    ⟨(some 12), .mv (.t 0), none, 0, []⟩,
    ⟨(some 13), .mv (.t 5), none, 0, []⟩,
    ⟨(some 14), .iaddr 4 (.t 12) (.t 13), none, 0, [1, 2]⟩,
    ⟨(some 15), .load (some 4) (.t 14), none, 0, [3]⟩,
    ⟨(some 16), .call (.t 11) [(.t 15)], none, 0, [0, 4]⟩] [11, 12, 13, 14, 15])
  (.cond (.t 16) [16]
   (.seq (.region 0 [
     ⟨(some 17), .mv (.t 5), none, 0, []⟩,
     ⟨(some 4), .mv (.t 17), none, 0, [0, 0]⟩] [5, 17])
   .ret)
   .skip))))
  (.region 0 [
    ⟨(some 18), .bin .add (.t 8) (.c (.int .i64 1)), none, 0, []⟩,
    ⟨(some 8), .mv (.t 18), none, 0, [0]⟩] [18])))))))
 (.seq (.region 0 [
   ⟨(some 4), .mv (.c (.int .i64 (-1))), none, 0, []⟩] [])
 .ret)))
def hs65 : List (List Nat) := [[4], [6], [4, 5, 6, 9, 10, 11, 12, 13, 14, 15, 16, 17, 18], [], [9], [10], [11, 12, 13, 14, 15], [16], [5, 17], [18], []]
theorem ok65 : FnOk Try.prog 65 ic65 [.t 4] 19 := ⟨Try.f65, hs65, Try.func65, by kernel_rfl, by kernel_rfl, by kernel_rfl, by kernel_rfl⟩

/-- signalbox/frame.flags -/
def ic67 : IC :=
 (.seq (.region 1 [
   ⟨(some 1), .box (.t 0), none, 0, []⟩,
   ⟨(some 2), .mv (.c (.bool false)), none, 1, []⟩] [0, 2])
 (.seq (.block 0 (.seq (.region 0 [
   ⟨(some 4), .faddr 1 (.t 1), none, 0, []⟩,
   ⟨(some 5), .load none (.t 4), none, 0, [0]⟩,
   ⟨(some 6), .bin .lss (.t 5) (.c (.int .i64 0)), none, 0, [1]⟩,
   ⟨(some 7), .mv (.t 6), none, 0, [2]⟩,
   ⟨(some 8), .faddr 1 (.t 1), (some (7, false)), 0, [3]⟩,
   ⟨(some 9), .load none (.t 8), (some (7, false)), 0, [4, 3]⟩,
   ⟨(some 10), .bin .gtr (.t 9) (.c (.int .i64 63)), (some (7, false)), 0, [5, 3]⟩,
   ⟨(some 11), .pick (.t 7) (.c (.bool true)) (.t 10), none, 0, [3, 6]⟩,
   ⟨(some 3), .mv (.t 11), none, 0, [7, 3]⟩] [4, 5, 6, 7, 8, 9, 10, 11])
 (.cond (.t 3) [3]
  (.seq (.region 0 [
    ⟨(some 2), .mv (.c (.bool false)), none, 0, []⟩] [])
  .ret)
  (.seq (.region 0 [
    ⟨(some 13), .load (some 4) (.t 1), none, 0, []⟩,
    ⟨(some 14), .call (.c (.fn 60 [] [])) [(.t 13), (.c (.int .i64 4))], none, 0, [0]⟩,
    ⟨(some 12), .mv (.t 14), none, 0, [1, 1]⟩] [13, 14])
  (.cond (.t 12) [12]
   (.seq (.region 0 [
     ⟨(some 15), .faddr 1 (.t 1), none, 0, []⟩,
     ⟨(some 16), .load none (.t 15), none, 0, [0]⟩,
     ⟨(some 17), .bin .eql (.t 16) (.c (.int .i64 4)), none, 0, [1]⟩,
     ⟨(some 2), .mv (.t 17), none, 0, [2, 0, 1, 2]⟩] [1, 15, 16, 17])
   .ret)
   (.seq (.region 0 [
     ⟨(some 19), .load (some 4) (.t 1), none, 0, []⟩,
     ⟨(some 20), .call (.c (.fn 60 [] [])) [(.t 19), (.c (.int .i64 8))], none, 0, [0]⟩,
     ⟨(some 18), .mv (.t 20), none, 0, [1, 1]⟩] [19, 20])
   (.cond (.t 18) [18]
    (.seq (.region 0 [
      ⟨(some 21), .load (some 4) (.t 1), none, 0, []⟩,
      ⟨(some 22), .call (.c (.fn 60 [] [])) [(.t 21), (.c (.int .i64 2))], none, 0, [0]⟩,
      ⟨(some 23), .un .not (.t 22), none, 0, [1]⟩,
      ⟨(some 2), .mv (.t 23), none, 0, [2, 1, 0, 1, 2]⟩] [1, 21, 22, 23])
    .ret)
    .skip)))))))
 (.seq (.region 0 [
   ⟨(some 24), .load (some 4) (.t 1), none, 0, []⟩,
   ⟨(some 25), .call (.c (.fn 60 [] [])) [(.t 24), (.c (.int .i64 48))], none, 0, [0]⟩,
   ⟨(some 26), .un .not (.t 25), none, 0, [1]⟩,
   ⟨(some 2), .mv (.t 26), none, 0, [2, 1, 0, 1, 2]⟩] [1, 24, 25, 26])
 .ret)))
def hs67 : List (List Nat) := [[0, 2], [4, 5, 6, 7, 8, 9, 10, 11], [3], [], [13, 14], [12], [1, 15, 16, 17], [19, 20], [18], [1, 21, 22, 23], [1, 24, 25, 26]]
theorem ok67 : FnOk Try.prog 67 ic67 [.t 2] 27 := ⟨Try.f67, hs67, Try.func67, by kernel_rfl, by kernel_rfl, by kernel_rfl, by kernel_rfl⟩

/-- signalbox/frame.most -/
def ic68 : IC :=
 (.seq (.region 1 [
   ⟨(some 1), .box (.t 0), none, 0, []⟩,
   ⟨(some 2), .mv (.c (.int .i64 0)), none, 1, []⟩] [0, 2])
 (.seq (.seq (.region 0 [
   ⟨(some 3), .load (some 4) (.t 1), none, 0, []⟩,
   ⟨(some 4), .call (.c (.fn 60 [] [])) [(.t 3), (.c (.int .i64 5))], none, 0, [0]⟩] [1, 3])
 (.cond (.t 4) [4]
  (.seq (.region 0 [
    ⟨(some 2), .mv (.c (.int .i64 536870911)), none, 0, []⟩] [])
  .ret)
  .skip))
 (.seq (.region 0 [
   ⟨(some 2), .mv (.c (.int .i64 2047)), none, 0, []⟩] [])
 .ret)))
def hs68 : List (List Nat) := [[0, 2], [1, 3], [4], [], []]
theorem ok68 : FnOk Try.prog 68 ic68 [.t 2] 5 := ⟨Try.f68, hs68, Try.func68, by kernel_rfl, by kernel_rfl, by kernel_rfl, by kernel_rfl⟩

/-- signalbox/frame.long -/
def ic69 : IC :=
 (.seq (.region 1 [
   ⟨(some 1), .box (.t 0), none, 0, []⟩,
   ⟨(some 2), .mv (.c (.bool false)), none, 1, []⟩] [0, 2])
 (.seq (.block 0 (.seq (.region 0 [
   ⟨(some 6), .load (some 4) (.t 1), none, 0, []⟩,
   ⟨(some 7), .call (.c (.fn 60 [] [])) [(.t 6), (.c (.int .i64 4))], none, 0, [0]⟩,
   ⟨(some 5), .mv (.t 7), none, 0, [1, 1]⟩] [6, 7])
 (.cond (.t 5) [5]
  (.seq (.region 0 [
    ⟨(some 8), .faddr 2 (.t 1), none, 0, []⟩,
    ⟨(some 9), .load none (.t 8), none, 0, [0]⟩,
    ⟨(some 10), .bin .eql (.t 9) (.c (.int .i64 8)), none, 0, [1]⟩,
    ⟨(some 2), .mv (.t 10), none, 0, [2, 0, 1, 2]⟩] [1, 8, 9, 10])
  .ret)
  (.seq (.region 0 [
    ⟨(some 12), .load (some 4) (.t 1), none, 0, []⟩,
    ⟨(some 13), .call (.c (.fn 60 [] [])) [(.t 12), (.c (.int .i64 8))], none, 0, [0]⟩,
    ⟨(some 11), .mv (.t 13), none, 0, [1, 1]⟩] [12, 13])
  (.cond (.t 11) [11]
   (.seq (.region 0 [
     ⟨(some 15), .faddr 2 (.t 1), none, 0, []⟩,
     ⟨(some 16), .load none (.t 15), none, 0, [0]⟩,
     ⟨(some 17), .call (.c (.fn 71 [] [])) [(.t 16)], none, 0, [1]⟩,
     ⟨(some 14), .mv (.t 17), none, 0, [2]⟩,
     ⟨(some 18), .ext 0 (.t 14), none, 0, [3]⟩,
     ⟨(some 19), .ext 1 (.t 14), none, 0, [3]⟩,
     ⟨(some 3), .mv (.t 18), none, 0, [4, 2, 0, 1, 2, 3, 4]⟩,
     ⟨(some 4), .mv (.t 19), none, 0, [5, 6, 0, 1, 2, 3, 4, 5, 6]⟩] [1, 3, 14, 15, 16, 17, 18, 19])
   (.seq (.region 0 [
     ⟨(some 20), .mv (.t 4), none, 0, []⟩,
     ⟨(some 2), .mv (.t 20), none, 0, [0, 0]⟩] [4, 20])
   .ret))
   .skip)))))
 (.seq (.region 0 [
   ⟨(some 21), .faddr 2 (.t 1), none, 0, []⟩,
   ⟨(some 22), .load none (.t 21), none, 0, [0]⟩,
   ⟨(some 23), .bin .geq (.t 22) (.c (.int .i64 0)), none, 0, [1]⟩,
   ⟨(some 24), .mv (.t 23), none, 0, [2]⟩,
   ⟨(some 25), .faddr 2 (.t 1), (some (24, true)), 0, [3]⟩,
   ⟨(some 26), .load none (.t 25), (some (24, true)), 0, [4, 3]⟩,
   ⟨(some 27), .bin .leq (.t 26) (.c (.int .i64 8)), (some (24, true)), 0, [5, 3]⟩,
   ⟨(some 28), .pick (.t 24) (.t 27) (.c (.bool false)), none, 0, [3, 6]⟩,
   ⟨(some 2), .mv (.t 28), none, 0, [7, 3, 0, 1, 2, 3, 4, 5, 6, 7]⟩] [1, 21, 22, 23, 24, 25, 26, 27, 28])
 .ret)))
def hs69 : List (List Nat) := [[0, 2], [6, 7], [5], [1, 8, 9, 10], [12, 13], [11], [1, 3, 14, 15, 16, 17, 18, 19], [4, 20], [1, 21, 22, 23, 24, 25, 26, 27, 28]]
theorem ok69 : FnOk Try.prog 69 ic69 [.t 2] 29 := ⟨Try.f69, hs69, Try.func69, by kernel_rfl, by kernel_rfl, by kernel_rfl, by kernel_rfl⟩

/-- signalbox/frame.Code -/
def ic71 : IC :=
 (.seq (.region 1 [
   ⟨(some 1), .box (.t 0), none, 0, []⟩,
   ⟨(some 2), .mv (.c (.int .i64 0)), none, 1, []⟩,
   ⟨(some 3), .mv (.c (.bool false)), none, 1, [1]⟩] [0, 2, 3])
 (.seq (.region 0 [
   ⟨(some 8), .mkfn 73 [] [(.t 1)], none, 0, []⟩,
   ⟨(some 9), .call (.c (.fn 72 [] [])) [(.t 8)], none, 0, [0]⟩,
   ⟨(some 7), .mv (.t 9), none, 0, [1]⟩,
   ⟨(some 10), .ext 0 (.t 7), none, 0, [2]⟩,
   ⟨(some 11), .ext 1 (.t 7), none, 0, [2]⟩,
   ⟨(some 12), .ext 2 (.t 7), none, 0, [2]⟩,
   ⟨(some 4), .mv (.t 10), none, 0, [3, 1, 0, 1, 2, 3]⟩,
   ⟨(some 5), .mv (.t 11), none, 0, [4, 6, 0, 1, 2, 3, 4, 6]⟩,
   ⟨(some 6), .mv (.t 12), none, 0, [5, 7, 0, 1, 2, 3, 4, 5, 6, 7]⟩] [1, 5, 7, 8, 9, 10, 11, 12])
 (.seq (.region 0 [
   ⟨(some 13), .mv (.t 4), none, 0, []⟩,
   ⟨(some 14), .mv (.t 6), none, 0, []⟩,
   ⟨(some 2), .mv (.t 13), none, 0, [0, 0]⟩,
   ⟨(some 3), .mv (.t 14), none, 0, [1, 2, 0, 1, 2]⟩] [4, 6, 13, 14])
 .ret)))
def hs71 : List (List Nat) := [[0, 2, 3], [1, 5, 7, 8, 9, 10, 11, 12], [4, 6, 13, 14]]
theorem ok71 : FnOk Try.prog 71 ic71 [.t 2, .t 3] 15 := ⟨Try.f71, hs71, Try.func71, by kernel_rfl, by kernel_rfl, by kernel_rfl, by kernel_rfl⟩

/-- signalbox/frame.first -/
def ic72 : IC :=
 (.seq (.region 0 [
   ⟨(some 2), .mv (.c (.int .i64 0)), none, 0, []⟩,
   ⟨(some 3), .mv (.c (.int .i64 0)), none, 0, [0]⟩,
   ⟨(some 4), .mv (.c (.bool false)), none, 0, [1]⟩] [2, 3, 4])
 (.seq (.seq (.region 0 [
   ⟨(some 7), .call (.c (.fn 74 [] [])) [], none, 0, []⟩,
   ⟨(some 8), .mv (.c (.int .i64 0)), none, 0, []⟩] [])
 (.block 0 (.loop [2, 3, 4, 5, 6, 9, 10, 11, 12, 13, 14, 15, 16, 17]
  (.seq (.region 0 [
    ⟨(some 9), .bin .lss (.t 8) (.c (.int .i64 16)), none, 0, []⟩] [])
  (.seq (.cond (.t 9) [9]
   .skip
   (.exit 0))
  (.seq (.block 1 (.seq (.region 0 [
    ⟨(some 10), .mv (.t 8), none, 0, []⟩,
    ⟨(some 11), .idxa 16 1 none (.t 7) (.t 8), none, 0, []⟩,
    ⟨(some 5), .mv (.t 10), none, 0, [0, 0, 1]⟩,
    ⟨(some 6), .mv (.t 11), none, 0, [1, 2, 0, 1, 2]⟩] [10, 11])
  (.seq (.region 0 [
    ⟨(some 12), .mv (.t 0), none, 0, []⟩,
    ⟨(some 13), .mv (.t 6), none, 0, []⟩,
    ⟨(some 14), .call (.t 12) [(.t 13)], none, 0, [0, 1]⟩] [12, 13])
  (.cond (.t 14) [14]
   (.seq (.region 0 [
     ⟨(some 15), .mv (.t 5), none, 0, []⟩,
     ⟨(some 16), .mv (.t 6), none, 0, []⟩,
     ⟨(some 2), .mv (.t 15), none, 0, [0, 0]⟩,
     ⟨(some 3), .mv (.t 16), none, 0, [1, 2, 0, 1, 2]⟩,
     ⟨(some 4), .mv (.c (.bool true)), none, 0, [3, 0, 1, 2, 3]⟩] [5, 6, 15, 16])
   .ret)
   .skip))))
  (.region 0 [
    ⟨(some 17), .bin .add (.t 8) (.c (.int .i64 1)), none, 0, []⟩,
    ⟨(some 8), .mv (.t 17), none, 0, [0]⟩] [17])))))))
 (.seq (.region 0 [
   ⟨(some 2), .mv (.c (.int .i64 0)), none, 0, []⟩,
   ⟨(some 3), .mv (.c (.int .i64 0)), none, 0, [0, 0]⟩,
   ⟨(some 4), .mv (.c (.bool false)), none, 0, [1, 0, 1]⟩] [])
 .ret)))
def hs72 : List (List Nat) := [[2, 3, 4], [], [2, 3, 4, 5, 6, 9, 10, 11, 12, 13, 14, 15, 16, 17], [], [9], [10, 11], [12, 13], [14], [5, 6, 15, 16], [17], []]
theorem ok72 : FnOk Try.prog 72 ic72 [.t 2, .t 3, .t 4] 18 := ⟨Try.f72, hs72, Try.func72, by kernel_rfl, by kernel_rfl, by kernel_rfl, by kernel_rfl⟩

/-- signalbox/frame.Code$1 -/
def ic73 : IC :=
 (.seq (.region 0 [
   ⟨(some 3), .mv (.c (.bool false)), none, 0, []⟩] [3])
 (.seq (.region 0 [
   ⟨(some 4), .mv (.t 0), none, 0, []⟩,
   ⟨(some 5), .load none (.t 1), none, 0, []⟩,
   ⟨(some 6), .bin .eql (.t 4) (.t 5), none, 0, [0, 1]⟩,
   ⟨(some 3), .mv (.t 6), none, 0, [2, 0, 1, 2]⟩] [0, 1, 4, 5, 6])
 .ret))
def hs73 : List (List Nat) := [[3], [0, 1, 4, 5, 6]]
theorem ok73 : FnOk Try.prog 73 ic73 [.t 3] 7 := ⟨Try.f73, hs73, Try.func73, by kernel_rfl, by kernel_rfl, by kernel_rfl, by kernel_rfl⟩

/-- signalbox/frame.sizes -/
def ic74 : IC :=
 (.seq (.region 1 [
   ⟨(some 0), .alloc [(.int .i64 0), (.int .i64 0), (.int .i64 0), (.int .i64 0), (.int .i64 0), (.int .i64 0), (.int .i64 0), (.int .i64 0), (.int .i64 0), (.int .i64 0), (.int .i64 0), (.int .i64 0), (.int .i64 0), (.int .i64 0), (.int .i64 0), (.int .i64 0)], none, 0, []⟩] [])
 (.seq (.region 0 [
   ⟨(some 1), .build [(.int .i64 0), (.int .i64 0), (.int .i64 0), (.int .i64 0), (.int .i64 0), (.int .i64 0), (.int .i64 0), (.int .i64 0), (.int .i64 0), (.int .i64 0), (.int .i64 0), (.int .i64 0), (.int .i64 0), (.int .i64 0), (.int .i64 0), (.int .i64 0)] [(0, 1, (.c (.int .i64 0))), (1, 1, (.c (.int .i64 1))), (2, 1, (.c (.int .i64 2))), (3, 1, (.c (.int .i64 3))), (4, 1, (.c (.int .i64 4))), (5, 1, (.c (.int .i64 5))), (6, 1, (.c (.int .i64 6))), (7, 1, (.c (.int .i64 7))), (8, 1, (.c (.int .i64 8))), (9, 1, (.c (.int .i64 12))), (10, 1, (.c (.int .i64 16))), (11, 1, (.c (.int .i64 20))), (12, 1, (.c (.int .i64 24))), (13, 1, (.c (.int .i64 32))), (14, 1, (.c (.int .i64 48))), (15, 1, (.c (.int .i64 64)))], none, 0, []⟩,
   ⟨none, .store 16 (.t 0) (.t 1), none, 0, [0, 0]⟩] [1])
 .ret))
def hs74 : List (List Nat) := [[], [1]]
theorem ok74 : FnOk Try.prog 74 ic74 [.cell 0 (some 16)] 2 := ⟨Try.f74, hs74, Try.func74, by kernel_rfl, by kernel_rfl, by kernel_rfl, by kernel_rfl⟩

def tabL : TabL := [(7, ic7, [.t 2], 58),
  (17, ic17, [.t 4], 26),
  (24, ic24, [.t 0], 47),
  (25, ic25, [.t 4, .t 5], 38),
  (27, ic27, [.t 2], 34),
  (28, ic28, [.cell 2 (some 7)], 16),
  (30, ic30, [.t 6], 46),
  (32, ic32, [.cell 2 (some 4), .t 3], 29),
  (33, ic33, [.t 2, .t 3], 17),
  (34, ic34, [.cell 4 (some 6)], 59),
  (35, ic35, [.t 2], 9),
  (37, ic37, [.t 2], 43),
  (50, ic50, [.cell 6 (some 7)], 14),
  (51, ic51, [.t 2], 9),
  (52, ic52, [.t 2], 8),
  (53, ic53, [.t 2], 5),
  (54, ic54, [], 31),
  (56, ic56, [.t 4], 9),
  (57, ic57, [.t 2], 6),
  (59, ic59, [.t 2], 34),
  (60, ic60, [.t 4], 10),
  (61, ic61, [.t 4], 8),
  (64, ic64, [.cell 2 (some 4)], 14),
  (65, ic65, [.t 4], 19),
  (67, ic67, [.t 2], 27),
  (68, ic68, [.t 2], 5),
  (69, ic69, [.t 2], 29),
  (71, ic71, [.t 2, .t 3], 15),
  (72, ic72, [.t 2, .t 3, .t 4], 18),
  (73, ic73, [.t 3], 7),
  (74, ic74, [.cell 0 (some 16)], 2)]
theorem tabOk : TabL.OK Try.prog tabL := TabL.ok_cons ok7 (TabL.ok_cons ok17 (TabL.ok_cons ok24 (TabL.ok_cons ok25 (TabL.ok_cons ok27 (TabL.ok_cons ok28 (TabL.ok_cons ok30 (TabL.ok_cons ok32 (TabL.ok_cons ok33 (TabL.ok_cons ok34 (TabL.ok_cons ok35 (TabL.ok_cons ok37 (TabL.ok_cons ok50 (TabL.ok_cons ok51 (TabL.ok_cons ok52 (TabL.ok_cons ok53 (TabL.ok_cons ok54 (TabL.ok_cons ok56 (TabL.ok_cons ok57 (TabL.ok_cons ok59 (TabL.ok_cons ok60 (TabL.ok_cons ok61 (TabL.ok_cons ok64 (TabL.ok_cons ok65 (TabL.ok_cons ok67 (TabL.ok_cons ok68 (TabL.ok_cons ok69 (TabL.ok_cons ok71 (TabL.ok_cons ok72 (TabL.ok_cons ok73 (TabL.ok_cons ok74 TabL.ok_nil))))))))))))))))))))))))))))))
end Go.Proofs.Ytkkccabchhnebaa
