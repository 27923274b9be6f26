/- The IR of this program's functions, as printed by MkIC.lean. Conditions: none. -/
import Derived.Test.YtapoilcpollmpaaFwZ
import Derived.Test.YtapoilcpollmpaaChecked
namespace Go.Proofs.Ytapoilcpollmpaa
open Go.SB
set_option maxRecDepth 100000
/-- signalbox/signalboxlaw14.CtrlNil -/
def ic8 : IC :=
 (.seq (.region 1 [
   ⟨(some 1), .box (.t 0), none, 0, []⟩,
   ⟨(some 2), .mv (.c (.bool false)), none, 1, []⟩] [0, 2])
 (.seq (.region 0 [
   ⟨(some 3), .mv (.c .nilp), none, 0, []⟩] [])
 (.seq (.region 0 [
   ⟨(some 12), .mv (.t 3), none, 0, []⟩,
   ⟨(some 13), .call (.c (.fn 38 [] [])) [(.t 12)], none, 0, [0]⟩] [12, 13])
 (.seq (.region 0 [
   ⟨(some 14), .mv (.t 3), none, 0, []⟩,
   ⟨(some 15), .call (.c (.fn 39 [] [])) [(.t 14), (.c (.int .i64 3))], none, 0, [0]⟩] [14, 15])
 (.seq (.region 0 [
   ⟨(some 17), .mv (.t 3), none, 0, []⟩,
   ⟨(some 18), .load (some 7) (.t 1), none, 0, []⟩,
   ⟨(some 19), .call (.c (.fn 40 [] [])) [(.t 17), (.t 18)], none, 0, [0, 1]⟩,
   ⟨(some 16), .mv (.t 19), none, 0, [2]⟩,
   ⟨(some 20), .ext 0 (.t 16), none, 0, [3]⟩,
   ⟨(some 21), .ext 1 (.t 16), none, 0, [3]⟩,
   ⟨(some 4), .mv (.t 20), none, 0, [4, 2, 0, 1, 2, 3, 4]⟩,
   ⟨(some 5), .mv (.t 21), none, 0, [5, 6, 0, 1, 2, 3, 4, 5, 6]⟩] [16, 17, 18, 19, 20, 21])
 (.seq (.region 1 [
   ⟨(some 23), .mv (.t 3), none, 0, []⟩,
   ⟨(some 24), .call (.c (.fn 41 [] [])) [(.t 23)], none, 0, [0]⟩,
   ⟨(some 22), .mv (.t 24), none, 0, [1]⟩,
   ⟨(some 25), .ext 0 (.t 22), none, 0, [2]⟩,
   ⟨(some 26), .ext 1 (.t 22), none, 0, [2]⟩,
   ⟨(some 6), .alloc [(.int .i64 0), (.int .i64 0), (.int .i64 0), (.str [])], none, 0, []⟩,
   ⟨none, .store 4 (.t 6) (.t 25), none, 1, [5, 3, 1, 0, 1, 2, 3, 5]⟩,
   ⟨(some 7), .mv (.t 26), none, 1, [4, 6, 0, 1, 2, 3, 4, 5, 6]⟩] [22, 23, 24, 25, 26])
 (.seq (.region 1 [
   ⟨(some 28), .mv (.t 3), none, 0, []⟩,
   ⟨(some 29), .call (.c (.fn 42 [] [])) [(.t 28)], none, 0, [0]⟩,
   ⟨(some 27), .mv (.t 29), none, 0, [1]⟩,
   ⟨(some 30), .ext 0 (.t 27), none, 0, [2]⟩,
   ⟨(some 31), .ext 1 (.t 27), none, 0, [2]⟩,
   ⟨(some 8), .alloc [(.int .i64 0), (.int .i64 0), (.int .i64 0), (.int .i64 0), (.str []), (.int .i64 0), (.int .i64 0), (.bool false), (.bool false)], none, 0, []⟩,
   ⟨none, .store 9 (.t 8) (.t 30), none, 1, [5, 3, 1, 0, 1, 2, 3, 5]⟩,
   ⟨(some 9), .mv (.t 31), none, 1, [4, 6, 0, 1, 2, 3, 4, 5, 6]⟩] [27, 28, 29, 30, 31])
 (.seq (.region 1 [
   ⟨(some 33), .mv (.t 3), none, 0, []⟩,
   ⟨(some 34), .call (.c (.fn 12 [] [])) [(.t 33)], none, 0, [0]⟩,
   ⟨(some 32), .mv (.t 34), none, 0, [1]⟩,
   ⟨(some 35), .ext 0 (.t 32), none, 0, [2]⟩,
   ⟨(some 36), .ext 1 (.t 32), none, 0, [2]⟩,
   ⟨(some 10), .alloc [(.int .i64 0), (.int .i64 0), (.int .i64 0), (.str [])], none, 0, []⟩,
   ⟨none, .store 4 (.t 10) (.t 35), none, 1, [5, 3, 1, 0, 1, 2, 3, 5]⟩,
   ⟨(some 11), .mv (.t 36), none, 1, [4, 6, 0, 1, 2, 3, 4, 5, 6]⟩] [32, 33, 34, 35, 36])
 (.seq (.region 0 [
   ⟨(some 37), .mv (.t 4), none, 0, []⟩,
   ⟨(some 38), .bin .eql (.t 37) (.c (.int .i64 0)), none, 0, [0]⟩,
   ⟨(some 39), .mv (.t 38), none, 0, [1]⟩,
   ⟨(some 40), .mv (.t 5), (some (39, true)), 0, [2]⟩,
   ⟨(some 41), .bin .eql (.t 40) (.c (.int .i64 1)), (some (39, true)), 0, [3, 2]⟩,
   ⟨(some 42), .pick (.t 39) (.t 41) (.c (.bool false)), none, 0, [2, 4]⟩,
   ⟨(some 43), .mv (.t 42), none, 0, [5, 2]⟩,
   ⟨(some 44), .load (some 4) (.t 6), (some (43, true)), 0, [6]⟩,
   ⟨(some 45), .build [(.int .i64 0), (.int .i64 0), (.int .i64 0), (.str [])] [], (some (43, true)), 0, [6]⟩,
   ⟨(some 46), .eqv false (.struct [.int, .int, .int, .str]) (.t 44) (.t 45), (some (43, true)), 0, [7, 8, 6]⟩,
   ⟨(some 47), .pick (.t 43) (.t 46) (.c (.bool false)), none, 0, [6, 9]⟩,
   ⟨(some 48), .mv (.t 47), none, 0, [10, 6]⟩,
   ⟨(some 49), .mv (.t 7), (some (48, true)), 0, [11]⟩,
   ⟨(some 50), .un .not (.t 49), (some (48, true)), 0, [12, 11]⟩,
   ⟨(some 51), .pick (.t 48) (.t 50) (.c (.bool false)), none, 0, [11, 13]⟩,
   ⟨(some 52), .mv (.t 51), none, 0, [14, 11]⟩,
   ⟨(some 53), .load (some 9) (.t 8), (some (52, true)), 0, [15]⟩,
   ⟨(some 54), .build [(.int .i64 0), (.int .i64 0), (.int .i64 0), (.int .i64 0), (.str []), (.int .i64 0), (.int .i64 0), (.bool false), (.bool false)] [], (some (52, true)), 0, [15]⟩,
   ⟨(some 55), .eqv false (.struct [.int, .int, .int, .int, .str, .int, .int, .bool, .bool]) (.t 53) (.t 54), (some (52, true)), 0, [16, 17, 15]⟩,
   ⟨(some 56), .pick (.t 52) (.t 55) (.c (.bool false)), none, 0, [15, 18]⟩,
   ⟨(some 57), .mv (.t 56), none, 0, [19, 15]⟩,
   ⟨(some 58), .mv (.t 9), (some (57, true)), 0, [20]⟩,
   ⟨(some 59), .bin .eql (.t 58) (.c (.int .i64 1)), (some (57, true)), 0, [21, 20]⟩,
   ⟨(some 60), .pick (.t 57) (.t 59) (.c (.bool false)), none, 0, [20, 22]⟩,
   ⟨(some 61), .mv (.t 60), none, 0, [23, 20]⟩,
   ⟨(some 62), .load (some 4) (.t 10), (some (61, true)), 0, [24]⟩,
   ⟨(some 63), .build [(.int .i64 0), (.int .i64 0), (.int .i64 0), (.str [])] [], (some (61, true)), 0, [24]⟩,
   ⟨(some 64), .eqv false (.struct [.int, .int, .int, .str]) (.t 62) (.t 63), (some (61, true)), 0, [25, 26, 24]⟩,
   ⟨(some 65), .pick (.t 61) (.t 64) (.c (.bool false)), none, 0, [24, 27]⟩,
   ⟨(some 66), .mv (.t 65), none, 0, [28, 24]⟩,
   ⟨(some 67), .mv (.t 11), (some (66, true)), 0, [29]⟩,
   ⟨(some 68), .bin .eql (.t 67) (.c (.int .i64 1)), (some (66, true)), 0, [30, 29]⟩,
   ⟨(some 69), .pick (.t 66) (.t 68) (.c (.bool false)), none, 0, [29, 31]⟩,
   ⟨(some 70), .mv (.t 69), none, 0, [32, 29]⟩,
   ⟨(some 71), .mv (.t 3), (some (70, true)), 0, [33]⟩,
   ⟨(some 72), .call (.c (.fn 43 [] [])) [(.t 71)], (some (70, true)), 0, [34, 33, 33]⟩,
   ⟨(some 73), .un .not (.t 72), (some (70, true)), 0, [35, 33]⟩,
   ⟨(some 74), .pick (.t 70) (.t 73) (.c (.bool false)), none, 0, [33, 36]⟩,
   ⟨(some 75), .mv (.t 74), none, 0, [37, 35]⟩,
   ⟨(some 76), .mv (.t 3), (some (75, true)), 0, [38]⟩,
   ⟨(some 77), .faddr 0 (.t 1), (some (75, true)), 0, [38]⟩,
   ⟨(some 78), .load (some 4) (.t 77), (some (75, true)), 0, [40, 38]⟩,
   ⟨(some 79), .call (.c (.fn 15 [] [])) [(.t 76), (.t 78)], (some (75, true)), 0, [39, 41, 38, 38]⟩,
   ⟨(some 80), .un .not (.t 79), (some (75, true)), 0, [42, 38]⟩,
   ⟨(some 81), .pick (.t 75) (.t 80) (.c (.bool false)), none, 0, [38, 43]⟩,
   ⟨(some 82), .mv (.t 81), none, 0, [44, 42]⟩,
   ⟨(some 83), .mv (.t 3), (some (82, true)), 0, [45]⟩,
   ⟨(some 84), .call (.c (.fn 34 [] [])) [(.t 83)], (some (82, true)), 0, [46, 45, 45]⟩,
   ⟨(some 85), .mv (.t 3), (some (82, true)), 0, [45]⟩,
   ⟨(some 86), .call (.c (.fn 44 [] [])) [(.t 85)], (some (82, true)), 0, [48, 47, 45]⟩,
   ⟨(some 87), .bin .add (.t 84) (.t 86), (some (82, true)), 0, [47, 49, 45]⟩,
   ⟨(some 88), .mv (.t 3), (some (82, true)), 0, [45]⟩,
   ⟨(some 89), .call (.c (.fn 35 [] [])) [(.t 88)], (some (82, true)), 0, [51, 49, 45]⟩,
   ⟨(some 90), .bin .add (.t 87) (.t 89), (some (82, true)), 0, [50, 52, 45]⟩,
   ⟨(some 91), .mv (.t 3), (some (82, true)), 0, [45]⟩,
   ⟨(some 92), .call (.c (.fn 17 [] [])) [(.t 91)], (some (82, true)), 0, [54, 52, 45]⟩,
   ⟨(some 93), .bin .add (.t 90) (.t 92), (some (82, true)), 0, [53, 55, 45]⟩,
   ⟨(some 94), .mv (.t 3), (some (82, true)), 0, [45]⟩,
   ⟨(some 95), .call (.c (.fn 16 [] [])) [(.t 94)], (some (82, true)), 0, [57, 55, 45]⟩,
   ⟨(some 96), .bin .add (.t 93) (.t 95), (some (82, true)), 0, [56, 58, 45]⟩,
   ⟨(some 97), .mv (.t 3), (some (82, true)), 0, [45]⟩,
   ⟨(some 98), .call (.c (.fn 37 [] [])) [(.t 97)], (some (82, true)), 0, [60, 58, 45]⟩,
   ⟨(some 99), .lens (.t 98), (some (82, true)), 0, [61, 45]⟩,
   ⟨(some 100), .bin .add (.t 96) (.t 99), (some (82, true)), 0, [59, 62, 45]⟩,
   ⟨(some 101), .bin .eql (.t 100) (.c (.int .i64 0)), (some (82, true)), 0, [63, 45]⟩,
   ⟨(some 102), .pick (.t 82) (.t 101) (.c (.bool false)), none, 0, [45, 64]⟩,
   ⟨(some 103), .mv (.t 102), none, 0, [65, 61]⟩,
   ⟨(some 104), .call (.c (.fn 10 [] [])) [], (some (103, true)), 0, [66, 66]⟩,
   ⟨(some 105), .pick (.t 103) (.t 104) (.c (.bool false)), none, 0, [66, 67]⟩,
   ⟨(some 2), .mv (.t 105), none, 0, [68, 67, 0, 1, 2, 3, 4, 5, 6, 7, 8, 9, 10, 11, 12, 13, 14, 15, 16, 17, 18, 19, 20, 21, 22, 23, 24, 25, 26, 27, 28, 29, 30, 31, 32, 33, 34, 35, 36, 37, 38, 39, 40, 41, 42, 43, 44, 45, 46, 47, 48, 49, 50, 51, 52, 53, 54, 55, 56, 57, 58, 59, 60, 61, 62, 63, 64, 65, 66, 67, 68]⟩] [1, 3, 4, 5, 6, 7, 8, 9, 10, 11, 37, 38, 39, 40, 41, 42, 43, 44, 45, 46, 47, 48, 49, 50, 51, 52, 53, 54, 55, 56, 57, 58, 59, 60, 61, 62, 63, 64, 65, 66, 67, 68, 69, 70, 71, 72, 73, 74, 75, 76, 77, 78, 79, 80, 81, 82, 83, 84, 85, 86, 87, 88, 89, 90, 91, 92, 93, 94, 95, 96, 97, 98, 99, 100, 101, 102, 103, 104, 105])
 .ret)))))))))
def hs8 : List (List Nat) := [[0, 2], [], [12, 13], [14, 15], [16, 17, 18, 19, 20, 21], [22, 23, 24, 25, 26], [27, 28, 29, 30, 31], [32, 33, 34, 35, 36], [1, 3, 4, 5, 6, 7, 8, 9, 10, 11, 37, 38, 39, 40, 41, 42, 43, 44, 45, 46, 47, 48, 49, 50, 51, 52, 53, 54, 55, 56, 57, 58, 59, 60, 61, 62, 63, 64, 65, 66, 67, 68, 69, 70, 71, 72, 73, 74, 75, 76, 77, 78, 79, 80, 81, 82, 83, 84, 85, 86, 87, 88, 89, 90, 91, 92, 93, 94, 95, 96, 97, 98, 99, 100, 101, 102, 103, 104, 105]]
theorem ok8 : FnOk Try.prog 8 ic8 [.t 2] 106 := ⟨Try.f8, hs8, Try.func8, by kernel_rfl, by kernel_rfl, by kernel_rfl, by kernel_rfl⟩

/-- signalbox/signalboxlaw14.alive -/
def ic10 : IC :=
 (.seq (.region 0 [
   ⟨(some 0), .mv (.c (.bool false)), none, 0, []⟩] [0])
 (.seq (.region 0 [
   ⟨(some 4), .build [(.int .i64 0), (.int .i64 0), (.int .i64 0), (.int .i64 0), (.int .i64 0), (.int .i64 0), (.int .i64 0), .nils] [(0, 1, (.c (.int .i64 1))), (1, 1, (.c (.int .i64 1)))], none, 0, []⟩,
   ⟨(some 5), .call (.c (.fn 11 [] [])) [(.t 4)], none, 0, [0]⟩,
   ⟨(some 1), .mv (.t 5), none, 0, [1, 1, 0, 1]⟩] [4, 5])
 (.seq (.region 0 [
   ⟨(some 6), .mv (.t 1), none, 0, []⟩,
   ⟨(some 7), .build [(.int .i64 0), (.int .i64 0), (.int .i64 0), (.str [])] [(0, 1, (.c (.int .i64 1)))], none, 0, []⟩,
   ⟨(some 8), .call (.c (.fn 15 [] [])) [(.t 6), (.t 7)], none, 0, [0, 1]⟩,
   ⟨(some 9), .mv (.t 1), none, 0, []⟩,
   ⟨(some 10), .build [(.int .i64 0), (.int .i64 0), (.int .i64 0), (.str [])] [(0, 1, (.c (.int .i64 2)))], none, 0, []⟩,
   ⟨(some 11), .call (.c (.fn 15 [] [])) [(.t 9), (.t 10)], none, 0, [3, 4, 2]⟩,
   ⟨(some 2), .mv (.t 8), none, 0, [2, 5, 0, 1, 2]⟩,
   ⟨(some 3), .mv (.t 11), none, 0, [5, 6, 0, 1, 2, 3, 4, 5, 6]⟩] [6, 7, 8, 9, 10, 11])
 (.seq (.region 0 [
   ⟨(some 12), .mv (.t 2), none, 0, []⟩,
   ⟨(some 13), .mv (.t 12), none, 0, [0]⟩,
   ⟨(some 14), .mv (.t 3), (some (13, true)), 0, [1]⟩,
   ⟨(some 15), .un .not (.t 14), (some (13, true)), 0, [2, 1]⟩,
   ⟨(some 16), .pick (.t 13) (.t 15) (.c (.bool false)), none, 0, [1, 3]⟩,
   ⟨(some 17), .mv (.t 16), none, 0, [4, 1]⟩,
   ⟨(some 18), .mv (.t 1), (some (17, true)), 0, [5]⟩,
   ⟨(some 19), .call (.c (.fn 34 [] [])) [(.t 18)], (some (17, true)), 0, [6, 5, 5]⟩,
   ⟨(some 20), .bin .eql (.t 19) (.c (.int .i64 6)), (some (17, true)), 0, [7, 5]⟩,
   ⟨(some 21), .pick (.t 17) (.t 20) (.c (.bool false)), none, 0, [5, 8]⟩,
   ⟨(some 22), .mv (.t 21), none, 0, [9, 7]⟩,
   ⟨(some 23), .mv (.t 1), (some (22, true)), 0, [10]⟩,
   ⟨(some 24), .call (.c (.fn 16 [] [])) [(.t 23)], (some (22, true)), 0, [11, 10, 10]⟩,
   ⟨(some 25), .bin .eql (.t 24) (.c (.int .i64 1)), (some (22, true)), 0, [12, 10]⟩,
   ⟨(some 26), .pick (.t 22) (.t 25) (.c (.bool false)), none, 0, [10, 13]⟩,
   ⟨(some 27), .mv (.t 26), none, 0, [14, 12]⟩,
   ⟨(some 28), .mv (.t 1), (some (27, true)), 0, [15]⟩,
   ⟨(some 29), .call (.c (.fn 17 [] [])) [(.t 28)], (some (27, true)), 0, [16, 15, 15]⟩,
   ⟨(some 30), .bin .eql (.t 29) (.c (.int .i64 1)), (some (27, true)), 0, [17, 15]⟩,
   ⟨(some 31), .pick (.t 27) (.t 30) (.c (.bool false)), none, 0, [15, 18]⟩,
   ⟨(some 32), .mv (.t 31), none, 0, [19, 17]⟩,
   ⟨(some 33), .mv (.t 1), (some (32, true)), 0, [20]⟩,
   ⟨(some 34), .call (.c (.fn 35 [] [])) [(.t 33)], (some (32, true)), 0, [21, 20, 20]⟩,
   ⟨(some 35), .bin .eql (.t 34) (.c (.int .i64 1)), (some (32, true)), 0, [22, 20]⟩,
   ⟨(some 36), .pick (.t 32) (.t 35) (.c (.bool false)), none, 0, [20, 23]⟩,
   ⟨(some 0), .mv (.t 36), none, 0, [24, 22, 0, 1, 2, 3, 4, 5, 6, 7, 8, 9, 10, 11, 12, 13, 14, 15, 16, 17, 18, 19, 20, 21, 22, 23, 24]⟩] [1, 2, 3, 12, 13, 14, 15, 16, 17, 18, 19, 20, 21, 22, 23, 24, 25, 26, 27, 28, 29, 30, 31, 32, 33, 34, 35, 36])
 .ret))))
def hs10 : List (List Nat) := [[0], [4, 5], [6, 7, 8, 9, 10, 11], [1, 2, 3, 12, 13, 14, 15, 16, 17, 18, 19, 20, 21, 22, 23, 24, 25, 26, 27, 28, 29, 30, 31, 32, 33, 34, 35, 36]]
theorem ok10 : FnOk Try.prog 10 ic10 [.t 0] 37 := ⟨Try.f10, hs10, Try.func10, by kernel_rfl, by kernel_rfl, by kernel_rfl, by kernel_rfl⟩

/-- signalbox/ctrl.New -/
def ic11 : IC :=
 (.seq (.region 1 [
   ⟨(some 1), .box (.t 0), none, 0, []⟩,
   ⟨(some 2), .mv (.c .nilp), none, 1, []⟩] [0, 2])
 (.seq (.regionD 1 [
   ⟨(some 3), .faddr 0 (.t 1), none, 0, []⟩,
   ⟨(some 4), .load none (.t 3), none, 0, [0]⟩,
   ⟨(some 5), .call (.c (.fn 52 [] [])) [(.t 4)], none, 0, [1]⟩,
   ⟨(some 6), .faddr 1 (.t 1), none, 0, []⟩,
   ⟨(some 7), .load none (.t 6), none, 0, [3]⟩,
   ⟨(some 8), .call (.c (.fn 53 [] [])) [(.t 7)], none, 0, [4, 2]⟩,
   ⟨(some 9), .build [.nilp, .nilp] [(0, 1, (.t 5)), (1, 1, (.t 8))], none, 0, [2, 5]⟩,
   ⟨(some 10), .faddr 7 (.t 1), none, 0, []⟩,
   ⟨(some 11), .load none (.t 10), none, 0, [7]⟩,
   ⟨(some 12), .call (.c (.fn 54 [] [])) [(.t 11)], none, 0, [8, 5]⟩,
   ⟨(some 13), .build [.nilp, .nilp, .nils, (.int .i64 0)] [(0, 2, (.t 9)), (2, 1, (.t 12))], none, 0, [6, 9]⟩,
   ⟨(some 14), .box (.t 13), none, 0, [10]⟩,
   ⟨(some 2), .mv (.t 14), none, 1, [11, 9, 0, 1, 2, 3, 4, 5, 6, 7, 8, 9, 10, 11]⟩]
   [0, 3, 7, 1, 4, 8, 2, 5, 6, 9, 10, 11, 12] [0, 1, 3, 0, 8, 31, 63, 0, 128, 447, 1023, 2047, 4095] [1, 3, 4, 5, 6, 7, 8, 9, 10, 11, 12, 13, 14])
 .ret))
def hs11 : List (List Nat) := [[0, 2], [0, 3, 7, 1, 4, 8, 2, 5, 6, 9, 10, 11, 12], [0, 1, 3, 0, 8, 31, 63, 0, 128, 447, 1023, 2047, 4095], [1, 3, 4, 5, 6, 7, 8, 9, 10, 11, 12, 13, 14]]
theorem ok11 : FnOk Try.prog 11 ic11 [.t 2] 15 := ⟨Try.f11, hs11, Try.func11, by kernel_rfl, by kernel_rfl, by kernel_rfl, by kernel_rfl⟩

/-- (*signalbox/ctrl.Ctrl).Fetch -/
def ic12 : IC :=
 (.seq (.region 1 [
   ⟨(some 2), .alloc [(.int .i64 0), (.int .i64 0), (.int .i64 0), (.str [])], none, 0, []⟩,
   ⟨(some 3), .mv (.c (.int .i64 0)), none, 1, []⟩] [3])
 (.seq (.seq (.region 0 [
   ⟨(some 4), .mv (.t 0), none, 0, []⟩,
   ⟨(some 5), .eqv false .ptr (.t 4) (.c .nilp), none, 0, [0]⟩] [4])
 (.cond (.t 5) [5]
  (.seq (.region 0 [
    ⟨(some 6), .build [(.int .i64 0), (.int .i64 0), (.int .i64 0), (.str [])] [], none, 0, []⟩,
    ⟨none, .store 4 (.t 2) (.t 6), none, 0, [0, 0]⟩,
    ⟨(some 3), .mv (.c (.int .i64 1)), none, 0, [1, 0, 1]⟩] [6])
  .ret)
  .skip))
 (.seq (.region 0 [
   ⟨(some 7), .mv (.t 0), none, 0, []⟩,
   ⟨(some 8), .nilck (.t 7), none, 0, [0]⟩,
   ⟨(some 9), .faddr 0 (.t 8), none, 0, [1]⟩,
   ⟨(some 10), .faddr 1 (.t 9), none, 0, [2]⟩,
   ⟨(some 11), .load none (.t 10), none, 0, [3]⟩,
   ⟨(some 12), .call (.c (.fn 55 [] [])) [(.t 11)], none, 0, [4]⟩,
   ⟨(some 13), .ext 0 (.t 12), none, 0, [5]⟩,
   ⟨(some 14), .ext 1 (.t 12), none, 0, [5]⟩,
   ⟨none, .store 4 (.t 2) (.t 13), none, 0, [6, 5, 0, 1, 2, 3, 4, 5, 6, 7]⟩,
   ⟨(some 3), .mv (.t 14), none, 0, [7, 8, 0, 1, 2, 3, 4, 5, 6, 7, 8]⟩] [0, 7, 8, 9, 10, 11, 12, 13, 14])
 .ret)))
def hs12 : List (List Nat) := [[3], [4], [5], [6], [0, 7, 8, 9, 10, 11, 12, 13, 14]]
theorem ok12 : FnOk Try.prog 12 ic12 [.cell 2 (some 4), .t 3] 15 := ⟨Try.f12, hs12, Try.func12, by kernel_rfl, by kernel_rfl, by kernel_rfl, by kernel_rfl⟩

/-- (*signalbox/ctrl.Ctrl).Hear -/
def ic15 : IC :=
 (.seq (.region 1 [
   ⟨(some 3), .box (.t 1), none, 0, []⟩,
   ⟨(some 4), .mv (.c (.bool false)), none, 1, []⟩] [1, 4])
 (.seq (.seq (.region 0 [
   ⟨(some 6), .mv (.t 0), none, 0, []⟩,
   ⟨(some 7), .eqv false .ptr (.t 6) (.c .nilp), none, 0, [0]⟩,
   ⟨(some 8), .mv (.t 7), none, 0, [1]⟩,
   ⟨(some 9), .mv (.t 0), (some (8, false)), 0, [2]⟩,
   ⟨(some 10), .load (some 4) (.t 3), (some (8, false)), 0, [2]⟩,
   ⟨(some 11), .call (.c (.fn 60 [] [])) [(.t 9), (.t 10)], (some (8, false)), 0, [3, 4, 2, 2]⟩,
   ⟨(some 12), .un .not (.t 11), (some (8, false)), 0, [5, 2]⟩,
   ⟨(some 13), .pick (.t 8) (.c (.bool true)) (.t 12), none, 0, [2, 6]⟩] [6, 7, 8, 9, 10, 11, 12])
 (.cond (.t 13) [13]
  (.seq (.region 0 [
    ⟨(some 4), .mv (.c (.bool false)), none, 0, []⟩] [])
  .ret)
  .skip))
 (.seq (.regionD 0 [
   ⟨(some 14), .mv (.t 0), none, 0, []⟩,
   ⟨(some 15), .nilck (.t 14), none, 0, [0]⟩,
   ⟨(some 16), .faddr 0 (.t 15), none, 0, [1]⟩,
   ⟨(some 17), .faddr 1 (.t 16), none, 0, [2]⟩,
   ⟨(some 18), .load none (.t 17), none, 0, [3]⟩,
   ⟨(some 19), .load (some 4) (.t 3), none, 0, []⟩,
   ⟨(some 20), .call (.c (.fn 61 [] [])) [(.t 18), (.t 19)], none, 0, [4, 5]⟩,
   ⟨(some 5), .mv (.t 20), none, 0, [6, 6, 0, 1, 2, 3, 4, 5, 6]⟩]
   [0, 1, 2, 3, 4, 5, 6, 7] [0, 1, 3, 7, 15, 0, 63, 127] [3, 14, 15, 16, 17, 18, 19, 20])
 (.seq (.seq (.region 0 [
   ⟨(some 21), .mv (.t 5), none, 0, []⟩] [])
 (.cond (.t 21) [21]
  (.region 0 [
    ⟨(some 22), .mv (.t 0), none, 0, []⟩,
    ⟨(some 23), .nilck (.t 22), none, 0, [0]⟩,
    ⟨(some 24), .faddr 3 (.t 23), none, 0, [1]⟩,
    ⟨(some 25), .load none (.t 24), none, 0, [2]⟩,
    ⟨(some 26), .bin .or (.t 25) (.c (.int .i64 2)), none, 0, [3]⟩,
    ⟨(some 27), .nilck (.t 22), none, 0, [0, 0, 1, 2, 3, 4]⟩,
    ⟨(some 28), .faddr 3 (.t 27), none, 0, [5, 0, 1, 2, 3, 4]⟩,
    ⟨none, .store 1 (.t 28) (.t 26), none, 0, [6, 4, 0, 1, 2, 3, 4]⟩] [0, 22, 23, 24, 25, 26, 27, 28])
  (.region 0 [
    ⟨(some 29), .mv (.t 0), none, 0, []⟩,
    ⟨(some 30), .nilck (.t 29), none, 0, [0]⟩,
    ⟨(some 31), .faddr 3 (.t 30), none, 0, [1]⟩,
    ⟨(some 32), .load none (.t 31), none, 0, [2]⟩,
    ⟨(some 33), .bin .or (.t 32) (.c (.int .i64 4)), none, 0, [3]⟩,
    ⟨(some 34), .nilck (.t 29), none, 0, [0, 0, 1, 2, 3, 4]⟩,
    ⟨(some 35), .faddr 3 (.t 34), none, 0, [5, 0, 1, 2, 3, 4]⟩,
    ⟨none, .store 1 (.t 35) (.t 33), none, 0, [6, 4, 0, 1, 2, 3, 4]⟩] [0, 29, 30, 31, 32, 33, 34, 35])))
 (.seq (.region 0 [
   ⟨(some 36), .mv (.t 5), none, 0, []⟩,
   ⟨(some 4), .mv (.t 36), none, 0, [0, 0]⟩] [5, 36])
 .ret)))))
def hs15 : List (List Nat) := [[1, 4], [6, 7, 8, 9, 10, 11, 12], [13], [], [0, 1, 2, 3, 4, 5, 6, 7], [0, 1, 3, 7, 15, 0, 63, 127], [3, 14, 15, 16, 17, 18, 19, 20], [], [21], [0, 22, 23, 24, 25, 26, 27, 28], [0, 29, 30, 31, 32, 33, 34, 35], [5, 36]]
theorem ok15 : FnOk Try.prog 15 ic15 [.t 4] 37 := ⟨Try.f15, hs15, Try.func15, by kernel_rfl, by kernel_rfl, by kernel_rfl, by kernel_rfl⟩

/-- (*signalbox/ctrl.Ctrl).Kept -/
def ic16 : IC :=
 (.seq (.region 0 [
   ⟨(some 2), .mv (.c (.int .i64 0)), none, 0, []⟩] [2])
 (.seq (.seq (.region 0 [
   ⟨(some 3), .mv (.t 0), none, 0, []⟩,
   ⟨(some 4), .eqv false .ptr (.t 3) (.c .nilp), none, 0, [0]⟩] [3])
 (.cond (.t 4) [4]
  (.seq (.region 0 [
    ⟨(some 2), .mv (.c (.int .i64 0)), none, 0, []⟩] [])
  .ret)
  .skip))
 (.seq (.region 0 [
   ⟨(some 5), .mv (.t 0), none, 0, []⟩,
   ⟨(some 6), .nilck (.t 5), none, 0, [0]⟩,
   ⟨(some 7), .faddr 0 (.t 6), none, 0, [1]⟩,
   ⟨(some 8), .faddr 1 (.t 7), none, 0, [2]⟩,
   ⟨(some 9), .load none (.t 8), none, 0, [3]⟩,
   ⟨(some 10), .call (.c (.fn 62 [] [])) [(.t 9)], none, 0, [4]⟩,
   ⟨(some 2), .mv (.t 10), none, 0, [5, 5, 0, 1, 2, 3, 4, 5]⟩] [0, 5, 6, 7, 8, 9, 10])
 .ret)))
def hs16 : List (List Nat) := [[2], [3], [4], [], [0, 5, 6, 7, 8, 9, 10]]
theorem ok16 : FnOk Try.prog 16 ic16 [.t 2] 11 := ⟨Try.f16, hs16, Try.func16, by kernel_rfl, by kernel_rfl, by kernel_rfl, by kernel_rfl⟩

/-- (*signalbox/ctrl.Ctrl).Lost -/
def ic17 : IC :=
 (.seq (.region 0 [
   ⟨(some 2), .mv (.c (.int .i64 0)), none, 0, []⟩] [2])
 (.seq (.seq (.region 0 [
   ⟨(some 3), .mv (.t 0), none, 0, []⟩,
   ⟨(some 4), .eqv false .ptr (.t 3) (.c .nilp), none, 0, [0]⟩] [3])
 (.cond (.t 4) [4]
  (.seq (.region 0 [
    ⟨(some 2), .mv (.c (.int .i64 0)), none, 0, []⟩] [])
  .ret)
  .skip))
 (.seq (.region 0 [
   ⟨(some 5), .mv (.t 0), none, 0, []⟩,
   ⟨(some 6), .nilck (.t 5), none, 0, [0]⟩,
   ⟨(some 7), .faddr 0 (.t 6), none, 0, [1]⟩,
   ⟨(some 8), .faddr 1 (.t 7), none, 0, [2]⟩,
   ⟨(some 9), .load none (.t 8), none, 0, [3]⟩,
   ⟨(some 10), .call (.c (.fn 63 [] [])) [(.t 9)], none, 0, [4]⟩,
   ⟨(some 2), .mv (.t 10), none, 0, [5, 5, 0, 1, 2, 3, 4, 5]⟩] [0, 5, 6, 7, 8, 9, 10])
 .ret)))
def hs17 : List (List Nat) := [[2], [3], [4], [], [0, 5, 6, 7, 8, 9, 10]]
theorem ok17 : FnOk Try.prog 17 ic17 [.t 2] 11 := ⟨Try.f17, hs17, Try.func17, by kernel_rfl, by kernel_rfl, by kernel_rfl, by kernel_rfl⟩

/-- (*signalbox/ctrl.Ctrl).Asks -/
def ic34 : IC :=
 (.seq (.region 0 [
   ⟨(some 2), .mv (.c (.int .i64 0)), none, 0, []⟩] [2])
 (.seq (.seq (.region 0 [
   ⟨(some 3), .mv (.t 0), none, 0, []⟩,
   ⟨(some 4), .eqv false .ptr (.t 3) (.c .nilp), none, 0, [0]⟩] [3])
 (.cond (.t 4) [4]
  (.seq (.region 0 [
    ⟨(some 2), .mv (.c (.int .i64 0)), none, 0, []⟩] [])
  .ret)
  .skip))
 (.seq (.region 0 [
   ⟨(some 5), .mv (.t 0), none, 0, []⟩,
   ⟨(some 6), .nilck (.t 5), none, 0, [0]⟩,
   ⟨(some 7), .faddr 3 (.t 6), none, 0, [1]⟩,
   ⟨(some 8), .load none (.t 7), none, 0, [2]⟩,
   ⟨(some 2), .mv (.t 8), none, 0, [3, 0, 1, 2, 3]⟩] [0, 5, 6, 7, 8])
 .ret)))
def hs34 : List (List Nat) := [[2], [3], [4], [], [0, 5, 6, 7, 8]]
theorem ok34 : FnOk Try.prog 34 ic34 [.t 2] 9 := ⟨Try.f34, hs34, Try.func34, by kernel_rfl, by kernel_rfl, by kernel_rfl, by kernel_rfl⟩

/-- (*signalbox/ctrl.Ctrl).Free -/
def ic35 : IC :=
 (.seq (.region 0 [
   ⟨(some 2), .mv (.c (.int .i64 0)), none, 0, []⟩] [2])
 (.seq (.seq (.region 0 [
   ⟨(some 3), .mv (.t 0), none, 0, []⟩,
   ⟨(some 4), .eqv false .ptr (.t 3) (.c .nilp), none, 0, [0]⟩] [3])
 (.cond (.t 4) [4]
  (.seq (.region 0 [
    ⟨(some 2), .mv (.c (.int .i64 0)), none, 0, []⟩] [])
  .ret)
  .skip))
 (.seq (.region 0 [
   ⟨(some 5), .mv (.t 0), none, 0, []⟩,
   ⟨(some 6), .nilck (.t 5), none, 0, [0]⟩,
   ⟨(some 7), .faddr 0 (.t 6), none, 0, [1]⟩,
   ⟨(some 8), .faddr 0 (.t 7), none, 0, [2]⟩,
   ⟨(some 9), .load none (.t 8), none, 0, [3]⟩,
   ⟨(some 10), .call (.c (.fn 101 [] [])) [(.t 9)], none, 0, [4]⟩,
   ⟨(some 2), .mv (.t 10), none, 0, [5, 5, 0, 1, 2, 3, 4, 5]⟩] [0, 5, 6, 7, 8, 9, 10])
 .ret)))
def hs35 : List (List Nat) := [[2], [3], [4], [], [0, 5, 6, 7, 8, 9, 10]]
theorem ok35 : FnOk Try.prog 35 ic35 [.t 2] 11 := ⟨Try.f35, hs35, Try.func35, by kernel_rfl, by kernel_rfl, by kernel_rfl, by kernel_rfl⟩

/-- (*signalbox/ctrl.Ctrl).States -/
def ic37 : IC :=
 (.seq (.region 0 [
   ⟨(some 2), .mv (.c .nils), none, 0, []⟩] [2])
 (.seq (.seq (.region 0 [
   ⟨(some 3), .mv (.t 0), none, 0, []⟩,
   ⟨(some 4), .eqv false .ptr (.t 3) (.c .nilp), none, 0, [0]⟩] [3])
 (.cond (.t 4) [4]
  (.seq (.region 0 [
    ⟨(some 2), .mv (.c .nils), none, 0, []⟩] [])
  .ret)
  .skip))
 (.seq (.region 0 [
   ⟨(some 5), .mv (.t 0), none, 0, []⟩,
   ⟨(some 6), .nilck (.t 5), none, 0, [0]⟩,
   ⟨(some 7), .faddr 0 (.t 6), none, 0, [1]⟩,
   ⟨(some 8), .faddr 0 (.t 7), none, 0, [2]⟩,
   ⟨(some 9), .load none (.t 8), none, 0, [3]⟩,
   ⟨(some 10), .call (.c (.fn 102 [] [])) [(.t 9)], none, 0, [4]⟩,
   ⟨(some 2), .mv (.t 10), none, 0, [5, 5, 0, 1, 2, 3, 4, 5]⟩] [0, 5, 6, 7, 8, 9, 10])
 .ret)))
def hs37 : List (List Nat) := [[2], [3], [4], [], [0, 5, 6, 7, 8, 9, 10]]
theorem ok37 : FnOk Try.prog 37 ic37 [.t 2] 11 := ⟨Try.f37, hs37, Try.func37, by kernel_rfl, by kernel_rfl, by kernel_rfl, by kernel_rfl⟩

/-- (*signalbox/ctrl.Ctrl).Off -/
def ic38 : IC :=
 (.seq (.region 0 [
   ⟨(some 2), .mv (.t 0), none, 0, []⟩,
   ⟨(some 3), .eqv true .ptr (.t 2) (.c .nilp), none, 0, [0]⟩] [2])
 (.cond (.t 3) [3]
  (.region 0 [
    ⟨(some 4), .mv (.t 0), none, 0, []⟩,
    ⟨(some 5), .nilck (.t 4), none, 0, [0]⟩,
    ⟨(some 6), .faddr 3 (.t 5), none, 0, [1]⟩,
    ⟨(some 7), .load none (.t 6), none, 0, [2]⟩,
    ⟨(some 8), .bin .or (.t 7) (.c (.int .i64 8)), none, 0, [3]⟩,
    ⟨(some 9), .nilck (.t 4), none, 0, [0, 0, 1, 2, 3, 4]⟩,
    ⟨(some 10), .faddr 3 (.t 9), none, 0, [5, 0, 1, 2, 3, 4]⟩,
    ⟨none, .store 1 (.t 10) (.t 8), none, 0, [6, 4, 0, 1, 2, 3, 4]⟩] [0, 4, 5, 6, 7, 8, 9, 10])
  .skip))
def hs38 : List (List Nat) := [[2], [3], [0, 4, 5, 6, 7, 8, 9, 10]]
theorem ok38 : FnOk Try.prog 38 ic38 [] 11 := ⟨Try.f38, hs38, Try.func38, by kernel_rfl, by kernel_rfl, by kernel_rfl, by kernel_rfl⟩

/-- (*signalbox/ctrl.Ctrl).Clear -/
def ic39 : IC :=
 (.seq (.region 0 [
   ⟨(some 4), .mv (.t 0), none, 0, []⟩,
   ⟨(some 5), .eqv true .ptr (.t 4) (.c .nilp), none, 0, [0]⟩] [4])
 (.cond (.t 5) [5]
  (.region 0 [
    ⟨(some 6), .mv (.t 0), none, 0, []⟩,
    ⟨(some 7), .nilck (.t 6), none, 0, [0]⟩,
    ⟨(some 8), .faddr 3 (.t 7), none, 0, [1]⟩,
    ⟨(some 9), .load none (.t 8), none, 0, [2]⟩,
    ⟨(some 10), .mv (.t 1), none, 0, []⟩,
    ⟨(some 11), .bin .andNot (.t 9) (.t 10), none, 0, [3, 4]⟩,
    ⟨(some 12), .nilck (.t 6), none, 0, [0, 0, 1, 2, 3, 4, 5]⟩,
    ⟨(some 13), .faddr 3 (.t 12), none, 0, [6, 0, 1, 2, 3, 4, 5]⟩,
    ⟨none, .store 1 (.t 13) (.t 11), none, 0, [7, 5, 0, 1, 2, 3, 4, 5]⟩] [0, 1, 6, 7, 8, 9, 10, 11, 12, 13])
  .skip))
def hs39 : List (List Nat) := [[4], [5], [0, 1, 6, 7, 8, 9, 10, 11, 12, 13]]
theorem ok39 : FnOk Try.prog 39 ic39 [] 14 := ⟨Try.f39, hs39, Try.func39, by kernel_rfl, by kernel_rfl, by kernel_rfl, by kernel_rfl⟩

/-- (*signalbox/ctrl.Ctrl).Load -/
def ic40 : IC :=
 (.seq (.region 1 [
   ⟨(some 3), .box (.t 1), none, 0, []⟩,
   ⟨(some 4), .mv (.c (.int .i64 0)), none, 1, []⟩,
   ⟨(some 5), .mv (.c (.int .i64 0)), none, 1, [1]⟩] [1, 4, 5])
 (.seq (.seq (.region 0 [
   ⟨(some 6), .mv (.t 0), none, 0, []⟩,
   ⟨(some 7), .eqv false .ptr (.t 6) (.c .nilp), none, 0, [0]⟩] [6])
 (.cond (.t 7) [7]
  (.seq (.region 0 [
    ⟨(some 4), .mv (.c (.int .i64 0)), none, 0, []⟩,
    ⟨(some 5), .mv (.c (.int .i64 1)), none, 0, [0, 0]⟩] [])
  .ret)
  .skip))
 (.seq (.regionD 0 [
   ⟨(some 8), .mv (.t 0), none, 0, []⟩,
   ⟨(some 9), .nilck (.t 8), none, 0, [0]⟩,
   ⟨(some 10), .faddr 0 (.t 9), none, 0, [1]⟩,
   ⟨(some 11), .faddr 0 (.t 10), none, 0, [2]⟩,
   ⟨(some 12), .load none (.t 11), none, 0, [3]⟩,
   ⟨(some 13), .load (some 7) (.t 3), none, 0, []⟩,
   ⟨(some 14), .call (.c (.fn 103 [] [])) [(.t 12), (.t 13)], none, 0, [4, 5]⟩,
   ⟨(some 15), .ext 0 (.t 14), none, 0, [6]⟩,
   ⟨(some 16), .ext 1 (.t 14), none, 0, [6]⟩,
   ⟨(some 4), .mv (.t 15), none, 0, [7, 6, 0, 1, 2, 3, 4, 5, 6, 7, 8]⟩,
   ⟨(some 5), .mv (.t 16), none, 0, [8, 9, 0, 1, 2, 3, 4, 5, 6, 7, 8, 9]⟩]
   [0, 1, 2, 3, 4, 5, 6, 7, 8, 9, 10] [0, 1, 3, 7, 15, 0, 63, 127, 127, 511, 1023] [0, 3, 8, 9, 10, 11, 12, 13, 14, 15, 16])
 .ret)))
def hs40 : List (List Nat) := [[1, 4, 5], [6], [7], [], [0, 1, 2, 3, 4, 5, 6, 7, 8, 9, 10], [0, 1, 3, 7, 15, 0, 63, 127, 127, 511, 1023], [0, 3, 8, 9, 10, 11, 12, 13, 14, 15, 16]]
theorem ok40 : FnOk Try.prog 40 ic40 [.t 4, .t 5] 17 := ⟨Try.f40, hs40, Try.func40, by kernel_rfl, by kernel_rfl, by kernel_rfl, by kernel_rfl⟩

/-- (*signalbox/ctrl.Ctrl).Offer -/
def ic41 : IC :=
 (.seq (.region 1 [
   ⟨(some 2), .alloc [(.int .i64 0), (.int .i64 0), (.int .i64 0), (.str [])], none, 0, []⟩,
   ⟨(some 3), .mv (.c (.bool false)), none, 1, []⟩] [3])
 (.seq (.seq (.region 0 [
   ⟨(some 7), .mv (.t 0), none, 0, []⟩,
   ⟨(some 8), .eqv false .ptr (.t 7) (.c .nilp), none, 0, [0]⟩] [7])
 (.cond (.t 8) [8]
  (.seq (.region 0 [
    ⟨(some 9), .build [(.int .i64 0), (.int .i64 0), (.int .i64 0), (.str [])] [], none, 0, []⟩,
    ⟨none, .store 4 (.t 2) (.t 9), none, 0, [0, 0]⟩,
    ⟨(some 3), .mv (.c (.bool false)), none, 0, [1, 0, 1]⟩] [9])
  .ret)
  .skip))
 (.seq (.region 1 [
   ⟨(some 11), .mv (.t 0), none, 0, []⟩,
   ⟨(some 12), .nilck (.t 11), none, 0, [0]⟩,
   ⟨(some 13), .faddr 0 (.t 12), none, 0, [1]⟩,
   ⟨(some 14), .faddr 0 (.t 13), none, 0, [2]⟩,
   ⟨(some 15), .load none (.t 14), none, 0, [3]⟩,
   ⟨(some 16), .call (.c (.fn 104 [] [])) [(.t 15)], none, 0, [4]⟩,
   ⟨(some 10), .mv (.t 16), none, 0, [5]⟩,
   ⟨(some 17), .ext 0 (.t 10), none, 0, [6]⟩,
   ⟨(some 18), .ext 1 (.t 10), none, 0, [6]⟩,
   ⟨(some 19), .ext 2 (.t 10), none, 0, [6]⟩,
   ⟨(some 5), .alloc [(.int .i64 0), (.int .i64 0), (.int .i64 0), (.str []), (.int .i64 0), (.int .i64 0), (.bool false)], none, 0, []⟩,
   ⟨(some 4), .mv (.t 17), none, 1, [7, 5, 0, 1, 2, 3, 4, 5, 6, 7, 10]⟩,
   ⟨none, .store 7 (.t 5) (.t 18), none, 1, [10, 8, 11, 0, 1, 2, 3, 4, 5, 6, 7, 8, 10, 11]⟩,
   ⟨(some 6), .mv (.t 19), none, 1, [9, 12, 0, 1, 2, 3, 4, 5, 6, 7, 8, 9, 10, 11, 12]⟩] [0, 4, 10, 11, 12, 13, 14, 15, 16, 17, 18, 19])
 (.seq (.region 0 [
   ⟨(some 20), .faddr 0 (.t 5), none, 0, []⟩,
   ⟨(some 21), .load (some 4) (.t 20), none, 0, [0]⟩,
   ⟨(some 22), .mv (.t 6), none, 0, []⟩,
   ⟨none, .store 4 (.t 2) (.t 21), none, 0, [1, 0, 1]⟩,
   ⟨(some 3), .mv (.t 22), none, 0, [2, 3, 0, 1, 2, 3]⟩] [5, 6, 20, 21, 22])
 .ret))))
def hs41 : List (List Nat) := [[3], [7], [8], [9], [0, 4, 10, 11, 12, 13, 14, 15, 16, 17, 18, 19], [5, 6, 20, 21, 22]]
theorem ok41 : FnOk Try.prog 41 ic41 [.cell 2 (some 4), .t 3] 23 := ⟨Try.f41, hs41, Try.func41, by kernel_rfl, by kernel_rfl, by kernel_rfl, by kernel_rfl⟩

/-- (*signalbox/ctrl.Ctrl).Ended -/
def ic42 : IC :=
 (.seq (.region 1 [
   ⟨(some 2), .alloc [(.int .i64 0), (.int .i64 0), (.int .i64 0), (.int .i64 0), (.str []), (.int .i64 0), (.int .i64 0), (.bool false), (.bool false)], none, 0, []⟩,
   ⟨(some 3), .mv (.c (.int .i64 0)), none, 1, []⟩] [3])
 (.seq (.seq (.region 0 [
   ⟨(some 4), .mv (.t 0), none, 0, []⟩,
   ⟨(some 5), .eqv false .ptr (.t 4) (.c .nilp), none, 0, [0]⟩] [4])
 (.cond (.t 5) [5]
  (.seq (.region 0 [
    ⟨(some 6), .build [(.int .i64 0), (.int .i64 0), (.int .i64 0), (.int .i64 0), (.str []), (.int .i64 0), (.int .i64 0), (.bool false), (.bool false)] [], none, 0, []⟩,
    ⟨none, .store 9 (.t 2) (.t 6), none, 0, [0, 0]⟩,
    ⟨(some 3), .mv (.c (.int .i64 1)), none, 0, [1, 0, 1]⟩] [6])
  .ret)
  .skip))
 (.seq (.region 0 [
   ⟨(some 7), .mv (.t 0), none, 0, []⟩,
   ⟨(some 8), .nilck (.t 7), none, 0, [0]⟩,
   ⟨(some 9), .faddr 0 (.t 8), none, 0, [1]⟩,
   ⟨(some 10), .faddr 0 (.t 9), none, 0, [2]⟩,
   ⟨(some 11), .load none (.t 10), none, 0, [3]⟩,
   ⟨(some 12), .call (.c (.fn 105 [] [])) [(.t 11)], none, 0, [4]⟩,
   ⟨(some 13), .ext 0 (.t 12), none, 0, [5]⟩,
   ⟨(some 14), .ext 1 (.t 12), none, 0, [5]⟩,
   ⟨none, .store 9 (.t 2) (.t 13), none, 0, [6, 5, 0, 1, 2, 3, 4, 5, 6, 7]⟩,
   ⟨(some 3), .mv (.t 14), none, 0, [7, 8, 0, 1, 2, 3, 4, 5, 6, 7, 8]⟩] [0, 7, 8, 9, 10, 11, 12, 13, 14])
 .ret)))
def hs42 : List (List Nat) := [[3], [4], [5], [6], [0, 7, 8, 9, 10, 11, 12, 13, 14]]
theorem ok42 : FnOk Try.prog 42 ic42 [.cell 2 (some 9), .t 3] 15 := ⟨Try.f42, hs42, Try.func42, by kernel_rfl, by kernel_rfl, by kernel_rfl, by kernel_rfl⟩

/-- (*signalbox/ctrl.Ctrl).Won -/
def ic43 : IC :=
 (.seq (.region 0 [
   ⟨(some 2), .mv (.c (.bool false)), none, 0, []⟩] [2])
 (.seq (.seq (.region 0 [
   ⟨(some 6), .mv (.t 0), none, 0, []⟩,
   ⟨(some 7), .eqv false .ptr (.t 6) (.c .nilp), none, 0, [0]⟩] [6])
 (.cond (.t 7) [7]
  (.seq (.region 0 [
    ⟨(some 2), .mv (.c (.bool false)), none, 0, []⟩] [])
  .ret)
  .skip))
 (.seq (.region 1 [
   ⟨(some 9), .mv (.t 0), none, 0, []⟩,
   ⟨(some 10), .nilck (.t 9), none, 0, [0]⟩,
   ⟨(some 11), .faddr 0 (.t 10), none, 0, [1]⟩,
   ⟨(some 12), .faddr 0 (.t 11), none, 0, [2]⟩,
   ⟨(some 13), .load none (.t 12), none, 0, [3]⟩,
   ⟨(some 14), .call (.c (.fn 104 [] [])) [(.t 13)], none, 0, [4]⟩,
   ⟨(some 8), .mv (.t 14), none, 0, [5]⟩,
   ⟨(some 15), .ext 0 (.t 8), none, 0, [6]⟩,
   ⟨(some 16), .ext 1 (.t 8), none, 0, [6]⟩,
   ⟨(some 17), .ext 2 (.t 8), none, 0, [6]⟩,
   ⟨(some 4), .alloc [(.int .i64 0), (.int .i64 0), (.int .i64 0), (.str []), (.int .i64 0), (.int .i64 0), (.bool false)], none, 0, []⟩,
   ⟨(some 3), .mv (.t 15), none, 1, [7, 5, 0, 1, 2, 3, 4, 5, 6, 7, 10]⟩,
   ⟨none, .store 7 (.t 4) (.t 16), none, 1, [10, 8, 11, 0, 1, 2, 3, 4, 5, 6, 7, 8, 10, 11]⟩,
   ⟨(some 5), .mv (.t 17), none, 1, [9, 12, 0, 1, 2, 3, 4, 5, 6, 7, 8, 9, 10, 11, 12]⟩] [4, 8, 9, 10, 11, 12, 13, 14, 15, 16, 17])
 (.seq (.seq (.region 0 [
   ⟨(some 18), .mv (.t 5), none, 0, []⟩] [])
 (.cond (.t 18) [18]
  (.seq (.region 0 [
    ⟨(some 19), .mv (.t 0), none, 0, []⟩,
    ⟨(some 20), .nilck (.t 19), none, 0, [0]⟩,
    ⟨(some 21), .faddr 0 (.t 20), none, 0, [1]⟩,
    ⟨(some 22), .faddr 0 (.t 21), none, 0, [2]⟩,
    ⟨(some 23), .load none (.t 22), none, 0, [3]⟩,
    ⟨(some 24), .mv (.t 3), none, 0, []⟩,
    ⟨(some 25), .call (.c (.fn 106 [] [])) [(.t 23), (.t 24)], none, 0, [4, 5]⟩] [3, 19, 20, 21, 22, 23, 24, 25])
  (.region 0 [
    ⟨(some 26), .mv (.t 0), none, 0, []⟩,
    ⟨(some 27), .nilck (.t 26), none, 0, [0]⟩,
    ⟨(some 28), .faddr 3 (.t 27), none, 0, [1]⟩,
    ⟨(some 29), .load none (.t 28), none, 0, [2]⟩,
    ⟨(some 30), .bin .or (.t 29) (.c (.int .i64 1)), none, 0, [3]⟩,
    ⟨(some 31), .nilck (.t 26), none, 0, [0, 0, 1, 2, 3, 4]⟩,
    ⟨(some 32), .faddr 3 (.t 31), none, 0, [5, 0, 1, 2, 3, 4]⟩,
    ⟨none, .store 1 (.t 32) (.t 30), none, 0, [6, 4, 0, 1, 2, 3, 4]⟩] [0, 26, 27, 28, 29, 30, 31, 32]))
  .skip))
 (.seq (.region 0 [
   ⟨(some 33), .mv (.t 5), none, 0, []⟩,
   ⟨(some 2), .mv (.t 33), none, 0, [0, 0]⟩] [5, 33])
 .ret)))))
def hs43 : List (List Nat) := [[2], [6], [7], [], [4, 8, 9, 10, 11, 12, 13, 14, 15, 16, 17], [], [18], [3, 19, 20, 21, 22, 23, 24, 25], [0, 26, 27, 28, 29, 30, 31, 32], [5, 33]]
theorem ok43 : FnOk Try.prog 43 ic43 [.t 2] 34 := ⟨Try.f43, hs43, Try.func43, by kernel_rfl, by kernel_rfl, by kernel_rfl, by kernel_rfl⟩

/-- (*signalbox/ctrl.Ctrl).Abort -/
def ic44_b1 : IC :=
 (.seq (.region 0 [
   ⟨(some 12), .bin .lss (.t 11) (.t 10), none, 0, []⟩] [])
 (.seq (.cond (.t 12) [12]
  .skip
  (.exit 0))
 (.seq (.block 1 (.seq (.region 0 [
   ⟨(some 13), .mv (.t 11), none, 0, []⟩,
   ⟨(some 14), .iaddr 1 (.t 9) (.t 11), none, 0, []⟩,
   ⟨(some 15), .load none (.t 14), none, 0, [1]⟩,
   ⟨(some 4), .mv (.t 13), none, 0, [0, 0, 1, 2]⟩,
   ⟨(some 5), .mv (.t 15), none, 0, [2, 3, 0, 1, 2, 3]⟩] [13, 14, 15])
 (.seq (.region 0 [
   ⟨(some 16), .mv (.t 5), none, 0, []⟩,
   ⟨(some 17), .bin .eql (.t 16) (.c (.int .i64 1)), none, 0, [0]⟩] [5, 16])
 (.cond (.t 17) [17]
  (.seq (.region 0 [
    ⟨(some 18), .mv (.t 0), none, 0, []⟩,
    ⟨(some 19), .nilck (.t 18), none, 0, [0]⟩,
    ⟨(some 20), .faddr 0 (.t 19), none, 0, [1]⟩,
    ⟨(some 21), .faddr 0 (.t 20), none, 0, [2]⟩,
    ⟨(some 22), .load none (.t 21), none, 0, [3]⟩,
    ⟨(some 23), .mv (.t 4), none, 0, []⟩,
    ⟨(some 24), .call (.c (.fn 107 [] [])) [(.t 22), (.t 23)], none, 0, [4, 5]⟩] [4, 18, 19, 20, 21, 22, 23, 24])
  (.region 0 [
    ⟨(some 25), .mv (.t 3), none, 0, []⟩,
    ⟨(some 26), .bin .add (.t 25) (.c (.int .i64 1)), none, 0, [0]⟩,
    ⟨(some 3), .mv (.t 26), none, 0, [1, 0, 1]⟩] [25, 26]))
  .skip))))
 (.region 0 [
   ⟨(some 27), .bin .add (.t 11) (.c (.int .i64 1)), none, 0, []⟩,
   ⟨(some 11), .mv (.t 27), none, 0, [0]⟩] [27]))))
def ic44_l1 : IC := .loop [2, 4, 5, 6, 7, 8, 12, 13, 14, 15, 16, 17, 18, 19, 20, 21, 22, 23, 24, 25, 26, 27, 28, 29, 30, 31, 32, 33, 34, 35, 36, 37] ic44_b1
def ic44 : IC :=
 (.seq (.region 0 [
   ⟨(some 2), .mv (.c (.int .i64 0)), none, 0, []⟩] [2])
 (.seq (.seq (.region 0 [
   ⟨(some 6), .mv (.t 0), none, 0, []⟩,
   ⟨(some 7), .eqv false .ptr (.t 6) (.c .nilp), none, 0, [0]⟩] [6])
 (.cond (.t 7) [7]
  (.seq (.region 0 [
    ⟨(some 2), .mv (.c (.int .i64 0)), none, 0, []⟩] [])
  .ret)
  .skip))
 (.seq (.region 0 [
   ⟨(some 3), .mv (.c (.int .i64 0)), none, 0, []⟩] [])
 (.seq (.seq (.region 0 [
   ⟨(some 8), .mv (.t 0), none, 0, []⟩,
   ⟨(some 9), .call (.c (.fn 37 [] [])) [(.t 8)], none, 0, [0]⟩,
   ⟨(some 10), .lens (.t 9), none, 0, [1]⟩,
   ⟨(some 11), .mv (.c (.int .i64 0)), none, 0, []⟩] [8])
 (.block 0 ic44_l1))
 (.seq (.seq (.region 0 [
   ⟨(some 28), .mv (.t 3), none, 0, []⟩,
   ⟨(some 29), .bin .gtr (.t 28) (.c (.int .i64 0)), none, 0, [0]⟩] [28])
 (.cond (.t 29) [29]
  (.region 0 [
    ⟨(some 30), .mv (.t 0), none, 0, []⟩,
    ⟨(some 31), .nilck (.t 30), none, 0, [0]⟩,
    ⟨(some 32), .faddr 3 (.t 31), none, 0, [1]⟩,
    ⟨(some 33), .load none (.t 32), none, 0, [2]⟩,
    ⟨(some 34), .bin .or (.t 33) (.c (.int .i64 1)), none, 0, [3]⟩,
    ⟨(some 35), .nilck (.t 30), none, 0, [0, 0, 1, 2, 3, 4]⟩,
    ⟨(some 36), .faddr 3 (.t 35), none, 0, [5, 0, 1, 2, 3, 4]⟩,
    ⟨none, .store 1 (.t 36) (.t 34), none, 0, [6, 4, 0, 1, 2, 3, 4]⟩] [0, 30, 31, 32, 33, 34, 35, 36])
  .skip))
 (.seq (.region 0 [
   ⟨(some 37), .mv (.t 3), none, 0, []⟩,
   ⟨(some 2), .mv (.t 37), none, 0, [0, 0]⟩] [3, 37])
 .ret))))))
def hs44 : List (List Nat) := [[2], [6], [7], [], [], [8], [2, 4, 5, 6, 7, 8, 12, 13, 14, 15, 16, 17, 18, 19, 20, 21, 22, 23, 24, 25, 26, 27, 28, 29, 30, 31, 32, 33, 34, 35, 36, 37], [], [12], [13, 14, 15], [5, 16], [17], [4, 18, 19, 20, 21, 22, 23, 24], [25, 26], [27], [28], [29], [0, 30, 31, 32, 33, 34, 35, 36], [3, 37]]
theorem ok44 : FnOk Try.prog 44 ic44 [.t 2] 38 := ⟨Try.f44, hs44, Try.func44, by kernel_rfl, by kernel_rfl, by kernel_rfl, by kernel_rfl⟩

/-- signalbox/box.New -/
def ic52 : IC :=
 (.seq (.region 0 [
   ⟨(some 2), .mv (.c .nilp), none, 0, []⟩] [2])
 (.seq (.region 2 [
   ⟨(some 3), .mv (.t 0), none, 0, []⟩,
   ⟨(some 4), .mx [(.t 3), (.c (.int .i64 1))], none, 0, [0]⟩,
   ⟨(some 5), .mn [(.t 4), (.c (.int .i64 1000))], none, 0, [1]⟩,
   ⟨(some 6), .mksl 9 80 [(.int .i64 0), (.int .i64 0), (.int .i64 0), (.int .i64 0), (.str []), (.int .i64 0), (.int .i64 0), (.bool false), (.int .i64 0)] (.t 5) (.t 5), none, 0, [2, 2]⟩,
   ⟨(some 7), .build [.nils, .nils, (.int .i64 0)] [(0, 1, (.t 6))], none, 1, [3]⟩,
   ⟨(some 8), .box (.t 7), none, 1, [4]⟩,
   ⟨(some 2), .mv (.t 8), none, 2, [5, 0, 1, 2, 3, 4, 5]⟩] [0, 3, 4, 5, 6, 7, 8])
 .ret))
def hs52 : List (List Nat) := [[2], [0, 3, 4, 5, 6, 7, 8]]
theorem ok52 : FnOk Try.prog 52 ic52 [.t 2] 9 := ⟨Try.f52, hs52, Try.func52, by kernel_rfl, by kernel_rfl, by kernel_rfl, by kernel_rfl⟩

/-- signalbox/ring.New[signalbox/api.Frame] -/
def ic53 : IC :=
 (.seq (.region 0 [
   ⟨(some 2), .mv (.c .nilp), none, 0, []⟩] [2])
 (.seq (.region 2 [
   ⟨(some 3), .mv (.t 0), none, 0, []⟩,
   ⟨(some 4), .mx [(.t 3), (.c (.int .i64 1))], none, 0, [0]⟩,
   ⟨(some 5), .mn [(.t 4), (.c (.int .i64 1000))], none, 0, [1]⟩,
   ⟨(some 6), .mksl 4 40 [(.int .i64 0), (.int .i64 0), (.int .i64 0), (.str [])] (.t 5) (.t 5), none, 0, [2, 2]⟩,
   ⟨(some 7), .build [.nils, (.int .i64 0), (.int .i64 0), (.int .i64 0)] [(0, 1, (.t 6))], none, 1, [3]⟩,
   ⟨(some 8), .box (.t 7), none, 1, [4]⟩,
   ⟨(some 2), .mv (.t 8), none, 2, [5, 0, 1, 2, 3, 4, 5]⟩] [0, 3, 4, 5, 6, 7, 8])
 .ret))
def hs53 : List (List Nat) := [[2], [0, 3, 4, 5, 6, 7, 8]]
theorem ok53 : FnOk Try.prog 53 ic53 [.t 2] 9 := ⟨Try.f53, hs53, Try.func53, by kernel_rfl, by kernel_rfl, by kernel_rfl, by kernel_rfl⟩

/-- slices.Clone[[]signalbox/api.Filter,signalbox/api.Filter] -/
def ic54 : IC :=
 (.seq (.region 0 [
   ⟨(some 2), .mv (.c .nils), none, 0, []⟩] [2])
 (.seq (.seq (.region 0 [
   ⟨(some 3), .mv (.t 0), none, 0, []⟩,
   ⟨(some 4), .eqv false .slice (.t 3) (.c .nils), none, 0, [0]⟩] [3])
 (.cond (.t 4) [4]
  (.seq (.region 0 [
    ⟨(some 2), .mv (.c .nils), none, 0, []⟩] [])
  .ret)
  .skip))
 (.seq (.region 2 [
   ⟨(some 5), .bslice 3 [], none, 0, []⟩,
   ⟨(some 6), .mv (.t 0), none, 1, []⟩,
   ⟨(some 7), .app 3 12 (.t 5) (.t 6), none, 1, [0, 1]⟩,
   ⟨(some 2), .mv (.t 7), none, 2, [2, 2, 0, 1, 2]⟩] [0, 5, 6, 7])
 .ret)))
def hs54 : List (List Nat) := [[2], [3], [4], [], [0, 5, 6, 7]]
theorem ok54 : FnOk Try.prog 54 ic54 [.t 2] 8 := ⟨Try.f54, hs54, Try.func54, by kernel_rfl, by kernel_rfl, by kernel_rfl, by kernel_rfl⟩

/-- (*signalbox/ring.Ring[signalbox/api.Frame]).Take -/
def ic55 : IC :=
 (.seq (.region 1 [
   ⟨(some 2), .alloc [(.int .i64 0), (.int .i64 0), (.int .i64 0), (.str [])], none, 0, []⟩,
   ⟨(some 3), .mv (.c (.int .i64 0)), none, 1, []⟩] [3])
 (.seq (.region 1 [
   ⟨(some 7), .mv (.t 0), none, 0, []⟩,
   ⟨(some 8), .call (.c (.fn 120 [] [])) [(.t 7)], none, 0, [0]⟩,
   ⟨(some 6), .mv (.t 8), none, 0, [1]⟩,
   ⟨(some 9), .ext 0 (.t 6), none, 0, [2]⟩,
   ⟨(some 10), .ext 1 (.t 6), none, 0, [2]⟩,
   ⟨(some 4), .alloc [(.int .i64 0), (.int .i64 0), (.int .i64 0), (.str [])], none, 0, []⟩,
   ⟨none, .store 4 (.t 4) (.t 9), none, 1, [5, 3, 1, 0, 1, 2, 3, 5]⟩,
   ⟨(some 5), .mv (.t 10), none, 1, [4, 6, 0, 1, 2, 3, 4, 5, 6]⟩] [6, 7, 8, 9, 10])
 (.seq (.seq (.region 0 [
   ⟨(some 11), .mv (.t 5), none, 0, []⟩,
   ⟨(some 12), .bin .eql (.t 11) (.c (.int .i64 0)), none, 0, [0]⟩] [11])
 (.cond (.t 12) [12]
  (.seq (.region 0 [
    ⟨(some 13), .mv (.t 0), none, 0, []⟩,
    ⟨(some 14), .mv (.t 0), none, 0, []⟩,
    ⟨(some 15), .call (.c (.fn 121 [] [])) [(.t 14), (.c (.int .i64 1))], none, 0, [1]⟩,
    ⟨(some 16), .nilck (.t 13), none, 0, [0, 0, 1, 2]⟩,
    ⟨(some 17), .faddr 1 (.t 16), none, 0, [3, 0, 1, 2]⟩,
    ⟨none, .store 1 (.t 17) (.t 15), none, 0, [4, 2, 2, 0, 1, 2]⟩] [13, 14, 15, 16, 17])
  (.region 0 [
    ⟨(some 18), .mv (.t 0), none, 0, []⟩,
    ⟨(some 19), .nilck (.t 18), none, 0, [0]⟩,
    ⟨(some 20), .faddr 2 (.t 19), none, 0, [1]⟩,
    ⟨(some 21), .load none (.t 20), none, 0, [2]⟩,
    ⟨(some 22), .bin .sub (.t 21) (.c (.int .i64 1)), none, 0, [3]⟩,
    ⟨(some 23), .nilck (.t 18), none, 0, [0, 0, 1, 2, 3, 4]⟩,
    ⟨(some 24), .faddr 2 (.t 23), none, 0, [5, 0, 1, 2, 3, 4]⟩,
    ⟨none, .store 1 (.t 24) (.t 22), none, 0, [6, 4, 0, 1, 2, 3, 4]⟩] [0, 18, 19, 20, 21, 22, 23, 24]))
  .skip))
 (.seq (.region 0 [
   ⟨(some 25), .load (some 4) (.t 4), none, 0, []⟩,
   ⟨(some 26), .mv (.t 5), none, 0, []⟩,
   ⟨none, .store 4 (.t 2) (.t 25), none, 0, [0, 0]⟩,
   ⟨(some 3), .mv (.t 26), none, 0, [1, 2, 0, 1, 2]⟩] [4, 5, 25, 26])
 .ret))))
def hs55 : List (List Nat) := [[3], [6, 7, 8, 9, 10], [11], [12], [13, 14, 15, 16, 17], [0, 18, 19, 20, 21, 22, 23, 24], [4, 5, 25, 26]]
theorem ok55 : FnOk Try.prog 55 ic55 [.cell 2 (some 4), .t 3] 27 := ⟨Try.f55, hs55, Try.func55, by kernel_rfl, by kernel_rfl, by kernel_rfl, by kernel_rfl⟩

/-- (*signalbox/ctrl.Ctrl).lets -/
def ic60 : IC :=
 (.seq (.region 1 [
   ⟨(some 3), .box (.t 1), none, 0, []⟩,
   ⟨(some 4), .mv (.c (.bool false)), none, 1, []⟩] [1, 4])
 (.seq (.seq (.region 0 [
   ⟨(some 5), .load (some 4) (.t 3), none, 0, []⟩,
   ⟨(some 6), .call (.c (.fn 126 [] [])) [(.t 5)], none, 0, [0]⟩,
   ⟨(some 7), .bin .lss (.t 6) (.c (.int .i64 0)), none, 0, [1]⟩] [5, 6])
 (.cond (.t 7) [7]
  (.seq (.region 0 [
    ⟨(some 4), .mv (.c (.bool false)), none, 0, []⟩] [])
  .ret)
  .skip))
 (.seq (.region 0 [
   ⟨(some 8), .mv (.t 0), none, 0, []⟩,
   ⟨(some 9), .nilck (.t 8), none, 0, [0]⟩,
   ⟨(some 10), .faddr 2 (.t 9), none, 0, [1]⟩,
   ⟨(some 11), .load none (.t 10), none, 0, [2]⟩,
   ⟨(some 12), .lens (.t 11), none, 0, [3]⟩,
   ⟨(some 13), .bin .eql (.t 12) (.c (.int .i64 0)), none, 0, [4]⟩,
   ⟨(some 14), .mv (.t 13), none, 0, [5]⟩,
   ⟨(some 15), .mv (.t 0), (some (14, false)), 0, [6]⟩,
   ⟨(some 16), .nilck (.t 15), (some (14, false)), 0, [7, 6]⟩,
   ⟨(some 17), .faddr 2 (.t 16), (some (14, false)), 0, [8, 6]⟩,
   ⟨(some 18), .load none (.t 17), (some (14, false)), 0, [9, 6]⟩,
   ⟨(some 19), .mkfn 128 [] [(.t 3)], (some (14, false)), 0, [6]⟩,
   ⟨(some 20), .call (.c (.fn 127 [] [])) [(.t 18), (.t 19)], (some (14, false)), 0, [10, 11, 6, 6]⟩,
   ⟨(some 21), .pick (.t 14) (.c (.bool true)) (.t 20), none, 0, [6, 12]⟩,
   ⟨(some 4), .mv (.t 21), none, 0, [13, 12, 0, 1, 2, 3, 4, 5, 6, 7, 8, 9, 10, 11, 12, 13]⟩] [0, 3, 8, 9, 10, 11, 12, 13, 14, 15, 16, 17, 18, 19, 20, 21])
 .ret)))
def hs60 : List (List Nat) := [[1, 4], [5, 6], [7], [], [0, 3, 8, 9, 10, 11, 12, 13, 14, 15, 16, 17, 18, 19, 20, 21]]
theorem ok60 : FnOk Try.prog 60 ic60 [.t 4] 22 := ⟨Try.f60, hs60, Try.func60, by kernel_rfl, by kernel_rfl, by kernel_rfl, by kernel_rfl⟩

/-- (*signalbox/ring.Ring[signalbox/api.Frame]).Put -/
def ic61 : IC :=
 (.seq (.region 1 [
   ⟨(some 3), .box (.t 1), none, 0, []⟩,
   ⟨(some 4), .mv (.c (.bool false)), none, 1, []⟩] [1, 4])
 (.seq (.block 0 (.seq (.region 0 [
   ⟨(some 6), .mv (.t 0), none, 0, []⟩,
   ⟨(some 7), .eqv false .ptr (.t 6) (.c .nilp), none, 0, [0]⟩,
   ⟨(some 5), .mv (.t 7), none, 0, [1]⟩] [6, 7])
 (.cond (.t 5) [5]
  (.seq (.region 0 [
    ⟨(some 4), .mv (.c (.bool false)), none, 0, []⟩] [])
  .ret)
  (.seq (.regionD 0 [
    ⟨(some 9), .mv (.t 0), none, 0, []⟩,
    ⟨(some 10), .nilck (.t 9), none, 0, [0]⟩,
    ⟨(some 11), .faddr 2 (.t 10), none, 0, [1]⟩,
    ⟨(some 12), .load none (.t 11), none, 0, [2]⟩,
    ⟨(some 13), .mv (.t 0), none, 0, []⟩,
    ⟨(some 14), .nilck (.t 13), none, 0, [4]⟩,
    ⟨(some 15), .faddr 0 (.t 14), none, 0, [5]⟩,
    ⟨(some 16), .load none (.t 15), none, 0, [6]⟩,
    ⟨(some 17), .lens (.t 16), none, 0, [7]⟩,
    ⟨(some 18), .bin .eql (.t 12) (.t 17), none, 0, [3, 8]⟩,
    ⟨(some 8), .mv (.t 18), none, 0, [9]⟩]
    [0, 1, 2, 4, 5, 6, 3, 7, 8, 9, 10] [0, 1, 3, 7, 0, 16, 48, 112, 240, 511, 1023] [9, 10, 11, 12, 13, 14, 15, 16, 17, 18])
  (.cond (.t 8) [8]
   (.seq (.region 0 [
     ⟨(some 19), .mv (.t 0), none, 0, []⟩,
     ⟨(some 20), .nilck (.t 19), none, 0, [0]⟩,
     ⟨(some 21), .faddr 3 (.t 20), none, 0, [1]⟩,
     ⟨(some 22), .load none (.t 21), none, 0, [2]⟩,
     ⟨(some 23), .bin .add (.t 22) (.c (.int .i64 1)), none, 0, [3]⟩,
     ⟨(some 24), .nilck (.t 19), none, 0, [0, 0, 1, 2, 3, 4]⟩,
     ⟨(some 25), .faddr 3 (.t 24), none, 0, [5, 0, 1, 2, 3, 4]⟩,
     ⟨none, .store 1 (.t 25) (.t 23), none, 0, [6, 4, 0, 1, 2, 3, 4]⟩] [0, 19, 20, 21, 22, 23, 24, 25])
   (.seq (.region 0 [
     ⟨(some 4), .mv (.c (.bool false)), none, 0, []⟩] [])
   .ret))
   .skip)))))
 (.seq (.regionD 0 [
   ⟨(some 26), .mv (.t 0), none, 0, []⟩,
   ⟨(some 27), .nilck (.t 26), none, 0, [0]⟩,
   ⟨(some 28), .faddr 0 (.t 27), none, 0, [1]⟩,
   ⟨(some 29), .load none (.t 28), none, 0, [2]⟩,
   ⟨(some 30), .mv (.t 0), none, 0, []⟩,
   ⟨(some 31), .mv (.t 0), none, 0, []⟩,
   ⟨(some 32), .nilck (.t 31), none, 0, [5]⟩,
   ⟨(some 33), .faddr 2 (.t 32), none, 0, [6]⟩,
   ⟨(some 34), .load none (.t 33), none, 0, [7]⟩,
   ⟨(some 35), .call (.c (.fn 121 [] [])) [(.t 30), (.t 34)], none, 0, [4, 8]⟩,
   ⟨(some 36), .load (some 4) (.t 3), none, 0, []⟩,
   ⟨(some 37), .iaddr 4 (.t 29) (.t 35), none, 0, [3, 9, 0, 1, 2, 3, 4, 5, 6, 7, 8, 9, 10]⟩,
   ⟨none, .store 4 (.t 37) (.t 36), none, 0, [11, 10, 9, 0, 1, 2, 3, 4, 5, 6, 7, 8, 9, 10]⟩]
   [0, 1, 2, 4, 5, 6, 7, 3, 8, 10, 9, 11, 12] [0, 1, 3, 7, 0, 0, 32, 96, 224, 496, 0, 2047, 4095] [3, 26, 27, 28, 29, 30, 31, 32, 33, 34, 35, 36, 37])
 (.seq (.region 0 [
   ⟨(some 38), .mv (.t 0), none, 0, []⟩,
   ⟨(some 39), .nilck (.t 38), none, 0, [0]⟩,
   ⟨(some 40), .faddr 2 (.t 39), none, 0, [1]⟩,
   ⟨(some 41), .load none (.t 40), none, 0, [2]⟩,
   ⟨(some 42), .bin .add (.t 41) (.c (.int .i64 1)), none, 0, [3]⟩,
   ⟨(some 43), .nilck (.t 38), none, 0, [0, 0, 1, 2, 3, 4]⟩,
   ⟨(some 44), .faddr 2 (.t 43), none, 0, [5, 0, 1, 2, 3, 4]⟩,
   ⟨none, .store 1 (.t 44) (.t 42), none, 0, [6, 4, 0, 1, 2, 3, 4]⟩] [0, 38, 39, 40, 41, 42, 43, 44])
 (.seq (.region 0 [
   ⟨(some 4), .mv (.c (.bool true)), none, 0, []⟩] [])
 .ret)))))
def hs61 : List (List Nat) := [[1, 4], [6, 7], [5], [], [0, 1, 2, 4, 5, 6, 3, 7, 8, 9, 10], [0, 1, 3, 7, 0, 16, 48, 112, 240, 511, 1023], [9, 10, 11, 12, 13, 14, 15, 16, 17, 18], [8], [0, 19, 20, 21, 22, 23, 24, 25], [], [0, 1, 2, 4, 5, 6, 7, 3, 8, 10, 9, 11, 12], [0, 1, 3, 7, 0, 0, 32, 96, 224, 496, 0, 2047, 4095], [3, 26, 27, 28, 29, 30, 31, 32, 33, 34, 35, 36, 37], [0, 38, 39, 40, 41, 42, 43, 44], []]
theorem ok61 : FnOk Try.prog 61 ic61 [.t 4] 45 := ⟨Try.f61, hs61, Try.func61, by kernel_rfl, by kernel_rfl, by kernel_rfl, by kernel_rfl⟩

/-- (*signalbox/ring.Ring[signalbox/api.Frame]).Len -/
def ic62 : IC :=
 (.seq (.region 0 [
   ⟨(some 2), .mv (.c (.int .i64 0)), none, 0, []⟩] [2])
 (.seq (.seq (.region 0 [
   ⟨(some 3), .mv (.t 0), none, 0, []⟩,
   ⟨(some 4), .eqv false .ptr (.t 3) (.c .nilp), none, 0, [0]⟩] [3])
 (.cond (.t 4) [4]
  (.seq (.region 0 [
    ⟨(some 2), .mv (.c (.int .i64 0)), none, 0, []⟩] [])
  .ret)
  .skip))
 (.seq (.region 0 [
   ⟨(some 5), .mv (.t 0), none, 0, []⟩,
   ⟨(some 6), .nilck (.t 5), none, 0, [0]⟩,
   ⟨(some 7), .faddr 2 (.t 6), none, 0, [1]⟩,
   ⟨(some 8), .load none (.t 7), none, 0, [2]⟩,
   ⟨(some 2), .mv (.t 8), none, 0, [3, 0, 1, 2, 3]⟩] [0, 5, 6, 7, 8])
 .ret)))
def hs62 : List (List Nat) := [[2], [3], [4], [], [0, 5, 6, 7, 8]]
theorem ok62 : FnOk Try.prog 62 ic62 [.t 2] 9 := ⟨Try.f62, hs62, Try.func62, by kernel_rfl, by kernel_rfl, by kernel_rfl, by kernel_rfl⟩

/-- (*signalbox/ring.Ring[signalbox/api.Frame]).Lost -/
def ic63 : IC :=
 (.seq (.region 0 [
   ⟨(some 2), .mv (.c (.int .i64 0)), none, 0, []⟩] [2])
 (.seq (.seq (.region 0 [
   ⟨(some 3), .mv (.t 0), none, 0, []⟩,
   ⟨(some 4), .eqv false .ptr (.t 3) (.c .nilp), none, 0, [0]⟩] [3])
 (.cond (.t 4) [4]
  (.seq (.region 0 [
    ⟨(some 2), .mv (.c (.int .i64 0)), none, 0, []⟩] [])
  .ret)
  .skip))
 (.seq (.region 0 [
   ⟨(some 5), .mv (.t 0), none, 0, []⟩,
   ⟨(some 6), .nilck (.t 5), none, 0, [0]⟩,
   ⟨(some 7), .faddr 3 (.t 6), none, 0, [1]⟩,
   ⟨(some 8), .load none (.t 7), none, 0, [2]⟩,
   ⟨(some 2), .mv (.t 8), none, 0, [3, 0, 1, 2, 3]⟩] [0, 5, 6, 7, 8])
 .ret)))
def hs63 : List (List Nat) := [[2], [3], [4], [], [0, 5, 6, 7, 8]]
theorem ok63 : FnOk Try.prog 63 ic63 [.t 2] 9 := ⟨Try.f63, hs63, Try.func63, by kernel_rfl, by kernel_rfl, by kernel_rfl, by kernel_rfl⟩

/-- (*signalbox/box.Boxes).Free -/
def ic101_b1 : IC :=
 (.seq (.region 0 [
   ⟨(some 10), .bin .lss (.t 9) (.t 8), none, 0, []⟩] [])
 (.seq (.cond (.t 10) [10]
  .skip
  (.exit 0))
 (.seq (.block 1 (.seq (.region 0 [
   ⟨(some 11), .iaddr 1 (.t 7) (.t 9), none, 0, []⟩,
   ⟨(some 12), .load none (.t 11), none, 0, [0]⟩,
   ⟨(some 5), .mv (.t 12), none, 0, [1, 0, 1]⟩] [11, 12])
 (.seq (.region 0 [
   ⟨(some 13), .mv (.t 5), none, 0, []⟩,
   ⟨(some 14), .bin .eql (.t 13) (.c (.int .i64 0)), none, 0, [0]⟩] [5, 13])
 (.cond (.t 14) [14]
  (.region 0 [
    ⟨(some 15), .mv (.t 3), none, 0, []⟩,
    ⟨(some 16), .bin .add (.t 15) (.c (.int .i64 1)), none, 0, [0]⟩,
    ⟨(some 3), .mv (.t 16), none, 0, [1, 0, 1]⟩] [15, 16])
  .skip))))
 (.region 0 [
   ⟨(some 17), .bin .add (.t 9) (.c (.int .i64 1)), none, 0, []⟩,
   ⟨(some 9), .mv (.t 17), none, 0, [0]⟩] [17]))))
def ic101_l1 : IC := .loop [0, 2, 5, 6, 10, 11, 12, 13, 14, 15, 16, 17, 18] ic101_b1
def ic101 : IC :=
 (.seq (.region 0 [
   ⟨(some 2), .mv (.c (.int .i64 0)), none, 0, []⟩] [2])
 (.seq (.region 0 [
   ⟨(some 3), .mv (.c (.int .i64 0)), none, 0, []⟩] [])
 (.seq (.seq (.region 0 [
   ⟨(some 6), .mv (.t 0), none, 0, []⟩,
   ⟨(some 7), .call (.c (.fn 102 [] [])) [(.t 6)], none, 0, [0]⟩,
   ⟨(some 8), .lens (.t 7), none, 0, [1]⟩,
   ⟨(some 9), .mv (.c (.int .i64 0)), none, 0, []⟩] [0, 6])
 (.block 0 ic101_l1))
 (.seq (.region 0 [
   ⟨(some 18), .mv (.t 3), none, 0, []⟩,
   ⟨(some 2), .mv (.t 18), none, 0, [0, 0]⟩] [3, 18])
 .ret))))
def hs101 : List (List Nat) := [[2], [], [0, 6], [0, 2, 5, 6, 10, 11, 12, 13, 14, 15, 16, 17, 18], [], [10], [11, 12], [5, 13], [14], [15, 16], [17], [3, 18]]
theorem ok101 : FnOk Try.prog 101 ic101 [.t 2] 19 := ⟨Try.f101, hs101, Try.func101, by kernel_rfl, by kernel_rfl, by kernel_rfl, by kernel_rfl⟩

/-- (*signalbox/box.Boxes).States -/
def ic102_b1 : IC :=
 (.seq (.region 0 [
   ⟨(some 15), .bin .lss (.t 14) (.t 13), none, 0, []⟩] [])
 (.seq (.cond (.t 15) [15]
  .skip
  (.exit 0))
 (.seq (.block 1 (.seq (.region 1 [
   ⟨(some 16), .iaddr 9 (.t 12) (.t 14), none, 0, []⟩,
   ⟨(some 17), .load (some 9) (.t 16), none, 0, [0]⟩,
   ⟨(some 5), .alloc [(.int .i64 0), (.int .i64 0), (.int .i64 0), (.int .i64 0), (.str []), (.int .i64 0), (.int .i64 0), (.bool false), (.int .i64 0)], none, 0, []⟩,
   ⟨none, .store 9 (.t 5) (.t 17), none, 1, [2, 1, 0, 1, 2]⟩] [16, 17])
 (.region 2 [
   ⟨(some 18), .mv (.t 3), none, 0, []⟩,
   ⟨(some 19), .faddr 0 (.t 5), none, 0, []⟩,
   ⟨(some 20), .load none (.t 19), none, 0, [1]⟩,
   ⟨(some 21), .bslice 1 [(.t 20)], none, 0, [2]⟩,
   ⟨(some 22), .app 1 8 (.t 18) (.t 21), none, 1, [0, 3]⟩,
   ⟨(some 3), .mv (.t 22), none, 2, [4, 4, 0, 1, 2, 3, 4]⟩] [5, 18, 19, 20, 21, 22])))
 (.region 0 [
   ⟨(some 23), .bin .add (.t 14) (.c (.int .i64 1)), none, 0, []⟩,
   ⟨(some 14), .mv (.t 23), none, 0, [0]⟩] [23]))))
def ic102_l1 : IC := .loop [0, 2, 5, 6, 7, 8, 9, 10, 11, 15, 16, 17, 18, 19, 20, 21, 22, 23, 24] ic102_b1
def ic102 : IC :=
 (.seq (.region 0 [
   ⟨(some 2), .mv (.c .nils), none, 0, []⟩] [2])
 (.seq (.region 0 [
   ⟨(some 3), .mv (.c .nils), none, 0, []⟩] [])
 (.seq (.seq (.region 0 [
   ⟨(some 6), .mv (.t 0), none, 0, []⟩,
   ⟨(some 7), .eqv false .ptr (.t 6) (.c .nilp), none, 0, [0]⟩] [6])
 (.cond (.t 7) [7]
  (.seq (.region 0 [
    ⟨(some 8), .mv (.t 3), none, 0, []⟩,
    ⟨(some 2), .mv (.t 8), none, 0, [0, 0]⟩] [3, 8])
  .ret)
  .skip))
 (.seq (.seq (.region 0 [
   ⟨(some 9), .mv (.t 0), none, 0, []⟩,
   ⟨(some 10), .nilck (.t 9), none, 0, [0]⟩,
   ⟨(some 11), .faddr 0 (.t 10), none, 0, [1]⟩,
   ⟨(some 12), .load none (.t 11), none, 0, [2]⟩,
   ⟨(some 13), .lens (.t 12), none, 0, [3]⟩,
   ⟨(some 14), .mv (.c (.int .i64 0)), none, 0, []⟩] [0, 9, 10, 11])
 (.block 0 ic102_l1))
 (.seq (.region 0 [
   ⟨(some 24), .mv (.t 3), none, 0, []⟩,
   ⟨(some 2), .mv (.t 24), none, 0, [0, 0]⟩] [3, 24])
 .ret)))))
def hs102 : List (List Nat) := [[2], [], [6], [7], [3, 8], [0, 9, 10, 11], [0, 2, 5, 6, 7, 8, 9, 10, 11, 15, 16, 17, 18, 19, 20, 21, 22, 23, 24], [], [15], [16, 17], [5, 18, 19, 20, 21, 22], [23], [3, 24]]
theorem ok102 : FnOk Try.prog 102 ic102 [.t 2] 25 := ⟨Try.f102, hs102, Try.func102, by kernel_rfl, by kernel_rfl, by kernel_rfl, by kernel_rfl⟩

/-- (*signalbox/box.Boxes).Put -/
def ic103 : IC :=
 (.seq (.region 1 [
   ⟨(some 3), .box (.t 1), none, 0, []⟩,
   ⟨(some 4), .mv (.c (.int .i64 0)), none, 1, []⟩,
   ⟨(some 5), .mv (.c (.int .i64 0)), none, 1, [1]⟩] [1, 4, 5])
 (.seq (.block 0 (.seq (.region 0 [
   ⟨(some 8), .mv (.t 0), none, 0, []⟩,
   ⟨(some 9), .eqv false .ptr (.t 8) (.c .nilp), none, 0, [0]⟩,
   ⟨(some 7), .mv (.t 9), none, 0, [1]⟩] [8, 9])
 (.cond (.t 7) [7]
  (.seq (.region 0 [
    ⟨(some 4), .mv (.c (.int .i64 0)), none, 0, []⟩,
    ⟨(some 5), .mv (.c (.int .i64 1)), none, 0, [0, 0]⟩] [])
  .ret)
  (.seq (.region 0 [
    ⟨(some 11), .faddr 0 (.t 3), none, 0, []⟩,
    ⟨(some 12), .load (some 4) (.t 11), none, 0, [0]⟩,
    ⟨(some 13), .call (.c (.fn 126 [] [])) [(.t 12)], none, 0, [1]⟩,
    ⟨(some 14), .bin .lss (.t 13) (.c (.int .i64 0)), none, 0, [2]⟩,
    ⟨(some 10), .mv (.t 14), none, 0, [3, 2]⟩] [11, 12, 13, 14])
  (.cond (.t 10) [10]
   (.seq (.region 0 [
     ⟨(some 4), .mv (.c (.int .i64 0)), none, 0, []⟩,
     ⟨(some 5), .mv (.c (.int .i64 4)), none, 0, [0, 0]⟩] [])
   .ret)
   .skip)))))
 (.seq (.region 0 [
   ⟨(some 15), .mv (.t 0), none, 0, []⟩,
   ⟨(some 16), .nilck (.t 15), none, 0, [0]⟩,
   ⟨(some 17), .faddr 0 (.t 16), none, 0, [1]⟩,
   ⟨(some 18), .load none (.t 17), none, 0, [2]⟩,
   ⟨(some 19), .call (.c (.fn 144 [] [])) [(.t 18), (.c (.fn 145 [] []))], none, 0, [3]⟩,
   ⟨(some 6), .mv (.t 19), none, 0, [4, 4, 0, 1, 2, 3, 4]⟩] [15, 16, 17, 18, 19])
 (.seq (.seq (.region 0 [
   ⟨(some 20), .mv (.t 6), none, 0, []⟩,
   ⟨(some 21), .bin .lss (.t 20) (.c (.int .i64 0)), none, 0, [0]⟩] [20])
 (.cond (.t 21) [21]
  (.seq (.region 0 [
    ⟨(some 4), .mv (.c (.int .i64 0)), none, 0, []⟩,
    ⟨(some 5), .mv (.c (.int .i64 5)), none, 0, [0, 0]⟩] [])
  .ret)
  .skip))
 (.seq (.regionD 0 [
   ⟨(some 22), .mv (.t 0), none, 0, []⟩,
   ⟨(some 23), .nilck (.t 22), none, 0, [0]⟩,
   ⟨(some 24), .faddr 0 (.t 23), none, 0, [1]⟩,
   ⟨(some 25), .load none (.t 24), none, 0, [2]⟩,
   ⟨(some 26), .mv (.t 6), none, 0, []⟩,
   ⟨(some 27), .load (some 7) (.t 3), none, 0, []⟩,
   ⟨(some 28), .mv (.t 0), none, 0, []⟩,
   ⟨(some 29), .nilck (.t 28), none, 0, [6]⟩,
   ⟨(some 30), .faddr 2 (.t 29), none, 0, [7]⟩,
   ⟨(some 31), .load none (.t 30), none, 0, [8]⟩,
   ⟨(some 32), .build [(.int .i64 0), (.int .i64 0), (.int .i64 0), (.int .i64 0), (.str []), (.int .i64 0), (.int .i64 0), (.bool false), (.int .i64 0)] [(0, 1, (.c (.int .i64 1))), (1, 7, (.t 27)), (8, 1, (.t 31))], none, 0, [5, 9]⟩,
   ⟨(some 33), .iaddr 9 (.t 25) (.t 26), none, 0, [3, 4, 0, 1, 2, 3, 4, 5, 6, 7, 8, 9, 10]⟩,
   ⟨none, .store 9 (.t 33) (.t 32), none, 0, [11, 10, 0, 1, 2, 3, 4, 5, 6, 7, 8, 9, 10]⟩]
   [0, 1, 2, 4, 6, 7, 8, 3, 5, 9, 10, 11, 12] [0, 1, 3, 7, 0, 0, 0, 64, 192, 448, 992, 2047, 4095] [3, 22, 23, 24, 25, 26, 27, 28, 29, 30, 31, 32, 33])
 (.seq (.region 0 [
   ⟨(some 34), .mv (.t 0), none, 0, []⟩,
   ⟨(some 35), .nilck (.t 34), none, 0, [0]⟩,
   ⟨(some 36), .faddr 2 (.t 35), none, 0, [1]⟩,
   ⟨(some 37), .load none (.t 36), none, 0, [2]⟩,
   ⟨(some 38), .bin .add (.t 37) (.c (.int .i64 1)), none, 0, [3]⟩,
   ⟨(some 39), .nilck (.t 34), none, 0, [0, 0, 1, 2, 3, 4]⟩,
   ⟨(some 40), .faddr 2 (.t 39), none, 0, [5, 0, 1, 2, 3, 4]⟩,
   ⟨none, .store 1 (.t 40) (.t 38), none, 0, [6, 4, 0, 1, 2, 3, 4]⟩] [0, 34, 35, 36, 37, 38, 39, 40])
 (.seq (.region 0 [
   ⟨(some 41), .mv (.t 6), none, 0, []⟩,
   ⟨(some 4), .mv (.t 41), none, 0, [0, 0]⟩,
   ⟨(some 5), .mv (.c (.int .i64 0)), none, 0, [1, 0, 1]⟩] [6, 41])
 .ret)))))))
def hs103 : List (List Nat) := [[1, 4, 5], [8, 9], [7], [], [11, 12, 13, 14], [10], [], [15, 16, 17, 18, 19], [20], [21], [], [0, 1, 2, 4, 6, 7, 8, 3, 5, 9, 10, 11, 12], [0, 1, 3, 7, 0, 0, 0, 64, 192, 448, 992, 2047, 4095], [3, 22, 23, 24, 25, 26, 27, 28, 29, 30, 31, 32, 33], [0, 34, 35, 36, 37, 38, 39, 40], [6, 41]]
theorem ok103 : FnOk Try.prog 103 ic103 [.t 4, .t 5] 42 := ⟨Try.f103, hs103, Try.func103, by kernel_rfl, by kernel_rfl, by kernel_rfl, by kernel_rfl⟩

/-- (*signalbox/box.Boxes).Best -/
def ic104_b1 : IC :=
 (.seq (.region 0 [
   ⟨(some 18), .bin .lss (.t 17) (.t 16), none, 0, []⟩] [])
 (.seq (.cond (.t 18) [18]
  .skip
  (.exit 0))
 (.seq (.block 1 (.seq (.region 1 [
   ⟨(some 19), .mv (.t 17), none, 0, []⟩,
   ⟨(some 20), .iaddr 9 (.t 15) (.t 17), none, 0, []⟩,
   ⟨(some 21), .load (some 9) (.t 20), none, 0, [1]⟩,
   ⟨(some 8), .alloc [(.int .i64 0), (.int .i64 0), (.int .i64 0), (.int .i64 0), (.str []), (.int .i64 0), (.int .i64 0), (.bool false), (.int .i64 0)], none, 0, []⟩,
   ⟨(some 7), .mv (.t 19), none, 1, [0, 0, 1, 2, 3]⟩,
   ⟨none, .store 9 (.t 8) (.t 21), none, 1, [3, 2, 4, 0, 1, 2, 3, 4]⟩] [19, 20, 21])
 (.seq (.regionD 0 [
   ⟨(some 22), .faddr 0 (.t 8), none, 0, []⟩,
   ⟨(some 23), .load none (.t 22), none, 0, [0]⟩,
   ⟨(some 24), .bin .eql (.t 23) (.c (.int .i64 1)), none, 0, [1]⟩,
   ⟨(some 25), .mv (.t 24), none, 0, [2]⟩,
   ⟨(some 26), .mv (.t 5), (some (25, true)), 0, [3]⟩,
   ⟨(some 27), .bin .lss (.t 26) (.c (.int .i64 0)), (some (25, true)), 0, [4, 3]⟩,
   ⟨(some 28), .mv (.t 27), (some (25, true)), 0, [5, 3, 3]⟩,
   ⟨(some 29), .mv (.t 6), (some (28, false)), 0, [6]⟩,
   ⟨(some 30), .load (some 9) (.t 8), (some (28, false)), 0, [6]⟩,
   ⟨(some 31), .mv (.t 0), (some (28, false)), 0, [6]⟩,
   ⟨(some 32), .nilck (.t 31), (some (28, false)), 0, [9, 6]⟩,
   ⟨(some 33), .faddr 0 (.t 32), (some (28, false)), 0, [10, 6]⟩,
   ⟨(some 34), .load none (.t 33), (some (28, false)), 0, [11, 6]⟩,
   ⟨(some 35), .mv (.t 5), (some (28, false)), 0, [6]⟩,
   ⟨(some 36), .iaddr 9 (.t 34) (.t 35), (some (28, false)), 0, [12, 13, 6]⟩,
   ⟨(some 37), .load (some 9) (.t 36), (some (28, false)), 0, [14, 6]⟩,
   ⟨(some 38), .call (.t 29) [(.t 30), (.t 37)], (some (28, false)), 0, [7, 8, 15, 6, 6]⟩,
   ⟨(some 39), .pick (.t 28) (.c (.bool true)) (.t 38), (some (25, true)), 0, [6, 16, 3]⟩,
   ⟨(some 40), .pick (.t 25) (.t 39) (.c (.bool false)), none, 0, [3, 17]⟩]
   [0, 1, 2, 3, 4, 5, 6, 7, 9, 10, 11, 13, 8, 12, 14, 15, 16, 17, 18] [0, 1, 3, 7, 15, 31, 63, 127, 127, 127, 639, 1663, 3711, 127, 15999, 32383, 65535, 131071, 262143] [8, 22, 23, 24, 25])
 (.cond (.t 40) [40]
  (.region 0 [
    ⟨(some 41), .mv (.t 7), none, 0, []⟩,
    ⟨(some 5), .mv (.t 41), none, 0, [0, 0]⟩] [7, 41])
  .skip))))
 (.region 0 [
   ⟨(some 42), .bin .add (.t 17) (.c (.int .i64 1)), none, 0, []⟩,
   ⟨(some 17), .mv (.t 42), none, 0, [0]⟩] [42]))))
def ic104_l1 : IC := .loop [2, 4, 7, 8, 9, 10, 11, 12, 13, 14, 18, 19, 20, 21, 22, 23, 24, 25, 40, 41, 42, 43, 44, 45, 46, 47, 48, 49, 50, 51, 52, 53, 54] ic104_b1
def ic104 : IC :=
 (.seq (.region 1 [
   ⟨(some 2), .mv (.c (.int .i64 0)), none, 0, []⟩,
   ⟨(some 3), .alloc [(.int .i64 0), (.int .i64 0), (.int .i64 0), (.str []), (.int .i64 0), (.int .i64 0), (.bool false)], none, 0, []⟩,
   ⟨(some 4), .mv (.c (.bool false)), none, 1, [0]⟩] [2, 4])
 (.seq (.seq (.region 0 [
   ⟨(some 9), .mv (.t 0), none, 0, []⟩,
   ⟨(some 10), .eqv false .ptr (.t 9) (.c .nilp), none, 0, [0]⟩] [9])
 (.cond (.t 10) [10]
  (.seq (.region 0 [
    ⟨(some 11), .build [(.int .i64 0), (.int .i64 0), (.int .i64 0), (.str []), (.int .i64 0), (.int .i64 0), (.bool false)] [], none, 0, []⟩,
    ⟨(some 2), .mv (.c (.int .i64 0)), none, 0, []⟩,
    ⟨none, .store 7 (.t 3) (.t 11), none, 0, [0, 1, 0, 1]⟩,
    ⟨(some 4), .mv (.c (.bool false)), none, 0, [2, 0, 1, 2]⟩] [11])
  .ret)
  .skip))
 (.seq (.region 0 [
   ⟨(some 5), .mv (.c (.int .i64 (-1))), none, 0, []⟩] [])
 (.seq (.region 0 [
   ⟨(some 6), .mv (.c (.fn 146 [] [])), none, 0, []⟩] [])
 (.seq (.seq (.region 0 [
   ⟨(some 12), .mv (.t 0), none, 0, []⟩,
   ⟨(some 13), .nilck (.t 12), none, 0, [0]⟩,
   ⟨(some 14), .faddr 0 (.t 13), none, 0, [1]⟩,
   ⟨(some 15), .load none (.t 14), none, 0, [2]⟩,
   ⟨(some 16), .lens (.t 15), none, 0, [3]⟩,
   ⟨(some 17), .mv (.c (.int .i64 0)), none, 0, []⟩] [12, 13, 14])
 (.block 0 ic104_l1))
 (.seq (.seq (.region 0 [
   ⟨(some 43), .mv (.t 5), none, 0, []⟩,
   ⟨(some 44), .bin .lss (.t 43) (.c (.int .i64 0)), none, 0, [0]⟩] [43])
 (.cond (.t 44) [44]
  (.seq (.region 0 [
    ⟨(some 45), .build [(.int .i64 0), (.int .i64 0), (.int .i64 0), (.str []), (.int .i64 0), (.int .i64 0), (.bool false)] [], none, 0, []⟩,
    ⟨(some 2), .mv (.c (.int .i64 0)), none, 0, []⟩,
    ⟨none, .store 7 (.t 3) (.t 45), none, 0, [0, 1, 0, 1]⟩,
    ⟨(some 4), .mv (.c (.bool false)), none, 0, [2, 0, 1, 2]⟩] [45])
  .ret)
  .skip))
 (.seq (.regionD 0 [
   ⟨(some 46), .mv (.t 5), none, 0, []⟩,
   ⟨(some 47), .mv (.t 0), none, 0, []⟩,
   ⟨(some 48), .nilck (.t 47), none, 0, [1]⟩,
   ⟨(some 49), .faddr 0 (.t 48), none, 0, [2]⟩,
   ⟨(some 50), .load none (.t 49), none, 0, [3]⟩,
   ⟨(some 51), .mv (.t 5), none, 0, []⟩,
   ⟨(some 52), .iaddr 9 (.t 50) (.t 51), none, 0, [4, 5]⟩,
   ⟨(some 53), .faddr 1 (.t 52), none, 0, [6]⟩,
   ⟨(some 54), .load (some 7) (.t 53), none, 0, [7]⟩,
   ⟨(some 2), .mv (.t 46), none, 0, [0, 0]⟩,
   ⟨none, .store 7 (.t 3) (.t 54), none, 0, [8, 9, 0, 1, 2, 3, 4, 5, 6, 7, 8, 9]⟩,
   ⟨(some 4), .mv (.c (.bool true)), none, 0, [10, 0, 1, 2, 3, 4, 5, 6, 7, 8, 9, 10]⟩]
   [0, 1, 2, 3, 5, 9, 4, 6, 7, 8, 10, 11] [0, 0, 2, 6, 14, 0, 62, 126, 254, 1, 1023, 2047] [0, 5, 46, 47, 48, 49, 50, 51, 52, 53, 54])
 .ret)))))))
def hs104 : List (List Nat) := [[2, 4], [9], [10], [11], [], [], [12, 13, 14], [2, 4, 7, 8, 9, 10, 11, 12, 13, 14, 18, 19, 20, 21, 22, 23, 24, 25, 40, 41, 42, 43, 44, 45, 46, 47, 48, 49, 50, 51, 52, 53, 54], [], [18], [19, 20, 21], [0, 1, 2, 3, 4, 5, 6, 7, 9, 10, 11, 13, 8, 12, 14, 15, 16, 17, 18], [0, 1, 3, 7, 15, 31, 63, 127, 127, 127, 639, 1663, 3711, 127, 15999, 32383, 65535, 131071, 262143], [8, 22, 23, 24, 25], [40], [7, 41], [42], [43], [44], [45], [0, 1, 2, 3, 5, 9, 4, 6, 7, 8, 10, 11], [0, 0, 2, 6, 14, 0, 62, 126, 254, 1, 1023, 2047], [0, 5, 46, 47, 48, 49, 50, 51, 52, 53, 54]]
theorem ok104 : FnOk Try.prog 104 ic104 [.t 2, .cell 3 (some 7), .t 4] 55 := ⟨Try.f104, hs104, Try.func104, by kernel_rfl, by kernel_rfl, by kernel_rfl, by kernel_rfl⟩

/-- (*signalbox/box.Boxes).Take -/
def ic105 : IC :=
 (.seq (.region 1 [
   ⟨(some 2), .alloc [(.int .i64 0), (.int .i64 0), (.int .i64 0), (.int .i64 0), (.str []), (.int .i64 0), (.int .i64 0), (.bool false), (.bool false)], none, 0, []⟩,
   ⟨(some 3), .mv (.c (.int .i64 0)), none, 1, []⟩] [3])
 (.seq (.block 0 (.seq (.region 0 [
   ⟨(some 7), .mv (.t 0), none, 0, []⟩,
   ⟨(some 8), .eqv false .ptr (.t 7) (.c .nilp), none, 0, [0]⟩,
   ⟨(some 6), .mv (.t 8), none, 0, [1]⟩] [7, 8])
 (.cond (.t 6) [6]
  (.seq (.region 0 [
    ⟨(some 9), .build [(.int .i64 0), (.int .i64 0), (.int .i64 0), (.int .i64 0), (.str []), (.int .i64 0), (.int .i64 0), (.bool false), (.bool false)] [], none, 0, []⟩,
    ⟨none, .store 9 (.t 2) (.t 9), none, 0, [0, 0]⟩,
    ⟨(some 3), .mv (.c (.int .i64 1)), none, 0, [1, 0, 1]⟩] [9])
  .ret)
  (.seq (.region 0 [
    ⟨(some 11), .mv (.t 0), none, 0, []⟩,
    ⟨(some 12), .nilck (.t 11), none, 0, [0]⟩,
    ⟨(some 13), .faddr 1 (.t 12), none, 0, [1]⟩,
    ⟨(some 14), .load none (.t 13), none, 0, [2]⟩,
    ⟨(some 15), .lens (.t 14), none, 0, [3]⟩,
    ⟨(some 16), .bin .eql (.t 15) (.c (.int .i64 0)), none, 0, [4]⟩,
    ⟨(some 10), .mv (.t 16), none, 0, [5]⟩] [11, 12, 13, 14, 15, 16])
  (.cond (.t 10) [10]
   (.seq (.region 0 [
     ⟨(some 17), .build [(.int .i64 0), (.int .i64 0), (.int .i64 0), (.int .i64 0), (.str []), (.int .i64 0), (.int .i64 0), (.bool false), (.bool false)] [], none, 0, []⟩,
     ⟨none, .store 9 (.t 2) (.t 17), none, 0, [0, 0]⟩,
     ⟨(some 3), .mv (.c (.int .i64 6)), none, 0, [1, 0, 1]⟩] [17])
   .ret)
   .skip)))))
 (.seq (.region 0 [
   ⟨(some 18), .mv (.t 0), none, 0, []⟩,
   ⟨(some 19), .nilck (.t 18), none, 0, [0]⟩,
   ⟨(some 20), .faddr 1 (.t 19), none, 0, [1]⟩,
   ⟨(some 21), .load none (.t 20), none, 0, [2]⟩,
   ⟨(some 22), .iaddr 1 (.t 21) (.c (.int .i64 0)), none, 0, [3]⟩,
   ⟨(some 23), .load none (.t 22), none, 0, [4]⟩,
   ⟨(some 4), .mv (.t 23), none, 0, [5, 0, 1, 2, 3, 4, 5]⟩] [18, 19, 20, 21, 22, 23])
 (.seq (.region 0 [
   ⟨(some 24), .mv (.t 0), none, 0, []⟩,
   ⟨(some 25), .mv (.t 0), none, 0, []⟩,
   ⟨(some 26), .nilck (.t 25), none, 0, [1]⟩,
   ⟨(some 27), .faddr 1 (.t 26), none, 0, [2]⟩,
   ⟨(some 28), .load none (.t 27), none, 0, [3]⟩,
   ⟨(some 29), .slc 1 (.t 28) (some (.c (.int .i64 1))) none none, none, 0, [4]⟩,
   ⟨(some 30), .call (.c (.fn 147 [] [])) [(.t 29)], none, 0, [5]⟩,
   ⟨(some 31), .nilck (.t 24), none, 0, [0, 0, 1, 2, 3, 4, 5, 6]⟩,
   ⟨(some 32), .faddr 1 (.t 31), none, 0, [7, 0, 1, 2, 3, 4, 5, 6]⟩,
   ⟨none, .store 1 (.t 32) (.t 30), none, 0, [8, 6, 6, 0, 1, 2, 3, 4, 5, 6]⟩] [24, 25, 26, 27, 28, 29, 30, 31, 32])
 (.seq (.region 1 [
   ⟨(some 33), .mv (.t 0), none, 0, []⟩,
   ⟨(some 34), .nilck (.t 33), none, 0, [0]⟩,
   ⟨(some 35), .faddr 0 (.t 34), none, 0, [1]⟩,
   ⟨(some 36), .load none (.t 35), none, 0, [2]⟩,
   ⟨(some 37), .mv (.t 4), none, 0, []⟩,
   ⟨(some 38), .iaddr 9 (.t 36) (.t 37), none, 0, [3, 4]⟩,
   ⟨(some 39), .load (some 9) (.t 38), none, 0, [5]⟩,
   ⟨(some 5), .alloc [(.int .i64 0), (.int .i64 0), (.int .i64 0), (.int .i64 0), (.str []), (.int .i64 0), (.int .i64 0), (.bool false), (.int .i64 0)], none, 0, []⟩,
   ⟨none, .store 9 (.t 5) (.t 39), none, 1, [7, 6, 0, 1, 2, 3, 4, 5, 6, 7]⟩] [33, 34, 35, 36, 37, 38, 39])
 (.seq (.region 0 [
   ⟨(some 40), .mv (.t 0), none, 0, []⟩,
   ⟨(some 41), .nilck (.t 40), none, 0, [0]⟩,
   ⟨(some 42), .faddr 0 (.t 41), none, 0, [1]⟩,
   ⟨(some 43), .load none (.t 42), none, 0, [2]⟩,
   ⟨(some 44), .mv (.t 4), none, 0, []⟩,
   ⟨(some 45), .build [(.int .i64 0), (.int .i64 0), (.int .i64 0), (.int .i64 0), (.str []), (.int .i64 0), (.int .i64 0), (.bool false), (.int .i64 0)] [], none, 0, []⟩,
   ⟨(some 46), .iaddr 9 (.t 43) (.t 44), none, 0, [3, 4, 0, 1, 2, 3, 4, 5]⟩,
   ⟨none, .store 9 (.t 46) (.t 45), none, 0, [6, 5, 0, 1, 2, 3, 4, 5]⟩] [0, 40, 41, 42, 43, 44, 45, 46])
 (.seq (.region 0 [
   ⟨(some 47), .mv (.t 4), none, 0, []⟩,
   ⟨(some 48), .faddr 1 (.t 5), none, 0, []⟩,
   ⟨(some 49), .load (some 7) (.t 48), none, 0, [1]⟩,
   ⟨(some 50), .faddr 0 (.t 5), none, 0, []⟩,
   ⟨(some 51), .load none (.t 50), none, 0, [3]⟩,
   ⟨(some 52), .bin .eql (.t 51) (.c (.int .i64 2)), none, 0, [4]⟩,
   ⟨(some 53), .build [(.int .i64 0), (.int .i64 0), (.int .i64 0), (.int .i64 0), (.str []), (.int .i64 0), (.int .i64 0), (.bool false), (.bool false)] [(0, 1, (.t 47)), (1, 7, (.t 49)), (8, 1, (.t 52))], none, 0, [0, 2, 5]⟩,
   ⟨none, .store 9 (.t 2) (.t 53), none, 0, [6, 0, 1, 2, 3, 4, 5, 6]⟩,
   ⟨(some 3), .mv (.c (.int .i64 0)), none, 0, [7, 0, 1, 2, 3, 4, 5, 6, 7]⟩] [4, 5, 47, 48, 49, 50, 51, 52, 53])
 .ret)))))))
def hs105 : List (List Nat) := [[3], [7, 8], [6], [9], [11, 12, 13, 14, 15, 16], [10], [17], [18, 19, 20, 21, 22, 23], [24, 25, 26, 27, 28, 29, 30, 31, 32], [33, 34, 35, 36, 37, 38, 39], [0, 40, 41, 42, 43, 44, 45, 46], [4, 5, 47, 48, 49, 50, 51, 52, 53]]
theorem ok105 : FnOk Try.prog 105 ic105 [.cell 2 (some 9), .t 3] 54 := ⟨Try.f105, hs105, Try.func105, by kernel_rfl, by kernel_rfl, by kernel_rfl, by kernel_rfl⟩

/-- (*signalbox/box.Boxes).Sent -/
def ic106 : IC :=
 (.seq (.region 0 [
   ⟨(some 4), .mv (.c (.int .i64 0)), none, 0, []⟩] [4])
 (.seq (.region 0 [
   ⟨(some 5), .mv (.t 0), none, 0, []⟩,
   ⟨(some 6), .mv (.t 1), none, 0, []⟩,
   ⟨(some 7), .call (.c (.fn 148 [] [])) [(.t 5), (.t 6), (.c (.int .i64 2))], none, 0, [0, 1]⟩,
   ⟨(some 4), .mv (.t 7), none, 0, [2, 2, 0, 1, 2]⟩] [0, 1, 5, 6, 7])
 .ret))
def hs106 : List (List Nat) := [[4], [0, 1, 5, 6, 7]]
theorem ok106 : FnOk Try.prog 106 ic106 [.t 4] 8 := ⟨Try.f106, hs106, Try.func106, by kernel_rfl, by kernel_rfl, by kernel_rfl, by kernel_rfl⟩

/-- (*signalbox/box.Boxes).Abort -/
def ic107 : IC :=
 (.seq (.region 0 [
   ⟨(some 4), .mv (.c (.int .i64 0)), none, 0, []⟩] [4])
 (.seq (.region 0 [
   ⟨(some 5), .mv (.t 0), none, 0, []⟩,
   ⟨(some 6), .mv (.t 1), none, 0, []⟩,
   ⟨(some 7), .call (.c (.fn 148 [] [])) [(.t 5), (.t 6), (.c (.int .i64 3))], none, 0, [0, 1]⟩,
   ⟨(some 4), .mv (.t 7), none, 0, [2, 2, 0, 1, 2]⟩] [0, 1, 5, 6, 7])
 .ret))
def hs107 : List (List Nat) := [[4], [0, 1, 5, 6, 7]]
theorem ok107 : FnOk Try.prog 107 ic107 [.t 4] 8 := ⟨Try.f107, hs107, Try.func107, by kernel_rfl, by kernel_rfl, by kernel_rfl, by kernel_rfl⟩

/-- (*signalbox/ring.Ring[signalbox/api.Frame]).Peek -/
def ic120 : IC :=
 (.seq (.region 1 [
   ⟨(some 2), .alloc [(.int .i64 0), (.int .i64 0), (.int .i64 0), (.str [])], none, 0, []⟩,
   ⟨(some 3), .mv (.c (.int .i64 0)), none, 1, []⟩] [3])
 (.seq (.region 1 [
   ⟨(some 4), .alloc [(.int .i64 0), (.int .i64 0), (.int .i64 0), (.str [])], none, 0, []⟩] [])
 (.seq (.block 0 (.seq (.region 0 [
   ⟨(some 6), .mv (.t 0), none, 0, []⟩,
   ⟨(some 7), .eqv false .ptr (.t 6) (.c .nilp), none, 0, [0]⟩,
   ⟨(some 5), .mv (.t 7), none, 0, [1]⟩] [6, 7])
 (.cond (.t 5) [5]
  (.seq (.region 0 [
    ⟨(some 8), .load (some 4) (.t 4), none, 0, []⟩,
    ⟨none, .store 4 (.t 2) (.t 8), none, 0, [0, 0]⟩,
    ⟨(some 3), .mv (.c (.int .i64 1)), none, 0, [1, 0, 1]⟩] [4, 8])
  .ret)
  (.seq (.region 0 [
    ⟨(some 10), .mv (.t 0), none, 0, []⟩,
    ⟨(some 11), .nilck (.t 10), none, 0, [0]⟩,
    ⟨(some 12), .faddr 2 (.t 11), none, 0, [1]⟩,
    ⟨(some 13), .load none (.t 12), none, 0, [2]⟩,
    ⟨(some 14), .bin .eql (.t 13) (.c (.int .i64 0)), none, 0, [3]⟩,
    ⟨(some 9), .mv (.t 14), none, 0, [4]⟩] [10, 11, 12, 13, 14])
  (.cond (.t 9) [9]
   (.seq (.region 0 [
     ⟨(some 15), .load (some 4) (.t 4), none, 0, []⟩,
     ⟨none, .store 4 (.t 2) (.t 15), none, 0, [0, 0]⟩,
     ⟨(some 3), .mv (.c (.int .i64 6)), none, 0, [1, 0, 1]⟩] [4, 15])
   .ret)
   .skip)))))
 (.seq (.regionD 0 [
   ⟨(some 16), .mv (.t 0), none, 0, []⟩,
   ⟨(some 17), .nilck (.t 16), none, 0, [0]⟩,
   ⟨(some 18), .faddr 0 (.t 17), none, 0, [1]⟩,
   ⟨(some 19), .load none (.t 18), none, 0, [2]⟩,
   ⟨(some 20), .mv (.t 0), none, 0, []⟩,
   ⟨(some 21), .nilck (.t 20), none, 0, [4]⟩,
   ⟨(some 22), .faddr 1 (.t 21), none, 0, [5]⟩,
   ⟨(some 23), .load none (.t 22), none, 0, [6]⟩,
   ⟨(some 24), .iaddr 4 (.t 19) (.t 23), none, 0, [3, 7]⟩,
   ⟨(some 25), .load (some 4) (.t 24), none, 0, [8]⟩,
   ⟨none, .store 4 (.t 2) (.t 25), none, 0, [9, 0, 1, 2, 3, 4, 5, 6, 7, 8, 9]⟩,
   ⟨(some 3), .mv (.c (.int .i64 0)), none, 0, [10, 0, 1, 2, 3, 4, 5, 6, 7, 8, 9, 10]⟩]
   [0, 1, 2, 4, 5, 6, 3, 7, 8, 9, 10, 11] [0, 1, 3, 7, 0, 16, 48, 112, 255, 511, 1023, 2047] [0, 16, 17, 18, 19, 20, 21, 22, 23, 24, 25])
 .ret))))
def hs120 : List (List Nat) := [[3], [], [6, 7], [5], [4, 8], [10, 11, 12, 13, 14], [9], [4, 15], [0, 1, 2, 4, 5, 6, 3, 7, 8, 9, 10, 11], [0, 1, 3, 7, 0, 16, 48, 112, 255, 511, 1023, 2047], [0, 16, 17, 18, 19, 20, 21, 22, 23, 24, 25]]
theorem ok120 : FnOk Try.prog 120 ic120 [.cell 2 (some 4), .t 3] 26 := ⟨Try.f120, hs120, Try.func120, by kernel_rfl, by kernel_rfl, by kernel_rfl, by kernel_rfl⟩

/-- (*signalbox/ring.Ring[signalbox/api.Frame]).at -/
def ic121 : IC :=
 (.seq (.region 0 [
   ⟨(some 4), .mv (.c (.int .i64 0)), none, 0, []⟩] [4])
 (.seq (.regionD 0 [
   ⟨(some 5), .mv (.t 0), none, 0, []⟩,
   ⟨(some 6), .nilck (.t 5), none, 0, [0]⟩,
   ⟨(some 7), .faddr 1 (.t 6), none, 0, [1]⟩,
   ⟨(some 8), .load none (.t 7), none, 0, [2]⟩,
   ⟨(some 9), .mv (.t 1), none, 0, []⟩,
   ⟨(some 10), .bin .add (.t 8) (.t 9), none, 0, [3, 4]⟩,
   ⟨(some 11), .mv (.t 0), none, 0, []⟩,
   ⟨(some 12), .nilck (.t 11), none, 0, [6]⟩,
   ⟨(some 13), .faddr 0 (.t 12), none, 0, [7]⟩,
   ⟨(some 14), .load none (.t 13), none, 0, [8]⟩,
   ⟨(some 15), .lens (.t 14), none, 0, [9]⟩,
   ⟨(some 16), .bin .rem (.t 10) (.t 15), none, 0, [5, 10]⟩,
   ⟨(some 4), .mv (.t 16), none, 0, [11, 0, 1, 2, 3, 4, 5, 6, 7, 8, 9, 10, 11]⟩]
   [0, 1, 2, 4, 6, 7, 8, 3, 5, 9, 10, 11, 12] [0, 1, 3, 7, 0, 31, 0, 64, 192, 448, 960, 2047, 4095] [0, 1, 5, 6, 7, 8, 9, 10, 11, 12, 13, 14, 15, 16])
 .ret))
def hs121 : List (List Nat) := [[4], [0, 1, 2, 4, 6, 7, 8, 3, 5, 9, 10, 11, 12], [0, 1, 3, 7, 0, 31, 0, 64, 192, 448, 960, 2047, 4095], [0, 1, 5, 6, 7, 8, 9, 10, 11, 12, 13, 14, 15, 16]]
theorem ok121 : FnOk Try.prog 121 ic121 [.t 4] 17 := ⟨Try.f121, hs121, Try.func121, by kernel_rfl, by kernel_rfl, by kernel_rfl, by kernel_rfl⟩

/-- signalbox/frame.Key -/
def ic126 : IC :=
 (.seq (.region 1 [
   ⟨(some 1), .box (.t 0), none, 0, []⟩,
   ⟨(some 2), .mv (.c (.int .i64 0)), none, 1, []⟩] [0, 2])
 (.seq (.seq (.region 0 [
   ⟨(some 4), .load (some 4) (.t 1), none, 0, []⟩,
   ⟨(some 5), .call (.c (.fn 156 [] [])) [(.t 4)], none, 0, [0]⟩,
   ⟨(some 6), .bin .neq (.t 5) (.c (.int .i64 0)), none, 0, [1]⟩,
   ⟨(some 7), .mv (.t 6), none, 0, [2, 1]⟩,
   ⟨(some 8), .load (some 4) (.t 1), (some (7, false)), 0, [3]⟩,
   ⟨(some 9), .call (.c (.fn 157 [] [])) [(.t 8), (.c (.int .i64 4))], (some (7, false)), 0, [4, 3, 3]⟩,
   ⟨(some 10), .pick (.t 7) (.c (.bool true)) (.t 9), none, 0, [3, 5]⟩] [4, 5, 6, 7, 8, 9])
 (.cond (.t 10) [10]
  (.seq (.region 0 [
    ⟨(some 2), .mv (.c (.int .i64 (-1))), none, 0, []⟩] [])
  .ret)
  .skip))
 (.seq (.region 0 [
   ⟨(some 3), .mv (.c (.int .i64 0)), none, 0, []⟩] [3])
 (.seq (.seq (.region 0 [
   ⟨(some 11), .load (some 4) (.t 1), none, 0, []⟩,
   ⟨(some 12), .call (.c (.fn 157 [] [])) [(.t 11), (.c (.int .i64 1))], none, 0, [0]⟩] [11])
 (.cond (.t 12) [12]
  (.seq (.region 0 [
    ⟨(some 13), .faddr 0 (.t 1), none, 0, []⟩,
    ⟨(some 14), .load none (.t 13), none, 0, [0]⟩,
    ⟨(some 15), .bin .shr (.t 14) (.c (.int .u64 18)), none, 0, [1]⟩,
    ⟨(some 16), .bin .shl (.t 15) (.c (.int .u64 2)), none, 0, [2]⟩,
    ⟨(some 17), .bin .or (.t 16) (.c (.int .i64 3)), none, 0, [3]⟩,
    ⟨(some 3), .mv (.t 17), none, 0, [4, 0, 1, 2, 3, 4]⟩] [13, 14, 15, 16, 17])
  (.seq (.region 0 [
    ⟨(some 18), .mv (.t 3), none, 0, []⟩,
    ⟨(some 19), .bin .shl (.t 18) (.c (.int .u64 18)), none, 0, [0]⟩,
    ⟨(some 20), .faddr 0 (.t 1), none, 0, []⟩,
    ⟨(some 21), .load none (.t 20), none, 0, [2]⟩,
    ⟨(some 22), .bin .and (.t 21) (.c (.int .i64 262143)), none, 0, [3]⟩,
    ⟨(some 23), .bin .or (.t 19) (.t 22), none, 0, [1, 4]⟩,
    ⟨(some 3), .mv (.t 23), none, 0, [5, 0, 1, 2, 3, 4, 5]⟩] [18, 19, 20, 21, 22, 23])
  (.region 0 [
    ⟨(some 24), .mv (.t 3), none, 0, []⟩,
    ⟨(some 25), .bin .shl (.t 24) (.c (.int .u64 1)), none, 0, [0]⟩,
    ⟨(some 26), .load (some 4) (.t 1), none, 0, []⟩,
    ⟨(some 27), .call (.c (.fn 158 [] [])) [(.t 26), (.c (.int .i64 2))], none, 0, [2]⟩,
    ⟨(some 28), .bin .or (.t 25) (.t 27), none, 0, [1, 3]⟩,
    ⟨(some 3), .mv (.t 28), none, 0, [4, 3, 0, 1, 2, 3, 4]⟩] [24, 25, 26, 27, 28])))
  (.seq (.regionD 0 [
    ⟨(some 29), .faddr 0 (.t 1), none, 0, []⟩,
    ⟨(some 30), .load none (.t 29), none, 0, [0]⟩,
    ⟨(some 31), .bin .shl (.t 30) (.c (.int .u64 2)), none, 0, [1]⟩,
    ⟨(some 32), .load (some 4) (.t 1), none, 0, []⟩,
    ⟨(some 33), .call (.c (.fn 158 [] [])) [(.t 32), (.c (.int .i64 2))], none, 0, [3]⟩,
    ⟨(some 34), .bin .shl (.t 33) (.c (.int .u64 1)), none, 0, [4]⟩,
    ⟨(some 35), .bin .or (.t 31) (.t 34), none, 0, [2, 5]⟩,
    ⟨(some 3), .mv (.t 35), none, 0, [6, 4, 0, 1, 2, 3, 4, 5, 6]⟩]
    [0, 1, 2, 3, 4, 5, 6, 7] [0, 1, 3, 0, 8, 24, 63, 127] [29, 30, 31, 32, 33, 34, 35])
  (.region 0 [
    ⟨(some 36), .mv (.t 3), none, 0, []⟩,
    ⟨(some 37), .bin .shl (.t 36) (.c (.int .u64 19)), none, 0, [0]⟩,
    ⟨(some 3), .mv (.t 37), none, 0, [1, 0, 1]⟩] [36, 37]))))
 (.seq (.region 0 [
   ⟨(some 38), .mv (.t 3), none, 0, []⟩,
   ⟨(some 39), .bin .shl (.t 38) (.c (.int .u64 1)), none, 0, [0]⟩,
   ⟨(some 40), .load (some 4) (.t 1), none, 0, []⟩,
   ⟨(some 41), .call (.c (.fn 158 [] [])) [(.t 40), (.c (.int .i64 8))], none, 0, [2]⟩,
   ⟨(some 42), .bin .or (.t 39) (.t 41), none, 0, [1, 3]⟩,
   ⟨(some 2), .mv (.t 42), none, 0, [4, 3, 0, 1, 2, 3, 4]⟩] [1, 3, 38, 39, 40, 41, 42])
 .ret)))))
def hs126 : List (List Nat) := [[0, 2], [4, 5, 6, 7, 8, 9], [10], [], [3], [11], [12], [13, 14, 15, 16, 17], [18, 19, 20, 21, 22, 23], [24, 25, 26, 27, 28], [0, 1, 2, 3, 4, 5, 6, 7], [0, 1, 3, 0, 8, 24, 63, 127], [29, 30, 31, 32, 33, 34, 35], [36, 37], [1, 3, 38, 39, 40, 41, 42]]
theorem ok126 : FnOk Try.prog 126 ic126 [.t 2] 43 := ⟨Try.f126, hs126, Try.func126, by kernel_rfl, by kernel_rfl, by kernel_rfl, by kernel_rfl⟩

/-- slices.ContainsFunc[[]signalbox/api.Filter,signalbox/api.Filter] -/
def ic127 : IC :=
 (.seq (.region 0 [
   ⟨(some 4), .mv (.c (.bool false)), none, 0, []⟩] [4])
 (.seq (.region 0 [
   ⟨(some 5), .mv (.t 0), none, 0, []⟩,
   ⟨(some 6), .mv (.t 1), none, 0, []⟩,
   ⟨(some 7), .call (.c (.fn 159 [] [])) [(.t 5), (.t 6)], none, 0, [0, 1]⟩,
   ⟨(some 8), .bin .geq (.t 7) (.c (.int .i64 0)), none, 0, [2]⟩,
   ⟨(some 4), .mv (.t 8), none, 0, [3, 2, 0, 1, 2, 3]⟩] [0, 1, 5, 6, 7, 8])
 .ret))
def hs127 : List (List Nat) := [[4], [0, 1, 5, 6, 7, 8]]
theorem ok127 : FnOk Try.prog 127 ic127 [.t 4] 9 := ⟨Try.f127, hs127, Try.func127, by kernel_rfl, by kernel_rfl, by kernel_rfl, by kernel_rfl⟩

/-- (*signalbox/ctrl.Ctrl).lets$1 -/
def ic128 : IC :=
 (.seq (.region 1 [
   ⟨(some 2), .box (.t 0), none, 0, []⟩,
   ⟨(some 3), .mv (.c (.bool false)), none, 1, []⟩] [0, 3])
 (.seq (.region 0 [
   ⟨(some 4), .load (some 3) (.t 2), none, 0, []⟩,
   ⟨(some 5), .load (some 4) (.t 1), none, 0, []⟩,
   ⟨(some 6), .call (.c (.fn 129 [] [])) [(.t 4), (.t 5)], none, 0, [0, 1]⟩,
   ⟨(some 3), .mv (.t 6), none, 0, [2, 2, 0, 1, 2]⟩] [1, 2, 4, 5, 6])
 .ret))
def hs128 : List (List Nat) := [[0, 3], [1, 2, 4, 5, 6]]
theorem ok128 : FnOk Try.prog 128 ic128 [.t 3] 7 := ⟨Try.f128, hs128, Try.func128, by kernel_rfl, by kernel_rfl, by kernel_rfl, by kernel_rfl⟩

/-- signalbox/match.Match -/
def ic129 : IC :=
 (.seq (.region 2 [
   ⟨(some 2), .box (.t 0), none, 0, []⟩,
   ⟨(some 3), .box (.t 1), none, 1, []⟩,
   ⟨(some 4), .mv (.c (.bool false)), none, 2, []⟩] [0, 1, 4])
 (.seq (.regionD 0 [
   ⟨(some 5), .load (some 4) (.t 3), none, 0, []⟩,
   ⟨(some 6), .call (.c (.fn 156 [] [])) [(.t 5)], none, 0, [0]⟩,
   ⟨(some 7), .bin .eql (.t 6) (.c (.int .i64 0)), none, 0, [1]⟩,
   ⟨(some 8), .mv (.t 7), none, 0, [2, 1]⟩,
   ⟨(some 9), .faddr 1 (.t 3), (some (8, true)), 0, [3]⟩,
   ⟨(some 10), .load none (.t 9), (some (8, true)), 0, [4, 3]⟩,
   ⟨(some 11), .bin .and (.t 10) (.c (.int .i64 4)), (some (8, true)), 0, [5, 3]⟩,
   ⟨(some 12), .bin .eql (.t 11) (.c (.int .i64 0)), (some (8, true)), 0, [6, 3]⟩,
   ⟨(some 13), .pick (.t 8) (.t 12) (.c (.bool false)), none, 0, [3, 7]⟩,
   ⟨(some 14), .mv (.t 13), none, 0, [8, 3]⟩,
   ⟨(some 15), .load (some 3) (.t 2), (some (14, true)), 0, [9]⟩,
   ⟨(some 16), .load (some 4) (.t 3), (some (14, true)), 0, [9]⟩,
   ⟨(some 17), .call (.c (.fn 161 [] [])) [(.t 16)], (some (14, true)), 0, [11, 9, 9]⟩,
   ⟨(some 18), .call (.c (.fn 160 [] [])) [(.t 15), (.t 17)], (some (14, true)), 0, [10, 12, 12, 9]⟩,
   ⟨(some 19), .pick (.t 14) (.t 18) (.c (.bool false)), none, 0, [9, 13]⟩,
   ⟨(some 4), .mv (.t 19), none, 0, [14, 13, 0, 1, 2, 3, 4, 5, 6, 7, 8, 9, 10, 11, 12, 13, 14]⟩]
   [0, 1, 2, 3, 4, 5, 6, 7, 8, 9, 10, 11, 12, 13, 14, 15] [0, 1, 3, 7, 15, 31, 63, 127, 255, 511, 1023, 1023, 3071, 8191, 16383, 32767] [2, 3, 5, 6, 7, 8, 9, 10, 11, 12, 13, 14, 15, 16, 17, 18, 19])
 .ret))
def hs129 : List (List Nat) := [[0, 1, 4], [0, 1, 2, 3, 4, 5, 6, 7, 8, 9, 10, 11, 12, 13, 14, 15], [0, 1, 3, 7, 15, 31, 63, 127, 255, 511, 1023, 1023, 3071, 8191, 16383, 32767], [2, 3, 5, 6, 7, 8, 9, 10, 11, 12, 13, 14, 15, 16, 17, 18, 19]]
theorem ok129 : FnOk Try.prog 129 ic129 [.t 4] 20 := ⟨Try.f129, hs129, Try.func129, by kernel_rfl, by kernel_rfl, by kernel_rfl, by kernel_rfl⟩

/-- slices.IndexFunc[[]signalbox/box.cell,signalbox/box.cell] -/
def ic144_b1 : IC :=
 (.seq (.region 0 [
   ⟨(some 9), .bin .lss (.t 8) (.t 7), none, 0, []⟩] [])
 (.seq (.cond (.t 9) [9]
  .skip
  (.exit 0))
 (.seq (.block 1 (.seq (.region 0 [
   ⟨(some 10), .mv (.t 8), none, 0, []⟩,
   ⟨(some 5), .mv (.t 10), none, 0, [0, 0]⟩] [10])
 (.seq (.region 0 [
   ⟨(some 11), .mv (.t 1), none, 0, []⟩,
   ⟨(some 12), .mv (.t 0), none, 0, []⟩,
   ⟨(some 13), .mv (.t 5), none, 0, []⟩,
   ⟨(some 14), .iaddr 9 (.t 12) (.t 13), none, 0, [1, 2]⟩,
   ⟨(some 15), .load (some 9) (.t 14), none, 0, [3]⟩,
   ⟨(some 16), .call (.t 11) [(.t 15)], none, 0, [0, 4]⟩] [11, 12, 13, 14, 15])
 (.cond (.t 16) [16]
  (.seq (.region 0 [
    ⟨(some 17), .mv (.t 5), none, 0, []⟩,
    ⟨(some 4), .mv (.t 17), none, 0, [0, 0]⟩] [5, 17])
  .ret)
  .skip))))
 (.region 0 [
   ⟨(some 18), .bin .add (.t 8) (.c (.int .i64 1)), none, 0, []⟩,
   ⟨(some 8), .mv (.t 18), none, 0, [0]⟩] [18]))))
def ic144_l1 : IC := .loop [4, 5, 6, 9, 10, 11, 12, 13, 14, 15, 16, 17, 18] ic144_b1
def ic144 : IC :=
 (.seq (.region 0 [
   ⟨(some 4), .mv (.c (.int .i64 0)), none, 0, []⟩] [4])
 (.seq (.seq (.region 0 [
   ⟨(some 6), .mv (.t 0), none, 0, []⟩,
   ⟨(some 7), .lens (.t 6), none, 0, [0]⟩,
   ⟨(some 8), .mv (.c (.int .i64 0)), none, 0, []⟩] [6])
 (.block 0 ic144_l1))
 (.seq (.region 0 [
   ⟨(some 4), .mv (.c (.int .i64 (-1))), none, 0, []⟩] [])
 .ret)))
def hs144 : List (List Nat) := [[4], [6], [4, 5, 6, 9, 10, 11, 12, 13, 14, 15, 16, 17, 18], [], [9], [10], [11, 12, 13, 14, 15], [16], [5, 17], [18], []]
theorem ok144 : FnOk Try.prog 144 ic144 [.t 4] 19 := ⟨Try.f144, hs144, Try.func144, by kernel_rfl, by kernel_rfl, by kernel_rfl, by kernel_rfl⟩

/-- (*signalbox/box.Boxes).Put$1 -/
def ic145 : IC :=
 (.seq (.region 1 [
   ⟨(some 1), .box (.t 0), none, 0, []⟩,
   ⟨(some 2), .mv (.c (.bool false)), none, 1, []⟩] [0, 2])
 (.seq (.region 0 [
   ⟨(some 3), .faddr 0 (.t 1), none, 0, []⟩,
   ⟨(some 4), .load none (.t 3), none, 0, [0]⟩,
   ⟨(some 5), .bin .eql (.t 4) (.c (.int .i64 0)), none, 0, [1]⟩,
   ⟨(some 2), .mv (.t 5), none, 0, [2, 0, 1, 2]⟩] [1, 3, 4, 5])
 .ret))
def hs145 : List (List Nat) := [[0, 2], [1, 3, 4, 5]]
theorem ok145 : FnOk Try.prog 145 ic145 [.t 2] 6 := ⟨Try.f145, hs145, Try.func145, by kernel_rfl, by kernel_rfl, by kernel_rfl, by kernel_rfl⟩

/-- (*signalbox/box.Boxes).Best$1 -/
def ic146 : IC :=
 (.seq (.region 2 [
   ⟨(some 2), .box (.t 0), none, 0, []⟩,
   ⟨(some 3), .box (.t 1), none, 1, []⟩,
   ⟨(some 4), .mv (.c (.bool false)), none, 2, []⟩] [0, 1, 4])
 (.seq (.regionD 0 [
   ⟨(some 7), .faddr 1 (.t 2), none, 0, []⟩,
   ⟨(some 8), .faddr 0 (.t 7), none, 0, [0]⟩,
   ⟨(some 9), .load (some 4) (.t 8), none, 0, [1]⟩,
   ⟨(some 10), .call (.c (.fn 126 [] [])) [(.t 9)], none, 0, [2]⟩,
   ⟨(some 11), .faddr 1 (.t 3), none, 0, []⟩,
   ⟨(some 12), .faddr 0 (.t 11), none, 0, [4]⟩,
   ⟨(some 13), .load (some 4) (.t 12), none, 0, [5]⟩,
   ⟨(some 14), .call (.c (.fn 126 [] [])) [(.t 13)], none, 0, [6, 3]⟩,
   ⟨(some 5), .mv (.t 10), none, 0, [3, 7, 0, 1, 2, 3]⟩,
   ⟨(some 6), .mv (.t 14), none, 0, [7, 8, 0, 1, 2, 3, 4, 5, 6, 7, 8]⟩]
   [0, 1, 4, 5, 2, 6, 3, 7, 8, 9] [0, 1, 3, 7, 0, 16, 48, 127, 255, 511] [7, 8, 9, 10, 11, 12, 13, 14])
 (.seq (.region 0 [
   ⟨(some 15), .mv (.t 5), none, 0, []⟩,
   ⟨(some 16), .mv (.t 6), none, 0, []⟩,
   ⟨(some 17), .bin .lss (.t 15) (.t 16), none, 0, [0, 1]⟩,
   ⟨(some 18), .mv (.t 17), none, 0, [2]⟩,
   ⟨(some 19), .mv (.t 5), (some (18, false)), 0, [3]⟩,
   ⟨(some 20), .mv (.t 6), (some (18, false)), 0, [3]⟩,
   ⟨(some 21), .bin .eql (.t 19) (.t 20), (some (18, false)), 0, [4, 5, 3]⟩,
   ⟨(some 22), .mv (.t 21), (some (18, false)), 0, [6, 3, 3]⟩,
   ⟨(some 23), .faddr 8 (.t 2), (some (22, true)), 0, [7]⟩,
   ⟨(some 24), .load none (.t 23), (some (22, true)), 0, [8, 7]⟩,
   ⟨(some 25), .faddr 8 (.t 3), (some (22, true)), 0, [7]⟩,
   ⟨(some 26), .load none (.t 25), (some (22, true)), 0, [10, 7]⟩,
   ⟨(some 27), .bin .lss (.t 24) (.t 26), (some (22, true)), 0, [9, 11, 7]⟩,
   ⟨(some 28), .pick (.t 22) (.t 27) (.c (.bool false)), (some (18, false)), 0, [7, 12, 3]⟩,
   ⟨(some 29), .pick (.t 18) (.c (.bool true)) (.t 28), none, 0, [3, 13]⟩,
   ⟨(some 4), .mv (.t 29), none, 0, [14, 7, 0, 1, 2, 3, 4, 5, 6, 7, 8, 9, 10, 11, 12, 13, 14]⟩] [2, 3, 5, 6, 15, 16, 17, 18, 19, 20, 21, 22, 23, 24, 25, 26, 27, 28, 29])
 .ret)))
def hs146 : List (List Nat) := [[0, 1, 4], [0, 1, 4, 5, 2, 6, 3, 7, 8, 9], [0, 1, 3, 7, 0, 16, 48, 127, 255, 511], [7, 8, 9, 10, 11, 12, 13, 14], [2, 3, 5, 6, 15, 16, 17, 18, 19, 20, 21, 22, 23, 24, 25, 26, 27, 28, 29]]
theorem ok146 : FnOk Try.prog 146 ic146 [.t 4] 30 := ⟨Try.f146, hs146, Try.func146, by kernel_rfl, by kernel_rfl, by kernel_rfl, by kernel_rfl⟩

/-- slices.Clone[[]int,int] -/
def ic147 : IC :=
 (.seq (.region 0 [
   ⟨(some 2), .mv (.c .nils), none, 0, []⟩] [2])
 (.seq (.seq (.region 0 [
   ⟨(some 3), .mv (.t 0), none, 0, []⟩,
   ⟨(some 4), .eqv false .slice (.t 3) (.c .nils), none, 0, [0]⟩] [3])
 (.cond (.t 4) [4]
  (.seq (.region 0 [
    ⟨(some 2), .mv (.c .nils), none, 0, []⟩] [])
  .ret)
  .skip))
 (.seq (.region 2 [
   ⟨(some 5), .bslice 1 [], none, 0, []⟩,
   ⟨(some 6), .mv (.t 0), none, 1, []⟩,
   ⟨(some 7), .app 1 8 (.t 5) (.t 6), none, 1, [0, 1]⟩,
   ⟨(some 2), .mv (.t 7), none, 2, [2, 2, 0, 1, 2]⟩] [0, 5, 6, 7])
 .ret)))
def hs147 : List (List Nat) := [[2], [3], [4], [], [0, 5, 6, 7]]
theorem ok147 : FnOk Try.prog 147 ic147 [.t 2] 8 := ⟨Try.f147, hs147, Try.func147, by kernel_rfl, by kernel_rfl, by kernel_rfl, by kernel_rfl⟩

/-- (*signalbox/box.Boxes).ends -/
def ic148 : IC :=
 (.seq (.region 0 [
   ⟨(some 6), .mv (.c (.int .i64 0)), none, 0, []⟩] [6])
 (.seq (.block 0 (.seq (.block 3 (.block 2 (.seq (.block 1 (.seq (.seq (.seq (.region 0 [
   ⟨(some 8), .mv (.t 0), none, 0, []⟩,
   ⟨(some 9), .eqv false .ptr (.t 8) (.c .nilp), none, 0, [0]⟩,
   ⟨(some 7), .mv (.t 9), none, 0, [1]⟩] [8, 9])
 (.cond (.t 7) [7]
  (.exit 1)
  .skip))
 (.seq (.seq (.region 0 [
   ⟨(some 11), .mv (.t 1), none, 0, []⟩,
   ⟨(some 12), .bin .lss (.t 11) (.c (.int .i64 0)), none, 0, [0]⟩,
   ⟨(some 13), .mv (.t 12), none, 0, [1]⟩,
   ⟨(some 14), .mv (.t 1), (some (13, false)), 0, [2]⟩,
   ⟨(some 15), .mv (.t 0), (some (13, false)), 0, [2]⟩,
   ⟨(some 16), .nilck (.t 15), (some (13, false)), 0, [4, 2]⟩,
   ⟨(some 17), .faddr 0 (.t 16), (some (13, false)), 0, [5, 2]⟩,
   ⟨(some 18), .load none (.t 17), (some (13, false)), 0, [6, 2]⟩,
   ⟨(some 19), .lens (.t 18), (some (13, false)), 0, [7, 2]⟩,
   ⟨(some 20), .bin .geq (.t 14) (.t 19), (some (13, false)), 0, [3, 8, 2]⟩,
   ⟨(some 21), .pick (.t 13) (.c (.bool true)) (.t 20), none, 0, [2, 9]⟩,
   ⟨(some 10), .mv (.t 21), none, 0, [10, 2]⟩] [11, 12, 13, 14, 15, 16, 17, 18, 19, 20, 21])
 (.cond (.t 10) [10]
  (.exit 2)
  .skip))
 (.seq (.region 0 [
   ⟨(some 23), .mv (.t 0), none, 0, []⟩,
   ⟨(some 24), .nilck (.t 23), none, 0, [0]⟩,
   ⟨(some 25), .faddr 0 (.t 24), none, 0, [1]⟩,
   ⟨(some 26), .load none (.t 25), none, 0, [2]⟩,
   ⟨(some 27), .mv (.t 1), none, 0, []⟩,
   ⟨(some 28), .iaddr 9 (.t 26) (.t 27), none, 0, [3, 4]⟩,
   ⟨(some 29), .faddr 0 (.t 28), none, 0, [5]⟩,
   ⟨(some 30), .load none (.t 29), none, 0, [6]⟩,
   ⟨(some 31), .bin .neq (.t 30) (.c (.int .i64 1)), none, 0, [7]⟩,
   ⟨(some 22), .mv (.t 31), none, 0, [8]⟩] [23, 24, 25, 26, 27, 28, 29, 30, 31])
 (.cond (.t 22) [22]
  (.exit 3)
  .skip))))
 (.exit 0)))
 (.seq (.seq (.region 0 [
   ⟨(some 6), .mv (.c (.int .i64 1)), none, 0, []⟩] [])
 .ret)
 (.exit 0)))))
 (.seq (.seq (.region 0 [
   ⟨(some 6), .mv (.c (.int .i64 2)), none, 0, []⟩] [])
 .ret)
 (.exit 0))))
 (.seq (.region 0 [
   ⟨(some 32), .mv (.t 0), none, 0, []⟩,
   ⟨(some 33), .nilck (.t 32), none, 0, [0]⟩,
   ⟨(some 34), .faddr 0 (.t 33), none, 0, [1]⟩,
   ⟨(some 35), .load none (.t 34), none, 0, [2]⟩,
   ⟨(some 36), .mv (.t 1), none, 0, []⟩,
   ⟨(some 37), .mv (.t 2), none, 0, []⟩,
   ⟨(some 38), .iaddr 9 (.t 35) (.t 36), none, 0, [3, 4, 0, 1, 2, 3, 4, 5]⟩,
   ⟨(some 39), .faddr 0 (.t 38), none, 0, [6, 0, 1, 2, 3, 4, 5]⟩,
   ⟨none, .store 1 (.t 39) (.t 37), none, 0, [7, 5, 0, 1, 2, 3, 4, 5]⟩] [2, 32, 33, 34, 35, 36, 37, 38, 39])
 (.seq (.region 2 [
   ⟨(some 40), .mv (.t 0), none, 0, []⟩,
   ⟨(some 41), .mv (.t 0), none, 0, []⟩,
   ⟨(some 42), .nilck (.t 41), none, 0, [1]⟩,
   ⟨(some 43), .faddr 1 (.t 42), none, 0, [2]⟩,
   ⟨(some 44), .load none (.t 43), none, 0, [3]⟩,
   ⟨(some 45), .mv (.t 1), none, 0, []⟩,
   ⟨(some 46), .bslice 1 [(.t 45)], none, 0, [5]⟩,
   ⟨(some 47), .app 1 8 (.t 44) (.t 46), none, 1, [4, 6]⟩,
   ⟨(some 48), .nilck (.t 40), none, 2, [0, 0, 1, 2, 3, 4, 5, 6, 7]⟩,
   ⟨(some 49), .faddr 1 (.t 48), none, 2, [8, 0, 1, 2, 3, 4, 5, 6, 7]⟩,
   ⟨none, .store 1 (.t 49) (.t 47), none, 2, [9, 7, 7, 0, 1, 2, 3, 4, 5, 6, 7]⟩] [0, 1, 40, 41, 42, 43, 44, 45, 46, 47, 48, 49])
 (.seq (.region 0 [
   ⟨(some 6), .mv (.c (.int .i64 0)), none, 0, []⟩] [])
 .ret)))))
def hs148 : List (List Nat) := [[6], [8, 9], [7], [11, 12, 13, 14, 15, 16, 17, 18, 19, 20, 21], [10], [23, 24, 25, 26, 27, 28, 29, 30, 31], [22], [], [], [2, 32, 33, 34, 35, 36, 37, 38, 39], [0, 1, 40, 41, 42, 43, 44, 45, 46, 47, 48, 49], []]
theorem ok148 : FnOk Try.prog 148 ic148 [.t 6] 50 := ⟨Try.f148, hs148, Try.func148, by kernel_rfl, by kernel_rfl, by kernel_rfl, by kernel_rfl⟩

/-- signalbox/frame.Right -/
def ic156 : IC :=
 (.seq (.region 1 [
   ⟨(some 1), .box (.t 0), none, 0, []⟩,
   ⟨(some 2), .mv (.c (.int .i64 0)), none, 1, []⟩] [0, 2])
 (.seq (.region 0 [
   ⟨(some 4), .faddr 2 (.t 1), none, 0, []⟩,
   ⟨(some 5), .load none (.t 4), none, 0, [0]⟩,
   ⟨(some 3), .mv (.t 5), none, 0, [1, 0, 1]⟩] [4, 5])
 (.seq (.block 0 (.seq (.block 3 (.seq (.block 2 (.block 1 (.seq (.seq (.seq (.regionD 0 [
   ⟨(some 7), .load (some 4) (.t 1), none, 0, []⟩,
   ⟨(some 8), .call (.c (.fn 167 [] [])) [(.t 7)], none, 0, [0]⟩,
   ⟨(some 9), .un .not (.t 8), none, 0, [1]⟩,
   ⟨(some 10), .mv (.t 9), none, 0, [2, 1]⟩,
   ⟨(some 11), .faddr 0 (.t 1), (some (10, false)), 0, [3]⟩,
   ⟨(some 12), .load none (.t 11), (some (10, false)), 0, [4, 3]⟩,
   ⟨(some 13), .bin .lss (.t 12) (.c (.int .i64 0)), (some (10, false)), 0, [5, 3]⟩,
   ⟨(some 14), .pick (.t 10) (.c (.bool true)) (.t 13), none, 0, [3, 6]⟩,
   ⟨(some 15), .mv (.t 14), none, 0, [7, 3]⟩,
   ⟨(some 16), .faddr 0 (.t 1), (some (15, false)), 0, [8]⟩,
   ⟨(some 17), .load none (.t 16), (some (15, false)), 0, [9, 8]⟩,
   ⟨(some 18), .load (some 4) (.t 1), (some (15, false)), 0, [8]⟩,
   ⟨(some 19), .call (.c (.fn 168 [] [])) [(.t 18)], (some (15, false)), 0, [11, 8, 8]⟩,
   ⟨(some 20), .bin .gtr (.t 17) (.t 19), (some (15, false)), 0, [10, 12, 8]⟩,
   ⟨(some 21), .pick (.t 15) (.c (.bool true)) (.t 20), none, 0, [8, 13]⟩,
   ⟨(some 6), .mv (.t 21), none, 0, [14, 12]⟩]
   [0, 1, 2, 3, 4, 5, 6, 7, 8, 9, 10, 11, 12, 13, 14, 15] [0, 1, 3, 7, 15, 31, 63, 127, 255, 511, 1023, 511, 2559, 8191, 16383, 32767] [7, 8, 9, 10, 11, 12, 13, 14, 15, 16, 17, 18, 19, 20, 21])
 (.cond (.t 6) [6]
  (.exit 1)
  .skip))
 (.seq (.seq (.region 0 [
   ⟨(some 23), .load (some 4) (.t 1), none, 0, []⟩,
   ⟨(some 24), .call (.c (.fn 169 [] [])) [(.t 23)], none, 0, [0]⟩,
   ⟨(some 25), .un .not (.t 24), none, 0, [1]⟩,
   ⟨(some 22), .mv (.t 25), none, 0, [2, 1]⟩] [23, 24, 25])
 (.cond (.t 22) [22]
  (.exit 2)
  .skip))
 (.seq (.region 0 [
   ⟨(some 27), .load (some 4) (.t 1), none, 0, []⟩,
   ⟨(some 28), .call (.c (.fn 157 [] [])) [(.t 27), (.c (.int .i64 2))], none, 0, [0]⟩,
   ⟨(some 26), .mv (.t 28), none, 0, [1, 1]⟩] [27, 28])
 (.cond (.t 26) [26]
  (.exit 3)
  .skip))))
 (.exit 0))))
 (.seq (.seq (.region 0 [
   ⟨(some 2), .mv (.c (.int .i64 4)), none, 0, []⟩] [])
 .ret)
 (.exit 0))))
 (.seq (.region 0 [
   ⟨(some 3), .mv (.c (.int .i64 0)), none, 0, []⟩] [])
 (.exit 0))))
 (.seq (.seq (.region 0 [
   ⟨(some 29), .faddr 3 (.t 1), none, 0, []⟩,
   ⟨(some 30), .load none (.t 29), none, 0, [0]⟩,
   ⟨(some 31), .lenst (.t 30), none, 0, [1]⟩,
   ⟨(some 32), .mv (.t 3), none, 0, []⟩,
   ⟨(some 33), .bin .neq (.t 31) (.t 32), none, 0, [2, 3]⟩] [1, 3, 29, 30, 31, 32])
 (.cond (.t 33) [33]
  (.seq (.region 0 [
    ⟨(some 2), .mv (.c (.int .i64 4)), none, 0, []⟩] [])
  .ret)
  .skip))
 (.seq (.region 0 [
   ⟨(some 2), .mv (.c (.int .i64 0)), none, 0, []⟩] [])
 .ret)))))
def hs156 : List (List Nat) := [[0, 2], [4, 5], [0, 1, 2, 3, 4, 5, 6, 7, 8, 9, 10, 11, 12, 13, 14, 15], [0, 1, 3, 7, 15, 31, 63, 127, 255, 511, 1023, 511, 2559, 8191, 16383, 32767], [7, 8, 9, 10, 11, 12, 13, 14, 15, 16, 17, 18, 19, 20, 21], [6], [23, 24, 25], [22], [27, 28], [26], [], [], [1, 3, 29, 30, 31, 32], [33], [], []]
theorem ok156 : FnOk Try.prog 156 ic156 [.t 2] 34 := ⟨Try.f156, hs156, Try.func156, by kernel_rfl, by kernel_rfl, by kernel_rfl, by kernel_rfl⟩

/-- signalbox/frame.has -/
def ic157 : IC :=
 (.seq (.region 1 [
   ⟨(some 2), .box (.t 0), none, 0, []⟩,
   ⟨(some 4), .mv (.c (.bool false)), none, 1, []⟩] [0, 4])
 (.seq (.region 0 [
   ⟨(some 5), .faddr 1 (.t 2), none, 0, []⟩,
   ⟨(some 6), .load none (.t 5), none, 0, [0]⟩,
   ⟨(some 7), .mv (.t 1), none, 0, []⟩,
   ⟨(some 8), .bin .and (.t 6) (.t 7), none, 0, [1, 2]⟩,
   ⟨(some 9), .bin .neq (.t 8) (.c (.int .i64 0)), none, 0, [3]⟩,
   ⟨(some 4), .mv (.t 9), none, 0, [4, 0, 1, 2, 3, 4]⟩] [1, 2, 5, 6, 7, 8, 9])
 .ret))
def hs157 : List (List Nat) := [[0, 4], [1, 2, 5, 6, 7, 8, 9]]
theorem ok157 : FnOk Try.prog 157 ic157 [.t 4] 10 := ⟨Try.f157, hs157, Try.func157, by kernel_rfl, by kernel_rfl, by kernel_rfl, by kernel_rfl⟩

/-- signalbox/frame.bit -/
def ic158 : IC :=
 (.seq (.region 1 [
   ⟨(some 2), .box (.t 0), none, 0, []⟩,
   ⟨(some 4), .mv (.c (.int .i64 0)), none, 1, []⟩] [0, 4])
 (.seq (.seq (.region 0 [
   ⟨(some 5), .load (some 4) (.t 2), none, 0, []⟩,
   ⟨(some 6), .mv (.t 1), none, 0, []⟩,
   ⟨(some 7), .call (.c (.fn 157 [] [])) [(.t 5), (.t 6)], none, 0, [0, 1]⟩] [1, 2, 5, 6])
 (.cond (.t 7) [7]
  (.seq (.region 0 [
    ⟨(some 4), .mv (.c (.int .i64 1)), none, 0, []⟩] [])
  .ret)
  .skip))
 (.seq (.region 0 [
   ⟨(some 4), .mv (.c (.int .i64 0)), none, 0, []⟩] [])
 .ret)))
def hs158 : List (List Nat) := [[0, 4], [1, 2, 5, 6], [7], [], []]
theorem ok158 : FnOk Try.prog 158 ic158 [.t 4] 8 := ⟨Try.f158, hs158, Try.func158, by kernel_rfl, by kernel_rfl, by kernel_rfl, by kernel_rfl⟩

/-- slices.IndexFunc[[]signalbox/api.Filter,signalbox/api.Filter] -/
def ic159_b1 : IC :=
 (.seq (.region 0 [
   ⟨(some 9), .bin .lss (.t 8) (.t 7), none, 0, []⟩] [])
 (.seq (.cond (.t 9) [9]
  .skip
  (.exit 0))
 (.seq (.block 1 (.seq (.region 0 [
   ⟨(some 10), .mv (.t 8), none, 0, []⟩,
   ⟨(some 5), .mv (.t 10), none, 0, [0, 0]⟩] [10])
 (.seq (.region 0 [
   ⟨(some 11), .mv (.t 1), none, 0, []⟩,
   ⟨(some 12), .mv (.t 0), none, 0, []⟩,
   ⟨(some 13), .mv (.t 5), none, 0, []⟩,
   ⟨(some 14), .iaddr 3 (.t 12) (.t 13), none, 0, [1, 2]⟩,
   ⟨(some 15), .load (some 3) (.t 14), none, 0, [3]⟩,
   ⟨(some 16), .call (.t 11) [(.t 15)], none, 0, [0, 4]⟩] [11, 12, 13, 14, 15])
 (.cond (.t 16) [16]
  (.seq (.region 0 [
    ⟨(some 17), .mv (.t 5), none, 0, []⟩,
    ⟨(some 4), .mv (.t 17), none, 0, [0, 0]⟩] [5, 17])
  .ret)
  .skip))))
 (.region 0 [
   ⟨(some 18), .bin .add (.t 8) (.c (.int .i64 1)), none, 0, []⟩,
   ⟨(some 8), .mv (.t 18), none, 0, [0]⟩] [18]))))
def ic159_l1 : IC := .loop [4, 5, 6, 9, 10, 11, 12, 13, 14, 15, 16, 17, 18] ic159_b1
def ic159 : IC :=
 (.seq (.region 0 [
   ⟨(some 4), .mv (.c (.int .i64 0)), none, 0, []⟩] [4])
 (.seq (.seq (.region 0 [
   ⟨(some 6), .mv (.t 0), none, 0, []⟩,
   ⟨(some 7), .lens (.t 6), none, 0, [0]⟩,
   ⟨(some 8), .mv (.c (.int .i64 0)), none, 0, []⟩] [6])
 (.block 0 ic159_l1))
 (.seq (.region 0 [
   ⟨(some 4), .mv (.c (.int .i64 (-1))), none, 0, []⟩] [])
 .ret)))
def hs159 : List (List Nat) := [[4], [6], [4, 5, 6, 9, 10, 11, 12, 13, 14, 15, 16, 17, 18], [], [9], [10], [11, 12, 13, 14, 15], [16], [5, 17], [18], []]
theorem ok159 : FnOk Try.prog 159 ic159 [.t 4] 19 := ⟨Try.f159, hs159, Try.func159, by kernel_rfl, by kernel_rfl, by kernel_rfl, by kernel_rfl⟩

/-- signalbox/match.Hit -/
def ic160 : IC :=
 (.seq (.region 1 [
   ⟨(some 2), .box (.t 0), none, 0, []⟩,
   ⟨(some 4), .mv (.c (.bool false)), none, 1, []⟩] [0, 4])
 (.seq (.region 0 [
   ⟨(some 5), .mv (.t 1), none, 0, []⟩,
   ⟨(some 6), .faddr 0 (.t 2), none, 0, []⟩,
   ⟨(some 7), .load none (.t 6), none, 0, [1]⟩,
   ⟨(some 8), .bin .xor (.t 5) (.t 7), none, 0, [0, 2]⟩,
   ⟨(some 9), .faddr 1 (.t 2), none, 0, []⟩,
   ⟨(some 10), .load none (.t 9), none, 0, [4]⟩,
   ⟨(some 11), .bin .and (.t 8) (.t 10), none, 0, [3, 5]⟩,
   ⟨(some 12), .bin .eql (.t 11) (.c (.int .u32 0)), none, 0, [6]⟩,
   ⟨(some 13), .faddr 2 (.t 2), none, 0, []⟩,
   ⟨(some 14), .load none (.t 13), none, 0, [8]⟩,
   ⟨(some 15), .eqv true .bool (.t 12) (.t 14), none, 0, [7, 9]⟩,
   ⟨(some 4), .mv (.t 15), none, 0, [10, 0, 1, 2, 3, 4, 5, 6, 7, 8, 9, 10]⟩] [1, 2, 5, 6, 7, 8, 9, 10, 11, 12, 13, 14, 15])
 .ret))
def hs160 : List (List Nat) := [[0, 4], [1, 2, 5, 6, 7, 8, 9, 10, 11, 12, 13, 14, 15]]
theorem ok160 : FnOk Try.prog 160 ic160 [.t 4] 16 := ⟨Try.f160, hs160, Try.func160, by kernel_rfl, by kernel_rfl, by kernel_rfl, by kernel_rfl⟩

/-- signalbox/frame.Word -/
def ic161 : IC :=
 (.seq (.region 1 [
   ⟨(some 1), .box (.t 0), none, 0, []⟩,
   ⟨(some 2), .mv (.c (.int .u32 0)), none, 1, []⟩] [0, 2])
 (.seq (.seq (.region 0 [
   ⟨(some 4), .load (some 4) (.t 1), none, 0, []⟩,
   ⟨(some 5), .call (.c (.fn 156 [] [])) [(.t 4)], none, 0, [0]⟩,
   ⟨(some 6), .bin .neq (.t 5) (.c (.int .i64 0)), none, 0, [1]⟩] [4, 5])
 (.cond (.t 6) [6]
  (.seq (.region 0 [
    ⟨(some 2), .mv (.c (.int .u32 0)), none, 0, []⟩] [])
  .ret)
  .skip))
 (.seq (.region 0 [
   ⟨(some 7), .faddr 0 (.t 1), none, 0, []⟩,
   ⟨(some 8), .load none (.t 7), none, 0, [0]⟩,
   ⟨(some 9), .cvi .u32 (.t 8), none, 0, [1]⟩,
   ⟨(some 3), .mv (.t 9), none, 0, [2, 0, 1, 2]⟩] [7, 8, 9])
 (.seq (.seq (.region 0 [
   ⟨(some 10), .load (some 4) (.t 1), none, 0, []⟩,
   ⟨(some 11), .call (.c (.fn 157 [] [])) [(.t 10), (.c (.int .i64 1))], none, 0, [0]⟩] [10])
 (.cond (.t 11) [11]
  (.region 0 [
    ⟨(some 12), .mv (.t 3), none, 0, []⟩,
    ⟨(some 13), .bin .or (.t 12) (.c (.int .u32 2147483648)), none, 0, [0]⟩,
    ⟨(some 3), .mv (.t 13), none, 0, [1, 0, 1]⟩] [12, 13])
  .skip))
 (.seq (.seq (.region 0 [
   ⟨(some 14), .load (some 4) (.t 1), none, 0, []⟩,
   ⟨(some 15), .call (.c (.fn 157 [] [])) [(.t 14), (.c (.int .i64 2))], none, 0, [0]⟩] [14])
 (.cond (.t 15) [15]
  (.region 0 [
    ⟨(some 16), .mv (.t 3), none, 0, []⟩,
    ⟨(some 17), .bin .or (.t 16) (.c (.int .u32 1073741824)), none, 0, [0]⟩,
    ⟨(some 3), .mv (.t 17), none, 0, [1, 0, 1]⟩] [16, 17])
  .skip))
 (.seq (.seq (.region 0 [
   ⟨(some 18), .load (some 4) (.t 1), none, 0, []⟩,
   ⟨(some 19), .call (.c (.fn 157 [] [])) [(.t 18), (.c (.int .i64 4))], none, 0, [0]⟩] [1, 18])
 (.cond (.t 19) [19]
  (.region 0 [
    ⟨(some 20), .mv (.t 3), none, 0, []⟩,
    ⟨(some 21), .bin .or (.t 20) (.c (.int .u32 536870912)), none, 0, [0]⟩,
    ⟨(some 3), .mv (.t 21), none, 0, [1, 0, 1]⟩] [20, 21])
  .skip))
 (.seq (.region 0 [
   ⟨(some 22), .mv (.t 3), none, 0, []⟩,
   ⟨(some 2), .mv (.t 22), none, 0, [0, 0]⟩] [3, 22])
 .ret)))))))
def hs161 : List (List Nat) := [[0, 2], [4, 5], [6], [], [7, 8, 9], [10], [11], [12, 13], [14], [15], [16, 17], [1, 18], [19], [20, 21], [3, 22]]
theorem ok161 : FnOk Try.prog 161 ic161 [.t 2] 23 := ⟨Try.f161, hs161, Try.func161, by kernel_rfl, by kernel_rfl, by kernel_rfl, by kernel_rfl⟩

/-- signalbox/frame.flags -/
def ic167 : IC :=
 (.seq (.region 1 [
   ⟨(some 1), .box (.t 0), none, 0, []⟩,
   ⟨(some 2), .mv (.c (.bool false)), none, 1, []⟩] [0, 2])
 (.seq (.block 0 (.seq (.region 0 [
   ⟨(some 4), .faddr 1 (.t 1), none, 0, []⟩,
   ⟨(some 5), .load none (.t 4), none, 0, [0]⟩,
   ⟨(some 6), .bin .lss (.t 5) (.c (.int .i64 0)), none, 0, [1]⟩,
   ⟨(some 7), .mv (.t 6), none, 0, [2]⟩,
   ⟨(some 8), .faddr 1 (.t 1), (some (7, false)), 0, [3]⟩,
   ⟨(some 9), .load none (.t 8), (some (7, false)), 0, [4, 3]⟩,
   ⟨(some 10), .bin .gtr (.t 9) (.c (.int .i64 63)), (some (7, false)), 0, [5, 3]⟩,
   ⟨(some 11), .pick (.t 7) (.c (.bool true)) (.t 10), none, 0, [3, 6]⟩,
   ⟨(some 3), .mv (.t 11), none, 0, [7, 3]⟩] [4, 5, 6, 7, 8, 9, 10, 11])
 (.cond (.t 3) [3]
  (.seq (.region 0 [
    ⟨(some 2), .mv (.c (.bool false)), none, 0, []⟩] [])
  .ret)
  (.seq (.region 0 [
    ⟨(some 13), .load (some 4) (.t 1), none, 0, []⟩,
    ⟨(some 14), .call (.c (.fn 157 [] [])) [(.t 13), (.c (.int .i64 4))], none, 0, [0]⟩,
    ⟨(some 12), .mv (.t 14), none, 0, [1, 1]⟩] [13, 14])
  (.cond (.t 12) [12]
   (.seq (.region 0 [
     ⟨(some 15), .faddr 1 (.t 1), none, 0, []⟩,
     ⟨(some 16), .load none (.t 15), none, 0, [0]⟩,
     ⟨(some 17), .bin .eql (.t 16) (.c (.int .i64 4)), none, 0, [1]⟩,
     ⟨(some 2), .mv (.t 17), none, 0, [2, 0, 1, 2]⟩] [1, 15, 16, 17])
   .ret)
   (.seq (.region 0 [
     ⟨(some 19), .load (some 4) (.t 1), none, 0, []⟩,
     ⟨(some 20), .call (.c (.fn 157 [] [])) [(.t 19), (.c (.int .i64 8))], none, 0, [0]⟩,
     ⟨(some 18), .mv (.t 20), none, 0, [1, 1]⟩] [19, 20])
   (.cond (.t 18) [18]
    (.seq (.region 0 [
      ⟨(some 21), .load (some 4) (.t 1), none, 0, []⟩,
      ⟨(some 22), .call (.c (.fn 157 [] [])) [(.t 21), (.c (.int .i64 2))], none, 0, [0]⟩,
      ⟨(some 23), .un .not (.t 22), none, 0, [1]⟩,
      ⟨(some 2), .mv (.t 23), none, 0, [2, 1, 0, 1, 2]⟩] [1, 21, 22, 23])
    .ret)
    .skip)))))))
 (.seq (.region 0 [
   ⟨(some 24), .load (some 4) (.t 1), none, 0, []⟩,
   ⟨(some 25), .call (.c (.fn 157 [] [])) [(.t 24), (.c (.int .i64 48))], none, 0, [0]⟩,
   ⟨(some 26), .un .not (.t 25), none, 0, [1]⟩,
   ⟨(some 2), .mv (.t 26), none, 0, [2, 1, 0, 1, 2]⟩] [1, 24, 25, 26])
 .ret)))
def hs167 : List (List Nat) := [[0, 2], [4, 5, 6, 7, 8, 9, 10, 11], [3], [], [13, 14], [12], [1, 15, 16, 17], [19, 20], [18], [1, 21, 22, 23], [1, 24, 25, 26]]
theorem ok167 : FnOk Try.prog 167 ic167 [.t 2] 27 := ⟨Try.f167, hs167, Try.func167, by kernel_rfl, by kernel_rfl, by kernel_rfl, by kernel_rfl⟩

/-- signalbox/frame.most -/
def ic168 : IC :=
 (.seq (.region 1 [
   ⟨(some 1), .box (.t 0), none, 0, []⟩,
   ⟨(some 2), .mv (.c (.int .i64 0)), none, 1, []⟩] [0, 2])
 (.seq (.seq (.region 0 [
   ⟨(some 3), .load (some 4) (.t 1), none, 0, []⟩,
   ⟨(some 4), .call (.c (.fn 157 [] [])) [(.t 3), (.c (.int .i64 5))], none, 0, [0]⟩] [1, 3])
 (.cond (.t 4) [4]
  (.seq (.region 0 [
    ⟨(some 2), .mv (.c (.int .i64 536870911)), none, 0, []⟩] [])
  .ret)
  .skip))
 (.seq (.region 0 [
   ⟨(some 2), .mv (.c (.int .i64 2047)), none, 0, []⟩] [])
 .ret)))
def hs168 : List (List Nat) := [[0, 2], [1, 3], [4], [], []]
theorem ok168 : FnOk Try.prog 168 ic168 [.t 2] 5 := ⟨Try.f168, hs168, Try.func168, by kernel_rfl, by kernel_rfl, by kernel_rfl, by kernel_rfl⟩

/-- signalbox/frame.long -/
def ic169 : IC :=
 (.seq (.region 1 [
   ⟨(some 1), .box (.t 0), none, 0, []⟩,
   ⟨(some 2), .mv (.c (.bool false)), none, 1, []⟩] [0, 2])
 (.seq (.block 0 (.seq (.region 0 [
   ⟨(some 6), .load (some 4) (.t 1), none, 0, []⟩,
   ⟨(some 7), .call (.c (.fn 157 [] [])) [(.t 6), (.c (.int .i64 4))], none, 0, [0]⟩,
   ⟨(some 5), .mv (.t 7), none, 0, [1, 1]⟩] [6, 7])
 (.cond (.t 5) [5]
  (.seq (.region 0 [
    ⟨(some 8), .faddr 2 (.t 1), none, 0, []⟩,
    ⟨(some 9), .load none (.t 8), none, 0, [0]⟩,
    ⟨(some 10), .bin .eql (.t 9) (.c (.int .i64 8)), none, 0, [1]⟩,
    ⟨(some 2), .mv (.t 10), none, 0, [2, 0, 1, 2]⟩] [1, 8, 9, 10])
  .ret)
  (.seq (.region 0 [
    ⟨(some 12), .load (some 4) (.t 1), none, 0, []⟩,
    ⟨(some 13), .call (.c (.fn 157 [] [])) [(.t 12), (.c (.int .i64 8))], none, 0, [0]⟩,
    ⟨(some 11), .mv (.t 13), none, 0, [1, 1]⟩] [12, 13])
  (.cond (.t 11) [11]
   (.seq (.region 0 [
     ⟨(some 15), .faddr 2 (.t 1), none, 0, []⟩,
     ⟨(some 16), .load none (.t 15), none, 0, [0]⟩,
     ⟨(some 17), .call (.c (.fn 172 [] [])) [(.t 16)], none, 0, [1]⟩,
     ⟨(some 14), .mv (.t 17), none, 0, [2]⟩,
     ⟨(some 18), .ext 0 (.t 14), none, 0, [3]⟩,
     ⟨(some 19), .ext 1 (.t 14), none, 0, [3]⟩,
     ⟨(some 3), .mv (.t 18), none, 0, [4, 2, 0, 1, 2, 3, 4]⟩,
     ⟨(some 4), .mv (.t 19), none, 0, [5, 6, 0, 1, 2, 3, 4, 5, 6]⟩] [1, 3, 14, 15, 16, 17, 18, 19])
   (.seq (.region 0 [
     ⟨(some 20), .mv (.t 4), none, 0, []⟩,
     ⟨(some 2), .mv (.t 20), none, 0, [0, 0]⟩] [4, 20])
   .ret))
   .skip)))))
 (.seq (.region 0 [
   ⟨(some 21), .faddr 2 (.t 1), none, 0, []⟩,
   ⟨(some 22), .load none (.t 21), none, 0, [0]⟩,
   ⟨(some 23), .bin .geq (.t 22) (.c (.int .i64 0)), none, 0, [1]⟩,
   ⟨(some 24), .mv (.t 23), none, 0, [2]⟩,
   ⟨(some 25), .faddr 2 (.t 1), (some (24, true)), 0, [3]⟩,
   ⟨(some 26), .load none (.t 25), (some (24, true)), 0, [4, 3]⟩,
   ⟨(some 27), .bin .leq (.t 26) (.c (.int .i64 8)), (some (24, true)), 0, [5, 3]⟩,
   ⟨(some 28), .pick (.t 24) (.t 27) (.c (.bool false)), none, 0, [3, 6]⟩,
   ⟨(some 2), .mv (.t 28), none, 0, [7, 3, 0, 1, 2, 3, 4, 5, 6, 7]⟩] [1, 21, 22, 23, 24, 25, 26, 27, 28])
 .ret)))
def hs169 : List (List Nat) := [[0, 2], [6, 7], [5], [1, 8, 9, 10], [12, 13], [11], [1, 3, 14, 15, 16, 17, 18, 19], [4, 20], [1, 21, 22, 23, 24, 25, 26, 27, 28]]
theorem ok169 : FnOk Try.prog 169 ic169 [.t 2] 29 := ⟨Try.f169, hs169, Try.func169, by kernel_rfl, by kernel_rfl, by kernel_rfl, by kernel_rfl⟩

/-- signalbox/frame.Code -/
def ic172 : IC :=
 (.seq (.region 1 [
   ⟨(some 1), .box (.t 0), none, 0, []⟩,
   ⟨(some 2), .mv (.c (.int .i64 0)), none, 1, []⟩,
   ⟨(some 3), .mv (.c (.bool false)), none, 1, [1]⟩] [0, 2, 3])
 (.seq (.region 0 [
   ⟨(some 8), .mkfn 176 [] [(.t 1)], none, 0, []⟩,
   ⟨(some 9), .call (.c (.fn 175 [] [])) [(.t 8)], none, 0, [0]⟩,
   ⟨(some 7), .mv (.t 9), none, 0, [1]⟩,
   ⟨(some 10), .ext 0 (.t 7), none, 0, [2]⟩,
   ⟨(some 11), .ext 1 (.t 7), none, 0, [2]⟩,
   ⟨(some 12), .ext 2 (.t 7), none, 0, [2]⟩,
   ⟨(some 4), .mv (.t 10), none, 0, [3, 1, 0, 1, 2, 3]⟩,
   ⟨(some 5), .mv (.t 11), none, 0, [4, 6, 0, 1, 2, 3, 4, 6]⟩,
   ⟨(some 6), .mv (.t 12), none, 0, [5, 7, 0, 1, 2, 3, 4, 5, 6, 7]⟩] [1, 5, 7, 8, 9, 10, 11, 12])
 (.seq (.region 0 [
   ⟨(some 13), .mv (.t 4), none, 0, []⟩,
   ⟨(some 14), .mv (.t 6), none, 0, []⟩,
   ⟨(some 2), .mv (.t 13), none, 0, [0, 0]⟩,
   ⟨(some 3), .mv (.t 14), none, 0, [1, 2, 0, 1, 2]⟩] [4, 6, 13, 14])
 .ret)))
def hs172 : List (List Nat) := [[0, 2, 3], [1, 5, 7, 8, 9, 10, 11, 12], [4, 6, 13, 14]]
theorem ok172 : FnOk Try.prog 172 ic172 [.t 2, .t 3] 15 := ⟨Try.f172, hs172, Try.func172, by kernel_rfl, by kernel_rfl, by kernel_rfl, by kernel_rfl⟩

/-- signalbox/frame.first -/
def ic175_b1 : IC :=
 (.seq (.region 0 [
   ⟨(some 9), .bin .lss (.t 8) (.c (.int .i64 16)), none, 0, []⟩] [])
 (.seq (.cond (.t 9) [9]
  .skip
  (.exit 0))
 (.seq (.block 1 (.seq (.region 0 [
   ⟨(some 10), .mv (.t 8), none, 0, []⟩,
   ⟨(some 11), .idxa 16 1 none (.t 7) (.t 8), none, 0, []⟩,
   ⟨(some 5), .mv (.t 10), none, 0, [0, 0, 1]⟩,
   ⟨(some 6), .mv (.t 11), none, 0, [1, 2, 0, 1, 2]⟩] [10, 11])
 (.seq (.region 0 [
   ⟨(some 12), .mv (.t 0), none, 0, []⟩,
   ⟨(some 13), .mv (.t 6), none, 0, []⟩,
   ⟨(some 14), .call (.t 12) [(.t 13)], none, 0, [0, 1]⟩] [12, 13])
 (.cond (.t 14) [14]
  (.seq (.region 0 [
    ⟨(some 15), .mv (.t 5), none, 0, []⟩,
    ⟨(some 16), .mv (.t 6), none, 0, []⟩,
    ⟨(some 2), .mv (.t 15), none, 0, [0, 0]⟩,
    ⟨(some 3), .mv (.t 16), none, 0, [1, 2, 0, 1, 2]⟩,
    ⟨(some 4), .mv (.c (.bool true)), none, 0, [3, 0, 1, 2, 3]⟩] [5, 6, 15, 16])
  .ret)
  .skip))))
 (.region 0 [
   ⟨(some 17), .bin .add (.t 8) (.c (.int .i64 1)), none, 0, []⟩,
   ⟨(some 8), .mv (.t 17), none, 0, [0]⟩] [17]))))
def ic175_l1 : IC := .loop [2, 3, 4, 5, 6, 9, 10, 11, 12, 13, 14, 15, 16, 17] ic175_b1
def ic175 : IC :=
 (.seq (.region 0 [
   ⟨(some 2), .mv (.c (.int .i64 0)), none, 0, []⟩,
   ⟨(some 3), .mv (.c (.int .i64 0)), none, 0, [0]⟩,
   ⟨(some 4), .mv (.c (.bool false)), none, 0, [1]⟩] [2, 3, 4])
 (.seq (.seq (.region 0 [
   ⟨(some 7), .call (.c (.fn 177 [] [])) [], none, 0, []⟩,
   ⟨(some 8), .mv (.c (.int .i64 0)), none, 0, []⟩] [])
 (.block 0 ic175_l1))
 (.seq (.region 0 [
   ⟨(some 2), .mv (.c (.int .i64 0)), none, 0, []⟩,
   ⟨(some 3), .mv (.c (.int .i64 0)), none, 0, [0, 0]⟩,
   ⟨(some 4), .mv (.c (.bool false)), none, 0, [1, 0, 1]⟩] [])
 .ret)))
def hs175 : List (List Nat) := [[2, 3, 4], [], [2, 3, 4, 5, 6, 9, 10, 11, 12, 13, 14, 15, 16, 17], [], [9], [10, 11], [12, 13], [14], [5, 6, 15, 16], [17], []]
theorem ok175 : FnOk Try.prog 175 ic175 [.t 2, .t 3, .t 4] 18 := ⟨Try.f175, hs175, Try.func175, by kernel_rfl, by kernel_rfl, by kernel_rfl, by kernel_rfl⟩

/-- signalbox/frame.Code$1 -/
def ic176 : IC :=
 (.seq (.region 0 [
   ⟨(some 3), .mv (.c (.bool false)), none, 0, []⟩] [3])
 (.seq (.region 0 [
   ⟨(some 4), .mv (.t 0), none, 0, []⟩,
   ⟨(some 5), .load none (.t 1), none, 0, []⟩,
   ⟨(some 6), .bin .eql (.t 4) (.t 5), none, 0, [0, 1]⟩,
   ⟨(some 3), .mv (.t 6), none, 0, [2, 0, 1, 2]⟩] [0, 1, 4, 5, 6])
 .ret))
def hs176 : List (List Nat) := [[3], [0, 1, 4, 5, 6]]
theorem ok176 : FnOk Try.prog 176 ic176 [.t 3] 7 := ⟨Try.f176, hs176, Try.func176, by kernel_rfl, by kernel_rfl, by kernel_rfl, by kernel_rfl⟩

/-- signalbox/frame.sizes -/
def ic177 : IC :=
 (.seq (.region 1 [
   ⟨(some 0), .alloc [(.int .i64 0), (.int .i64 0), (.int .i64 0), (.int .i64 0), (.int .i64 0), (.int .i64 0), (.int .i64 0), (.int .i64 0), (.int .i64 0), (.int .i64 0), (.int .i64 0), (.int .i64 0), (.int .i64 0), (.int .i64 0), (.int .i64 0), (.int .i64 0)], none, 0, []⟩] [])
 (.seq (.region 0 [
   ⟨(some 1), .build [(.int .i64 0), (.int .i64 0), (.int .i64 0), (.int .i64 0), (.int .i64 0), (.int .i64 0), (.int .i64 0), (.int .i64 0), (.int .i64 0), (.int .i64 0), (.int .i64 0), (.int .i64 0), (.int .i64 0), (.int .i64 0), (.int .i64 0), (.int .i64 0)] [(0, 1, (.c (.int .i64 0))), (1, 1, (.c (.int .i64 1))), (2, 1, (.c (.int .i64 2))), (3, 1, (.c (.int .i64 3))), (4, 1, (.c (.int .i64 4))), (5, 1, (.c (.int .i64 5))), (6, 1, (.c (.int .i64 6))), (7, 1, (.c (.int .i64 7))), (8, 1, (.c (.int .i64 8))), (9, 1, (.c (.int .i64 12))), (10, 1, (.c (.int .i64 16))), (11, 1, (.c (.int .i64 20))), (12, 1, (.c (.int .i64 24))), (13, 1, (.c (.int .i64 32))), (14, 1, (.c (.int .i64 48))), (15, 1, (.c (.int .i64 64)))], none, 0, []⟩,
   ⟨none, .store 16 (.t 0) (.t 1), none, 0, [0, 0]⟩] [1])
 .ret))
def hs177 : List (List Nat) := [[], [1]]
theorem ok177 : FnOk Try.prog 177 ic177 [.cell 0 (some 16)] 2 := ⟨Try.f177, hs177, Try.func177, by kernel_rfl, by kernel_rfl, by kernel_rfl, by kernel_rfl⟩

def tabL : TabL := [(8, ic8, [.t 2], 106),
  (10, ic10, [.t 0], 37),
  (11, ic11, [.t 2], 15),
  (12, ic12, [.cell 2 (some 4), .t 3], 15),
  (15, ic15, [.t 4], 37),
  (16, ic16, [.t 2], 11),
  (17, ic17, [.t 2], 11),
  (34, ic34, [.t 2], 9),
  (35, ic35, [.t 2], 11),
  (37, ic37, [.t 2], 11),
  (38, ic38, [], 11),
  (39, ic39, [], 14),
  (40, ic40, [.t 4, .t 5], 17),
  (41, ic41, [.cell 2 (some 4), .t 3], 23),
  (42, ic42, [.cell 2 (some 9), .t 3], 15),
  (43, ic43, [.t 2], 34),
  (44, ic44, [.t 2], 38),
  (52, ic52, [.t 2], 9),
  (53, ic53, [.t 2], 9),
  (54, ic54, [.t 2], 8),
  (55, ic55, [.cell 2 (some 4), .t 3], 27),
  (60, ic60, [.t 4], 22),
  (61, ic61, [.t 4], 45),
  (62, ic62, [.t 2], 9),
  (63, ic63, [.t 2], 9),
  (101, ic101, [.t 2], 19),
  (102, ic102, [.t 2], 25),
  (103, ic103, [.t 4, .t 5], 42),
  (104, ic104, [.t 2, .cell 3 (some 7), .t 4], 55),
  (105, ic105, [.cell 2 (some 9), .t 3], 54),
  (106, ic106, [.t 4], 8),
  (107, ic107, [.t 4], 8),
  (120, ic120, [.cell 2 (some 4), .t 3], 26),
  (121, ic121, [.t 4], 17),
  (126, ic126, [.t 2], 43),
  (127, ic127, [.t 4], 9),
  (128, ic128, [.t 3], 7),
  (129, ic129, [.t 4], 20),
  (144, ic144, [.t 4], 19),
  (145, ic145, [.t 2], 6),
  (146, ic146, [.t 4], 30),
  (147, ic147, [.t 2], 8),
  (148, ic148, [.t 6], 50),
  (156, ic156, [.t 2], 34),
  (157, ic157, [.t 4], 10),
  (158, ic158, [.t 4], 8),
  (159, ic159, [.t 4], 19),
  (160, ic160, [.t 4], 16),
  (161, ic161, [.t 2], 23),
  (167, ic167, [.t 2], 27),
  (168, ic168, [.t 2], 5),
  (169, ic169, [.t 2], 29),
  (172, ic172, [.t 2, .t 3], 15),
  (175, ic175, [.t 2, .t 3, .t 4], 18),
  (176, ic176, [.t 3], 7),
  (177, ic177, [.cell 0 (some 16)], 2)]
theorem tabOk : TabL.OK Try.prog tabL := TabL.ok_cons ok8 (TabL.ok_cons ok10 (TabL.ok_cons ok11 (TabL.ok_cons ok12 (TabL.ok_cons ok15 (TabL.ok_cons ok16 (TabL.ok_cons ok17 (TabL.ok_cons ok34 (TabL.ok_cons ok35 (TabL.ok_cons ok37 (TabL.ok_cons ok38 (TabL.ok_cons ok39 (TabL.ok_cons ok40 (TabL.ok_cons ok41 (TabL.ok_cons ok42 (TabL.ok_cons ok43 (TabL.ok_cons ok44 (TabL.ok_cons ok52 (TabL.ok_cons ok53 (TabL.ok_cons ok54 (TabL.ok_cons ok55 (TabL.ok_cons ok60 (TabL.ok_cons ok61 (TabL.ok_cons ok62 (TabL.ok_cons ok63 (TabL.ok_cons ok101 (TabL.ok_cons ok102 (TabL.ok_cons ok103 (TabL.ok_cons ok104 (TabL.ok_cons ok105 (TabL.ok_cons ok106 (TabL.ok_cons ok107 (TabL.ok_cons ok120 (TabL.ok_cons ok121 (TabL.ok_cons ok126 (TabL.ok_cons ok127 (TabL.ok_cons ok128 (TabL.ok_cons ok129 (TabL.ok_cons ok144 (TabL.ok_cons ok145 (TabL.ok_cons ok146 (TabL.ok_cons ok147 (TabL.ok_cons ok148 (TabL.ok_cons ok156 (TabL.ok_cons ok157 (TabL.ok_cons ok158 (TabL.ok_cons ok159 (TabL.ok_cons ok160 (TabL.ok_cons ok161 (TabL.ok_cons ok167 (TabL.ok_cons ok168 (TabL.ok_cons ok169 (TabL.ok_cons ok172 (TabL.ok_cons ok175 (TabL.ok_cons ok176 (TabL.ok_cons ok177 TabL.ok_nil)))))))))))))))))))))))))))))))))))))))))))))))))))))))
end Go.Proofs.Ytapoilcpollmpaa
