/- The IR of this program's functions, as printed by MkIC.lean. Conditions: none. -/
import Derived.Test.YtapoilcpollmpaaFwZ
import Derived.Test.YtapoilcpollmpaaChecked
namespace Go.Proofs.Ytapoilcpollmpaa
open Go.SB
set_option maxRecDepth 100000
/-- signalbox/signalboxlaw24.BcmNil -/
def ic9 : IC :=
 (.seq (.region 1 [
   ⟨(some 3), .box (.t 1), none, 0, []⟩,
   ⟨(some 4), .mv (.c (.bool false)), none, 1, []⟩] [1, 4])
 (.seq (.region 0 [
   ⟨(some 5), .mv (.c .nilp), none, 0, []⟩] [])
 (.seq (.region 0 [
   ⟨(some 15), .mv (.t 5), none, 0, []⟩,
   ⟨(some 16), .mv (.t 0), none, 0, []⟩,
   ⟨(some 17), .build [(.int .i64 0), (.int .i64 0), (.int .i64 0), (.int .i64 0), .nils, (.bool false), (.bool false)] [], none, 0, []⟩,
   ⟨(some 18), .call (.c (.fn 22 [] [])) [(.t 15), (.t 16), (.t 17), (.c (.int .i64 0))], none, 0, [0, 1, 2]⟩,
   ⟨(some 14), .mv (.t 18), none, 0, [3]⟩,
   ⟨(some 19), .ext 0 (.t 14), none, 0, [4]⟩,
   ⟨(some 20), .ext 1 (.t 14), none, 0, [4]⟩,
   ⟨(some 6), .mv (.t 19), none, 0, [5, 3, 0, 1, 2, 3, 4, 5]⟩,
   ⟨(some 7), .mv (.t 20), none, 0, [6, 7, 0, 1, 2, 3, 4, 5, 6, 7]⟩] [14, 15, 16, 17, 18, 19, 20])
 (.seq (.region 1 [
   ⟨(some 22), .mv (.t 5), none, 0, []⟩,
   ⟨(some 23), .mv (.t 0), none, 0, []⟩,
   ⟨(some 24), .call (.c (.fn 45 [] [])) [(.t 22), (.t 23), (.c (.int .i64 0))], none, 0, [0, 1]⟩,
   ⟨(some 21), .mv (.t 24), none, 0, [2]⟩,
   ⟨(some 25), .ext 0 (.t 21), none, 0, [3]⟩,
   ⟨(some 26), .ext 1 (.t 21), none, 0, [3]⟩,
   ⟨(some 8), .alloc [(.int .i64 0), (.int .i64 0), (.int .i64 0), (.int .i64 0), .nils, (.bool false), (.bool false)], none, 0, []⟩,
   ⟨none, .store 7 (.t 8) (.t 25), none, 1, [6, 4, 2, 0, 1, 2, 3, 4, 6]⟩,
   ⟨(some 9), .mv (.t 26), none, 1, [5, 7, 0, 1, 2, 3, 4, 5, 6, 7]⟩] [8, 21, 22, 23, 24, 25, 26])
 (.seq (.region 1 [
   ⟨(some 28), .mv (.t 5), none, 0, []⟩,
   ⟨(some 29), .mv (.t 0), none, 0, []⟩,
   ⟨(some 30), .build [(.int .u32 0), (.int .u32 0), (.bool false)] [], none, 0, []⟩,
   ⟨(some 31), .call (.c (.fn 46 [] [])) [(.t 28), (.t 29), (.t 30)], none, 0, [0, 1, 2]⟩,
   ⟨(some 27), .mv (.t 31), none, 0, [3]⟩,
   ⟨(some 32), .ext 0 (.t 27), none, 0, [4]⟩,
   ⟨(some 33), .ext 1 (.t 27), none, 0, [4]⟩,
   ⟨(some 10), .alloc [(.int .u32 0), (.int .u32 0), (.bool false), (.str []), (.int .i64 0), (.int .i64 0)], none, 0, []⟩,
   ⟨none, .store 6 (.t 10) (.t 32), none, 1, [7, 5, 3, 0, 1, 2, 3, 4, 5, 7]⟩,
   ⟨(some 11), .mv (.t 33), none, 1, [6, 8, 0, 1, 2, 3, 4, 5, 6, 7, 8]⟩] [10, 27, 28, 29, 30, 31, 32, 33])
 (.seq (.region 1 [
   ⟨(some 35), .mv (.t 5), none, 0, []⟩,
   ⟨(some 36), .mv (.t 0), none, 0, []⟩,
   ⟨(some 37), .call (.c (.fn 47 [] [])) [(.t 35), (.t 36)], none, 0, [0, 1]⟩,
   ⟨(some 34), .mv (.t 37), none, 0, [2]⟩,
   ⟨(some 38), .ext 0 (.t 34), none, 0, [3]⟩,
   ⟨(some 39), .ext 1 (.t 34), none, 0, [3]⟩,
   ⟨(some 12), .alloc [(.int .i64 0), (.int .i64 0), (.int .i64 0), (.int .i64 0), (.int .i64 0), (.str []), (.int .i64 0)], none, 0, []⟩,
   ⟨none, .store 7 (.t 12) (.t 38), none, 1, [6, 4, 2, 0, 1, 2, 3, 4, 6]⟩,
   ⟨(some 13), .mv (.t 39), none, 1, [5, 7, 0, 1, 2, 3, 4, 5, 6, 7]⟩] [34, 35, 36, 37, 38, 39])
 (.seq (.region 0 [
   ⟨(some 40), .mv (.t 6), none, 0, []⟩,
   ⟨(some 41), .lens (.t 40), none, 0, [0]⟩,
   ⟨(some 42), .bin .eql (.t 41) (.c (.int .i64 0)), none, 0, [1]⟩,
   ⟨(some 43), .mv (.t 42), none, 0, [2]⟩,
   ⟨(some 44), .mv (.t 7), (some (43, true)), 0, [3]⟩,
   ⟨(some 45), .bin .eql (.t 44) (.c (.int .i64 1)), (some (43, true)), 0, [4, 3]⟩,
   ⟨(some 46), .pick (.t 43) (.t 45) (.c (.bool false)), none, 0, [3, 5]⟩,
   ⟨(some 47), .mv (.t 46), none, 0, [6, 3]⟩,
   ⟨(some 48), .mv (.t 9), (some (47, true)), 0, [7]⟩,
   ⟨(some 49), .un .not (.t 48), (some (47, true)), 0, [8, 7]⟩,
   ⟨(some 50), .pick (.t 47) (.t 49) (.c (.bool false)), none, 0, [7, 9]⟩,
   ⟨(some 51), .mv (.t 50), none, 0, [10, 7]⟩,
   ⟨(some 52), .mv (.t 11), (some (51, true)), 0, [11]⟩,
   ⟨(some 53), .un .not (.t 52), (some (51, true)), 0, [12, 11]⟩,
   ⟨(some 54), .pick (.t 51) (.t 53) (.c (.bool false)), none, 0, [11, 13]⟩,
   ⟨(some 55), .mv (.t 54), none, 0, [14, 11]⟩,
   ⟨(some 56), .load (some 7) (.t 12), (some (55, true)), 0, [15]⟩,
   ⟨(some 57), .build [(.int .i64 0), (.int .i64 0), (.int .i64 0), (.int .i64 0), (.int .i64 0), (.str []), (.int .i64 0)] [], (some (55, true)), 0, [15]⟩,
   ⟨(some 58), .eqv false (.struct [.int, .int, .int, .int, .int, .str, .int]) (.t 56) (.t 57), (some (55, true)), 0, [16, 17, 15]⟩,
   ⟨(some 59), .pick (.t 55) (.t 58) (.c (.bool false)), none, 0, [15, 18]⟩,
   ⟨(some 60), .mv (.t 59), none, 0, [19, 15]⟩,
   ⟨(some 61), .mv (.t 13), (some (60, true)), 0, [20]⟩,
   ⟨(some 62), .bin .eql (.t 61) (.c (.int .i64 1)), (some (60, true)), 0, [21, 20]⟩,
   ⟨(some 63), .pick (.t 60) (.t 62) (.c (.bool false)), none, 0, [20, 22]⟩,
   ⟨(some 64), .mv (.t 63), none, 0, [23, 20]⟩,
   ⟨(some 65), .mv (.t 5), (some (64, true)), 0, [24]⟩,
   ⟨(some 66), .mv (.t 0), (some (64, true)), 0, [24]⟩,
   ⟨(some 67), .call (.c (.fn 26 [] [])) [(.t 65), (.t 66), (.c (.int .i64 0))], (some (64, true)), 0, [25, 26, 24, 24]⟩,
   ⟨(some 68), .bin .eql (.t 67) (.c (.int .i64 1)), (some (64, true)), 0, [27, 24]⟩,
   ⟨(some 69), .pick (.t 64) (.t 68) (.c (.bool false)), none, 0, [24, 28]⟩,
   ⟨(some 70), .mv (.t 69), none, 0, [29, 27]⟩,
   ⟨(some 71), .mv (.t 5), (some (70, true)), 0, [30]⟩,
   ⟨(some 72), .mv (.t 0), (some (70, true)), 0, [30]⟩,
   ⟨(some 73), .build [(.int .u32 0), (.int .u32 0), (.bool false), (.str []), (.int .i64 0), (.int .i64 0)] [], (some (70, true)), 0, [30]⟩,
   ⟨(some 74), .call (.c (.fn 28 [] [])) [(.t 71), (.t 72), (.t 73), (.c (.int .i64 0))], (some (70, true)), 0, [31, 32, 33, 30, 30]⟩,
   ⟨(some 75), .bin .eql (.t 74) (.c (.int .i64 1)), (some (70, true)), 0, [34, 30]⟩,
   ⟨(some 76), .pick (.t 70) (.t 75) (.c (.bool false)), none, 0, [30, 35]⟩,
   ⟨(some 77), .mv (.t 76), none, 0, [36, 34]⟩,
   ⟨(some 78), .mv (.t 5), (some (77, true)), 0, [37]⟩,
   ⟨(some 79), .mv (.t 0), (some (77, true)), 0, [37]⟩,
   ⟨(some 80), .build [(.int .u32 0), (.int .u32 0), (.bool false)] [], (some (77, true)), 0, [37]⟩,
   ⟨(some 81), .call (.c (.fn 48 [] [])) [(.t 78), (.t 79), (.t 80)], (some (77, true)), 0, [38, 39, 40, 37, 37]⟩,
   ⟨(some 82), .bin .eql (.t 81) (.c (.int .i64 1)), (some (77, true)), 0, [41, 37]⟩,
   ⟨(some 83), .pick (.t 77) (.t 82) (.c (.bool false)), none, 0, [37, 42]⟩,
   ⟨(some 84), .mv (.t 83), none, 0, [43, 41]⟩,
   ⟨(some 85), .mv (.t 5), (some (84, true)), 0, [44]⟩,
   ⟨(some 86), .load (some 4) (.t 3), (some (84, true)), 0, [44]⟩,
   ⟨(some 87), .call (.c (.fn 49 [] [])) [(.t 85), (.c (.int .i64 0)), (.t 86)], (some (84, true)), 0, [45, 46, 44, 44]⟩,
   ⟨(some 88), .mv (.t 5), (some (84, true)), 0, [44]⟩,
   ⟨(some 89), .call (.c (.fn 25 [] [])) [(.t 88), (.c (.int .i64 1))], (some (84, true)), 0, [48, 47, 44]⟩,
   ⟨(some 90), .lens (.t 89), (some (84, true)), 0, [49, 44]⟩,
   ⟨(some 91), .bin .add (.t 87) (.t 90), (some (84, true)), 0, [47, 50, 44]⟩,
   ⟨(some 92), .mv (.t 5), (some (84, true)), 0, [44]⟩,
   ⟨(some 93), .mv (.t 0), (some (84, true)), 0, [44]⟩,
   ⟨(some 94), .call (.c (.fn 50 [] [])) [(.t 92), (.t 93)], (some (84, true)), 0, [52, 53, 49, 44]⟩,
   ⟨(some 95), .lens (.t 94), (some (84, true)), 0, [54, 44]⟩,
   ⟨(some 96), .bin .add (.t 91) (.t 95), (some (84, true)), 0, [51, 55, 44]⟩,
   ⟨(some 97), .mv (.t 5), (some (84, true)), 0, [44]⟩,
   ⟨(some 98), .mv (.t 0), (some (84, true)), 0, [44]⟩,
   ⟨(some 99), .call (.c (.fn 51 [] [])) [(.t 97), (.t 98)], (some (84, true)), 0, [57, 58, 54, 44]⟩,
   ⟨(some 100), .bin .add (.t 96) (.t 99), (some (84, true)), 0, [56, 59, 44]⟩,
   ⟨(some 101), .mv (.t 5), (some (84, true)), 0, [44]⟩,
   ⟨(some 102), .mv (.t 0), (some (84, true)), 0, [44]⟩,
   ⟨(some 103), .call (.c (.fn 29 [] [])) [(.t 101), (.t 102)], (some (84, true)), 0, [61, 62, 59, 44]⟩,
   ⟨(some 104), .bin .add (.t 100) (.t 103), (some (84, true)), 0, [60, 63, 44]⟩,
   ⟨(some 105), .mv (.t 5), (some (84, true)), 0, [44]⟩,
   ⟨(some 106), .mv (.t 0), (some (84, true)), 0, [44]⟩,
   ⟨(some 107), .call (.c (.fn 30 [] [])) [(.t 105), (.t 106)], (some (84, true)), 0, [65, 66, 63, 44]⟩,
   ⟨(some 108), .bin .add (.t 104) (.t 107), (some (84, true)), 0, [64, 67, 44]⟩,
   ⟨(some 109), .bin .eql (.t 108) (.c (.int .i64 0)), (some (84, true)), 0, [68, 44]⟩,
   ⟨(some 110), .pick (.t 84) (.t 109) (.c (.bool false)), none, 0, [44, 69]⟩,
   ⟨(some 111), .mv (.t 110), none, 0, [70, 67]⟩,
   ⟨(some 112), .call (.c (.fn 20 [] [])) [], (some (111, true)), 0, [71, 71]⟩,
   ⟨(some 113), .pick (.t 111) (.t 112) (.c (.bool false)), none, 0, [71, 72]⟩,
   ⟨(some 4), .mv (.t 113), none, 0, [73, 72, 0, 1, 2, 3, 4, 5, 6, 7, 8, 9, 10, 11, 12, 13, 14, 15, 16, 17, 18, 19, 20, 21, 22, 23, 24, 25, 26, 27, 28, 29, 30, 31, 32, 33, 34, 35, 36, 37, 38, 39, 40, 41, 42, 43, 44, 45, 46, 47, 48, 49, 50, 51, 52, 53, 54, 55, 56, 57, 58, 59, 60, 61, 62, 63, 64, 65, 66, 67, 68, 69, 70, 71, 72, 73]⟩] [0, 3, 5, 6, 7, 9, 11, 12, 13, 40, 41, 42, 43, 44, 45, 46, 47, 48, 49, 50, 51, 52, 53, 54, 55, 56, 57, 58, 59, 60, 61, 62, 63, 64, 65, 66, 67, 68, 69, 70, 71, 72, 73, 74, 75, 76, 77, 78, 79, 80, 81, 82, 83, 84, 85, 86, 87, 88, 89, 90, 91, 92, 93, 94, 95, 96, 97, 98, 99, 100, 101, 102, 103, 104, 105, 106, 107, 108, 109, 110, 111, 112, 113])
 .ret)))))))
def hs9 : List (List Nat) := [[1, 4], [], [14, 15, 16, 17, 18, 19, 20], [8, 21, 22, 23, 24, 25, 26], [10, 27, 28, 29, 30, 31, 32, 33], [34, 35, 36, 37, 38, 39], [0, 3, 5, 6, 7, 9, 11, 12, 13, 40, 41, 42, 43, 44, 45, 46, 47, 48, 49, 50, 51, 52, 53, 54, 55, 56, 57, 58, 59, 60, 61, 62, 63, 64, 65, 66, 67, 68, 69, 70, 71, 72, 73, 74, 75, 76, 77, 78, 79, 80, 81, 82, 83, 84, 85, 86, 87, 88, 89, 90, 91, 92, 93, 94, 95, 96, 97, 98, 99, 100, 101, 102, 103, 104, 105, 106, 107, 108, 109, 110, 111, 112, 113]]
theorem ok9 : FnOk Try.prog 9 ic9 [.t 4] 114 := ⟨Try.f9, hs9, Try.func9, by kernel_rfl, by kernel_rfl, by kernel_rfl, by kernel_rfl⟩

/-- signalbox/signalboxlaw24.alive -/
def ic20 : IC :=
 (.seq (.region 0 [
   ⟨(some 0), .mv (.c (.bool false)), none, 0, []⟩] [0])
 (.seq (.region 0 [
   ⟨(some 8), .call (.c (.fn 21 [] [])) [(.c (.int .i64 4))], none, 0, []⟩,
   ⟨(some 1), .mv (.t 8), none, 0, [0, 0, 0]⟩] [8])
 (.seq (.region 1 [
   ⟨(some 10), .mv (.t 1), none, 0, []⟩,
   ⟨(some 11), .build [(.int .i64 0), (.int .i64 0), (.int .i64 0), (.str [])] [(0, 1, (.c (.int .i64 3)))], none, 0, []⟩,
   ⟨(some 12), .bslice 4 [(.t 11)], none, 0, [1]⟩,
   ⟨(some 13), .build [(.int .i64 0), (.int .i64 0), (.int .i64 0), (.int .i64 0), .nils, (.bool false), (.bool false)] [(0, 1, (.c (.int .i64 7))), (1, 1, (.c (.int .i64 1))), (2, 1, (.c (.int .i64 2))), (6, 1, (.c (.bool true))), (4, 1, (.t 12))], none, 1, [2]⟩,
   ⟨(some 14), .call (.c (.fn 22 [] [])) [(.t 10), (.c (.int .i64 0)), (.t 13), (.c (.int .i64 0))], none, 1, [0, 3]⟩,
   ⟨(some 9), .mv (.t 14), none, 1, [4]⟩,
   ⟨(some 15), .ext 0 (.t 9), none, 1, [5]⟩,
   ⟨(some 16), .ext 1 (.t 9), none, 1, [5]⟩,
   ⟨(some 2), .mv (.t 15), none, 1, [6, 4, 0, 1, 2, 3, 4, 5, 6]⟩,
   ⟨(some 3), .mv (.t 16), none, 1, [7, 8, 0, 1, 2, 3, 4, 5, 6, 7, 8]⟩] [2, 9, 10, 11, 12, 13, 14, 15, 16])
 (.seq (.region 0 [
   ⟨(some 17), .mv (.t 1), none, 0, []⟩,
   ⟨(some 18), .call (.c (.fn 25 [] [])) [(.t 17), (.c (.int .i64 1))], none, 0, [0]⟩,
   ⟨(some 19), .mv (.t 1), none, 0, []⟩,
   ⟨(some 20), .call (.c (.fn 25 [] [])) [(.t 19), (.c (.int .i64 2))], none, 0, [2, 1]⟩,
   ⟨(some 4), .mv (.t 18), none, 0, [1, 3, 0, 1]⟩,
   ⟨(some 5), .mv (.t 20), none, 0, [3, 4, 0, 1, 2, 3, 4]⟩] [17, 18, 19, 20])
 (.seq (.region 1 [
   ⟨(some 22), .mv (.t 1), none, 0, []⟩,
   ⟨(some 23), .call (.c (.fn 47 [] [])) [(.t 22), (.c (.int .i64 0))], none, 0, [0]⟩,
   ⟨(some 21), .mv (.t 23), none, 0, [1]⟩,
   ⟨(some 24), .ext 0 (.t 21), none, 0, [2]⟩,
   ⟨(some 25), .ext 1 (.t 21), none, 0, [2]⟩,
   ⟨(some 6), .alloc [(.int .i64 0), (.int .i64 0), (.int .i64 0), (.int .i64 0), (.int .i64 0), (.str []), (.int .i64 0)], none, 0, []⟩,
   ⟨none, .store 7 (.t 6) (.t 24), none, 1, [5, 3, 1, 0, 1, 2, 3, 5]⟩,
   ⟨(some 7), .mv (.t 25), none, 1, [4, 6, 0, 1, 2, 3, 4, 5, 6]⟩] [1, 21, 22, 23, 24, 25])
 (.seq (.region 0 [
   ⟨(some 26), .mv (.t 3), none, 0, []⟩,
   ⟨(some 27), .bin .eql (.t 26) (.c (.int .i64 0)), none, 0, [0]⟩,
   ⟨(some 28), .mv (.t 27), none, 0, [1]⟩,
   ⟨(some 29), .mv (.t 4), (some (28, true)), 0, [2]⟩,
   ⟨(some 30), .lens (.t 29), (some (28, true)), 0, [3, 2]⟩,
   ⟨(some 31), .bin .eql (.t 30) (.c (.int .i64 0)), (some (28, true)), 0, [4, 2]⟩,
   ⟨(some 32), .pick (.t 28) (.t 31) (.c (.bool false)), none, 0, [2, 5]⟩,
   ⟨(some 33), .mv (.t 32), none, 0, [6, 2]⟩,
   ⟨(some 34), .mv (.t 5), (some (33, true)), 0, [7]⟩,
   ⟨(some 35), .lens (.t 34), (some (33, true)), 0, [8, 7]⟩,
   ⟨(some 36), .bin .eql (.t 35) (.c (.int .i64 1)), (some (33, true)), 0, [9, 7]⟩,
   ⟨(some 37), .pick (.t 33) (.t 36) (.c (.bool false)), none, 0, [7, 10]⟩,
   ⟨(some 38), .mv (.t 37), none, 0, [11, 7]⟩,
   ⟨(some 39), .mv (.t 5), (some (38, true)), 0, [12]⟩,
   ⟨(some 40), .iaddr 5 (.t 39) (.c (.int .i64 0)), (some (38, true)), 0, [13, 12]⟩,
   ⟨(some 41), .faddr 1 (.t 40), (some (38, true)), 0, [14, 12]⟩,
   ⟨(some 42), .faddr 0 (.t 41), (some (38, true)), 0, [15, 12]⟩,
   ⟨(some 43), .load none (.t 42), (some (38, true)), 0, [16, 12]⟩,
   ⟨(some 44), .bin .eql (.t 43) (.c (.int .i64 3)), (some (38, true)), 0, [17, 12]⟩,
   ⟨(some 45), .pick (.t 38) (.t 44) (.c (.bool false)), none, 0, [12, 18]⟩,
   ⟨(some 46), .mv (.t 45), none, 0, [19, 12]⟩,
   ⟨(some 47), .mv (.t 7), (some (46, true)), 0, [20]⟩,
   ⟨(some 48), .bin .eql (.t 47) (.c (.int .i64 0)), (some (46, true)), 0, [21, 20]⟩,
   ⟨(some 49), .pick (.t 46) (.t 48) (.c (.bool false)), none, 0, [20, 22]⟩,
   ⟨(some 50), .mv (.t 49), none, 0, [23, 20]⟩,
   ⟨(some 51), .faddr 0 (.t 6), (some (50, true)), 0, [24]⟩,
   ⟨(some 52), .load none (.t 51), (some (50, true)), 0, [25, 24]⟩,
   ⟨(some 53), .bin .eql (.t 52) (.c (.int .i64 3)), (some (50, true)), 0, [26, 24]⟩,
   ⟨(some 54), .pick (.t 50) (.t 53) (.c (.bool false)), none, 0, [24, 27]⟩,
   ⟨(some 55), .mv (.t 54), none, 0, [28, 24]⟩,
   ⟨(some 56), .faddr 1 (.t 6), (some (55, true)), 0, [29]⟩,
   ⟨(some 57), .load none (.t 56), (some (55, true)), 0, [30, 29]⟩,
   ⟨(some 58), .bin .eql (.t 57) (.c (.int .i64 7)), (some (55, true)), 0, [31, 29]⟩,
   ⟨(some 59), .pick (.t 55) (.t 58) (.c (.bool false)), none, 0, [29, 32]⟩,
   ⟨(some 60), .mv (.t 59), none, 0, [33, 29]⟩,
   ⟨(some 61), .faddr 6 (.t 6), (some (60, true)), 0, [34]⟩,
   ⟨(some 62), .load none (.t 61), (some (60, true)), 0, [35, 34]⟩,
   ⟨(some 63), .bin .eql (.t 62) (.c (.int .i64 2)), (some (60, true)), 0, [36, 34]⟩,
   ⟨(some 64), .pick (.t 60) (.t 63) (.c (.bool false)), none, 0, [34, 37]⟩,
   ⟨(some 0), .mv (.t 64), none, 0, [38, 34, 0, 1, 2, 3, 4, 5, 6, 7, 8, 9, 10, 11, 12, 13, 14, 15, 16, 17, 18, 19, 20, 21, 22, 23, 24, 25, 26, 27, 28, 29, 30, 31, 32, 33, 34, 35, 36, 37, 38]⟩] [3, 4, 5, 6, 7, 26, 27, 28, 29, 30, 31, 32, 33, 34, 35, 36, 37, 38, 39, 40, 41, 42, 43, 44, 45, 46, 47, 48, 49, 50, 51, 52, 53, 54, 55, 56, 57, 58, 59, 60, 61, 62, 63, 64])
 .ret))))))
def hs20 : List (List Nat) := [[0], [8], [2, 9, 10, 11, 12, 13, 14, 15, 16], [17, 18, 19, 20], [1, 21, 22, 23, 24, 25], [3, 4, 5, 6, 7, 26, 27, 28, 29, 30, 31, 32, 33, 34, 35, 36, 37, 38, 39, 40, 41, 42, 43, 44, 45, 46, 47, 48, 49, 50, 51, 52, 53, 54, 55, 56, 57, 58, 59, 60, 61, 62, 63, 64]]
theorem ok20 : FnOk Try.prog 20 ic20 [.t 0] 65 := ⟨Try.f20, hs20, Try.func20, by kernel_rfl, by kernel_rfl, by kernel_rfl, by kernel_rfl⟩

/-- signalbox/bcm.New -/
def ic21 : IC :=
 (.seq (.region 0 [
   ⟨(some 2), .mv (.c .nilp), none, 0, []⟩] [2])
 (.seq (.region 2 [
   ⟨(some 3), .mkmap, none, 0, []⟩,
   ⟨(some 4), .mv (.t 0), none, 1, []⟩,
   ⟨(some 5), .build [.nils, .nils, .nilm, (.int .i64 0)] [(2, 1, (.t 3)), (3, 1, (.t 4))], none, 1, [0, 1]⟩,
   ⟨(some 6), .box (.t 5), none, 1, [2]⟩,
   ⟨(some 2), .mv (.t 6), none, 2, [3, 0, 1, 2, 3]⟩] [0, 3, 4, 5, 6])
 .ret))
def hs21 : List (List Nat) := [[2], [0, 3, 4, 5, 6]]
theorem ok21 : FnOk Try.prog 21 ic21 [.t 2] 7 := ⟨Try.f21, hs21, Try.func21, by kernel_rfl, by kernel_rfl, by kernel_rfl, by kernel_rfl⟩

/-- (*signalbox/bcm.Jobs).Tx -/
def ic22 : IC :=
 (.seq (.region 2 [
   ⟨(some 5), .box (.t 1), none, 0, []⟩,
   ⟨(some 6), .box (.t 2), none, 1, []⟩,
   ⟨(some 8), .mv (.c .nils), none, 2, []⟩,
   ⟨(some 9), .mv (.c (.int .i64 0)), none, 2, [2]⟩] [1, 2, 8, 9])
 (.seq (.block 0 (.seq (.region 0 [
   ⟨(some 16), .mv (.t 0), none, 0, []⟩,
   ⟨(some 17), .eqv false .ptr (.t 16) (.c .nilp), none, 0, [0]⟩,
   ⟨(some 15), .mv (.t 17), none, 0, [1]⟩] [16, 17])
 (.cond (.t 15) [15]
  (.seq (.region 0 [
    ⟨(some 8), .mv (.c .nils), none, 0, []⟩,
    ⟨(some 9), .mv (.c (.int .i64 1)), none, 0, [0, 0]⟩] [])
  .ret)
  (.seq (.region 0 [
    ⟨(some 19), .load none (.t 5), none, 0, []⟩,
    ⟨(some 20), .call (.c (.fn 64 [] [])) [(.t 19)], none, 0, [0]⟩,
    ⟨(some 21), .un .not (.t 20), none, 0, [1]⟩,
    ⟨(some 18), .mv (.t 21), none, 0, [2, 1]⟩] [19, 20, 21])
  (.cond (.t 18) [18]
   (.seq (.region 0 [
     ⟨(some 8), .mv (.c .nils), none, 0, []⟩,
     ⟨(some 9), .mv (.c (.int .i64 2)), none, 0, [0, 0]⟩] [])
   .ret)
   .skip)))))
 (.seq (.region 0 [
   ⟨(some 23), .load (some 7) (.t 6), none, 0, []⟩,
   ⟨(some 24), .mv (.t 3), none, 0, []⟩,
   ⟨(some 25), .call (.c (.fn 65 [] [])) [(.t 23), (.t 24)], none, 0, [0, 1]⟩,
   ⟨(some 22), .mv (.t 25), none, 0, [2]⟩,
   ⟨(some 26), .ext 0 (.t 22), none, 0, [3]⟩,
   ⟨(some 27), .ext 1 (.t 22), none, 0, [3]⟩,
   ⟨(some 10), .mv (.t 26), none, 0, [4, 2, 0, 1, 2, 3, 4]⟩,
   ⟨(some 11), .mv (.t 27), none, 0, [5, 6, 0, 1, 2, 3, 4, 5, 6]⟩] [3, 22, 23, 24, 25, 26, 27])
 (.seq (.seq (.region 0 [
   ⟨(some 28), .mv (.t 11), none, 0, []⟩,
   ⟨(some 29), .bin .neq (.t 28) (.c (.int .i64 0)), none, 0, [0]⟩] [28])
 (.cond (.t 29) [29]
  (.seq (.region 0 [
    ⟨(some 30), .mv (.t 11), none, 0, []⟩,
    ⟨(some 8), .mv (.c .nils), none, 0, []⟩,
    ⟨(some 9), .mv (.t 30), none, 0, [0, 1, 0, 1]⟩] [11, 30])
  .ret)
  .skip))
 (.seq (.region 0 [
   ⟨(some 31), .mv (.t 0), none, 0, []⟩,
   ⟨(some 32), .nilck (.t 31), none, 0, [0]⟩,
   ⟨(some 33), .faddr 0 (.t 32), none, 0, [1]⟩,
   ⟨(some 34), .load none (.t 33), none, 0, [2]⟩,
   ⟨(some 35), .call (.c (.fn 67 [] [])) [(.t 34)], none, 0, [3]⟩,
   ⟨(some 36), .mkfn 68 [] [(.t 5), (.t 6)], none, 0, []⟩,
   ⟨(some 37), .call (.c (.fn 66 [] [])) [(.t 35), (.t 36)], none, 0, [4, 5, 4]⟩,
   ⟨(some 12), .mv (.t 37), none, 0, [6, 6, 0, 1, 2, 3, 4, 5, 6]⟩] [31, 32, 33, 34, 35, 36, 37])
 (.seq (.seq (.region 0 [
   ⟨(some 38), .mv (.t 12), none, 0, []⟩,
   ⟨(some 39), .mkfn 71 [] [(.t 5)], none, 0, []⟩,
   ⟨(some 40), .call (.c (.fn 70 [] [])) [(.t 38), (.t 39)], none, 0, [0, 1]⟩,
   ⟨(some 41), .bin .geq (.t 40) (.c (.int .i64 100)), none, 0, [2]⟩] [38, 39, 40])
 (.cond (.t 41) [41]
  (.seq (.region 0 [
    ⟨(some 8), .mv (.c .nils), none, 0, []⟩,
    ⟨(some 9), .mv (.c (.int .i64 9)), none, 0, [0, 0]⟩] [])
  .ret)
  .skip))
 (.seq (.region 2 [
   ⟨(some 42), .mv (.t 0), none, 0, []⟩,
   ⟨(some 43), .mv (.t 12), none, 0, []⟩,
   ⟨(some 44), .load none (.t 5), none, 0, []⟩,
   ⟨(some 45), .faddr 0 (.t 6), none, 0, []⟩,
   ⟨(some 46), .load none (.t 45), none, 0, [3]⟩,
   ⟨(some 47), .mv (.t 10), none, 0, []⟩,
   ⟨(some 48), .build [(.int .i64 0), (.int .i64 0), .nilp] [(0, 1, (.t 44)), (1, 1, (.t 46)), (2, 1, (.t 47))], none, 0, [2, 4, 5]⟩,
   ⟨(some 49), .bslice 3 [(.t 48)], none, 0, [6]⟩,
   ⟨(some 50), .app 3 24 (.t 43) (.t 49), none, 1, [1, 7]⟩,
   ⟨(some 51), .nilck (.t 42), none, 2, [0, 0, 1, 2, 3, 4, 5, 6, 7, 8]⟩,
   ⟨(some 52), .faddr 0 (.t 51), none, 2, [9, 0, 1, 2, 3, 4, 5, 6, 7, 8]⟩,
   ⟨none, .store 1 (.t 52) (.t 50), none, 2, [10, 8, 8, 0, 1, 2, 3, 4, 5, 6, 7, 8]⟩] [0, 6, 12, 42, 43, 44, 45, 46, 47, 48, 49, 50, 51, 52])
 (.seq (.seq (.region 1 [
   ⟨(some 54), .mv (.t 10), none, 0, []⟩,
   ⟨(some 55), .call (.c (.fn 72 [] [])) [(.t 54)], none, 0, [0]⟩,
   ⟨(some 53), .mv (.t 55), none, 0, [1]⟩,
   ⟨(some 56), .ext 0 (.t 53), none, 0, [2]⟩,
   ⟨(some 57), .ext 1 (.t 53), none, 0, [2]⟩,
   ⟨(some 13), .alloc [(.int .i64 0), (.int .i64 0), (.int .i64 0), (.str [])], none, 0, []⟩,
   ⟨none, .store 4 (.t 13) (.t 56), none, 1, [5, 3, 1, 0, 1, 2, 3, 5]⟩,
   ⟨(some 14), .mv (.t 57), none, 1, [4, 6, 0, 1, 2, 3, 4, 5, 6]⟩] [10, 53, 54, 55, 56, 57])
 (.seq (.region 0 [
   ⟨(some 58), .mv (.t 14), none, 0, []⟩] [14])
 (.cond (.t 58) [58]
  (.seq (.region 1 [
    ⟨(some 59), .load none (.t 5), none, 0, []⟩,
    ⟨(some 60), .load (some 4) (.t 13), none, 0, []⟩,
    ⟨(some 61), .build [(.int .i64 0), (.int .i64 0), (.int .i64 0), (.int .i64 0), (.str [])] [(0, 1, (.t 59)), (1, 4, (.t 60))], none, 0, [0, 1]⟩,
    ⟨(some 62), .bslice 5 [(.t 61)], none, 0, [2]⟩,
    ⟨(some 8), .mv (.t 62), none, 1, [3, 0, 1, 2, 3]⟩,
    ⟨(some 9), .mv (.c (.int .i64 0)), none, 1, [4, 0, 1, 2, 3, 4]⟩] [5, 13, 59, 60, 61, 62])
  .ret)
  .skip)))
 (.seq (.region 0 [
   ⟨(some 8), .mv (.c .nils), none, 0, []⟩,
   ⟨(some 9), .mv (.c (.int .i64 0)), none, 0, [0, 0]⟩] [])
 .ret)))))))))
def hs22 : List (List Nat) := [[1, 2, 8, 9], [16, 17], [15], [], [19, 20, 21], [18], [], [3, 22, 23, 24, 25, 26, 27], [28], [29], [11, 30], [31, 32, 33, 34, 35, 36, 37], [38, 39, 40], [41], [], [0, 6, 12, 42, 43, 44, 45, 46, 47, 48, 49, 50, 51, 52], [10, 53, 54, 55, 56, 57], [14], [58], [5, 13, 59, 60, 61, 62], []]
theorem ok22 : FnOk Try.prog 22 ic22 [.t 8, .t 9] 63 := ⟨Try.f22, hs22, Try.func22, by kernel_rfl, by kernel_rfl, by kernel_rfl, by kernel_rfl⟩

/-- (*signalbox/bcm.Jobs).Tick -/
def ic25_b1 : IC :=
 (.seq (.region 0 [
   ⟨(some 22), .bin .lss (.t 21) (.t 20), none, 0, []⟩] [])
 (.seq (.cond (.t 22) [22]
  .skip
  (.exit 0))
 (.seq (.block 1 (.seq (.region 1 [
   ⟨(some 23), .iaddr 3 (.t 19) (.t 21), none, 0, []⟩,
   ⟨(some 24), .load (some 3) (.t 23), none, 0, [0]⟩,
   ⟨(some 7), .alloc [(.int .i64 0), (.int .i64 0), .nilp], none, 0, []⟩,
   ⟨none, .store 3 (.t 7) (.t 24), none, 1, [2, 1, 0, 1, 2]⟩] [23, 24])
 (.seq (.region 1 [
   ⟨(some 25), .faddr 2 (.t 7), none, 0, []⟩,
   ⟨(some 26), .load none (.t 25), none, 0, [0]⟩,
   ⟨(some 27), .mv (.t 1), none, 0, []⟩,
   ⟨(some 28), .call (.c (.fn 75 [] [])) [(.t 26), (.t 27)], none, 0, [1, 2]⟩,
   ⟨(some 8), .alloc [(.int .i64 0), (.int .i64 0), (.int .i64 0), (.str []), (.bool false), (.bool false)], none, 0, []⟩,
   ⟨none, .store 6 (.t 8) (.t 28), none, 1, [4, 3, 3, 0, 1, 2, 3, 4]⟩] [25, 26, 27, 28])
 (.seq (.seq (.region 0 [
   ⟨(some 29), .faddr 4 (.t 8), none, 0, []⟩,
   ⟨(some 30), .load none (.t 29), none, 0, [0]⟩] [29])
 (.cond (.t 30) [30]
  (.region 2 [
    ⟨(some 31), .mv (.t 5), none, 0, []⟩,
    ⟨(some 32), .faddr 0 (.t 7), none, 0, []⟩,
    ⟨(some 33), .load none (.t 32), none, 0, [1]⟩,
    ⟨(some 34), .faddr 0 (.t 8), none, 0, []⟩,
    ⟨(some 35), .load (some 4) (.t 34), none, 0, [3]⟩,
    ⟨(some 36), .build [(.int .i64 0), (.int .i64 0), (.int .i64 0), (.int .i64 0), (.str [])] [(0, 1, (.t 33)), (1, 4, (.t 35))], none, 0, [2, 4]⟩,
    ⟨(some 37), .bslice 5 [(.t 36)], none, 0, [5]⟩,
    ⟨(some 38), .app 5 48 (.t 31) (.t 37), none, 1, [0, 6]⟩,
    ⟨(some 5), .mv (.t 38), none, 2, [7, 7, 0, 1, 2, 3, 4, 5, 6, 7]⟩] [31, 32, 33, 34, 35, 36, 37, 38])
  .skip))
 (.seq (.region 0 [
   ⟨(some 39), .faddr 5 (.t 8), none, 0, []⟩,
   ⟨(some 40), .load none (.t 39), none, 0, [0]⟩] [39])
 (.cond (.t 40) [40]
  (.region 0 [
    ⟨(some 41), .mv (.t 0), none, 0, []⟩,
    ⟨(some 42), .faddr 0 (.t 7), none, 0, []⟩,
    ⟨(some 43), .load none (.t 42), none, 0, [1]⟩,
    ⟨(some 44), .faddr 1 (.t 7), none, 0, []⟩,
    ⟨(some 45), .load none (.t 44), none, 0, [3]⟩,
    ⟨(some 46), .faddr 0 (.t 8), none, 0, []⟩,
    ⟨(some 47), .load (some 4) (.t 46), none, 0, [5]⟩,
    ⟨(some 48), .mv (.t 1), none, 0, []⟩,
    ⟨(some 49), .build [(.int .i64 0), (.int .i64 0), (.int .i64 0), (.int .i64 0), (.int .i64 0), (.str []), (.int .i64 0)] [(0, 1, (.c (.int .i64 3))), (1, 1, (.t 45)), (2, 4, (.t 47)), (6, 1, (.t 48))], none, 0, [4, 6, 7]⟩,
    ⟨(some 50), .call (.c (.fn 76 [] [])) [(.t 41), (.t 43), (.t 49)], none, 0, [0, 2, 8]⟩] [7, 8, 41, 42, 43, 44, 45, 46, 47, 48, 49, 50])
  .skip))))))
 (.region 0 [
   ⟨(some 51), .bin .add (.t 21) (.c (.int .i64 1)), none, 0, []⟩,
   ⟨(some 21), .mv (.t 51), none, 0, [0]⟩] [51]))))
def ic25_l1 : IC := .loop [4, 7, 8, 10, 12, 13, 14, 15, 16, 17, 18, 22, 23, 24, 25, 26, 27, 28, 29, 30, 31, 32, 33, 34, 35, 36, 37, 38, 39, 40, 41, 42, 43, 44, 45, 46, 47, 48, 49, 50, 51, 52, 53, 54, 55, 56, 57, 58, 59, 60, 61, 62, 63, 64, 65, 66, 67, 68, 69, 70, 71, 72, 73, 74, 75, 76, 77] ic25_b1
def ic25_b2 : IC :=
 (.seq (.region 0 [
   ⟨(some 67), .bin .lss (.t 66) (.t 65), none, 0, []⟩] [])
 (.seq (.cond (.t 67) [67]
  .skip
  (.exit 4))
 (.seq (.block 5 (.seq (.region 1 [
   ⟨(some 68), .iaddr 7 (.t 64) (.t 66), none, 0, []⟩,
   ⟨(some 69), .load (some 7) (.t 68), none, 0, [0]⟩,
   ⟨(some 12), .alloc [(.int .i64 0), (.int .i64 0), (.int .i64 0), (.int .i64 0), (.int .i64 0), (.str []), (.int .i64 0)], none, 0, []⟩,
   ⟨none, .store 7 (.t 12) (.t 69), none, 1, [2, 1, 0, 1, 2]⟩] [68, 69])
 (.region 0 [
   ⟨(some 70), .mv (.t 0), none, 0, []⟩,
   ⟨(some 71), .faddr 0 (.t 10), none, 0, []⟩,
   ⟨(some 72), .load none (.t 71), none, 0, [1]⟩,
   ⟨(some 73), .load (some 7) (.t 12), none, 0, []⟩,
   ⟨(some 74), .call (.c (.fn 76 [] [])) [(.t 70), (.t 72), (.t 73)], none, 0, [0, 2, 3]⟩] [12, 70, 71, 72, 73, 74])))
 (.region 0 [
   ⟨(some 75), .bin .add (.t 66) (.c (.int .i64 1)), none, 0, []⟩,
   ⟨(some 66), .mv (.t 75), none, 0, [0]⟩] [75]))))
def ic25_l2 : IC := .loop [4, 7, 8, 12, 13, 14, 15, 16, 17, 18, 19, 20, 21, 22, 23, 24, 25, 26, 27, 28, 29, 30, 31, 32, 33, 34, 35, 36, 37, 38, 39, 40, 41, 42, 43, 44, 45, 46, 47, 48, 49, 50, 51, 52, 53, 54, 58, 59, 60, 61, 62, 63, 67, 68, 69, 70, 71, 72, 73, 74, 75, 76, 77] ic25_b2
def ic25_b3 : IC :=
 (.seq (.region 0 [
   ⟨(some 58), .bin .lss (.t 57) (.t 56), none, 0, []⟩] [])
 (.seq (.cond (.t 58) [58]
  .skip
  (.exit 2))
 (.seq (.block 3 (.seq (.region 1 [
   ⟨(some 59), .iaddr 5 (.t 55) (.t 57), none, 0, []⟩,
   ⟨(some 60), .load (some 5) (.t 59), none, 0, [0]⟩,
   ⟨(some 10), .alloc [(.int .i64 0), (.int .u32 0), (.int .u32 0), (.bool false), .nilp], none, 0, []⟩,
   ⟨none, .store 5 (.t 10) (.t 60), none, 1, [2, 1, 0, 1, 2]⟩] [59, 60])
 (.seq (.region 0 [
   ⟨(some 61), .faddr 4 (.t 10), none, 0, []⟩,
   ⟨(some 62), .load none (.t 61), none, 0, [0]⟩,
   ⟨(some 63), .mv (.t 1), none, 0, []⟩,
   ⟨(some 64), .call (.c (.fn 77 [] [])) [(.t 62), (.t 63)], none, 0, [1, 2]⟩,
   ⟨(some 65), .lens (.t 64), none, 0, [3]⟩,
   ⟨(some 66), .mv (.c (.int .i64 0)), none, 0, []⟩] [61, 62, 63])
 (.block 4 ic25_l2))))
 (.region 0 [
   ⟨(some 76), .bin .add (.t 57) (.c (.int .i64 1)), none, 0, []⟩,
   ⟨(some 57), .mv (.t 76), none, 0, [0]⟩] [76]))))
def ic25_l3 : IC := .loop [4, 7, 8, 10, 12, 13, 14, 15, 16, 17, 18, 19, 20, 21, 22, 23, 24, 25, 26, 27, 28, 29, 30, 31, 32, 33, 34, 35, 36, 37, 38, 39, 40, 41, 42, 43, 44, 45, 46, 47, 48, 49, 50, 51, 52, 53, 54, 58, 59, 60, 61, 62, 63, 64, 65, 66, 67, 68, 69, 70, 71, 72, 73, 74, 75, 76, 77] ic25_b3
def ic25 : IC :=
 (.seq (.region 0 [
   ⟨(some 4), .mv (.c .nils), none, 0, []⟩] [4])
 (.seq (.region 0 [
   ⟨(some 5), .mv (.c .nils), none, 0, []⟩] [])
 (.seq (.seq (.region 0 [
   ⟨(some 13), .mv (.t 0), none, 0, []⟩,
   ⟨(some 14), .eqv false .ptr (.t 13) (.c .nilp), none, 0, [0]⟩] [13])
 (.cond (.t 14) [14]
  (.seq (.region 0 [
    ⟨(some 15), .mv (.t 5), none, 0, []⟩,
    ⟨(some 4), .mv (.t 15), none, 0, [0, 0]⟩] [5, 15])
  .ret)
  .skip))
 (.seq (.seq (.region 0 [
   ⟨(some 16), .mv (.t 0), none, 0, []⟩,
   ⟨(some 17), .nilck (.t 16), none, 0, [0]⟩,
   ⟨(some 18), .faddr 0 (.t 17), none, 0, [1]⟩,
   ⟨(some 19), .load none (.t 18), none, 0, [2]⟩,
   ⟨(some 20), .lens (.t 19), none, 0, [3]⟩,
   ⟨(some 21), .mv (.c (.int .i64 0)), none, 0, []⟩] [16, 17, 18])
 (.block 0 ic25_l1))
 (.seq (.seq (.region 0 [
   ⟨(some 52), .mv (.t 0), none, 0, []⟩,
   ⟨(some 53), .nilck (.t 52), none, 0, [0]⟩,
   ⟨(some 54), .faddr 1 (.t 53), none, 0, [1]⟩,
   ⟨(some 55), .load none (.t 54), none, 0, [2]⟩,
   ⟨(some 56), .lens (.t 55), none, 0, [3]⟩,
   ⟨(some 57), .mv (.c (.int .i64 0)), none, 0, []⟩] [52, 53, 54])
 (.block 2 ic25_l3))
 (.seq (.region 0 [
   ⟨(some 77), .mv (.t 5), none, 0, []⟩,
   ⟨(some 4), .mv (.t 77), none, 0, [0, 0]⟩] [5, 77])
 .ret))))))
def hs25 : List (List Nat) := [[4], [], [13], [14], [5, 15], [16, 17, 18], [4, 7, 8, 10, 12, 13, 14, 15, 16, 17, 18, 22, 23, 24, 25, 26, 27, 28, 29, 30, 31, 32, 33, 34, 35, 36, 37, 38, 39, 40, 41, 42, 43, 44, 45, 46, 47, 48, 49, 50, 51, 52, 53, 54, 55, 56, 57, 58, 59, 60, 61, 62, 63, 64, 65, 66, 67, 68, 69, 70, 71, 72, 73, 74, 75, 76, 77], [], [22], [23, 24], [25, 26, 27, 28], [29], [30], [31, 32, 33, 34, 35, 36, 37, 38], [39], [40], [7, 8, 41, 42, 43, 44, 45, 46, 47, 48, 49, 50], [51], [52, 53, 54], [4, 7, 8, 10, 12, 13, 14, 15, 16, 17, 18, 19, 20, 21, 22, 23, 24, 25, 26, 27, 28, 29, 30, 31, 32, 33, 34, 35, 36, 37, 38, 39, 40, 41, 42, 43, 44, 45, 46, 47, 48, 49, 50, 51, 52, 53, 54, 58, 59, 60, 61, 62, 63, 64, 65, 66, 67, 68, 69, 70, 71, 72, 73, 74, 75, 76, 77], [], [58], [59, 60], [61, 62, 63], [4, 7, 8, 12, 13, 14, 15, 16, 17, 18, 19, 20, 21, 22, 23, 24, 25, 26, 27, 28, 29, 30, 31, 32, 33, 34, 35, 36, 37, 38, 39, 40, 41, 42, 43, 44, 45, 46, 47, 48, 49, 50, 51, 52, 53, 54, 58, 59, 60, 61, 62, 63, 67, 68, 69, 70, 71, 72, 73, 74, 75, 76, 77], [], [67], [68, 69], [12, 70, 71, 72, 73, 74], [75], [76], [5, 77]]
theorem ok25 : FnOk Try.prog 25 ic25 [.t 4] 78 := ⟨Try.f25, hs25, Try.func25, by kernel_rfl, by kernel_rfl, by kernel_rfl, by kernel_rfl⟩

/-- (*signalbox/bcm.Jobs).TxStop -/
def ic26 : IC :=
 (.seq (.region 2 [
   ⟨(some 4), .box (.t 1), none, 0, []⟩,
   ⟨(some 5), .box (.t 2), none, 1, []⟩,
   ⟨(some 6), .mv (.c (.int .i64 0)), none, 2, []⟩] [1, 2, 6])
 (.seq (.seq (.region 0 [
   ⟨(some 8), .mv (.t 0), none, 0, []⟩,
   ⟨(some 9), .eqv false .ptr (.t 8) (.c .nilp), none, 0, [0]⟩] [8])
 (.cond (.t 9) [9]
  (.seq (.region 0 [
    ⟨(some 6), .mv (.c (.int .i64 1)), none, 0, []⟩] [])
  .ret)
  .skip))
 (.seq (.region 0 [
   ⟨(some 10), .mv (.t 0), none, 0, []⟩,
   ⟨(some 11), .nilck (.t 10), none, 0, [0]⟩,
   ⟨(some 12), .faddr 0 (.t 11), none, 0, [1]⟩,
   ⟨(some 13), .load none (.t 12), none, 0, [2]⟩,
   ⟨(some 14), .lens (.t 13), none, 0, [3]⟩,
   ⟨(some 7), .mv (.t 14), none, 0, [4, 0, 1, 2, 3, 4]⟩] [10, 11, 12, 13, 14])
 (.seq (.region 0 [
   ⟨(some 15), .mv (.t 0), none, 0, []⟩,
   ⟨(some 16), .mv (.t 0), none, 0, []⟩,
   ⟨(some 17), .nilck (.t 16), none, 0, [1]⟩,
   ⟨(some 18), .faddr 0 (.t 17), none, 0, [2]⟩,
   ⟨(some 19), .load none (.t 18), none, 0, [3]⟩,
   ⟨(some 20), .mkfn 78 [] [(.t 4), (.t 5)], none, 0, []⟩,
   ⟨(some 21), .call (.c (.fn 66 [] [])) [(.t 19), (.t 20)], none, 0, [4, 5]⟩,
   ⟨(some 22), .nilck (.t 15), none, 0, [0, 0, 1, 2, 3, 4, 5, 6]⟩,
   ⟨(some 23), .faddr 0 (.t 22), none, 0, [7, 0, 1, 2, 3, 4, 5, 6]⟩,
   ⟨none, .store 1 (.t 23) (.t 21), none, 0, [8, 6, 6, 0, 1, 2, 3, 4, 5, 6]⟩] [4, 5, 15, 16, 17, 18, 19, 20, 21, 22, 23])
 (.seq (.seq (.region 0 [
   ⟨(some 24), .mv (.t 0), none, 0, []⟩,
   ⟨(some 25), .nilck (.t 24), none, 0, [0]⟩,
   ⟨(some 26), .faddr 0 (.t 25), none, 0, [1]⟩,
   ⟨(some 27), .load none (.t 26), none, 0, [2]⟩,
   ⟨(some 28), .lens (.t 27), none, 0, [3]⟩,
   ⟨(some 29), .mv (.t 7), none, 0, []⟩,
   ⟨(some 30), .bin .eql (.t 28) (.t 29), none, 0, [4, 5]⟩] [0, 7, 24, 25, 26, 27, 28, 29])
 (.cond (.t 30) [30]
  (.seq (.region 0 [
    ⟨(some 6), .mv (.c (.int .i64 11)), none, 0, []⟩] [])
  .ret)
  .skip))
 (.seq (.region 0 [
   ⟨(some 6), .mv (.c (.int .i64 0)), none, 0, []⟩] [])
 .ret))))))
def hs26 : List (List Nat) := [[1, 2, 6], [8], [9], [], [10, 11, 12, 13, 14], [4, 5, 15, 16, 17, 18, 19, 20, 21, 22, 23], [0, 7, 24, 25, 26, 27, 28, 29], [30], [], []]
theorem ok26 : FnOk Try.prog 26 ic26 [.t 6] 31 := ⟨Try.f26, hs26, Try.func26, by kernel_rfl, by kernel_rfl, by kernel_rfl, by kernel_rfl⟩

/-- (*signalbox/bcm.Jobs).Rx -/
def ic28 : IC :=
 (.seq (.region 2 [
   ⟨(some 5), .box (.t 1), none, 0, []⟩,
   ⟨(some 6), .box (.t 2), none, 1, []⟩,
   ⟨(some 8), .mv (.c (.int .i64 0)), none, 2, []⟩] [1, 2, 8])
 (.seq (.block 0 (.seq (.region 0 [
   ⟨(some 13), .mv (.t 0), none, 0, []⟩,
   ⟨(some 14), .eqv false .ptr (.t 13) (.c .nilp), none, 0, [0]⟩,
   ⟨(some 12), .mv (.t 14), none, 0, [1]⟩] [13, 14])
 (.cond (.t 12) [12]
  (.seq (.region 0 [
    ⟨(some 8), .mv (.c (.int .i64 1)), none, 0, []⟩] [])
  .ret)
  (.seq (.region 0 [
    ⟨(some 16), .load none (.t 5), none, 0, []⟩,
    ⟨(some 17), .call (.c (.fn 64 [] [])) [(.t 16)], none, 0, [0]⟩,
    ⟨(some 18), .un .not (.t 17), none, 0, [1]⟩,
    ⟨(some 15), .mv (.t 18), none, 0, [2, 1]⟩] [16, 17, 18])
  (.cond (.t 15) [15]
   (.seq (.region 0 [
     ⟨(some 8), .mv (.c (.int .i64 2)), none, 0, []⟩] [])
   .ret)
   .skip)))))
 (.seq (.region 0 [
   ⟨(some 20), .load (some 6) (.t 6), none, 0, []⟩,
   ⟨(some 21), .mv (.t 3), none, 0, []⟩,
   ⟨(some 22), .call (.c (.fn 79 [] [])) [(.t 20), (.t 21)], none, 0, [0, 1]⟩,
   ⟨(some 19), .mv (.t 22), none, 0, [2]⟩,
   ⟨(some 23), .ext 0 (.t 19), none, 0, [3]⟩,
   ⟨(some 24), .ext 1 (.t 19), none, 0, [3]⟩,
   ⟨(some 9), .mv (.t 23), none, 0, [4, 2, 0, 1, 2, 3, 4]⟩,
   ⟨(some 10), .mv (.t 24), none, 0, [5, 6, 0, 1, 2, 3, 4, 5, 6]⟩] [3, 19, 20, 21, 22, 23, 24])
 (.seq (.seq (.region 0 [
   ⟨(some 25), .mv (.t 10), none, 0, []⟩,
   ⟨(some 26), .bin .neq (.t 25) (.c (.int .i64 0)), none, 0, [0]⟩] [25])
 (.cond (.t 26) [26]
  (.seq (.region 0 [
    ⟨(some 27), .mv (.t 10), none, 0, []⟩,
    ⟨(some 8), .mv (.t 27), none, 0, [0, 0]⟩] [10, 27])
  .ret)
  .skip))
 (.seq (.region 0 [
   ⟨(some 28), .mv (.t 0), none, 0, []⟩,
   ⟨(some 29), .nilck (.t 28), none, 0, [0]⟩,
   ⟨(some 30), .faddr 1 (.t 29), none, 0, [1]⟩,
   ⟨(some 31), .load none (.t 30), none, 0, [2]⟩,
   ⟨(some 32), .call (.c (.fn 81 [] [])) [(.t 31)], none, 0, [3]⟩,
   ⟨(some 33), .mkfn 82 [] [(.t 5), (.t 6)], none, 0, []⟩,
   ⟨(some 34), .call (.c (.fn 80 [] [])) [(.t 32), (.t 33)], none, 0, [4, 5, 4]⟩,
   ⟨(some 11), .mv (.t 34), none, 0, [6, 6, 0, 1, 2, 3, 4, 5, 6]⟩] [28, 29, 30, 31, 32, 33, 34])
 (.seq (.seq (.region 0 [
   ⟨(some 35), .mv (.t 11), none, 0, []⟩,
   ⟨(some 36), .mkfn 85 [] [(.t 5)], none, 0, []⟩,
   ⟨(some 37), .call (.c (.fn 84 [] [])) [(.t 35), (.t 36)], none, 0, [0, 1]⟩,
   ⟨(some 38), .bin .geq (.t 37) (.c (.int .i64 100)), none, 0, [2]⟩] [35, 36, 37])
 (.cond (.t 38) [38]
  (.seq (.region 0 [
    ⟨(some 8), .mv (.c (.int .i64 9)), none, 0, []⟩] [])
  .ret)
  .skip))
 (.seq (.region 2 [
   ⟨(some 39), .mv (.t 0), none, 0, []⟩,
   ⟨(some 40), .mv (.t 11), none, 0, []⟩,
   ⟨(some 41), .load none (.t 5), none, 0, []⟩,
   ⟨(some 42), .faddr 0 (.t 6), none, 0, []⟩,
   ⟨(some 43), .load (some 3) (.t 42), none, 0, [3]⟩,
   ⟨(some 44), .mv (.t 9), none, 0, []⟩,
   ⟨(some 45), .build [(.int .i64 0), (.int .u32 0), (.int .u32 0), (.bool false), .nilp] [(0, 1, (.t 41)), (1, 3, (.t 43)), (4, 1, (.t 44))], none, 0, [2, 4, 5]⟩,
   ⟨(some 46), .bslice 5 [(.t 45)], none, 0, [6]⟩,
   ⟨(some 47), .app 5 32 (.t 40) (.t 46), none, 1, [1, 7]⟩,
   ⟨(some 48), .nilck (.t 39), none, 2, [0, 0, 1, 2, 3, 4, 5, 6, 7, 8]⟩,
   ⟨(some 49), .faddr 1 (.t 48), none, 2, [9, 0, 1, 2, 3, 4, 5, 6, 7, 8]⟩,
   ⟨none, .store 1 (.t 49) (.t 47), none, 2, [10, 8, 8, 0, 1, 2, 3, 4, 5, 6, 7, 8]⟩] [0, 5, 6, 9, 11, 39, 40, 41, 42, 43, 44, 45, 46, 47, 48, 49])
 (.seq (.region 0 [
   ⟨(some 8), .mv (.c (.int .i64 0)), none, 0, []⟩] [])
 .ret))))))))
def hs28 : List (List Nat) := [[1, 2, 8], [13, 14], [12], [], [16, 17, 18], [15], [], [3, 19, 20, 21, 22, 23, 24], [25], [26], [10, 27], [28, 29, 30, 31, 32, 33, 34], [35, 36, 37], [38], [], [0, 5, 6, 9, 11, 39, 40, 41, 42, 43, 44, 45, 46, 47, 48, 49], []]
theorem ok28 : FnOk Try.prog 28 ic28 [.t 8] 50 := ⟨Try.f28, hs28, Try.func28, by kernel_rfl, by kernel_rfl, by kernel_rfl, by kernel_rfl⟩

/-- (*signalbox/bcm.Jobs).Len -/
def ic29 : IC :=
 (.seq (.region 1 [
   ⟨(some 3), .box (.t 1), none, 0, []⟩,
   ⟨(some 4), .mv (.c (.int .i64 0)), none, 1, []⟩] [1, 4])
 (.seq (.seq (.region 0 [
   ⟨(some 5), .mv (.t 0), none, 0, []⟩,
   ⟨(some 6), .eqv false .ptr (.t 5) (.c .nilp), none, 0, [0]⟩] [5])
 (.cond (.t 6) [6]
  (.seq (.region 0 [
    ⟨(some 4), .mv (.c (.int .i64 0)), none, 0, []⟩] [])
  .ret)
  .skip))
 (.seq (.regionD 0 [
   ⟨(some 7), .mv (.t 0), none, 0, []⟩,
   ⟨(some 8), .nilck (.t 7), none, 0, [0]⟩,
   ⟨(some 9), .faddr 0 (.t 8), none, 0, [1]⟩,
   ⟨(some 10), .load none (.t 9), none, 0, [2]⟩,
   ⟨(some 11), .mkfn 86 [] [(.t 3)], none, 0, []⟩,
   ⟨(some 12), .call (.c (.fn 70 [] [])) [(.t 10), (.t 11)], none, 0, [3, 4]⟩,
   ⟨(some 13), .mv (.t 0), none, 0, []⟩,
   ⟨(some 14), .nilck (.t 13), none, 0, [6]⟩,
   ⟨(some 15), .faddr 1 (.t 14), none, 0, [7]⟩,
   ⟨(some 16), .load none (.t 15), none, 0, [8]⟩,
   ⟨(some 17), .mkfn 87 [] [(.t 3)], none, 0, []⟩,
   ⟨(some 18), .call (.c (.fn 84 [] [])) [(.t 16), (.t 17)], none, 0, [9, 10, 5]⟩,
   ⟨(some 19), .bin .add (.t 12) (.t 18), none, 0, [5, 11]⟩,
   ⟨(some 4), .mv (.t 19), none, 0, [12, 11, 0, 1, 2, 3, 4, 5, 6, 7, 8, 9, 10, 11, 12]⟩]
   [0, 1, 2, 4, 6, 7, 8, 10, 3, 9, 5, 11, 12, 13] [0, 1, 3, 7, 0, 31, 0, 64, 192, 448, 0, 2047, 4095, 8191] [0, 3, 7, 8, 9, 10, 11, 12, 13, 14, 15, 16, 17, 18, 19])
 .ret)))
def hs29 : List (List Nat) := [[1, 4], [5], [6], [], [0, 1, 2, 4, 6, 7, 8, 10, 3, 9, 5, 11, 12, 13], [0, 1, 3, 7, 0, 31, 0, 64, 192, 448, 0, 2047, 4095, 8191], [0, 3, 7, 8, 9, 10, 11, 12, 13, 14, 15, 16, 17, 18, 19]]
theorem ok29 : FnOk Try.prog 29 ic29 [.t 4] 20 := ⟨Try.f29, hs29, Try.func29, by kernel_rfl, by kernel_rfl, by kernel_rfl, by kernel_rfl⟩

/-- (*signalbox/bcm.Jobs).Drop -/
def ic30 : IC :=
 (.seq (.region 1 [
   ⟨(some 3), .box (.t 1), none, 0, []⟩,
   ⟨(some 4), .mv (.c (.int .i64 0)), none, 1, []⟩] [1, 4])
 (.seq (.region 0 [
   ⟨(some 6), .mv (.t 0), none, 0, []⟩,
   ⟨(some 7), .load none (.t 3), none, 0, []⟩,
   ⟨(some 8), .call (.c (.fn 29 [] [])) [(.t 6), (.t 7)], none, 0, [0, 1]⟩,
   ⟨(some 5), .mv (.t 8), none, 0, [2, 2, 0, 1, 2]⟩] [6, 7, 8])
 (.seq (.seq (.region 0 [
   ⟨(some 9), .mv (.t 0), none, 0, []⟩,
   ⟨(some 10), .eqv true .ptr (.t 9) (.c .nilp), none, 0, [0]⟩] [9])
 (.cond (.t 10) [10]
  (.seq (.region 0 [
    ⟨(some 11), .mv (.t 0), none, 0, []⟩,
    ⟨(some 12), .mv (.t 0), none, 0, []⟩,
    ⟨(some 13), .nilck (.t 12), none, 0, [1]⟩,
    ⟨(some 14), .faddr 0 (.t 13), none, 0, [2]⟩,
    ⟨(some 15), .load none (.t 14), none, 0, [3]⟩,
    ⟨(some 16), .mkfn 88 [] [(.t 3)], none, 0, []⟩,
    ⟨(some 17), .call (.c (.fn 66 [] [])) [(.t 15), (.t 16)], none, 0, [4, 5]⟩,
    ⟨(some 18), .nilck (.t 11), none, 0, [0, 0, 1, 2, 3, 4, 5, 6]⟩,
    ⟨(some 19), .faddr 0 (.t 18), none, 0, [7, 0, 1, 2, 3, 4, 5, 6]⟩,
    ⟨none, .store 1 (.t 19) (.t 17), none, 0, [8, 6, 6, 0, 1, 2, 3, 4, 5, 6]⟩] [11, 12, 13, 14, 15, 16, 17, 18, 19])
  (.seq (.region 0 [
    ⟨(some 20), .mv (.t 0), none, 0, []⟩,
    ⟨(some 21), .mv (.t 0), none, 0, []⟩,
    ⟨(some 22), .nilck (.t 21), none, 0, [1]⟩,
    ⟨(some 23), .faddr 1 (.t 22), none, 0, [2]⟩,
    ⟨(some 24), .load none (.t 23), none, 0, [3]⟩,
    ⟨(some 25), .mkfn 89 [] [(.t 3)], none, 0, []⟩,
    ⟨(some 26), .call (.c (.fn 80 [] [])) [(.t 24), (.t 25)], none, 0, [4, 5]⟩,
    ⟨(some 27), .nilck (.t 20), none, 0, [0, 0, 1, 2, 3, 4, 5, 6]⟩,
    ⟨(some 28), .faddr 1 (.t 27), none, 0, [7, 0, 1, 2, 3, 4, 5, 6]⟩,
    ⟨none, .store 1 (.t 28) (.t 26), none, 0, [8, 6, 6, 0, 1, 2, 3, 4, 5, 6]⟩] [20, 21, 22, 23, 24, 25, 26, 27, 28])
  (.regionD 0 [
    ⟨(some 29), .mv (.t 0), none, 0, []⟩,
    ⟨(some 30), .nilck (.t 29), none, 0, [0]⟩,
    ⟨(some 31), .faddr 2 (.t 30), none, 0, [1]⟩,
    ⟨(some 32), .load none (.t 31), none, 0, [2]⟩,
    ⟨(some 33), .load none (.t 3), none, 0, []⟩,
    ⟨none, .del .int (.t 32) (.t 33), none, 0, [3, 4]⟩]
    [0, 1, 2, 3, 4, 5] [0, 1, 3, 7, 0, 31] [0, 3, 29, 30, 31, 32, 33])))
  .skip))
 (.seq (.region 0 [
   ⟨(some 34), .mv (.t 5), none, 0, []⟩,
   ⟨(some 4), .mv (.t 34), none, 0, [0, 0]⟩] [5, 34])
 .ret))))
def hs30 : List (List Nat) := [[1, 4], [6, 7, 8], [9], [10], [11, 12, 13, 14, 15, 16, 17, 18, 19], [20, 21, 22, 23, 24, 25, 26, 27, 28], [0, 1, 2, 3, 4, 5], [0, 1, 3, 7, 0, 31], [0, 3, 29, 30, 31, 32, 33], [5, 34]]
theorem ok30 : FnOk Try.prog 30 ic30 [.t 4] 35 := ⟨Try.f30, hs30, Try.func30, by kernel_rfl, by kernel_rfl, by kernel_rfl, by kernel_rfl⟩

/-- (*signalbox/bcm.Jobs).TxRead -/
def ic45 : IC :=
 (.seq (.region 3 [
   ⟨(some 4), .box (.t 1), none, 0, []⟩,
   ⟨(some 5), .box (.t 2), none, 1, []⟩,
   ⟨(some 6), .alloc [(.int .i64 0), (.int .i64 0), (.int .i64 0), (.int .i64 0), .nils, (.bool false), (.bool false)], none, 2, []⟩,
   ⟨(some 7), .mv (.c (.bool false)), none, 3, []⟩] [1, 2, 7])
 (.seq (.seq (.region 0 [
   ⟨(some 9), .mv (.t 0), none, 0, []⟩,
   ⟨(some 10), .eqv false .ptr (.t 9) (.c .nilp), none, 0, [0]⟩] [9])
 (.cond (.t 10) [10]
  (.seq (.region 0 [
    ⟨(some 11), .build [(.int .i64 0), (.int .i64 0), (.int .i64 0), (.int .i64 0), .nils, (.bool false), (.bool false)] [], none, 0, []⟩,
    ⟨none, .store 7 (.t 6) (.t 11), none, 0, [0, 0]⟩,
    ⟨(some 7), .mv (.c (.bool false)), none, 0, [1, 0, 1]⟩] [11])
  .ret)
  .skip))
 (.seq (.region 0 [
   ⟨(some 12), .mv (.t 0), none, 0, []⟩,
   ⟨(some 13), .nilck (.t 12), none, 0, [0]⟩,
   ⟨(some 14), .faddr 0 (.t 13), none, 0, [1]⟩,
   ⟨(some 15), .load none (.t 14), none, 0, [2]⟩,
   ⟨(some 16), .mkfn 109 [] [(.t 4), (.t 5)], none, 0, []⟩,
   ⟨(some 17), .call (.c (.fn 108 [] [])) [(.t 15), (.t 16)], none, 0, [3, 4]⟩,
   ⟨(some 8), .mv (.t 17), none, 0, [5, 5, 0, 1, 2, 3, 4, 5]⟩] [4, 5, 12, 13, 14, 15, 16, 17])
 (.seq (.seq (.region 0 [
   ⟨(some 18), .mv (.t 8), none, 0, []⟩,
   ⟨(some 19), .bin .lss (.t 18) (.c (.int .i64 0)), none, 0, [0]⟩] [18])
 (.cond (.t 19) [19]
  (.seq (.region 0 [
    ⟨(some 20), .build [(.int .i64 0), (.int .i64 0), (.int .i64 0), (.int .i64 0), .nils, (.bool false), (.bool false)] [], none, 0, []⟩,
    ⟨none, .store 7 (.t 6) (.t 20), none, 0, [0, 0]⟩,
    ⟨(some 7), .mv (.c (.bool false)), none, 0, [1, 0, 1]⟩] [20])
  .ret)
  .skip))
 (.seq (.region 0 [
   ⟨(some 21), .mv (.t 0), none, 0, []⟩,
   ⟨(some 22), .nilck (.t 21), none, 0, [0]⟩,
   ⟨(some 23), .faddr 0 (.t 22), none, 0, [1]⟩,
   ⟨(some 24), .load none (.t 23), none, 0, [2]⟩,
   ⟨(some 25), .mv (.t 8), none, 0, []⟩,
   ⟨(some 26), .iaddr 3 (.t 24) (.t 25), none, 0, [3, 4]⟩,
   ⟨(some 27), .faddr 2 (.t 26), none, 0, [5]⟩,
   ⟨(some 28), .load none (.t 27), none, 0, [6]⟩,
   ⟨(some 29), .call (.c (.fn 110 [] [])) [(.t 28)], none, 0, [7]⟩,
   ⟨none, .store 7 (.t 6) (.t 29), none, 0, [8, 8, 0, 1, 2, 3, 4, 5, 6, 7, 8]⟩,
   ⟨(some 7), .mv (.c (.bool true)), none, 0, [9, 0, 1, 2, 3, 4, 5, 6, 7, 8, 9]⟩] [0, 8, 21, 22, 23, 24, 25, 26, 27, 28, 29])
 .ret)))))
def hs45 : List (List Nat) := [[1, 2, 7], [9], [10], [11], [4, 5, 12, 13, 14, 15, 16, 17], [18], [19], [20], [0, 8, 21, 22, 23, 24, 25, 26, 27, 28, 29]]
theorem ok45 : FnOk Try.prog 45 ic45 [.cell 6 (some 7), .t 7] 30 := ⟨Try.f45, hs45, Try.func45, by kernel_rfl, by kernel_rfl, by kernel_rfl, by kernel_rfl⟩

/-- (*signalbox/bcm.Jobs).RxRead -/
def ic46 : IC :=
 (.seq (.region 3 [
   ⟨(some 4), .box (.t 1), none, 0, []⟩,
   ⟨(some 5), .box (.t 2), none, 1, []⟩,
   ⟨(some 6), .alloc [(.int .u32 0), (.int .u32 0), (.bool false), (.str []), (.int .i64 0), (.int .i64 0)], none, 2, []⟩,
   ⟨(some 7), .mv (.c (.bool false)), none, 3, []⟩] [1, 2, 7])
 (.seq (.seq (.region 0 [
   ⟨(some 9), .mv (.t 0), none, 0, []⟩,
   ⟨(some 10), .eqv false .ptr (.t 9) (.c .nilp), none, 0, [0]⟩] [9])
 (.cond (.t 10) [10]
  (.seq (.region 0 [
    ⟨(some 11), .build [(.int .u32 0), (.int .u32 0), (.bool false), (.str []), (.int .i64 0), (.int .i64 0)] [], none, 0, []⟩,
    ⟨none, .store 6 (.t 6) (.t 11), none, 0, [0, 0]⟩,
    ⟨(some 7), .mv (.c (.bool false)), none, 0, [1, 0, 1]⟩] [11])
  .ret)
  .skip))
 (.seq (.region 0 [
   ⟨(some 12), .mv (.t 0), none, 0, []⟩,
   ⟨(some 13), .nilck (.t 12), none, 0, [0]⟩,
   ⟨(some 14), .faddr 1 (.t 13), none, 0, [1]⟩,
   ⟨(some 15), .load none (.t 14), none, 0, [2]⟩,
   ⟨(some 16), .mkfn 112 [] [(.t 4), (.t 5)], none, 0, []⟩,
   ⟨(some 17), .call (.c (.fn 111 [] [])) [(.t 15), (.t 16)], none, 0, [3, 4]⟩,
   ⟨(some 8), .mv (.t 17), none, 0, [5, 5, 0, 1, 2, 3, 4, 5]⟩] [4, 5, 12, 13, 14, 15, 16, 17])
 (.seq (.seq (.region 0 [
   ⟨(some 18), .mv (.t 8), none, 0, []⟩,
   ⟨(some 19), .bin .lss (.t 18) (.c (.int .i64 0)), none, 0, [0]⟩] [18])
 (.cond (.t 19) [19]
  (.seq (.region 0 [
    ⟨(some 20), .build [(.int .u32 0), (.int .u32 0), (.bool false), (.str []), (.int .i64 0), (.int .i64 0)] [], none, 0, []⟩,
    ⟨none, .store 6 (.t 6) (.t 20), none, 0, [0, 0]⟩,
    ⟨(some 7), .mv (.c (.bool false)), none, 0, [1, 0, 1]⟩] [20])
  .ret)
  .skip))
 (.seq (.region 0 [
   ⟨(some 21), .mv (.t 0), none, 0, []⟩,
   ⟨(some 22), .nilck (.t 21), none, 0, [0]⟩,
   ⟨(some 23), .faddr 1 (.t 22), none, 0, [1]⟩,
   ⟨(some 24), .load none (.t 23), none, 0, [2]⟩,
   ⟨(some 25), .mv (.t 8), none, 0, []⟩,
   ⟨(some 26), .iaddr 5 (.t 24) (.t 25), none, 0, [3, 4]⟩,
   ⟨(some 27), .faddr 4 (.t 26), none, 0, [5]⟩,
   ⟨(some 28), .load none (.t 27), none, 0, [6]⟩,
   ⟨(some 29), .call (.c (.fn 113 [] [])) [(.t 28)], none, 0, [7]⟩,
   ⟨none, .store 6 (.t 6) (.t 29), none, 0, [8, 8, 0, 1, 2, 3, 4, 5, 6, 7, 8]⟩,
   ⟨(some 7), .mv (.c (.bool true)), none, 0, [9, 0, 1, 2, 3, 4, 5, 6, 7, 8, 9]⟩] [0, 8, 21, 22, 23, 24, 25, 26, 27, 28, 29])
 .ret)))))
def hs46 : List (List Nat) := [[1, 2, 7], [9], [10], [11], [4, 5, 12, 13, 14, 15, 16, 17], [18], [19], [20], [0, 8, 21, 22, 23, 24, 25, 26, 27, 28, 29]]
theorem ok46 : FnOk Try.prog 46 ic46 [.cell 6 (some 6), .t 7] 30 := ⟨Try.f46, hs46, Try.func46, by kernel_rfl, by kernel_rfl, by kernel_rfl, by kernel_rfl⟩

/-- (*signalbox/bcm.Jobs).Note -/
def ic47 : IC :=
 (.seq (.region 1 [
   ⟨(some 4), .alloc [(.int .i64 0), (.int .i64 0), (.int .i64 0), (.int .i64 0), (.int .i64 0), (.str []), (.int .i64 0)], none, 0, []⟩,
   ⟨(some 5), .mv (.c (.int .i64 0)), none, 1, []⟩] [5])
 (.seq (.seq (.region 0 [
   ⟨(some 8), .mv (.t 0), none, 0, []⟩,
   ⟨(some 9), .eqv false .ptr (.t 8) (.c .nilp), none, 0, [0]⟩] [8])
 (.cond (.t 9) [9]
  (.seq (.region 0 [
    ⟨(some 10), .build [(.int .i64 0), (.int .i64 0), (.int .i64 0), (.int .i64 0), (.int .i64 0), (.str []), (.int .i64 0)] [], none, 0, []⟩,
    ⟨none, .store 7 (.t 4) (.t 10), none, 0, [0, 0]⟩,
    ⟨(some 5), .mv (.c (.int .i64 1)), none, 0, [1, 0, 1]⟩] [10])
  .ret)
  .skip))
 (.seq (.region 1 [
   ⟨(some 12), .mv (.t 0), none, 0, []⟩,
   ⟨(some 13), .mv (.t 1), none, 0, []⟩,
   ⟨(some 14), .call (.c (.fn 114 [] [])) [(.t 12), (.t 13)], none, 0, [0, 1]⟩,
   ⟨(some 15), .call (.c (.fn 115 [] [])) [(.t 14)], none, 0, [2, 2]⟩,
   ⟨(some 11), .mv (.t 15), none, 0, [3]⟩,
   ⟨(some 16), .ext 0 (.t 11), none, 0, [4]⟩,
   ⟨(some 17), .ext 1 (.t 11), none, 0, [4]⟩,
   ⟨(some 6), .alloc [(.int .i64 0), (.int .i64 0), (.int .i64 0), (.int .i64 0), (.int .i64 0), (.str []), (.int .i64 0)], none, 0, []⟩,
   ⟨none, .store 7 (.t 6) (.t 16), none, 1, [7, 5, 3, 0, 1, 2, 3, 4, 5, 7]⟩,
   ⟨(some 7), .mv (.t 17), none, 1, [6, 8, 0, 1, 2, 3, 4, 5, 6, 7, 8]⟩] [0, 1, 11, 12, 13, 14, 15, 16, 17])
 (.seq (.seq (.region 0 [
   ⟨(some 18), .mv (.t 7), none, 0, []⟩,
   ⟨(some 19), .bin .eql (.t 18) (.c (.int .i64 1)), none, 0, [0]⟩] [18])
 (.cond (.t 19) [19]
  (.region 0 [
    ⟨(some 7), .mv (.c (.int .i64 6)), none, 0, []⟩] [])
  .skip))
 (.seq (.region 0 [
   ⟨(some 20), .load (some 7) (.t 6), none, 0, []⟩,
   ⟨(some 21), .mv (.t 7), none, 0, []⟩,
   ⟨none, .store 7 (.t 4) (.t 20), none, 0, [0, 0]⟩,
   ⟨(some 5), .mv (.t 21), none, 0, [1, 2, 0, 1, 2]⟩] [6, 7, 20, 21])
 .ret)))))
def hs47 : List (List Nat) := [[5], [8], [9], [10], [0, 1, 11, 12, 13, 14, 15, 16, 17], [18], [19], [], [6, 7, 20, 21]]
theorem ok47 : FnOk Try.prog 47 ic47 [.cell 4 (some 7), .t 5] 22 := ⟨Try.f47, hs47, Try.func47, by kernel_rfl, by kernel_rfl, by kernel_rfl, by kernel_rfl⟩

/-- (*signalbox/bcm.Jobs).RxStop -/
def ic48 : IC :=
 (.seq (.region 2 [
   ⟨(some 4), .box (.t 1), none, 0, []⟩,
   ⟨(some 5), .box (.t 2), none, 1, []⟩,
   ⟨(some 6), .mv (.c (.int .i64 0)), none, 2, []⟩] [1, 2, 6])
 (.seq (.seq (.region 0 [
   ⟨(some 8), .mv (.t 0), none, 0, []⟩,
   ⟨(some 9), .eqv false .ptr (.t 8) (.c .nilp), none, 0, [0]⟩] [8])
 (.cond (.t 9) [9]
  (.seq (.region 0 [
    ⟨(some 6), .mv (.c (.int .i64 1)), none, 0, []⟩] [])
  .ret)
  .skip))
 (.seq (.region 0 [
   ⟨(some 10), .mv (.t 0), none, 0, []⟩,
   ⟨(some 11), .nilck (.t 10), none, 0, [0]⟩,
   ⟨(some 12), .faddr 1 (.t 11), none, 0, [1]⟩,
   ⟨(some 13), .load none (.t 12), none, 0, [2]⟩,
   ⟨(some 14), .lens (.t 13), none, 0, [3]⟩,
   ⟨(some 7), .mv (.t 14), none, 0, [4, 0, 1, 2, 3, 4]⟩] [10, 11, 12, 13, 14])
 (.seq (.region 0 [
   ⟨(some 15), .mv (.t 0), none, 0, []⟩,
   ⟨(some 16), .mv (.t 0), none, 0, []⟩,
   ⟨(some 17), .nilck (.t 16), none, 0, [1]⟩,
   ⟨(some 18), .faddr 1 (.t 17), none, 0, [2]⟩,
   ⟨(some 19), .load none (.t 18), none, 0, [3]⟩,
   ⟨(some 20), .mkfn 116 [] [(.t 4), (.t 5)], none, 0, []⟩,
   ⟨(some 21), .call (.c (.fn 80 [] [])) [(.t 19), (.t 20)], none, 0, [4, 5]⟩,
   ⟨(some 22), .nilck (.t 15), none, 0, [0, 0, 1, 2, 3, 4, 5, 6]⟩,
   ⟨(some 23), .faddr 1 (.t 22), none, 0, [7, 0, 1, 2, 3, 4, 5, 6]⟩,
   ⟨none, .store 1 (.t 23) (.t 21), none, 0, [8, 6, 6, 0, 1, 2, 3, 4, 5, 6]⟩] [4, 5, 15, 16, 17, 18, 19, 20, 21, 22, 23])
 (.seq (.seq (.region 0 [
   ⟨(some 24), .mv (.t 0), none, 0, []⟩,
   ⟨(some 25), .nilck (.t 24), none, 0, [0]⟩,
   ⟨(some 26), .faddr 1 (.t 25), none, 0, [1]⟩,
   ⟨(some 27), .load none (.t 26), none, 0, [2]⟩,
   ⟨(some 28), .lens (.t 27), none, 0, [3]⟩,
   ⟨(some 29), .mv (.t 7), none, 0, []⟩,
   ⟨(some 30), .bin .eql (.t 28) (.t 29), none, 0, [4, 5]⟩] [0, 7, 24, 25, 26, 27, 28, 29])
 (.cond (.t 30) [30]
  (.seq (.region 0 [
    ⟨(some 6), .mv (.c (.int .i64 11)), none, 0, []⟩] [])
  .ret)
  .skip))
 (.seq (.region 0 [
   ⟨(some 6), .mv (.c (.int .i64 0)), none, 0, []⟩] [])
 .ret))))))
def hs48 : List (List Nat) := [[1, 2, 6], [8], [9], [], [10, 11, 12, 13, 14], [4, 5, 15, 16, 17, 18, 19, 20, 21, 22, 23], [0, 7, 24, 25, 26, 27, 28, 29], [30], [], []]
theorem ok48 : FnOk Try.prog 48 ic48 [.t 6] 31 := ⟨Try.f48, hs48, Try.func48, by kernel_rfl, by kernel_rfl, by kernel_rfl, by kernel_rfl⟩

/-- (*signalbox/bcm.Jobs).Hear -/
def ic49_b1 : IC :=
 (.seq (.region 0 [
   ⟨(some 21), .bin .lss (.t 20) (.t 19), none, 0, []⟩] [])
 (.seq (.cond (.t 21) [21]
  .skip
  (.exit 0))
 (.seq (.block 1 (.seq (.region 1 [
   ⟨(some 22), .iaddr 5 (.t 18) (.t 20), none, 0, []⟩,
   ⟨(some 23), .load (some 5) (.t 22), none, 0, [0]⟩,
   ⟨(some 9), .alloc [(.int .i64 0), (.int .u32 0), (.int .u32 0), (.bool false), .nilp], none, 0, []⟩,
   ⟨none, .store 5 (.t 9) (.t 23), none, 1, [2, 1, 0, 1, 2]⟩] [22, 23])
 (.seq (.region 1 [
   ⟨(some 25), .faddr 4 (.t 9), none, 0, []⟩,
   ⟨(some 26), .load none (.t 25), none, 0, [0]⟩,
   ⟨(some 27), .mv (.t 1), none, 0, []⟩,
   ⟨(some 28), .load (some 4) (.t 5), none, 0, []⟩,
   ⟨(some 29), .call (.c (.fn 117 [] [])) [(.t 26), (.t 27), (.t 28)], none, 0, [1, 2, 3]⟩,
   ⟨(some 24), .mv (.t 29), none, 0, [4]⟩,
   ⟨(some 30), .ext 0 (.t 24), none, 0, [5]⟩,
   ⟨(some 31), .ext 1 (.t 24), none, 0, [5]⟩,
   ⟨(some 10), .alloc [(.int .i64 0), (.int .i64 0), (.int .i64 0), (.int .i64 0), (.int .i64 0), (.str []), (.int .i64 0)], none, 0, []⟩,
   ⟨none, .store 7 (.t 10) (.t 30), none, 1, [8, 6, 4, 0, 1, 2, 3, 4, 5, 6, 8]⟩,
   ⟨(some 11), .mv (.t 31), none, 1, [7, 9, 0, 1, 2, 3, 4, 5, 6, 7, 8, 9]⟩] [24, 25, 26, 27, 28, 29, 30, 31])
 (.seq (.region 0 [
   ⟨(some 32), .mv (.t 11), none, 0, []⟩] [11])
 (.cond (.t 32) [32]
  (.seq (.region 0 [
    ⟨(some 33), .mv (.t 0), none, 0, []⟩,
    ⟨(some 34), .faddr 0 (.t 9), none, 0, []⟩,
    ⟨(some 35), .load none (.t 34), none, 0, [1]⟩,
    ⟨(some 36), .load (some 7) (.t 10), none, 0, []⟩,
    ⟨(some 37), .call (.c (.fn 76 [] [])) [(.t 33), (.t 35), (.t 36)], none, 0, [0, 2, 3]⟩] [9, 10, 33, 34, 35, 36, 37])
  (.region 0 [
    ⟨(some 38), .mv (.t 7), none, 0, []⟩,
    ⟨(some 39), .bin .add (.t 38) (.c (.int .i64 1)), none, 0, [0]⟩,
    ⟨(some 7), .mv (.t 39), none, 0, [1, 0, 1]⟩] [38, 39]))
  .skip)))))
 (.region 0 [
   ⟨(some 40), .bin .add (.t 20) (.c (.int .i64 1)), none, 0, []⟩,
   ⟨(some 20), .mv (.t 40), none, 0, [0]⟩] [40]))))
def ic49_l1 : IC := .loop [2, 6, 9, 10, 11, 12, 13, 14, 15, 16, 17, 21, 22, 23, 24, 25, 26, 27, 28, 29, 30, 31, 32, 33, 34, 35, 36, 37, 38, 39, 40, 41] ic49_b1
def ic49 : IC :=
 (.seq (.region 1 [
   ⟨(some 5), .box (.t 2), none, 0, []⟩,
   ⟨(some 6), .mv (.c (.int .i64 0)), none, 1, []⟩] [2, 6])
 (.seq (.region 0 [
   ⟨(some 7), .mv (.c (.int .i64 0)), none, 0, []⟩] [])
 (.seq (.seq (.region 0 [
   ⟨(some 12), .mv (.t 0), none, 0, []⟩,
   ⟨(some 13), .eqv false .ptr (.t 12) (.c .nilp), none, 0, [0]⟩] [12])
 (.cond (.t 13) [13]
  (.seq (.region 0 [
    ⟨(some 14), .mv (.t 7), none, 0, []⟩,
    ⟨(some 6), .mv (.t 14), none, 0, [0, 0]⟩] [7, 14])
  .ret)
  .skip))
 (.seq (.seq (.region 0 [
   ⟨(some 15), .mv (.t 0), none, 0, []⟩,
   ⟨(some 16), .nilck (.t 15), none, 0, [0]⟩,
   ⟨(some 17), .faddr 1 (.t 16), none, 0, [1]⟩,
   ⟨(some 18), .load none (.t 17), none, 0, [2]⟩,
   ⟨(some 19), .lens (.t 18), none, 0, [3]⟩,
   ⟨(some 20), .mv (.c (.int .i64 0)), none, 0, []⟩] [15, 16, 17])
 (.block 0 ic49_l1))
 (.seq (.region 0 [
   ⟨(some 41), .mv (.t 7), none, 0, []⟩,
   ⟨(some 6), .mv (.t 41), none, 0, [0, 0]⟩] [7, 41])
 .ret)))))
def hs49 : List (List Nat) := [[2, 6], [], [12], [13], [7, 14], [15, 16, 17], [2, 6, 9, 10, 11, 12, 13, 14, 15, 16, 17, 21, 22, 23, 24, 25, 26, 27, 28, 29, 30, 31, 32, 33, 34, 35, 36, 37, 38, 39, 40, 41], [], [21], [22, 23], [24, 25, 26, 27, 28, 29, 30, 31], [11], [32], [9, 10, 33, 34, 35, 36, 37], [38, 39], [40], [7, 41]]
theorem ok49 : FnOk Try.prog 49 ic49 [.t 6] 42 := ⟨Try.f49, hs49, Try.func49, by kernel_rfl, by kernel_rfl, by kernel_rfl, by kernel_rfl⟩

/-- (*signalbox/bcm.Jobs).Waits -/
def ic50 : IC :=
 (.seq (.region 0 [
   ⟨(some 4), .mv (.c .nils), none, 0, []⟩] [4])
 (.seq (.region 0 [
   ⟨(some 5), .mv (.t 0), none, 0, []⟩,
   ⟨(some 6), .mv (.t 1), none, 0, []⟩,
   ⟨(some 7), .call (.c (.fn 114 [] [])) [(.t 5), (.t 6)], none, 0, [0, 1]⟩,
   ⟨(some 8), .call (.c (.fn 118 [] [])) [(.t 7)], none, 0, [2, 2]⟩,
   ⟨(some 4), .mv (.t 8), none, 0, [3, 3, 0, 1, 2, 3]⟩] [0, 1, 5, 6, 7, 8])
 .ret))
def hs50 : List (List Nat) := [[4], [0, 1, 5, 6, 7, 8]]
theorem ok50 : FnOk Try.prog 50 ic50 [.t 4] 9 := ⟨Try.f50, hs50, Try.func50, by kernel_rfl, by kernel_rfl, by kernel_rfl, by kernel_rfl⟩

/-- (*signalbox/bcm.Jobs).Lost -/
def ic51 : IC :=
 (.seq (.region 0 [
   ⟨(some 4), .mv (.c (.int .i64 0)), none, 0, []⟩] [4])
 (.seq (.region 0 [
   ⟨(some 5), .mv (.t 0), none, 0, []⟩,
   ⟨(some 6), .mv (.t 1), none, 0, []⟩,
   ⟨(some 7), .call (.c (.fn 114 [] [])) [(.t 5), (.t 6)], none, 0, [0, 1]⟩,
   ⟨(some 8), .call (.c (.fn 119 [] [])) [(.t 7)], none, 0, [2, 2]⟩,
   ⟨(some 4), .mv (.t 8), none, 0, [3, 3, 0, 1, 2, 3]⟩] [0, 1, 5, 6, 7, 8])
 .ret))
def hs51 : List (List Nat) := [[4], [0, 1, 5, 6, 7, 8]]
theorem ok51 : FnOk Try.prog 51 ic51 [.t 4] 9 := ⟨Try.f51, hs51, Try.func51, by kernel_rfl, by kernel_rfl, by kernel_rfl, by kernel_rfl⟩

/-- signalbox/bcm.right -/
def ic64 : IC :=
 (.seq (.region 0 [
   ⟨(some 2), .mv (.c (.bool false)), none, 0, []⟩] [2])
 (.seq (.region 0 [
   ⟨(some 3), .mv (.t 0), none, 0, []⟩,
   ⟨(some 4), .bin .geq (.t 3) (.c (.int .i64 0)), none, 0, [0]⟩,
   ⟨(some 5), .mv (.t 4), none, 0, [1]⟩,
   ⟨(some 6), .mv (.t 0), (some (5, true)), 0, [2]⟩,
   ⟨(some 7), .bin .lss (.t 6) (.c (.int .i64 100)), (some (5, true)), 0, [3, 2]⟩,
   ⟨(some 8), .pick (.t 5) (.t 7) (.c (.bool false)), none, 0, [2, 4]⟩,
   ⟨(some 2), .mv (.t 8), none, 0, [5, 2, 0, 1, 2, 3, 4, 5]⟩] [0, 3, 4, 5, 6, 7, 8])
 .ret))
def hs64 : List (List Nat) := [[2], [0, 3, 4, 5, 6, 7, 8]]
theorem ok64 : FnOk Try.prog 64 ic64 [.t 2] 9 := ⟨Try.f64, hs64, Try.func64, by kernel_rfl, by kernel_rfl, by kernel_rfl, by kernel_rfl⟩

/-- signalbox/cyc.New -/
def ic65 : IC :=
 (.seq (.region 1 [
   ⟨(some 2), .box (.t 0), none, 0, []⟩,
   ⟨(some 4), .mv (.c .nilp), none, 1, []⟩,
   ⟨(some 5), .mv (.c (.int .i64 0)), none, 1, [1]⟩] [0, 4, 5])
 (.seq (.seq (.region 0 [
   ⟨(some 8), .mv (.t 1), none, 0, []⟩,
   ⟨(some 9), .call (.c (.fn 130 [] [])) [(.t 8)], none, 0, [0]⟩,
   ⟨(some 10), .un .not (.t 9), none, 0, [1]⟩] [8, 9])
 (.cond (.t 10) [10]
  (.seq (.region 0 [
    ⟨(some 4), .mv (.c .nilp), none, 0, []⟩,
    ⟨(some 5), .mv (.c (.int .i64 2)), none, 0, [0, 0]⟩] [])
  .ret)
  .skip))
 (.seq (.seq (.region 0 [
   ⟨(some 11), .load (some 7) (.t 2), none, 0, []⟩,
   ⟨(some 12), .call (.c (.fn 131 [] [])) [(.t 11)], none, 0, [0]⟩,
   ⟨(some 6), .mv (.t 12), none, 0, [1, 1, 0, 1]⟩] [11, 12])
 (.seq (.region 0 [
   ⟨(some 13), .mv (.t 6), none, 0, []⟩,
   ⟨(some 14), .bin .neq (.t 13) (.c (.int .i64 0)), none, 0, [0]⟩] [13])
 (.cond (.t 14) [14]
  (.seq (.region 0 [
    ⟨(some 15), .mv (.t 6), none, 0, []⟩,
    ⟨(some 4), .mv (.c .nilp), none, 0, []⟩,
    ⟨(some 5), .mv (.t 15), none, 0, [0, 1, 0, 1]⟩] [6, 15])
  .ret)
  .skip)))
 (.seq (.region 0 [
   ⟨(some 16), .faddr 4 (.t 2), none, 0, []⟩,
   ⟨(some 17), .load none (.t 16), none, 0, [0]⟩,
   ⟨(some 18), .call (.c (.fn 132 [] [])) [(.t 17)], none, 0, [1]⟩,
   ⟨(some 19), .faddr 4 (.t 2), none, 0, [0, 1, 2]⟩,
   ⟨none, .store 1 (.t 19) (.t 18), none, 0, [3, 2, 2, 0, 1, 2]⟩] [16, 17, 18, 19])
 (.seq (.regionD 1 [
   ⟨(some 20), .load (some 7) (.t 2), none, 0, []⟩,
   ⟨(some 21), .faddr 4 (.t 2), none, 0, []⟩,
   ⟨(some 22), .load none (.t 21), none, 0, [1]⟩,
   ⟨(some 23), .call (.c (.fn 133 [] [])) [(.t 22)], none, 0, [2]⟩,
   ⟨(some 24), .build [(.int .i64 0), (.int .i64 0), (.int .i64 0), (.int .i64 0), .nils, (.bool false), (.bool false), .nilf, (.bool false), (.int .i64 0), (.int .i64 0), (.bool false)] [(0, 7, (.t 20)), (7, 1, (.t 23))], none, 0, [0, 3]⟩,
   ⟨(some 25), .box (.t 24), none, 0, [4]⟩,
   ⟨(some 7), .mv (.t 25), none, 1, [5, 3, 0, 1, 2, 3, 4, 5]⟩]
   [1, 0, 2, 3, 4, 5, 6] [0, 0, 2, 6, 15, 31, 63] [20, 21, 22, 23, 24, 25])
 (.seq (.seq (.region 0 [
   ⟨(some 26), .faddr 2 (.t 2), none, 0, []⟩,
   ⟨(some 27), .load none (.t 26), none, 0, [0]⟩,
   ⟨(some 28), .bin .gtr (.t 27) (.c (.int .i64 0)), none, 0, [1]⟩] [26, 27])
 (.cond (.t 28) [28]
  (.region 0 [
    ⟨(some 29), .mv (.t 7), none, 0, []⟩,
    ⟨(some 30), .faddr 1 (.t 2), none, 0, []⟩,
    ⟨(some 31), .load none (.t 30), none, 0, [1]⟩,
    ⟨(some 32), .nilck (.t 29), none, 0, [0, 0, 1, 2]⟩,
    ⟨(some 33), .faddr 9 (.t 32), none, 0, [3, 0, 1, 2]⟩,
    ⟨none, .store 1 (.t 33) (.t 31), none, 0, [4, 2, 0, 1, 2]⟩] [2, 29, 30, 31, 32, 33])
  .skip))
 (.seq (.region 0 [
   ⟨(some 34), .mv (.t 7), none, 0, []⟩,
   ⟨(some 35), .mv (.t 1), none, 0, []⟩,
   ⟨(some 36), .call (.c (.fn 134 [] [])) [(.t 34), (.t 35)], none, 0, [0, 1]⟩] [1, 34, 35, 36])
 (.seq (.region 0 [
   ⟨(some 37), .mv (.t 7), none, 0, []⟩,
   ⟨(some 4), .mv (.t 37), none, 0, [0, 0]⟩,
   ⟨(some 5), .mv (.c (.int .i64 0)), none, 0, [1, 0, 1]⟩] [7, 37])
 .ret))))))))
def hs65 : List (List Nat) := [[0, 4, 5], [8, 9], [10], [], [11, 12], [13], [14], [6, 15], [16, 17, 18, 19], [1, 0, 2, 3, 4, 5, 6], [0, 0, 2, 6, 15, 31, 63], [20, 21, 22, 23, 24, 25], [26, 27], [28], [2, 29, 30, 31, 32, 33], [1, 34, 35, 36], [7, 37]]
theorem ok65 : FnOk Try.prog 65 ic65 [.t 4, .t 5] 38 := ⟨Try.f65, hs65, Try.func65, by kernel_rfl, by kernel_rfl, by kernel_rfl, by kernel_rfl⟩

/-- slices.DeleteFunc[[]signalbox/bcm.sender,signalbox/bcm.sender] -/
def ic66_b1 : IC :=
 (.seq (.seq (.region 0 [
   ⟨(some 16), .mv (.t 6), none, 0, []⟩,
   ⟨(some 17), .mv (.t 0), none, 0, []⟩,
   ⟨(some 18), .lens (.t 17), none, 0, [1]⟩,
   ⟨(some 19), .bin .lss (.t 16) (.t 18), none, 0, [0, 2]⟩] [16, 17, 18])
 (.cond (.t 19) [19]
  .skip
  (.exit 0)))
 (.seq (.block 1 (.seq (.region 1 [
   ⟨(some 22), .mv (.t 0), none, 0, []⟩,
   ⟨(some 23), .mv (.t 6), none, 0, []⟩,
   ⟨(some 24), .iaddr 3 (.t 22) (.t 23), none, 0, [0, 1]⟩,
   ⟨(some 25), .load (some 3) (.t 24), none, 0, [2]⟩,
   ⟨(some 7), .alloc [(.int .i64 0), (.int .i64 0), .nilp], none, 0, []⟩,
   ⟨none, .store 3 (.t 7) (.t 25), none, 1, [4, 3, 0, 1, 2, 3, 4]⟩] [22, 23, 24, 25])
 (.seq (.region 0 [
   ⟨(some 26), .mv (.t 1), none, 0, []⟩,
   ⟨(some 27), .load (some 3) (.t 7), none, 0, []⟩,
   ⟨(some 28), .call (.t 26) [(.t 27)], none, 0, [0, 1]⟩,
   ⟨(some 29), .un .not (.t 28), none, 0, [2]⟩] [26, 27, 28])
 (.cond (.t 29) [29]
  (.seq (.region 0 [
    ⟨(some 30), .mv (.t 0), none, 0, []⟩,
    ⟨(some 31), .mv (.t 5), none, 0, []⟩,
    ⟨(some 32), .load (some 3) (.t 7), none, 0, []⟩,
    ⟨(some 33), .iaddr 3 (.t 30) (.t 31), none, 0, [0, 1, 0, 1, 2]⟩,
    ⟨none, .store 3 (.t 33) (.t 32), none, 0, [3, 2, 0, 1, 2]⟩] [7, 30, 31, 32, 33])
  (.region 0 [
    ⟨(some 34), .mv (.t 5), none, 0, []⟩,
    ⟨(some 35), .bin .add (.t 34) (.c (.int .i64 1)), none, 0, [0]⟩,
    ⟨(some 5), .mv (.t 35), none, 0, [1, 0, 1]⟩] [34, 35]))
  .skip))))
 (.region 0 [
   ⟨(some 20), .mv (.t 6), none, 0, []⟩,
   ⟨(some 21), .bin .add (.t 20) (.c (.int .i64 1)), none, 0, [0]⟩,
   ⟨(some 6), .mv (.t 21), none, 0, [1, 0, 1]⟩] [20, 21])))
def ic66_l1 : IC := .loop [4, 7, 8, 9, 10, 11, 12, 13, 14, 15, 16, 17, 18, 19, 20, 21, 22, 23, 24, 25, 26, 27, 28, 29, 30, 31, 32, 33, 34, 35, 36, 37, 38, 39, 40, 41] ic66_b1
def ic66 : IC :=
 (.seq (.region 0 [
   ⟨(some 4), .mv (.c .nils), none, 0, []⟩] [4])
 (.seq (.region 0 [
   ⟨(some 8), .mv (.t 0), none, 0, []⟩,
   ⟨(some 9), .mv (.t 1), none, 0, []⟩,
   ⟨(some 10), .call (.c (.fn 108 [] [])) [(.t 8), (.t 9)], none, 0, [0, 1]⟩,
   ⟨(some 5), .mv (.t 10), none, 0, [2, 2, 0, 1, 2]⟩] [8, 9, 10])
 (.seq (.seq (.region 0 [
   ⟨(some 11), .mv (.t 5), none, 0, []⟩,
   ⟨(some 12), .bin .eql (.t 11) (.c (.int .i64 (-1))), none, 0, [0]⟩] [11])
 (.cond (.t 12) [12]
  (.seq (.region 0 [
    ⟨(some 13), .mv (.t 0), none, 0, []⟩,
    ⟨(some 4), .mv (.t 13), none, 0, [0, 0]⟩] [0, 13])
  .ret)
  .skip))
 (.seq (.seq (.region 0 [
   ⟨(some 14), .mv (.t 5), none, 0, []⟩,
   ⟨(some 15), .bin .add (.t 14) (.c (.int .i64 1)), none, 0, [0]⟩,
   ⟨(some 6), .mv (.t 15), none, 0, [1, 0, 1]⟩] [14, 15])
 (.block 0 ic66_l1))
 (.seq (.region 0 [
   ⟨(some 36), .mv (.t 0), none, 0, []⟩,
   ⟨(some 37), .mv (.t 5), none, 0, []⟩,
   ⟨(some 38), .slc 3 (.t 36) (some (.t 37)) none none, none, 0, [0, 1]⟩,
   ⟨none, .clrs 3 [(.int .i64 0), (.int .i64 0), .nilp] (.t 38), none, 0, [2]⟩] [36, 37, 38])
 (.seq (.region 0 [
   ⟨(some 39), .mv (.t 0), none, 0, []⟩,
   ⟨(some 40), .mv (.t 5), none, 0, []⟩,
   ⟨(some 41), .slc 3 (.t 39) none (some (.t 40)) none, none, 0, [0, 1]⟩,
   ⟨(some 4), .mv (.t 41), none, 0, [2, 0, 1, 2]⟩] [0, 5, 39, 40, 41])
 .ret))))))
def hs66 : List (List Nat) := [[4], [8, 9, 10], [11], [12], [0, 13], [14, 15], [4, 7, 8, 9, 10, 11, 12, 13, 14, 15, 16, 17, 18, 19, 20, 21, 22, 23, 24, 25, 26, 27, 28, 29, 30, 31, 32, 33, 34, 35, 36, 37, 38, 39, 40, 41], [16, 17, 18], [19], [22, 23, 24, 25], [26, 27, 28], [29], [7, 30, 31, 32, 33], [34, 35], [20, 21], [36, 37, 38], [0, 5, 39, 40, 41]]
theorem ok66 : FnOk Try.prog 66 ic66 [.t 4] 42 := ⟨Try.f66, hs66, Try.func66, by kernel_rfl, by kernel_rfl, by kernel_rfl, by kernel_rfl⟩

/-- slices.Clone[[]signalbox/bcm.sender,signalbox/bcm.sender] -/
def ic67 : IC :=
 (.seq (.region 0 [
   ⟨(some 2), .mv (.c .nils), none, 0, []⟩] [2])
 (.seq (.seq (.region 0 [
   ⟨(some 3), .mv (.t 0), none, 0, []⟩,
   ⟨(some 4), .eqv false .slice (.t 3) (.c .nils), none, 0, [0]⟩] [3])
 (.cond (.t 4) [4]
  (.seq (.region 0 [
    ⟨(some 2), .mv (.c .nils), none, 0, []⟩] [])
  .ret)
  .skip))
 (.seq (.region 2 [
   ⟨(some 5), .bslice 3 [], none, 0, []⟩,
   ⟨(some 6), .mv (.t 0), none, 1, []⟩,
   ⟨(some 7), .app 3 24 (.t 5) (.t 6), none, 1, [0, 1]⟩,
   ⟨(some 2), .mv (.t 7), none, 2, [2, 2, 0, 1, 2]⟩] [0, 5, 6, 7])
 .ret)))
def hs67 : List (List Nat) := [[2], [3], [4], [], [0, 5, 6, 7]]
theorem ok67 : FnOk Try.prog 67 ic67 [.t 2] 8 := ⟨Try.f67, hs67, Try.func67, by kernel_rfl, by kernel_rfl, by kernel_rfl, by kernel_rfl⟩

/-- (*signalbox/bcm.Jobs).Tx$1 -/
def ic68 : IC :=
 (.seq (.region 1 [
   ⟨(some 3), .box (.t 0), none, 0, []⟩,
   ⟨(some 4), .mv (.c (.bool false)), none, 1, []⟩] [0, 4])
 (.seq (.region 0 [
   ⟨(some 5), .load (some 3) (.t 3), none, 0, []⟩,
   ⟨(some 6), .load none (.t 1), none, 0, []⟩,
   ⟨(some 7), .faddr 0 (.t 2), none, 0, []⟩,
   ⟨(some 8), .load none (.t 7), none, 0, [2]⟩,
   ⟨(some 9), .call (.c (.fn 69 [] [])) [(.t 5), (.t 6), (.t 8)], none, 0, [0, 1, 3]⟩,
   ⟨(some 4), .mv (.t 9), none, 0, [4, 4, 0, 1, 2, 3, 4]⟩] [1, 2, 3, 5, 6, 7, 8, 9])
 .ret))
def hs68 : List (List Nat) := [[0, 4], [1, 2, 3, 5, 6, 7, 8, 9]]
theorem ok68 : FnOk Try.prog 68 ic68 [.t 4] 10 := ⟨Try.f68, hs68, Try.func68, by kernel_rfl, by kernel_rfl, by kernel_rfl, by kernel_rfl⟩

/-- (signalbox/bcm.sender).is -/
def ic69 : IC :=
 (.seq (.region 1 [
   ⟨(some 3), .box (.t 0), none, 0, []⟩,
   ⟨(some 6), .mv (.c (.bool false)), none, 1, []⟩] [0, 6])
 (.seq (.region 0 [
   ⟨(some 7), .faddr 0 (.t 3), none, 0, []⟩,
   ⟨(some 8), .load none (.t 7), none, 0, [0]⟩,
   ⟨(some 9), .mv (.t 1), none, 0, []⟩,
   ⟨(some 10), .bin .eql (.t 8) (.t 9), none, 0, [1, 2]⟩,
   ⟨(some 11), .mv (.t 10), none, 0, [3]⟩,
   ⟨(some 12), .faddr 1 (.t 3), (some (11, true)), 0, [4]⟩,
   ⟨(some 13), .load none (.t 12), (some (11, true)), 0, [5, 4]⟩,
   ⟨(some 14), .mv (.t 2), (some (11, true)), 0, [4]⟩,
   ⟨(some 15), .bin .eql (.t 13) (.t 14), (some (11, true)), 0, [6, 7, 4]⟩,
   ⟨(some 16), .pick (.t 11) (.t 15) (.c (.bool false)), none, 0, [4, 8]⟩,
   ⟨(some 6), .mv (.t 16), none, 0, [9, 4, 0, 1, 2, 3, 4, 5, 6, 7, 8, 9]⟩] [1, 2, 3, 7, 8, 9, 10, 11, 12, 13, 14, 15, 16])
 .ret))
def hs69 : List (List Nat) := [[0, 6], [1, 2, 3, 7, 8, 9, 10, 11, 12, 13, 14, 15, 16]]
theorem ok69 : FnOk Try.prog 69 ic69 [.t 6] 17 := ⟨Try.f69, hs69, Try.func69, by kernel_rfl, by kernel_rfl, by kernel_rfl, by kernel_rfl⟩

/-- signalbox/bcm.count[signalbox/bcm.sender] -/
def ic70_b1 : IC :=
 (.seq (.region 0 [
   ⟨(some 11), .bin .lss (.t 10) (.t 9), none, 0, []⟩] [])
 (.seq (.cond (.t 11) [11]
  .skip
  (.exit 0))
 (.seq (.block 1 (.seq (.region 1 [
   ⟨(some 12), .iaddr 3 (.t 8) (.t 10), none, 0, []⟩,
   ⟨(some 13), .load (some 3) (.t 12), none, 0, [0]⟩,
   ⟨(some 7), .alloc [(.int .i64 0), (.int .i64 0), .nilp], none, 0, []⟩,
   ⟨none, .store 3 (.t 7) (.t 13), none, 1, [2, 1, 0, 1, 2]⟩] [12, 13])
 (.seq (.region 0 [
   ⟨(some 14), .mv (.t 1), none, 0, []⟩,
   ⟨(some 15), .load (some 3) (.t 7), none, 0, []⟩,
   ⟨(some 16), .call (.t 14) [(.t 15)], none, 0, [0, 1]⟩] [7, 14, 15])
 (.cond (.t 16) [16]
  (.region 0 [
    ⟨(some 17), .mv (.t 5), none, 0, []⟩,
    ⟨(some 18), .bin .add (.t 17) (.c (.int .i64 1)), none, 0, [0]⟩,
    ⟨(some 5), .mv (.t 18), none, 0, [1, 0, 1]⟩] [17, 18])
  .skip))))
 (.region 0 [
   ⟨(some 19), .bin .add (.t 10) (.c (.int .i64 1)), none, 0, []⟩,
   ⟨(some 10), .mv (.t 19), none, 0, [0]⟩] [19]))))
def ic70_l1 : IC := .loop [0, 4, 7, 11, 12, 13, 14, 15, 16, 17, 18, 19, 20] ic70_b1
def ic70 : IC :=
 (.seq (.region 0 [
   ⟨(some 4), .mv (.c (.int .i64 0)), none, 0, []⟩] [4])
 (.seq (.region 0 [
   ⟨(some 5), .mv (.c (.int .i64 0)), none, 0, []⟩] [])
 (.seq (.seq (.region 0 [
   ⟨(some 8), .mv (.t 0), none, 0, []⟩,
   ⟨(some 9), .lens (.t 8), none, 0, [0]⟩,
   ⟨(some 10), .mv (.c (.int .i64 0)), none, 0, []⟩] [0])
 (.block 0 ic70_l1))
 (.seq (.region 0 [
   ⟨(some 20), .mv (.t 5), none, 0, []⟩,
   ⟨(some 4), .mv (.t 20), none, 0, [0, 0]⟩] [5, 20])
 .ret))))
def hs70 : List (List Nat) := [[4], [], [0], [0, 4, 7, 11, 12, 13, 14, 15, 16, 17, 18, 19, 20], [], [11], [12, 13], [7, 14, 15], [16], [17, 18], [19], [5, 20]]
theorem ok70 : FnOk Try.prog 70 ic70 [.t 4] 21 := ⟨Try.f70, hs70, Try.func70, by kernel_rfl, by kernel_rfl, by kernel_rfl, by kernel_rfl⟩

/-- (*signalbox/bcm.Jobs).Tx$2 -/
def ic71 : IC :=
 (.seq (.region 1 [
   ⟨(some 2), .box (.t 0), none, 0, []⟩,
   ⟨(some 3), .mv (.c (.bool false)), none, 1, []⟩] [0, 3])
 (.seq (.region 0 [
   ⟨(some 4), .faddr 0 (.t 2), none, 0, []⟩,
   ⟨(some 5), .load none (.t 4), none, 0, [0]⟩,
   ⟨(some 6), .load none (.t 1), none, 0, []⟩,
   ⟨(some 7), .bin .eql (.t 5) (.t 6), none, 0, [1, 2]⟩,
   ⟨(some 3), .mv (.t 7), none, 0, [3, 0, 1, 2, 3]⟩] [1, 2, 4, 5, 6, 7])
 .ret))
def hs71 : List (List Nat) := [[0, 3], [1, 2, 4, 5, 6, 7]]
theorem ok71 : FnOk Try.prog 71 ic71 [.t 3] 8 := ⟨Try.f71, hs71, Try.func71, by kernel_rfl, by kernel_rfl, by kernel_rfl, by kernel_rfl⟩

/-- (*signalbox/cyc.Cyc).Begin -/
def ic72 : IC :=
 (.seq (.region 1 [
   ⟨(some 2), .alloc [(.int .i64 0), (.int .i64 0), (.int .i64 0), (.str [])], none, 0, []⟩,
   ⟨(some 3), .mv (.c (.bool false)), none, 1, []⟩] [3])
 (.seq (.seq (.region 0 [
   ⟨(some 4), .mv (.t 0), none, 0, []⟩,
   ⟨(some 5), .eqv false .ptr (.t 4) (.c .nilp), none, 0, [0]⟩,
   ⟨(some 6), .mv (.t 5), none, 0, [1]⟩,
   ⟨(some 7), .mv (.t 0), (some (6, false)), 0, [2]⟩,
   ⟨(some 8), .nilck (.t 7), (some (6, false)), 0, [3, 2]⟩,
   ⟨(some 9), .faddr 8 (.t 8), (some (6, false)), 0, [4, 2]⟩,
   ⟨(some 10), .load none (.t 9), (some (6, false)), 0, [5, 2]⟩,
   ⟨(some 11), .pick (.t 6) (.c (.bool true)) (.t 10), none, 0, [2, 6]⟩,
   ⟨(some 12), .mv (.t 11), none, 0, [7, 2]⟩,
   ⟨(some 13), .mv (.t 0), (some (12, false)), 0, [8]⟩,
   ⟨(some 14), .nilck (.t 13), (some (12, false)), 0, [9, 8]⟩,
   ⟨(some 15), .faddr 0 (.t 14), (some (12, false)), 0, [10, 8]⟩,
   ⟨(some 16), .faddr 5 (.t 15), (some (12, false)), 0, [11, 8]⟩,
   ⟨(some 17), .load none (.t 16), (some (12, false)), 0, [12, 8]⟩,
   ⟨(some 18), .un .not (.t 17), (some (12, false)), 0, [13, 8]⟩,
   ⟨(some 19), .pick (.t 12) (.c (.bool true)) (.t 18), none, 0, [8, 14]⟩] [4, 5, 6, 7, 8, 9, 10, 11, 12, 13, 14, 15, 16, 17, 18])
 (.cond (.t 19) [19]
  (.seq (.region 0 [
    ⟨(some 20), .build [(.int .i64 0), (.int .i64 0), (.int .i64 0), (.str [])] [], none, 0, []⟩,
    ⟨none, .store 4 (.t 2) (.t 20), none, 0, [0, 0]⟩,
    ⟨(some 3), .mv (.c (.bool false)), none, 0, [1, 0, 1]⟩] [20])
  .ret)
  .skip))
 (.seq (.region 0 [
   ⟨(some 21), .mv (.t 0), none, 0, []⟩,
   ⟨(some 22), .nilck (.t 21), none, 0, [0, 0]⟩,
   ⟨(some 23), .faddr 8 (.t 22), none, 0, [1, 0]⟩,
   ⟨none, .store 1 (.t 23) (.c (.bool true)), none, 0, [2, 0]⟩] [21, 22, 23])
 (.seq (.region 0 [
   ⟨(some 24), .mv (.t 0), none, 0, []⟩,
   ⟨(some 25), .nilck (.t 24), none, 0, [0]⟩,
   ⟨(some 26), .faddr 7 (.t 25), none, 0, [1]⟩,
   ⟨(some 27), .load none (.t 26), none, 0, [2]⟩,
   ⟨(some 28), .call (.t 27) [], none, 0, [3]⟩,
   ⟨none, .store 4 (.t 2) (.t 28), none, 0, [4, 4, 0, 1, 2, 3, 4]⟩,
   ⟨(some 3), .mv (.c (.bool true)), none, 0, [5, 0, 1, 2, 3, 4, 5]⟩] [0, 24, 25, 26, 27, 28])
 .ret))))
def hs72 : List (List Nat) := [[3], [4, 5, 6, 7, 8, 9, 10, 11, 12, 13, 14, 15, 16, 17, 18], [19], [20], [21, 22, 23], [0, 24, 25, 26, 27, 28]]
theorem ok72 : FnOk Try.prog 72 ic72 [.cell 2 (some 4), .t 3] 29 := ⟨Try.f72, hs72, Try.func72, by kernel_rfl, by kernel_rfl, by kernel_rfl, by kernel_rfl⟩

/-- (*signalbox/cyc.Cyc).Tick -/
def ic75 : IC :=
 (.seq (.region 1 [
   ⟨(some 4), .alloc [(.int .i64 0), (.int .i64 0), (.int .i64 0), (.str []), (.bool false), (.bool false)], none, 0, []⟩] [])
 (.seq (.seq (.region 0 [
   ⟨(some 6), .mv (.t 0), none, 0, []⟩,
   ⟨(some 7), .eqv false .ptr (.t 6) (.c .nilp), none, 0, [0]⟩,
   ⟨(some 8), .mv (.t 7), none, 0, [1]⟩,
   ⟨(some 9), .mv (.t 0), (some (8, false)), 0, [2]⟩,
   ⟨(some 10), .nilck (.t 9), (some (8, false)), 0, [3, 2]⟩,
   ⟨(some 11), .faddr 11 (.t 10), (some (8, false)), 0, [4, 2]⟩,
   ⟨(some 12), .load none (.t 11), (some (8, false)), 0, [5, 2]⟩,
   ⟨(some 13), .un .not (.t 12), (some (8, false)), 0, [6, 2]⟩,
   ⟨(some 14), .pick (.t 8) (.c (.bool true)) (.t 13), none, 0, [2, 7]⟩,
   ⟨(some 15), .mv (.t 14), none, 0, [8, 2]⟩,
   ⟨(some 16), .mv (.t 1), (some (15, false)), 0, [9]⟩,
   ⟨(some 17), .mv (.t 0), (some (15, false)), 0, [9]⟩,
   ⟨(some 18), .nilck (.t 17), (some (15, false)), 0, [11, 9]⟩,
   ⟨(some 19), .faddr 10 (.t 18), (some (15, false)), 0, [12, 9]⟩,
   ⟨(some 20), .load none (.t 19), (some (15, false)), 0, [13, 9]⟩,
   ⟨(some 21), .bin .lss (.t 16) (.t 20), (some (15, false)), 0, [10, 14, 9]⟩,
   ⟨(some 22), .pick (.t 15) (.c (.bool true)) (.t 21), none, 0, [9, 15]⟩] [6, 7, 8, 9, 10, 11, 12, 13, 14, 15, 16, 17, 18, 19, 20, 21])
 (.cond (.t 22) [22]
  (.seq (.region 0 [
    ⟨(some 23), .build [(.int .i64 0), (.int .i64 0), (.int .i64 0), (.str []), (.bool false), (.bool false)] [], none, 0, []⟩,
    ⟨none, .store 6 (.t 4) (.t 23), none, 0, [0, 0]⟩] [23])
  .ret)
  .skip))
 (.seq (.region 0 [
   ⟨(some 5), .mv (.c (.bool false)), none, 0, []⟩] [])
 (.seq (.seq (.region 0 [
   ⟨(some 24), .mv (.t 0), none, 0, []⟩,
   ⟨(some 25), .nilck (.t 24), none, 0, [0]⟩,
   ⟨(some 26), .faddr 9 (.t 25), none, 0, [1]⟩,
   ⟨(some 27), .load none (.t 26), none, 0, [2]⟩,
   ⟨(some 28), .bin .gtr (.t 27) (.c (.int .i64 0)), none, 0, [3]⟩] [24, 25, 26, 27])
 (.cond (.t 28) [28]
  (.seq (.region 0 [
    ⟨(some 29), .mv (.t 0), none, 0, []⟩,
    ⟨(some 30), .nilck (.t 29), none, 0, [0]⟩,
    ⟨(some 31), .faddr 9 (.t 30), none, 0, [1]⟩,
    ⟨(some 32), .load none (.t 31), none, 0, [2]⟩,
    ⟨(some 33), .bin .sub (.t 32) (.c (.int .i64 1)), none, 0, [3]⟩,
    ⟨(some 34), .nilck (.t 29), none, 0, [0, 0, 1, 2, 3, 4]⟩,
    ⟨(some 35), .faddr 9 (.t 34), none, 0, [5, 0, 1, 2, 3, 4]⟩,
    ⟨none, .store 1 (.t 35) (.t 33), none, 0, [6, 4, 0, 1, 2, 3, 4]⟩] [29, 30, 31, 32, 33, 34, 35])
  (.region 0 [
    ⟨(some 36), .mv (.t 0), none, 0, []⟩,
    ⟨(some 37), .nilck (.t 36), none, 0, [0]⟩,
    ⟨(some 38), .faddr 9 (.t 37), none, 0, [1]⟩,
    ⟨(some 39), .load none (.t 38), none, 0, [2]⟩,
    ⟨(some 40), .bin .eql (.t 39) (.c (.int .i64 0)), none, 0, [3]⟩,
    ⟨(some 41), .mv (.t 40), none, 0, [4]⟩,
    ⟨(some 42), .mv (.t 0), (some (41, true)), 0, [5]⟩,
    ⟨(some 43), .nilck (.t 42), (some (41, true)), 0, [6, 5]⟩,
    ⟨(some 44), .faddr 0 (.t 43), (some (41, true)), 0, [7, 5]⟩,
    ⟨(some 45), .faddr 6 (.t 44), (some (41, true)), 0, [8, 5]⟩,
    ⟨(some 46), .load none (.t 45), (some (41, true)), 0, [9, 5]⟩,
    ⟨(some 47), .pick (.t 41) (.t 46) (.c (.bool false)), none, 0, [5, 10]⟩,
    ⟨(some 5), .mv (.t 47), none, 0, [11, 5, 0, 1, 2, 3, 4, 5, 6, 7, 8, 9, 10, 11]⟩] [36, 37, 38, 39, 40, 41, 42, 43, 44, 45, 46, 47]))
  .skip))
 (.seq (.region 0 [
   ⟨(some 48), .mv (.t 0), none, 0, []⟩,
   ⟨(some 49), .mv (.t 1), none, 0, []⟩,
   ⟨(some 50), .mn [(.t 49), (.c (.int .i64 2305843009213693952))], none, 0, [1]⟩,
   ⟨(some 51), .call (.c (.fn 134 [] [])) [(.t 48), (.t 50)], none, 0, [0, 2]⟩] [1, 48, 49, 50, 51])
 (.seq (.region 0 [
   ⟨(some 52), .mv (.t 0), none, 0, []⟩,
   ⟨(some 53), .nilck (.t 52), none, 0, [0]⟩,
   ⟨(some 54), .faddr 7 (.t 53), none, 0, [1]⟩,
   ⟨(some 55), .load none (.t 54), none, 0, [2]⟩,
   ⟨(some 56), .call (.t 55) [], none, 0, [3]⟩,
   ⟨(some 57), .mv (.t 5), none, 0, []⟩,
   ⟨(some 58), .build [(.int .i64 0), (.int .i64 0), (.int .i64 0), (.str []), (.bool false), (.bool false)] [(0, 4, (.t 56)), (4, 1, (.c (.bool true))), (5, 1, (.t 57))], none, 0, [4, 5]⟩,
   ⟨none, .store 6 (.t 4) (.t 58), none, 0, [6, 4, 0, 1, 2, 3, 4, 5, 6]⟩] [0, 5, 52, 53, 54, 55, 56, 57, 58])
 .ret))))))
def hs75 : List (List Nat) := [[], [6, 7, 8, 9, 10, 11, 12, 13, 14, 15, 16, 17, 18, 19, 20, 21], [22], [23], [], [24, 25, 26, 27], [28], [29, 30, 31, 32, 33, 34, 35], [36, 37, 38, 39, 40, 41, 42, 43, 44, 45, 46, 47], [1, 48, 49, 50, 51], [0, 5, 52, 53, 54, 55, 56, 57, 58]]
theorem ok75 : FnOk Try.prog 75 ic75 [.cell 4 (some 6)] 59 := ⟨Try.f75, hs75, Try.func75, by kernel_rfl, by kernel_rfl, by kernel_rfl, by kernel_rfl⟩

/-- (*signalbox/bcm.Jobs).tell -/
def ic76 : IC :=
 (.seq (.region 1 [
   ⟨(some 5), .box (.t 2), none, 0, []⟩] [2])
 (.seq (.region 0 [
   ⟨(some 9), .mv (.t 0), none, 0, []⟩,
   ⟨(some 10), .nilck (.t 9), none, 0, [0]⟩,
   ⟨(some 11), .faddr 2 (.t 10), none, 0, [1]⟩,
   ⟨(some 12), .load none (.t 11), none, 0, [2]⟩,
   ⟨(some 13), .mv (.t 1), none, 0, []⟩,
   ⟨(some 14), .lookup .int .nilp true (.t 12) (.t 13), none, 0, [3, 4]⟩,
   ⟨(some 8), .mv (.t 14), none, 0, [5]⟩,
   ⟨(some 15), .ext 0 (.t 8), none, 0, [6]⟩,
   ⟨(some 16), .ext 1 (.t 8), none, 0, [6]⟩,
   ⟨(some 6), .mv (.t 15), none, 0, [7, 0, 1, 2, 3, 4, 5, 6, 7]⟩,
   ⟨(some 7), .mv (.t 16), none, 0, [8, 9, 0, 1, 2, 3, 4, 5, 6, 7, 8, 9]⟩] [8, 9, 10, 11, 12, 13, 14, 15, 16])
 (.seq (.seq (.region 0 [
   ⟨(some 17), .mv (.t 7), none, 0, []⟩,
   ⟨(some 18), .un .not (.t 17), none, 0, [0]⟩] [7, 17])
 (.cond (.t 18) [18]
  (.seq (.region 0 [
    ⟨(some 19), .mv (.t 0), none, 0, []⟩,
    ⟨(some 20), .nilck (.t 19), none, 0, [0]⟩,
    ⟨(some 21), .faddr 3 (.t 20), none, 0, [1]⟩,
    ⟨(some 22), .load none (.t 21), none, 0, [2]⟩,
    ⟨(some 23), .call (.c (.fn 136 [] [])) [(.t 22)], none, 0, [3]⟩,
    ⟨(some 6), .mv (.t 23), none, 0, [4, 4, 0, 1, 2, 3, 4]⟩] [19, 20, 21, 22, 23])
  (.region 0 [
    ⟨(some 24), .mv (.t 0), none, 0, []⟩,
    ⟨(some 25), .nilck (.t 24), none, 0, [0]⟩,
    ⟨(some 26), .faddr 2 (.t 25), none, 0, [1]⟩,
    ⟨(some 27), .load none (.t 26), none, 0, [2]⟩,
    ⟨(some 28), .mv (.t 1), none, 0, []⟩,
    ⟨(some 29), .mv (.t 6), none, 0, []⟩,
    ⟨none, .mset .int (.t 27) (.t 28) (.t 29), none, 0, [3, 4, 5, 0, 1, 2, 3, 4, 5]⟩] [0, 1, 24, 25, 26, 27, 28, 29]))
  .skip))
 (.region 0 [
   ⟨(some 30), .mv (.t 6), none, 0, []⟩,
   ⟨(some 31), .load (some 7) (.t 5), none, 0, []⟩,
   ⟨(some 32), .call (.c (.fn 137 [] [])) [(.t 30), (.t 31)], none, 0, [0, 1]⟩] [5, 6, 30, 31, 32]))))
def hs76 : List (List Nat) := [[2], [8, 9, 10, 11, 12, 13, 14, 15, 16], [7, 17], [18], [19, 20, 21, 22, 23], [0, 1, 24, 25, 26, 27, 28, 29], [5, 6, 30, 31, 32]]
theorem ok76 : FnOk Try.prog 76 ic76 [] 33 := ⟨Try.f76, hs76, Try.func76, by kernel_rfl, by kernel_rfl, by kernel_rfl, by kernel_rfl⟩

/-- (*signalbox/watch.Watch).Tick -/
def ic77 : IC :=
 (.seq (.region 0 [
   ⟨(some 4), .mv (.c .nils), none, 0, []⟩] [4])
 (.seq (.region 0 [
   ⟨(some 5), .mv (.c .nils), none, 0, []⟩] [])
 (.seq (.seq (.region 0 [
   ⟨(some 7), .mv (.t 0), none, 0, []⟩,
   ⟨(some 8), .eqv false .ptr (.t 7) (.c .nilp), none, 0, [0]⟩] [7])
 (.cond (.t 8) [8]
  (.seq (.region 0 [
    ⟨(some 9), .mv (.t 5), none, 0, []⟩,
    ⟨(some 4), .mv (.t 9), none, 0, [0, 0]⟩] [5, 9])
  .ret)
  .skip))
 (.seq (.region 0 [
   ⟨(some 10), .mv (.t 1), none, 0, []⟩,
   ⟨(some 11), .call (.c (.fn 138 [] [])) [(.t 10)], none, 0, [0]⟩,
   ⟨(some 1), .mv (.t 11), none, 0, [1, 1, 0, 1]⟩] [10, 11])
 (.seq (.seq (.regionD 0 [
   ⟨(some 12), .mv (.t 0), none, 0, []⟩,
   ⟨(some 13), .nilck (.t 12), none, 0, [0]⟩,
   ⟨(some 14), .faddr 8 (.t 13), none, 0, [1]⟩,
   ⟨(some 15), .load none (.t 14), none, 0, [2]⟩,
   ⟨(some 16), .eqv true .ptr (.t 15) (.c .nilp), none, 0, [3]⟩,
   ⟨(some 17), .mv (.t 16), none, 0, [4]⟩,
   ⟨(some 18), .mv (.t 1), (some (17, true)), 0, [5]⟩,
   ⟨(some 19), .mv (.t 0), (some (17, true)), 0, [5]⟩,
   ⟨(some 20), .nilck (.t 19), (some (17, true)), 0, [7, 5]⟩,
   ⟨(some 21), .faddr 7 (.t 20), (some (17, true)), 0, [8, 5]⟩,
   ⟨(some 22), .load none (.t 21), (some (17, true)), 0, [9, 5]⟩,
   ⟨(some 23), .bin .sub (.t 18) (.t 22), (some (17, true)), 0, [6, 10, 5]⟩,
   ⟨(some 24), .mv (.t 0), (some (17, true)), 0, [5]⟩,
   ⟨(some 25), .nilck (.t 24), (some (17, true)), 0, [12, 5]⟩,
   ⟨(some 26), .faddr 0 (.t 25), (some (17, true)), 0, [13, 5]⟩,
   ⟨(some 27), .faddr 4 (.t 26), (some (17, true)), 0, [14, 5]⟩,
   ⟨(some 28), .load none (.t 27), (some (17, true)), 0, [15, 5]⟩,
   ⟨(some 29), .bin .geq (.t 23) (.t 28), (some (17, true)), 0, [11, 16, 5]⟩,
   ⟨(some 30), .pick (.t 17) (.t 29) (.c (.bool false)), none, 0, [5, 17]⟩]
   [0, 1, 2, 3, 4, 5, 6, 7, 8, 9, 12, 13, 14, 15, 10, 11, 16, 17, 18] [0, 1, 3, 7, 15, 31, 63, 63, 191, 447, 959, 2047, 63, 4159, 12351, 28735, 61503, 131071, 262143] [12, 13, 14, 15, 16, 17, 18, 19, 20, 21, 22, 23, 24, 25, 26, 27, 28, 29])
 (.cond (.t 30) [30]
  (.region 2 [
    ⟨(some 31), .mv (.t 5), none, 0, []⟩,
    ⟨(some 32), .mv (.t 0), none, 0, []⟩,
    ⟨(some 33), .mv (.t 1), none, 0, []⟩,
    ⟨(some 34), .mv (.t 0), none, 0, []⟩,
    ⟨(some 35), .nilck (.t 34), none, 0, [3]⟩,
    ⟨(some 36), .faddr 8 (.t 35), none, 0, [4]⟩,
    ⟨(some 37), .load none (.t 36), none, 0, [5]⟩,
    ⟨(some 38), .nilck (.t 37), none, 0, [6]⟩,
    ⟨(some 39), .load (some 4) (.t 38), none, 0, [7]⟩,
    ⟨(some 40), .call (.c (.fn 139 [] [])) [(.t 32), (.t 33), (.t 39)], none, 0, [1, 2, 8]⟩,
    ⟨(some 41), .bslice 7 [(.t 40)], none, 0, [9]⟩,
    ⟨(some 42), .app 7 64 (.t 31) (.t 41), none, 1, [0, 10, 9]⟩,
    ⟨(some 5), .mv (.t 42), none, 2, [11, 11, 0, 1, 2, 3, 4, 5, 6, 7, 8, 9, 10, 11]⟩] [31, 32, 33, 34, 35, 36, 37, 38, 39, 40, 41, 42])
  .skip))
 (.seq (.seq (.region 0 [
   ⟨(some 43), .mv (.t 0), none, 0, []⟩,
   ⟨(some 44), .nilck (.t 43), none, 0, [0]⟩,
   ⟨(some 45), .faddr 0 (.t 44), none, 0, [1]⟩,
   ⟨(some 46), .faddr 5 (.t 45), none, 0, [2]⟩,
   ⟨(some 47), .load none (.t 46), none, 0, [3]⟩,
   ⟨(some 6), .mv (.t 47), none, 0, [4, 0, 1, 2, 3, 4]⟩] [43, 44, 45, 46, 47])
 (.seq (.region 0 [
   ⟨(some 48), .mv (.t 6), none, 0, []⟩,
   ⟨(some 49), .bin .gtr (.t 48) (.c (.int .i64 0)), none, 0, [0]⟩,
   ⟨(some 50), .mv (.t 49), none, 0, [1]⟩,
   ⟨(some 51), .mv (.t 0), (some (50, true)), 0, [2]⟩,
   ⟨(some 52), .nilck (.t 51), (some (50, true)), 0, [3, 2]⟩,
   ⟨(some 53), .faddr 10 (.t 52), (some (50, true)), 0, [4, 2]⟩,
   ⟨(some 54), .load none (.t 53), (some (50, true)), 0, [5, 2]⟩,
   ⟨(some 55), .un .not (.t 54), (some (50, true)), 0, [6, 2]⟩,
   ⟨(some 56), .pick (.t 50) (.t 55) (.c (.bool false)), none, 0, [2, 7]⟩,
   ⟨(some 57), .mv (.t 56), none, 0, [8, 2]⟩,
   ⟨(some 58), .mv (.t 1), (some (57, true)), 0, [9]⟩,
   ⟨(some 59), .mv (.t 0), (some (57, true)), 0, [9]⟩,
   ⟨(some 60), .nilck (.t 59), (some (57, true)), 0, [11, 9]⟩,
   ⟨(some 61), .faddr 9 (.t 60), (some (57, true)), 0, [12, 9]⟩,
   ⟨(some 62), .load none (.t 61), (some (57, true)), 0, [13, 9]⟩,
   ⟨(some 63), .bin .sub (.t 58) (.t 62), (some (57, true)), 0, [10, 14, 9]⟩,
   ⟨(some 64), .mv (.t 6), (some (57, true)), 0, [9]⟩,
   ⟨(some 65), .bin .geq (.t 63) (.t 64), (some (57, true)), 0, [15, 16, 9]⟩,
   ⟨(some 66), .pick (.t 57) (.t 65) (.c (.bool false)), none, 0, [9, 17]⟩] [6, 48, 49, 50, 51, 52, 53, 54, 55, 56, 57, 58, 59, 60, 61, 62, 63, 64, 65])
 (.cond (.t 66) [66]
  (.seq (.region 0 [
    ⟨(some 67), .mv (.t 0), none, 0, []⟩,
    ⟨(some 68), .nilck (.t 67), none, 0, [0, 0]⟩,
    ⟨(some 69), .faddr 10 (.t 68), none, 0, [1, 0]⟩,
    ⟨none, .store 1 (.t 69) (.c (.bool true)), none, 0, [2, 0]⟩] [67, 68, 69])
  (.region 2 [
    ⟨(some 70), .mv (.t 5), none, 0, []⟩,
    ⟨(some 71), .mv (.t 0), none, 0, []⟩,
    ⟨(some 72), .mv (.t 1), none, 0, []⟩,
    ⟨(some 73), .build [(.int .i64 0), (.int .i64 0), (.int .i64 0), (.str [])] [], none, 0, []⟩,
    ⟨(some 74), .call (.c (.fn 140 [] [])) [(.t 71), (.c (.int .i64 2)), (.t 72), (.t 73)], none, 0, [1, 2, 3]⟩,
    ⟨(some 75), .bslice 7 [(.t 74)], none, 0, [4]⟩,
    ⟨(some 76), .app 7 64 (.t 70) (.t 75), none, 1, [0, 5, 4]⟩,
    ⟨(some 5), .mv (.t 76), none, 2, [6, 6, 0, 1, 2, 3, 4, 5, 6]⟩] [0, 1, 70, 71, 72, 73, 74, 75, 76]))
  .skip)))
 (.seq (.region 0 [
   ⟨(some 77), .mv (.t 5), none, 0, []⟩,
   ⟨(some 4), .mv (.t 77), none, 0, [0, 0]⟩] [5, 77])
 .ret)))))))
def hs77 : List (List Nat) := [[4], [], [7], [8], [5, 9], [10, 11], [0, 1, 2, 3, 4, 5, 6, 7, 8, 9, 12, 13, 14, 15, 10, 11, 16, 17, 18], [0, 1, 3, 7, 15, 31, 63, 63, 191, 447, 959, 2047, 63, 4159, 12351, 28735, 61503, 131071, 262143], [12, 13, 14, 15, 16, 17, 18, 19, 20, 21, 22, 23, 24, 25, 26, 27, 28, 29], [30], [31, 32, 33, 34, 35, 36, 37, 38, 39, 40, 41, 42], [43, 44, 45, 46, 47], [6, 48, 49, 50, 51, 52, 53, 54, 55, 56, 57, 58, 59, 60, 61, 62, 63, 64, 65], [66], [67, 68, 69], [0, 1, 70, 71, 72, 73, 74, 75, 76], [5, 77]]
theorem ok77 : FnOk Try.prog 77 ic77 [.t 4] 78 := ⟨Try.f77, hs77, Try.func77, by kernel_rfl, by kernel_rfl, by kernel_rfl, by kernel_rfl⟩

/-- (*signalbox/bcm.Jobs).TxStop$1 -/
def ic78 : IC :=
 (.seq (.region 1 [
   ⟨(some 3), .box (.t 0), none, 0, []⟩,
   ⟨(some 4), .mv (.c (.bool false)), none, 1, []⟩] [0, 4])
 (.seq (.region 0 [
   ⟨(some 5), .load (some 3) (.t 3), none, 0, []⟩,
   ⟨(some 6), .load none (.t 1), none, 0, []⟩,
   ⟨(some 7), .load none (.t 2), none, 0, []⟩,
   ⟨(some 8), .call (.c (.fn 69 [] [])) [(.t 5), (.t 6), (.t 7)], none, 0, [0, 1, 2]⟩,
   ⟨(some 4), .mv (.t 8), none, 0, [3, 3, 0, 1, 2, 3]⟩] [1, 2, 3, 5, 6, 7, 8])
 .ret))
def hs78 : List (List Nat) := [[0, 4], [1, 2, 3, 5, 6, 7, 8]]
theorem ok78 : FnOk Try.prog 78 ic78 [.t 4] 9 := ⟨Try.f78, hs78, Try.func78, by kernel_rfl, by kernel_rfl, by kernel_rfl, by kernel_rfl⟩

/-- signalbox/watch.New -/
def ic79 : IC :=
 (.seq (.region 1 [
   ⟨(some 2), .box (.t 0), none, 0, []⟩,
   ⟨(some 4), .mv (.c .nilp), none, 1, []⟩,
   ⟨(some 5), .mv (.c (.int .i64 0)), none, 1, [1]⟩] [0, 4, 5])
 (.seq (.seq (.region 0 [
   ⟨(some 7), .load (some 6) (.t 2), none, 0, []⟩,
   ⟨(some 8), .call (.c (.fn 141 [] [])) [(.t 7)], none, 0, [0]⟩,
   ⟨(some 6), .mv (.t 8), none, 0, [1, 1, 0, 1]⟩] [7, 8])
 (.seq (.region 0 [
   ⟨(some 9), .mv (.t 6), none, 0, []⟩,
   ⟨(some 10), .bin .neq (.t 9) (.c (.int .i64 0)), none, 0, [0]⟩] [9])
 (.cond (.t 10) [10]
  (.seq (.region 0 [
    ⟨(some 11), .mv (.t 6), none, 0, []⟩,
    ⟨(some 4), .mv (.c .nilp), none, 0, []⟩,
    ⟨(some 5), .mv (.t 11), none, 0, [0, 1, 0, 1]⟩] [6, 11])
  .ret)
  .skip)))
 (.seq (.regionD 1 [
   ⟨(some 12), .load (some 6) (.t 2), none, 0, []⟩,
   ⟨(some 13), .mv (.t 1), none, 0, []⟩,
   ⟨(some 14), .call (.c (.fn 138 [] [])) [(.t 13)], none, 0, [1]⟩,
   ⟨(some 15), .build [(.int .u32 0), (.int .u32 0), (.bool false), (.str []), (.int .i64 0), (.int .i64 0), .nilp, (.int .i64 0), .nilp, (.int .i64 0), (.bool false)] [(0, 6, (.t 12)), (9, 1, (.t 14))], none, 0, [0, 2]⟩,
   ⟨(some 16), .box (.t 15), none, 0, [3]⟩,
   ⟨(some 4), .mv (.t 16), none, 1, [4, 2, 0, 1, 2, 3, 4]⟩,
   ⟨(some 5), .mv (.c (.int .i64 0)), none, 1, [5, 0, 1, 2, 3, 4, 5]⟩]
   [1, 0, 2, 3, 4, 5, 6] [0, 0, 2, 7, 15, 31, 63] [1, 2, 12, 13, 14, 15, 16])
 .ret)))
def hs79 : List (List Nat) := [[0, 4, 5], [7, 8], [9], [10], [6, 11], [1, 0, 2, 3, 4, 5, 6], [0, 0, 2, 7, 15, 31, 63], [1, 2, 12, 13, 14, 15, 16]]
theorem ok79 : FnOk Try.prog 79 ic79 [.t 4, .t 5] 17 := ⟨Try.f79, hs79, Try.func79, by kernel_rfl, by kernel_rfl, by kernel_rfl, by kernel_rfl⟩

/-- slices.DeleteFunc[[]signalbox/bcm.watcher,signalbox/bcm.watcher] -/
def ic80_b1 : IC :=
 (.seq (.seq (.region 0 [
   ⟨(some 16), .mv (.t 6), none, 0, []⟩,
   ⟨(some 17), .mv (.t 0), none, 0, []⟩,
   ⟨(some 18), .lens (.t 17), none, 0, [1]⟩,
   ⟨(some 19), .bin .lss (.t 16) (.t 18), none, 0, [0, 2]⟩] [16, 17, 18])
 (.cond (.t 19) [19]
  .skip
  (.exit 0)))
 (.seq (.block 1 (.seq (.region 1 [
   ⟨(some 22), .mv (.t 0), none, 0, []⟩,
   ⟨(some 23), .mv (.t 6), none, 0, []⟩,
   ⟨(some 24), .iaddr 5 (.t 22) (.t 23), none, 0, [0, 1]⟩,
   ⟨(some 25), .load (some 5) (.t 24), none, 0, [2]⟩,
   ⟨(some 7), .alloc [(.int .i64 0), (.int .u32 0), (.int .u32 0), (.bool false), .nilp], none, 0, []⟩,
   ⟨none, .store 5 (.t 7) (.t 25), none, 1, [4, 3, 0, 1, 2, 3, 4]⟩] [22, 23, 24, 25])
 (.seq (.region 0 [
   ⟨(some 26), .mv (.t 1), none, 0, []⟩,
   ⟨(some 27), .load (some 5) (.t 7), none, 0, []⟩,
   ⟨(some 28), .call (.t 26) [(.t 27)], none, 0, [0, 1]⟩,
   ⟨(some 29), .un .not (.t 28), none, 0, [2]⟩] [26, 27, 28])
 (.cond (.t 29) [29]
  (.seq (.region 0 [
    ⟨(some 30), .mv (.t 0), none, 0, []⟩,
    ⟨(some 31), .mv (.t 5), none, 0, []⟩,
    ⟨(some 32), .load (some 5) (.t 7), none, 0, []⟩,
    ⟨(some 33), .iaddr 5 (.t 30) (.t 31), none, 0, [0, 1, 0, 1, 2]⟩,
    ⟨none, .store 5 (.t 33) (.t 32), none, 0, [3, 2, 0, 1, 2]⟩] [7, 30, 31, 32, 33])
  (.region 0 [
    ⟨(some 34), .mv (.t 5), none, 0, []⟩,
    ⟨(some 35), .bin .add (.t 34) (.c (.int .i64 1)), none, 0, [0]⟩,
    ⟨(some 5), .mv (.t 35), none, 0, [1, 0, 1]⟩] [34, 35]))
  .skip))))
 (.region 0 [
   ⟨(some 20), .mv (.t 6), none, 0, []⟩,
   ⟨(some 21), .bin .add (.t 20) (.c (.int .i64 1)), none, 0, [0]⟩,
   ⟨(some 6), .mv (.t 21), none, 0, [1, 0, 1]⟩] [20, 21])))
def ic80_l1 : IC := .loop [4, 7, 8, 9, 10, 11, 12, 13, 14, 15, 16, 17, 18, 19, 20, 21, 22, 23, 24, 25, 26, 27, 28, 29, 30, 31, 32, 33, 34, 35, 36, 37, 38, 39, 40, 41] ic80_b1
def ic80 : IC :=
 (.seq (.region 0 [
   ⟨(some 4), .mv (.c .nils), none, 0, []⟩] [4])
 (.seq (.region 0 [
   ⟨(some 8), .mv (.t 0), none, 0, []⟩,
   ⟨(some 9), .mv (.t 1), none, 0, []⟩,
   ⟨(some 10), .call (.c (.fn 111 [] [])) [(.t 8), (.t 9)], none, 0, [0, 1]⟩,
   ⟨(some 5), .mv (.t 10), none, 0, [2, 2, 0, 1, 2]⟩] [8, 9, 10])
 (.seq (.seq (.region 0 [
   ⟨(some 11), .mv (.t 5), none, 0, []⟩,
   ⟨(some 12), .bin .eql (.t 11) (.c (.int .i64 (-1))), none, 0, [0]⟩] [11])
 (.cond (.t 12) [12]
  (.seq (.region 0 [
    ⟨(some 13), .mv (.t 0), none, 0, []⟩,
    ⟨(some 4), .mv (.t 13), none, 0, [0, 0]⟩] [0, 13])
  .ret)
  .skip))
 (.seq (.seq (.region 0 [
   ⟨(some 14), .mv (.t 5), none, 0, []⟩,
   ⟨(some 15), .bin .add (.t 14) (.c (.int .i64 1)), none, 0, [0]⟩,
   ⟨(some 6), .mv (.t 15), none, 0, [1, 0, 1]⟩] [14, 15])
 (.block 0 ic80_l1))
 (.seq (.region 0 [
   ⟨(some 36), .mv (.t 0), none, 0, []⟩,
   ⟨(some 37), .mv (.t 5), none, 0, []⟩,
   ⟨(some 38), .slc 5 (.t 36) (some (.t 37)) none none, none, 0, [0, 1]⟩,
   ⟨none, .clrs 5 [(.int .i64 0), (.int .u32 0), (.int .u32 0), (.bool false), .nilp] (.t 38), none, 0, [2]⟩] [36, 37, 38])
 (.seq (.region 0 [
   ⟨(some 39), .mv (.t 0), none, 0, []⟩,
   ⟨(some 40), .mv (.t 5), none, 0, []⟩,
   ⟨(some 41), .slc 5 (.t 39) none (some (.t 40)) none, none, 0, [0, 1]⟩,
   ⟨(some 4), .mv (.t 41), none, 0, [2, 0, 1, 2]⟩] [0, 5, 39, 40, 41])
 .ret))))))
def hs80 : List (List Nat) := [[4], [8, 9, 10], [11], [12], [0, 13], [14, 15], [4, 7, 8, 9, 10, 11, 12, 13, 14, 15, 16, 17, 18, 19, 20, 21, 22, 23, 24, 25, 26, 27, 28, 29, 30, 31, 32, 33, 34, 35, 36, 37, 38, 39, 40, 41], [16, 17, 18], [19], [22, 23, 24, 25], [26, 27, 28], [29], [7, 30, 31, 32, 33], [34, 35], [20, 21], [36, 37, 38], [0, 5, 39, 40, 41]]
theorem ok80 : FnOk Try.prog 80 ic80 [.t 4] 42 := ⟨Try.f80, hs80, Try.func80, by kernel_rfl, by kernel_rfl, by kernel_rfl, by kernel_rfl⟩

/-- slices.Clone[[]signalbox/bcm.watcher,signalbox/bcm.watcher] -/
def ic81 : IC :=
 (.seq (.region 0 [
   ⟨(some 2), .mv (.c .nils), none, 0, []⟩] [2])
 (.seq (.seq (.region 0 [
   ⟨(some 3), .mv (.t 0), none, 0, []⟩,
   ⟨(some 4), .eqv false .slice (.t 3) (.c .nils), none, 0, [0]⟩] [3])
 (.cond (.t 4) [4]
  (.seq (.region 0 [
    ⟨(some 2), .mv (.c .nils), none, 0, []⟩] [])
  .ret)
  .skip))
 (.seq (.region 2 [
   ⟨(some 5), .bslice 5 [], none, 0, []⟩,
   ⟨(some 6), .mv (.t 0), none, 1, []⟩,
   ⟨(some 7), .app 5 32 (.t 5) (.t 6), none, 1, [0, 1]⟩,
   ⟨(some 2), .mv (.t 7), none, 2, [2, 2, 0, 1, 2]⟩] [0, 5, 6, 7])
 .ret)))
def hs81 : List (List Nat) := [[2], [3], [4], [], [0, 5, 6, 7]]
theorem ok81 : FnOk Try.prog 81 ic81 [.t 2] 8 := ⟨Try.f81, hs81, Try.func81, by kernel_rfl, by kernel_rfl, by kernel_rfl, by kernel_rfl⟩

/-- (*signalbox/bcm.Jobs).Rx$1 -/
def ic82 : IC :=
 (.seq (.region 1 [
   ⟨(some 3), .box (.t 0), none, 0, []⟩,
   ⟨(some 4), .mv (.c (.bool false)), none, 1, []⟩] [0, 4])
 (.seq (.region 0 [
   ⟨(some 5), .load (some 5) (.t 3), none, 0, []⟩,
   ⟨(some 6), .load none (.t 1), none, 0, []⟩,
   ⟨(some 7), .faddr 0 (.t 2), none, 0, []⟩,
   ⟨(some 8), .load (some 3) (.t 7), none, 0, [2]⟩,
   ⟨(some 9), .call (.c (.fn 83 [] [])) [(.t 5), (.t 6), (.t 8)], none, 0, [0, 1, 3]⟩,
   ⟨(some 4), .mv (.t 9), none, 0, [4, 4, 0, 1, 2, 3, 4]⟩] [1, 2, 3, 5, 6, 7, 8, 9])
 .ret))
def hs82 : List (List Nat) := [[0, 4], [1, 2, 3, 5, 6, 7, 8, 9]]
theorem ok82 : FnOk Try.prog 82 ic82 [.t 4] 10 := ⟨Try.f82, hs82, Try.func82, by kernel_rfl, by kernel_rfl, by kernel_rfl, by kernel_rfl⟩

/-- (signalbox/bcm.watcher).is -/
def ic83 : IC :=
 (.seq (.region 2 [
   ⟨(some 3), .box (.t 0), none, 0, []⟩,
   ⟨(some 5), .box (.t 2), none, 1, []⟩,
   ⟨(some 6), .mv (.c (.bool false)), none, 2, []⟩] [0, 2, 6])
 (.seq (.region 0 [
   ⟨(some 7), .faddr 0 (.t 3), none, 0, []⟩,
   ⟨(some 8), .load none (.t 7), none, 0, [0]⟩,
   ⟨(some 9), .mv (.t 1), none, 0, []⟩,
   ⟨(some 10), .bin .eql (.t 8) (.t 9), none, 0, [1, 2]⟩,
   ⟨(some 11), .mv (.t 10), none, 0, [3]⟩,
   ⟨(some 12), .faddr 1 (.t 3), (some (11, true)), 0, [4]⟩,
   ⟨(some 13), .load (some 3) (.t 12), (some (11, true)), 0, [5, 4]⟩,
   ⟨(some 14), .load (some 3) (.t 5), (some (11, true)), 0, [4]⟩,
   ⟨(some 15), .eqv false (.struct [.int, .int, .bool]) (.t 13) (.t 14), (some (11, true)), 0, [6, 7, 4]⟩,
   ⟨(some 16), .pick (.t 11) (.t 15) (.c (.bool false)), none, 0, [4, 8]⟩,
   ⟨(some 6), .mv (.t 16), none, 0, [9, 4, 0, 1, 2, 3, 4, 5, 6, 7, 8, 9]⟩] [1, 3, 5, 7, 8, 9, 10, 11, 12, 13, 14, 15, 16])
 .ret))
def hs83 : List (List Nat) := [[0, 2, 6], [1, 3, 5, 7, 8, 9, 10, 11, 12, 13, 14, 15, 16]]
theorem ok83 : FnOk Try.prog 83 ic83 [.t 6] 17 := ⟨Try.f83, hs83, Try.func83, by kernel_rfl, by kernel_rfl, by kernel_rfl, by kernel_rfl⟩

/-- signalbox/bcm.count[signalbox/bcm.watcher] -/
def ic84_b1 : IC :=
 (.seq (.region 0 [
   ⟨(some 11), .bin .lss (.t 10) (.t 9), none, 0, []⟩] [])
 (.seq (.cond (.t 11) [11]
  .skip
  (.exit 0))
 (.seq (.block 1 (.seq (.region 1 [
   ⟨(some 12), .iaddr 5 (.t 8) (.t 10), none, 0, []⟩,
   ⟨(some 13), .load (some 5) (.t 12), none, 0, [0]⟩,
   ⟨(some 7), .alloc [(.int .i64 0), (.int .u32 0), (.int .u32 0), (.bool false), .nilp], none, 0, []⟩,
   ⟨none, .store 5 (.t 7) (.t 13), none, 1, [2, 1, 0, 1, 2]⟩] [12, 13])
 (.seq (.region 0 [
   ⟨(some 14), .mv (.t 1), none, 0, []⟩,
   ⟨(some 15), .load (some 5) (.t 7), none, 0, []⟩,
   ⟨(some 16), .call (.t 14) [(.t 15)], none, 0, [0, 1]⟩] [7, 14, 15])
 (.cond (.t 16) [16]
  (.region 0 [
    ⟨(some 17), .mv (.t 5), none, 0, []⟩,
    ⟨(some 18), .bin .add (.t 17) (.c (.int .i64 1)), none, 0, [0]⟩,
    ⟨(some 5), .mv (.t 18), none, 0, [1, 0, 1]⟩] [17, 18])
  .skip))))
 (.region 0 [
   ⟨(some 19), .bin .add (.t 10) (.c (.int .i64 1)), none, 0, []⟩,
   ⟨(some 10), .mv (.t 19), none, 0, [0]⟩] [19]))))
def ic84_l1 : IC := .loop [0, 4, 7, 11, 12, 13, 14, 15, 16, 17, 18, 19, 20] ic84_b1
def ic84 : IC :=
 (.seq (.region 0 [
   ⟨(some 4), .mv (.c (.int .i64 0)), none, 0, []⟩] [4])
 (.seq (.region 0 [
   ⟨(some 5), .mv (.c (.int .i64 0)), none, 0, []⟩] [])
 (.seq (.seq (.region 0 [
   ⟨(some 8), .mv (.t 0), none, 0, []⟩,
   ⟨(some 9), .lens (.t 8), none, 0, [0]⟩,
   ⟨(some 10), .mv (.c (.int .i64 0)), none, 0, []⟩] [0])
 (.block 0 ic84_l1))
 (.seq (.region 0 [
   ⟨(some 20), .mv (.t 5), none, 0, []⟩,
   ⟨(some 4), .mv (.t 20), none, 0, [0, 0]⟩] [5, 20])
 .ret))))
def hs84 : List (List Nat) := [[4], [], [0], [0, 4, 7, 11, 12, 13, 14, 15, 16, 17, 18, 19, 20], [], [11], [12, 13], [7, 14, 15], [16], [17, 18], [19], [5, 20]]
theorem ok84 : FnOk Try.prog 84 ic84 [.t 4] 21 := ⟨Try.f84, hs84, Try.func84, by kernel_rfl, by kernel_rfl, by kernel_rfl, by kernel_rfl⟩

/-- (*signalbox/bcm.Jobs).Rx$2 -/
def ic85 : IC :=
 (.seq (.region 1 [
   ⟨(some 2), .box (.t 0), none, 0, []⟩,
   ⟨(some 3), .mv (.c (.bool false)), none, 1, []⟩] [0, 3])
 (.seq (.region 0 [
   ⟨(some 4), .faddr 0 (.t 2), none, 0, []⟩,
   ⟨(some 5), .load none (.t 4), none, 0, [0]⟩,
   ⟨(some 6), .load none (.t 1), none, 0, []⟩,
   ⟨(some 7), .bin .eql (.t 5) (.t 6), none, 0, [1, 2]⟩,
   ⟨(some 3), .mv (.t 7), none, 0, [3, 0, 1, 2, 3]⟩] [1, 2, 4, 5, 6, 7])
 .ret))
def hs85 : List (List Nat) := [[0, 3], [1, 2, 4, 5, 6, 7]]
theorem ok85 : FnOk Try.prog 85 ic85 [.t 3] 8 := ⟨Try.f85, hs85, Try.func85, by kernel_rfl, by kernel_rfl, by kernel_rfl, by kernel_rfl⟩

/-- (*signalbox/bcm.Jobs).Len$1 -/
def ic86 : IC :=
 (.seq (.region 1 [
   ⟨(some 2), .box (.t 0), none, 0, []⟩,
   ⟨(some 3), .mv (.c (.bool false)), none, 1, []⟩] [0, 3])
 (.seq (.region 0 [
   ⟨(some 4), .faddr 0 (.t 2), none, 0, []⟩,
   ⟨(some 5), .load none (.t 4), none, 0, [0]⟩,
   ⟨(some 6), .load none (.t 1), none, 0, []⟩,
   ⟨(some 7), .bin .eql (.t 5) (.t 6), none, 0, [1, 2]⟩,
   ⟨(some 3), .mv (.t 7), none, 0, [3, 0, 1, 2, 3]⟩] [1, 2, 4, 5, 6, 7])
 .ret))
def hs86 : List (List Nat) := [[0, 3], [1, 2, 4, 5, 6, 7]]
theorem ok86 : FnOk Try.prog 86 ic86 [.t 3] 8 := ⟨Try.f86, hs86, Try.func86, by kernel_rfl, by kernel_rfl, by kernel_rfl, by kernel_rfl⟩

/-- (*signalbox/bcm.Jobs).Len$2 -/
def ic87 : IC :=
 (.seq (.region 1 [
   ⟨(some 2), .box (.t 0), none, 0, []⟩,
   ⟨(some 3), .mv (.c (.bool false)), none, 1, []⟩] [0, 3])
 (.seq (.region 0 [
   ⟨(some 4), .faddr 0 (.t 2), none, 0, []⟩,
   ⟨(some 5), .load none (.t 4), none, 0, [0]⟩,
   ⟨(some 6), .load none (.t 1), none, 0, []⟩,
   ⟨(some 7), .bin .eql (.t 5) (.t 6), none, 0, [1, 2]⟩,
   ⟨(some 3), .mv (.t 7), none, 0, [3, 0, 1, 2, 3]⟩] [1, 2, 4, 5, 6, 7])
 .ret))
def hs87 : List (List Nat) := [[0, 3], [1, 2, 4, 5, 6, 7]]
theorem ok87 : FnOk Try.prog 87 ic87 [.t 3] 8 := ⟨Try.f87, hs87, Try.func87, by kernel_rfl, by kernel_rfl, by kernel_rfl, by kernel_rfl⟩

/-- (*signalbox/bcm.Jobs).Drop$1 -/
def ic88 : IC :=
 (.seq (.region 1 [
   ⟨(some 2), .box (.t 0), none, 0, []⟩,
   ⟨(some 3), .mv (.c (.bool false)), none, 1, []⟩] [0, 3])
 (.seq (.region 0 [
   ⟨(some 4), .faddr 0 (.t 2), none, 0, []⟩,
   ⟨(some 5), .load none (.t 4), none, 0, [0]⟩,
   ⟨(some 6), .load none (.t 1), none, 0, []⟩,
   ⟨(some 7), .bin .eql (.t 5) (.t 6), none, 0, [1, 2]⟩,
   ⟨(some 3), .mv (.t 7), none, 0, [3, 0, 1, 2, 3]⟩] [1, 2, 4, 5, 6, 7])
 .ret))
def hs88 : List (List Nat) := [[0, 3], [1, 2, 4, 5, 6, 7]]
theorem ok88 : FnOk Try.prog 88 ic88 [.t 3] 8 := ⟨Try.f88, hs88, Try.func88, by kernel_rfl, by kernel_rfl, by kernel_rfl, by kernel_rfl⟩

/-- (*signalbox/bcm.Jobs).Drop$2 -/
def ic89 : IC :=
 (.seq (.region 1 [
   ⟨(some 2), .box (.t 0), none, 0, []⟩,
   ⟨(some 3), .mv (.c (.bool false)), none, 1, []⟩] [0, 3])
 (.seq (.region 0 [
   ⟨(some 4), .faddr 0 (.t 2), none, 0, []⟩,
   ⟨(some 5), .load none (.t 4), none, 0, [0]⟩,
   ⟨(some 6), .load none (.t 1), none, 0, []⟩,
   ⟨(some 7), .bin .eql (.t 5) (.t 6), none, 0, [1, 2]⟩,
   ⟨(some 3), .mv (.t 7), none, 0, [3, 0, 1, 2, 3]⟩] [1, 2, 4, 5, 6, 7])
 .ret))
def hs89 : List (List Nat) := [[0, 3], [1, 2, 4, 5, 6, 7]]
theorem ok89 : FnOk Try.prog 89 ic89 [.t 3] 8 := ⟨Try.f89, hs89, Try.func89, by kernel_rfl, by kernel_rfl, by kernel_rfl, by kernel_rfl⟩

/-- slices.IndexFunc[[]signalbox/bcm.sender,signalbox/bcm.sender] -/
def ic108_b1 : IC :=
 (.seq (.region 0 [
   ⟨(some 9), .bin .lss (.t 8) (.t 7), none, 0, []⟩] [])
 (.seq (.cond (.t 9) [9]
  .skip
  (.exit 0))
 (.seq (.block 1 (.seq (.region 0 [
   ⟨(some 10), .mv (.t 8), none, 0, []⟩,
   ⟨(some 5), .mv (.t 10), none, 0, [0, 0]⟩] [10])
 (.seq (.region 0 [
   ⟨(some 11), .mv (.t 1), none, 0, []⟩,
   ⟨(some 12), .mv (.t 0), none, 0, []⟩,
   ⟨(some 13), .mv (.t 5), none, 0, []⟩,
   ⟨(some 14), .iaddr 3 (.t 12) (.t 13), none, 0, [1, 2]⟩,
   ⟨(some 15), .load (some 3) (.t 14), none, 0, [3]⟩,
   ⟨(some 16), .call (.t 11) [(.t 15)], none, 0, [0, 4]⟩] [11, 12, 13, 14, 15])
 (.cond (.t 16) [16]
  (.seq (.region 0 [
    ⟨(some 17), .mv (.t 5), none, 0, []⟩,
    ⟨(some 4), .mv (.t 17), none, 0, [0, 0]⟩] [5, 17])
  .ret)
  .skip))))
 (.region 0 [
   ⟨(some 18), .bin .add (.t 8) (.c (.int .i64 1)), none, 0, []⟩,
   ⟨(some 8), .mv (.t 18), none, 0, [0]⟩] [18]))))
def ic108_l1 : IC := .loop [4, 5, 6, 9, 10, 11, 12, 13, 14, 15, 16, 17, 18] ic108_b1
def ic108 : IC :=
 (.seq (.region 0 [
   ⟨(some 4), .mv (.c (.int .i64 0)), none, 0, []⟩] [4])
 (.seq (.seq (.region 0 [
   ⟨(some 6), .mv (.t 0), none, 0, []⟩,
   ⟨(some 7), .lens (.t 6), none, 0, [0]⟩,
   ⟨(some 8), .mv (.c (.int .i64 0)), none, 0, []⟩] [6])
 (.block 0 ic108_l1))
 (.seq (.region 0 [
   ⟨(some 4), .mv (.c (.int .i64 (-1))), none, 0, []⟩] [])
 .ret)))
def hs108 : List (List Nat) := [[4], [6], [4, 5, 6, 9, 10, 11, 12, 13, 14, 15, 16, 17, 18], [], [9], [10], [11, 12, 13, 14, 15], [16], [5, 17], [18], []]
theorem ok108 : FnOk Try.prog 108 ic108 [.t 4] 19 := ⟨Try.f108, hs108, Try.func108, by kernel_rfl, by kernel_rfl, by kernel_rfl, by kernel_rfl⟩

/-- (*signalbox/bcm.Jobs).TxRead$1 -/
def ic109 : IC :=
 (.seq (.region 1 [
   ⟨(some 3), .box (.t 0), none, 0, []⟩,
   ⟨(some 4), .mv (.c (.bool false)), none, 1, []⟩] [0, 4])
 (.seq (.region 0 [
   ⟨(some 5), .load (some 3) (.t 3), none, 0, []⟩,
   ⟨(some 6), .load none (.t 1), none, 0, []⟩,
   ⟨(some 7), .load none (.t 2), none, 0, []⟩,
   ⟨(some 8), .call (.c (.fn 69 [] [])) [(.t 5), (.t 6), (.t 7)], none, 0, [0, 1, 2]⟩,
   ⟨(some 4), .mv (.t 8), none, 0, [3, 3, 0, 1, 2, 3]⟩] [1, 2, 3, 5, 6, 7, 8])
 .ret))
def hs109 : List (List Nat) := [[0, 4], [1, 2, 3, 5, 6, 7, 8]]
theorem ok109 : FnOk Try.prog 109 ic109 [.t 4] 9 := ⟨Try.f109, hs109, Try.func109, by kernel_rfl, by kernel_rfl, by kernel_rfl, by kernel_rfl⟩

/-- (*signalbox/cyc.Cyc).Job -/
def ic110 : IC :=
 (.seq (.region 1 [
   ⟨(some 2), .alloc [(.int .i64 0), (.int .i64 0), (.int .i64 0), (.int .i64 0), .nils, (.bool false), (.bool false)], none, 0, []⟩] [])
 (.seq (.seq (.region 0 [
   ⟨(some 4), .mv (.t 0), none, 0, []⟩,
   ⟨(some 5), .eqv false .ptr (.t 4) (.c .nilp), none, 0, [0]⟩] [4])
 (.cond (.t 5) [5]
  (.seq (.region 0 [
    ⟨(some 6), .build [(.int .i64 0), (.int .i64 0), (.int .i64 0), (.int .i64 0), .nils, (.bool false), (.bool false)] [], none, 0, []⟩,
    ⟨none, .store 7 (.t 2) (.t 6), none, 0, [0, 0]⟩] [6])
  .ret)
  .skip))
 (.seq (.region 1 [
   ⟨(some 7), .mv (.t 0), none, 0, []⟩,
   ⟨(some 8), .nilck (.t 7), none, 0, [0]⟩,
   ⟨(some 9), .faddr 0 (.t 8), none, 0, [1]⟩,
   ⟨(some 10), .load (some 7) (.t 9), none, 0, [2]⟩,
   ⟨(some 3), .alloc [(.int .i64 0), (.int .i64 0), (.int .i64 0), (.int .i64 0), .nils, (.bool false), (.bool false)], none, 0, []⟩,
   ⟨none, .store 7 (.t 3) (.t 10), none, 1, [4, 3, 0, 1, 2, 3, 4]⟩] [0, 7, 8, 9, 10])
 (.seq (.region 0 [
   ⟨(some 11), .faddr 4 (.t 3), none, 0, []⟩,
   ⟨(some 12), .load none (.t 11), none, 0, [0]⟩,
   ⟨(some 13), .call (.c (.fn 132 [] [])) [(.t 12)], none, 0, [1]⟩,
   ⟨(some 14), .faddr 4 (.t 3), none, 0, [0, 1, 2]⟩,
   ⟨none, .store 1 (.t 14) (.t 13), none, 0, [3, 2, 2, 0, 1, 2]⟩] [11, 12, 13, 14])
 (.seq (.region 0 [
   ⟨(some 15), .load (some 7) (.t 3), none, 0, []⟩,
   ⟨none, .store 7 (.t 2) (.t 15), none, 0, [0, 0]⟩] [3, 15])
 .ret)))))
def hs110 : List (List Nat) := [[], [4], [5], [6], [0, 7, 8, 9, 10], [11, 12, 13, 14], [3, 15]]
theorem ok110 : FnOk Try.prog 110 ic110 [.cell 2 (some 7)] 16 := ⟨Try.f110, hs110, Try.func110, by kernel_rfl, by kernel_rfl, by kernel_rfl, by kernel_rfl⟩

/-- slices.IndexFunc[[]signalbox/bcm.watcher,signalbox/bcm.watcher] -/
def ic111_b1 : IC :=
 (.seq (.region 0 [
   ⟨(some 9), .bin .lss (.t 8) (.t 7), none, 0, []⟩] [])
 (.seq (.cond (.t 9) [9]
  .skip
  (.exit 0))
 (.seq (.block 1 (.seq (.region 0 [
   ⟨(some 10), .mv (.t 8), none, 0, []⟩,
   ⟨(some 5), .mv (.t 10), none, 0, [0, 0]⟩] [10])
 (.seq (.region 0 [
   ⟨(some 11), .mv (.t 1), none, 0, []⟩,
   ⟨(some 12), .mv (.t 0), none, 0, []⟩,
   ⟨(some 13), .mv (.t 5), none, 0, []⟩,
   ⟨(some 14), .iaddr 5 (.t 12) (.t 13), none, 0, [1, 2]⟩,
   ⟨(some 15), .load (some 5) (.t 14), none, 0, [3]⟩,
   ⟨(some 16), .call (.t 11) [(.t 15)], none, 0, [0, 4]⟩] [11, 12, 13, 14, 15])
 (.cond (.t 16) [16]
  (.seq (.region 0 [
    ⟨(some 17), .mv (.t 5), none, 0, []⟩,
    ⟨(some 4), .mv (.t 17), none, 0, [0, 0]⟩] [5, 17])
  .ret)
  .skip))))
 (.region 0 [
   ⟨(some 18), .bin .add (.t 8) (.c (.int .i64 1)), none, 0, []⟩,
   ⟨(some 8), .mv (.t 18), none, 0, [0]⟩] [18]))))
def ic111_l1 : IC := .loop [4, 5, 6, 9, 10, 11, 12, 13, 14, 15, 16, 17, 18] ic111_b1
def ic111 : IC :=
 (.seq (.region 0 [
   ⟨(some 4), .mv (.c (.int .i64 0)), none, 0, []⟩] [4])
 (.seq (.seq (.region 0 [
   ⟨(some 6), .mv (.t 0), none, 0, []⟩,
   ⟨(some 7), .lens (.t 6), none, 0, [0]⟩,
   ⟨(some 8), .mv (.c (.int .i64 0)), none, 0, []⟩] [6])
 (.block 0 ic111_l1))
 (.seq (.region 0 [
   ⟨(some 4), .mv (.c (.int .i64 (-1))), none, 0, []⟩] [])
 .ret)))
def hs111 : List (List Nat) := [[4], [6], [4, 5, 6, 9, 10, 11, 12, 13, 14, 15, 16, 17, 18], [], [9], [10], [11, 12, 13, 14, 15], [16], [5, 17], [18], []]
theorem ok111 : FnOk Try.prog 111 ic111 [.t 4] 19 := ⟨Try.f111, hs111, Try.func111, by kernel_rfl, by kernel_rfl, by kernel_rfl, by kernel_rfl⟩

/-- (*signalbox/bcm.Jobs).RxRead$1 -/
def ic112 : IC :=
 (.seq (.region 1 [
   ⟨(some 3), .box (.t 0), none, 0, []⟩,
   ⟨(some 4), .mv (.c (.bool false)), none, 1, []⟩] [0, 4])
 (.seq (.region 0 [
   ⟨(some 5), .load (some 5) (.t 3), none, 0, []⟩,
   ⟨(some 6), .load none (.t 1), none, 0, []⟩,
   ⟨(some 7), .load (some 3) (.t 2), none, 0, []⟩,
   ⟨(some 8), .call (.c (.fn 83 [] [])) [(.t 5), (.t 6), (.t 7)], none, 0, [0, 1, 2]⟩,
   ⟨(some 4), .mv (.t 8), none, 0, [3, 3, 0, 1, 2, 3]⟩] [1, 2, 3, 5, 6, 7, 8])
 .ret))
def hs112 : List (List Nat) := [[0, 4], [1, 2, 3, 5, 6, 7, 8]]
theorem ok112 : FnOk Try.prog 112 ic112 [.t 4] 9 := ⟨Try.f112, hs112, Try.func112, by kernel_rfl, by kernel_rfl, by kernel_rfl, by kernel_rfl⟩

/-- (*signalbox/watch.Watch).Job -/
def ic113 : IC :=
 (.seq (.region 1 [
   ⟨(some 2), .alloc [(.int .u32 0), (.int .u32 0), (.bool false), (.str []), (.int .i64 0), (.int .i64 0)], none, 0, []⟩] [])
 (.seq (.seq (.region 0 [
   ⟨(some 3), .mv (.t 0), none, 0, []⟩,
   ⟨(some 4), .eqv false .ptr (.t 3) (.c .nilp), none, 0, [0]⟩] [3])
 (.cond (.t 4) [4]
  (.seq (.region 0 [
    ⟨(some 5), .build [(.int .u32 0), (.int .u32 0), (.bool false), (.str []), (.int .i64 0), (.int .i64 0)] [], none, 0, []⟩,
    ⟨none, .store 6 (.t 2) (.t 5), none, 0, [0, 0]⟩] [5])
  .ret)
  .skip))
 (.seq (.region 0 [
   ⟨(some 6), .mv (.t 0), none, 0, []⟩,
   ⟨(some 7), .nilck (.t 6), none, 0, [0]⟩,
   ⟨(some 8), .faddr 0 (.t 7), none, 0, [1]⟩,
   ⟨(some 9), .load (some 6) (.t 8), none, 0, [2]⟩,
   ⟨none, .store 6 (.t 2) (.t 9), none, 0, [3, 0, 1, 2, 3]⟩] [0, 6, 7, 8, 9])
 .ret)))
def hs113 : List (List Nat) := [[], [3], [4], [5], [0, 6, 7, 8, 9]]
theorem ok113 : FnOk Try.prog 113 ic113 [.cell 2 (some 6)] 10 := ⟨Try.f113, hs113, Try.func113, by kernel_rfl, by kernel_rfl, by kernel_rfl, by kernel_rfl⟩

/-- (*signalbox/bcm.Jobs).row -/
def ic114 : IC :=
 (.seq (.region 0 [
   ⟨(some 4), .mv (.c .nilp), none, 0, []⟩] [4])
 (.seq (.seq (.region 0 [
   ⟨(some 5), .mv (.t 0), none, 0, []⟩,
   ⟨(some 6), .eqv false .ptr (.t 5) (.c .nilp), none, 0, [0]⟩] [5])
 (.cond (.t 6) [6]
  (.seq (.region 0 [
    ⟨(some 4), .mv (.c .nilp), none, 0, []⟩] [])
  .ret)
  .skip))
 (.seq (.region 0 [
   ⟨(some 7), .mv (.t 0), none, 0, []⟩,
   ⟨(some 8), .nilck (.t 7), none, 0, [0]⟩,
   ⟨(some 9), .faddr 2 (.t 8), none, 0, [1]⟩,
   ⟨(some 10), .load none (.t 9), none, 0, [2]⟩,
   ⟨(some 11), .mv (.t 1), none, 0, []⟩,
   ⟨(some 12), .lookup .int .nilp false (.t 10) (.t 11), none, 0, [3, 4]⟩,
   ⟨(some 4), .mv (.t 12), none, 0, [5, 0, 1, 2, 3, 4, 5]⟩] [0, 1, 7, 8, 9, 10, 11, 12])
 .ret)))
def hs114 : List (List Nat) := [[4], [5], [6], [], [0, 1, 7, 8, 9, 10, 11, 12]]
theorem ok114 : FnOk Try.prog 114 ic114 [.t 4] 13 := ⟨Try.f114, hs114, Try.func114, by kernel_rfl, by kernel_rfl, by kernel_rfl, by kernel_rfl⟩

/-- (*signalbox/ring.Ring[signalbox/api.Note]).Take -/
def ic115 : IC :=
 (.seq (.region 1 [
   ⟨(some 2), .alloc [(.int .i64 0), (.int .i64 0), (.int .i64 0), (.int .i64 0), (.int .i64 0), (.str []), (.int .i64 0)], none, 0, []⟩,
   ⟨(some 3), .mv (.c (.int .i64 0)), none, 1, []⟩] [3])
 (.seq (.region 1 [
   ⟨(some 7), .mv (.t 0), none, 0, []⟩,
   ⟨(some 8), .call (.c (.fn 149 [] [])) [(.t 7)], none, 0, [0]⟩,
   ⟨(some 6), .mv (.t 8), none, 0, [1]⟩,
   ⟨(some 9), .ext 0 (.t 6), none, 0, [2]⟩,
   ⟨(some 10), .ext 1 (.t 6), none, 0, [2]⟩,
   ⟨(some 4), .alloc [(.int .i64 0), (.int .i64 0), (.int .i64 0), (.int .i64 0), (.int .i64 0), (.str []), (.int .i64 0)], none, 0, []⟩,
   ⟨none, .store 7 (.t 4) (.t 9), none, 1, [5, 3, 1, 0, 1, 2, 3, 5]⟩,
   ⟨(some 5), .mv (.t 10), none, 1, [4, 6, 0, 1, 2, 3, 4, 5, 6]⟩] [6, 7, 8, 9, 10])
 (.seq (.seq (.region 0 [
   ⟨(some 11), .mv (.t 5), none, 0, []⟩,
   ⟨(some 12), .bin .eql (.t 11) (.c (.int .i64 0)), none, 0, [0]⟩] [11])
 (.cond (.t 12) [12]
  (.seq (.region 0 [
    ⟨(some 13), .mv (.t 0), none, 0, []⟩,
    ⟨(some 14), .mv (.t 0), none, 0, []⟩,
    ⟨(some 15), .call (.c (.fn 150 [] [])) [(.t 14), (.c (.int .i64 1))], none, 0, [1]⟩,
    ⟨(some 16), .nilck (.t 13), none, 0, [0, 0, 1, 2]⟩,
    ⟨(some 17), .faddr 1 (.t 16), none, 0, [3, 0, 1, 2]⟩,
    ⟨none, .store 1 (.t 17) (.t 15), none, 0, [4, 2, 2, 0, 1, 2]⟩] [13, 14, 15, 16, 17])
  (.region 0 [
    ⟨(some 18), .mv (.t 0), none, 0, []⟩,
    ⟨(some 19), .nilck (.t 18), none, 0, [0]⟩,
    ⟨(some 20), .faddr 2 (.t 19), none, 0, [1]⟩,
    ⟨(some 21), .load none (.t 20), none, 0, [2]⟩,
    ⟨(some 22), .bin .sub (.t 21) (.c (.int .i64 1)), none, 0, [3]⟩,
    ⟨(some 23), .nilck (.t 18), none, 0, [0, 0, 1, 2, 3, 4]⟩,
    ⟨(some 24), .faddr 2 (.t 23), none, 0, [5, 0, 1, 2, 3, 4]⟩,
    ⟨none, .store 1 (.t 24) (.t 22), none, 0, [6, 4, 0, 1, 2, 3, 4]⟩] [0, 18, 19, 20, 21, 22, 23, 24]))
  .skip))
 (.seq (.region 0 [
   ⟨(some 25), .load (some 7) (.t 4), none, 0, []⟩,
   ⟨(some 26), .mv (.t 5), none, 0, []⟩,
   ⟨none, .store 7 (.t 2) (.t 25), none, 0, [0, 0]⟩,
   ⟨(some 3), .mv (.t 26), none, 0, [1, 2, 0, 1, 2]⟩] [4, 5, 25, 26])
 .ret))))
def hs115 : List (List Nat) := [[3], [6, 7, 8, 9, 10], [11], [12], [13, 14, 15, 16, 17], [0, 18, 19, 20, 21, 22, 23, 24], [4, 5, 25, 26]]
theorem ok115 : FnOk Try.prog 115 ic115 [.cell 2 (some 7), .t 3] 27 := ⟨Try.f115, hs115, Try.func115, by kernel_rfl, by kernel_rfl, by kernel_rfl, by kernel_rfl⟩

/-- (*signalbox/bcm.Jobs).RxStop$1 -/
def ic116 : IC :=
 (.seq (.region 1 [
   ⟨(some 3), .box (.t 0), none, 0, []⟩,
   ⟨(some 4), .mv (.c (.bool false)), none, 1, []⟩] [0, 4])
 (.seq (.region 0 [
   ⟨(some 5), .load (some 5) (.t 3), none, 0, []⟩,
   ⟨(some 6), .load none (.t 1), none, 0, []⟩,
   ⟨(some 7), .load (some 3) (.t 2), none, 0, []⟩,
   ⟨(some 8), .call (.c (.fn 83 [] [])) [(.t 5), (.t 6), (.t 7)], none, 0, [0, 1, 2]⟩,
   ⟨(some 4), .mv (.t 8), none, 0, [3, 3, 0, 1, 2, 3]⟩] [1, 2, 3, 5, 6, 7, 8])
 .ret))
def hs116 : List (List Nat) := [[0, 4], [1, 2, 3, 5, 6, 7, 8]]
theorem ok116 : FnOk Try.prog 116 ic116 [.t 4] 9 := ⟨Try.f116, hs116, Try.func116, by kernel_rfl, by kernel_rfl, by kernel_rfl, by kernel_rfl⟩

/-- (*signalbox/watch.Watch).Hear -/
def ic117 : IC :=
 (.seq (.region 2 [
   ⟨(some 5), .box (.t 2), none, 0, []⟩,
   ⟨(some 6), .alloc [(.int .i64 0), (.int .i64 0), (.int .i64 0), (.int .i64 0), (.int .i64 0), (.str []), (.int .i64 0)], none, 1, []⟩,
   ⟨(some 7), .mv (.c (.bool false)), none, 2, []⟩] [2, 7])
 (.seq (.seq (.region 0 [
   ⟨(some 8), .mv (.t 0), none, 0, []⟩,
   ⟨(some 9), .load (some 4) (.t 5), none, 0, []⟩,
   ⟨(some 10), .call (.c (.fn 151 [] [])) [(.t 8), (.t 9)], none, 0, [0, 1]⟩,
   ⟨(some 11), .un .not (.t 10), none, 0, [2]⟩] [8, 9, 10])
 (.cond (.t 11) [11]
  (.seq (.region 0 [
    ⟨(some 12), .build [(.int .i64 0), (.int .i64 0), (.int .i64 0), (.int .i64 0), (.int .i64 0), (.str []), (.int .i64 0)] [], none, 0, []⟩,
    ⟨none, .store 7 (.t 6) (.t 12), none, 0, [0, 0]⟩,
    ⟨(some 7), .mv (.c (.bool false)), none, 0, [1, 0, 1]⟩] [12])
  .ret)
  .skip))
 (.seq (.region 0 [
   ⟨(some 13), .mv (.t 1), none, 0, []⟩,
   ⟨(some 14), .call (.c (.fn 138 [] [])) [(.t 13)], none, 0, [0]⟩,
   ⟨(some 1), .mv (.t 14), none, 0, [1, 1, 0, 1]⟩] [13, 14])
 (.seq (.region 0 [
   ⟨(some 15), .mv (.t 0), none, 0, []⟩,
   ⟨(some 16), .mv (.t 0), none, 0, []⟩,
   ⟨(some 17), .mv (.t 1), none, 0, []⟩,
   ⟨(some 18), .nilck (.t 15), none, 0, [0, 0, 2]⟩,
   ⟨(some 19), .faddr 9 (.t 18), none, 0, [3, 0, 2]⟩,
   ⟨none, .store 1 (.t 19) (.t 17), none, 0, [4, 2, 0, 2]⟩,
   ⟨(some 20), .nilck (.t 16), none, 0, [1, 0, 1, 2, 3, 4, 5]⟩,
   ⟨(some 21), .faddr 10 (.t 20), none, 0, [6, 0, 1, 2, 3, 4, 5]⟩,
   ⟨none, .store 1 (.t 21) (.c (.bool false)), none, 0, [7, 5, 0, 1, 2, 3, 4, 5]⟩] [15, 16, 17, 18, 19, 20, 21])
 (.seq (.block 0 (.seq (.region 0 [
   ⟨(some 27), .mv (.t 0), none, 0, []⟩,
   ⟨(some 28), .load (some 4) (.t 5), none, 0, []⟩,
   ⟨(some 29), .call (.c (.fn 152 [] [])) [(.t 27), (.t 28)], none, 0, [0, 1]⟩,
   ⟨(some 30), .un .not (.t 29), none, 0, [2]⟩,
   ⟨(some 26), .mv (.t 30), none, 0, [3, 2]⟩] [27, 28, 29, 30])
 (.cond (.t 26) [26]
  (.region 0 [
    ⟨(some 31), .mv (.t 0), none, 0, []⟩,
    ⟨(some 32), .nilck (.t 31), none, 0, [0, 0]⟩,
    ⟨(some 33), .faddr 8 (.t 32), none, 0, [1, 0]⟩,
    ⟨none, .store 1 (.t 33) (.c .nilp), none, 0, [2, 0]⟩] [0, 31, 32, 33])
  (.seq (.regionD 0 [
    ⟨(some 35), .mv (.t 0), none, 0, []⟩,
    ⟨(some 36), .nilck (.t 35), none, 0, [0]⟩,
    ⟨(some 37), .faddr 6 (.t 36), none, 0, [1]⟩,
    ⟨(some 38), .load none (.t 37), none, 0, [2]⟩,
    ⟨(some 39), .eqv true .ptr (.t 38) (.c .nilp), none, 0, [3]⟩,
    ⟨(some 40), .mv (.t 39), none, 0, [4]⟩,
    ⟨(some 41), .mv (.t 1), (some (40, true)), 0, [5]⟩,
    ⟨(some 42), .mv (.t 0), (some (40, true)), 0, [5]⟩,
    ⟨(some 43), .nilck (.t 42), (some (40, true)), 0, [7, 5]⟩,
    ⟨(some 44), .faddr 7 (.t 43), (some (40, true)), 0, [8, 5]⟩,
    ⟨(some 45), .load none (.t 44), (some (40, true)), 0, [9, 5]⟩,
    ⟨(some 46), .bin .sub (.t 41) (.t 45), (some (40, true)), 0, [6, 10, 5]⟩,
    ⟨(some 47), .mv (.t 0), (some (40, true)), 0, [5]⟩,
    ⟨(some 48), .nilck (.t 47), (some (40, true)), 0, [12, 5]⟩,
    ⟨(some 49), .faddr 0 (.t 48), (some (40, true)), 0, [13, 5]⟩,
    ⟨(some 50), .faddr 4 (.t 49), (some (40, true)), 0, [14, 5]⟩,
    ⟨(some 51), .load none (.t 50), (some (40, true)), 0, [15, 5]⟩,
    ⟨(some 52), .bin .lss (.t 46) (.t 51), (some (40, true)), 0, [11, 16, 5]⟩,
    ⟨(some 53), .pick (.t 40) (.t 52) (.c (.bool false)), none, 0, [5, 17]⟩,
    ⟨(some 34), .mv (.t 53), none, 0, [18, 5]⟩]
    [0, 1, 2, 3, 4, 5, 6, 7, 8, 9, 12, 13, 14, 15, 10, 11, 16, 17, 18, 19] [0, 1, 3, 7, 15, 31, 63, 63, 191, 447, 959, 2047, 63, 4159, 12351, 28735, 61503, 131071, 262143, 524287] [35, 36, 37, 38, 39, 40, 41, 42, 43, 44, 45, 46, 47, 48, 49, 50, 51, 52, 53])
  (.cond (.t 34) [34]
   (.region 0 [
     ⟨(some 54), .mv (.t 0), none, 0, []⟩,
     ⟨(some 55), .nilck (.t 54), none, 0, [0, 0]⟩,
     ⟨(some 56), .faddr 8 (.t 55), none, 0, [1, 0]⟩,
     ⟨none, .store 1 (.t 56) (.t 5), none, 0, [2, 0]⟩] [0, 5, 54, 55, 56])
   (.seq (.region 0 [
     ⟨(some 22), .mv (.t 0), none, 0, []⟩,
     ⟨(some 23), .mv (.t 1), none, 0, []⟩,
     ⟨(some 24), .load (some 4) (.t 5), none, 0, []⟩,
     ⟨(some 25), .call (.c (.fn 139 [] [])) [(.t 22), (.t 23), (.t 24)], none, 0, [0, 1, 2]⟩,
     ⟨none, .store 7 (.t 6) (.t 25), none, 0, [3, 3, 0, 1, 2, 3]⟩,
     ⟨(some 7), .mv (.c (.bool true)), none, 0, [4, 0, 1, 2, 3, 4]⟩] [0, 1, 5, 22, 23, 24, 25])
   .ret))))))
 (.seq (.region 0 [
   ⟨(some 57), .build [(.int .i64 0), (.int .i64 0), (.int .i64 0), (.int .i64 0), (.int .i64 0), (.str []), (.int .i64 0)] [], none, 0, []⟩,
   ⟨none, .store 7 (.t 6) (.t 57), none, 0, [0, 0]⟩,
   ⟨(some 7), .mv (.c (.bool false)), none, 0, [1, 0, 1]⟩] [57])
 .ret))))))
def hs117 : List (List Nat) := [[2, 7], [8, 9, 10], [11], [12], [13, 14], [15, 16, 17, 18, 19, 20, 21], [27, 28, 29, 30], [26], [0, 31, 32, 33], [0, 1, 2, 3, 4, 5, 6, 7, 8, 9, 12, 13, 14, 15, 10, 11, 16, 17, 18, 19], [0, 1, 3, 7, 15, 31, 63, 63, 191, 447, 959, 2047, 63, 4159, 12351, 28735, 61503, 131071, 262143, 524287], [35, 36, 37, 38, 39, 40, 41, 42, 43, 44, 45, 46, 47, 48, 49, 50, 51, 52, 53], [34], [0, 5, 54, 55, 56], [0, 1, 5, 22, 23, 24, 25], [57]]
theorem ok117 : FnOk Try.prog 117 ic117 [.cell 6 (some 7), .t 7] 58 := ⟨Try.f117, hs117, Try.func117, by kernel_rfl, by kernel_rfl, by kernel_rfl, by kernel_rfl⟩

/-- (*signalbox/ring.Ring[signalbox/api.Note]).All -/
def ic118 : IC :=
 (.seq (.region 0 [
   ⟨(some 2), .mv (.c .nils), none, 0, []⟩] [2])
 (.seq (.seq (.region 0 [
   ⟨(some 7), .mv (.t 0), none, 0, []⟩,
   ⟨(some 8), .call (.c (.fn 153 [] [])) [(.t 7)], none, 0, [0]⟩,
   ⟨(some 9), .bin .eql (.t 8) (.c (.int .i64 0)), none, 0, [1]⟩] [7, 8])
 (.cond (.t 9) [9]
  (.seq (.region 0 [
    ⟨(some 2), .mv (.c .nils), none, 0, []⟩] [])
  .ret)
  .skip))
 (.seq (.regionD 0 [
   ⟨(some 10), .mv (.t 0), none, 0, []⟩,
   ⟨(some 11), .nilck (.t 10), none, 0, [0]⟩,
   ⟨(some 12), .faddr 1 (.t 11), none, 0, [1]⟩,
   ⟨(some 13), .load none (.t 12), none, 0, [2]⟩,
   ⟨(some 14), .mv (.t 0), none, 0, []⟩,
   ⟨(some 15), .nilck (.t 14), none, 0, [4]⟩,
   ⟨(some 16), .faddr 2 (.t 15), none, 0, [5]⟩,
   ⟨(some 17), .load none (.t 16), none, 0, [6]⟩,
   ⟨(some 18), .bin .add (.t 13) (.t 17), none, 0, [3, 7]⟩,
   ⟨(some 19), .mv (.t 0), none, 0, []⟩,
   ⟨(some 20), .nilck (.t 19), none, 0, [9]⟩,
   ⟨(some 21), .faddr 0 (.t 20), none, 0, [10]⟩,
   ⟨(some 22), .load none (.t 21), none, 0, [11]⟩,
   ⟨(some 23), .lens (.t 22), none, 0, [12]⟩,
   ⟨(some 24), .mn [(.t 18), (.t 23)], none, 0, [8, 13]⟩,
   ⟨(some 3), .mv (.t 24), none, 0, [14, 0, 1, 2, 3, 4, 5, 6, 7, 8, 9, 10, 11, 12, 13, 14]⟩]
   [0, 1, 2, 4, 5, 6, 9, 10, 11, 3, 7, 8, 12, 13, 14, 15] [0, 1, 3, 7, 0, 16, 48, 112, 255, 0, 512, 1536, 3584, 7680, 16383, 32767] [10, 11, 12, 13, 14, 15, 16, 17, 18, 19, 20, 21, 22, 23, 24])
 (.seq (.regionD 0 [
   ⟨(some 25), .mv (.t 0), none, 0, []⟩,
   ⟨(some 26), .nilck (.t 25), none, 0, [0]⟩,
   ⟨(some 27), .faddr 0 (.t 26), none, 0, [1]⟩,
   ⟨(some 28), .load none (.t 27), none, 0, [2]⟩,
   ⟨(some 29), .mv (.t 0), none, 0, []⟩,
   ⟨(some 30), .nilck (.t 29), none, 0, [4]⟩,
   ⟨(some 31), .faddr 1 (.t 30), none, 0, [5]⟩,
   ⟨(some 32), .load none (.t 31), none, 0, [6]⟩,
   ⟨(some 33), .mv (.t 3), none, 0, []⟩,
   ⟨(some 34), .mv (.t 3), none, 0, []⟩,
   ⟨(some 35), .slc 7 (.t 28) (some (.t 32)) (some (.t 33)) (some (.t 34)), none, 0, [3, 7, 8, 9]⟩,
   ⟨(some 4), .mv (.t 35), none, 0, [10, 0, 1, 2, 3, 4, 5, 6, 7, 8, 9, 10]⟩]
   [0, 1, 2, 4, 5, 6, 8, 9, 3, 7, 10, 11] [0, 1, 3, 7, 0, 16, 48, 112, 0, 0, 1023, 2047] [3, 25, 26, 27, 28, 29, 30, 31, 32, 33, 34, 35])
 (.seq (.region 1 [
   ⟨(some 36), .mv (.t 0), none, 0, []⟩,
   ⟨(some 37), .nilck (.t 36), none, 0, [0]⟩,
   ⟨(some 38), .faddr 2 (.t 37), none, 0, [1]⟩,
   ⟨(some 39), .load none (.t 38), none, 0, [2]⟩,
   ⟨(some 40), .mksl 7 64 [(.int .i64 0), (.int .i64 0), (.int .i64 0), (.int .i64 0), (.int .i64 0), (.str []), (.int .i64 0)] (.t 39) (.t 39), none, 0, [3, 3]⟩,
   ⟨(some 5), .mv (.t 40), none, 1, [4, 0, 1, 2, 3, 4]⟩] [36, 37, 38, 39, 40])
 (.seq (.region 0 [
   ⟨(some 41), .mv (.t 5), none, 0, []⟩,
   ⟨(some 42), .mv (.t 4), none, 0, []⟩,
   ⟨(some 43), .cpy 7 (.t 41) (.t 42), none, 0, [0, 1]⟩,
   ⟨(some 6), .mv (.t 43), none, 0, [2, 2, 0, 1, 2]⟩] [4, 41, 42, 43])
 (.seq (.regionD 0 [
   ⟨(some 44), .mv (.t 5), none, 0, []⟩,
   ⟨(some 45), .mv (.t 6), none, 0, []⟩,
   ⟨(some 46), .slc 7 (.t 44) (some (.t 45)) none none, none, 0, [0, 1]⟩,
   ⟨(some 47), .mv (.t 0), none, 0, []⟩,
   ⟨(some 48), .nilck (.t 47), none, 0, [3]⟩,
   ⟨(some 49), .faddr 0 (.t 48), none, 0, [4]⟩,
   ⟨(some 50), .load none (.t 49), none, 0, [5]⟩,
   ⟨(some 51), .mv (.t 0), none, 0, []⟩,
   ⟨(some 52), .nilck (.t 51), none, 0, [7]⟩,
   ⟨(some 53), .faddr 2 (.t 52), none, 0, [8]⟩,
   ⟨(some 54), .load none (.t 53), none, 0, [9]⟩,
   ⟨(some 55), .mv (.t 6), none, 0, []⟩,
   ⟨(some 56), .bin .sub (.t 54) (.t 55), none, 0, [10, 11]⟩,
   ⟨(some 57), .slc 7 (.t 50) none (some (.t 56)) none, none, 0, [6, 12]⟩,
   ⟨(some 58), .cpy 7 (.t 46) (.t 57), none, 0, [2, 13]⟩]
   [0, 1, 2, 3, 4, 5, 7, 8, 9, 11, 6, 10, 12, 13, 14] [0, 0, 3, 0, 8, 24, 56, 0, 128, 384, 896, 0, 3968, 8184, 16383] [0, 6, 44, 45, 46, 47, 48, 49, 50, 51, 52, 53, 54, 55, 56, 57, 58])
 (.seq (.region 0 [
   ⟨(some 59), .mv (.t 5), none, 0, []⟩,
   ⟨(some 2), .mv (.t 59), none, 0, [0, 0]⟩] [5, 59])
 .ret))))))))
def hs118 : List (List Nat) := [[2], [7, 8], [9], [], [0, 1, 2, 4, 5, 6, 9, 10, 11, 3, 7, 8, 12, 13, 14, 15], [0, 1, 3, 7, 0, 16, 48, 112, 255, 0, 512, 1536, 3584, 7680, 16383, 32767], [10, 11, 12, 13, 14, 15, 16, 17, 18, 19, 20, 21, 22, 23, 24], [0, 1, 2, 4, 5, 6, 8, 9, 3, 7, 10, 11], [0, 1, 3, 7, 0, 16, 48, 112, 0, 0, 1023, 2047], [3, 25, 26, 27, 28, 29, 30, 31, 32, 33, 34, 35], [36, 37, 38, 39, 40], [4, 41, 42, 43], [0, 1, 2, 3, 4, 5, 7, 8, 9, 11, 6, 10, 12, 13, 14], [0, 0, 3, 0, 8, 24, 56, 0, 128, 384, 896, 0, 3968, 8184, 16383], [0, 6, 44, 45, 46, 47, 48, 49, 50, 51, 52, 53, 54, 55, 56, 57, 58], [5, 59]]
theorem ok118 : FnOk Try.prog 118 ic118 [.t 2] 60 := ⟨Try.f118, hs118, Try.func118, by kernel_rfl, by kernel_rfl, by kernel_rfl, by kernel_rfl⟩

/-- (*signalbox/ring.Ring[signalbox/api.Note]).Lost -/
def ic119 : IC :=
 (.seq (.region 0 [
   ⟨(some 2), .mv (.c (.int .i64 0)), none, 0, []⟩] [2])
 (.seq (.seq (.region 0 [
   ⟨(some 3), .mv (.t 0), none, 0, []⟩,
   ⟨(some 4), .eqv false .ptr (.t 3) (.c .nilp), none, 0, [0]⟩] [3])
 (.cond (.t 4) [4]
  (.seq (.region 0 [
    ⟨(some 2), .mv (.c (.int .i64 0)), none, 0, []⟩] [])
  .ret)
  .skip))
 (.seq (.region 0 [
   ⟨(some 5), .mv (.t 0), none, 0, []⟩,
   ⟨(some 6), .nilck (.t 5), none, 0, [0]⟩,
   ⟨(some 7), .faddr 3 (.t 6), none, 0, [1]⟩,
   ⟨(some 8), .load none (.t 7), none, 0, [2]⟩,
   ⟨(some 2), .mv (.t 8), none, 0, [3, 0, 1, 2, 3]⟩] [0, 5, 6, 7, 8])
 .ret)))
def hs119 : List (List Nat) := [[2], [3], [4], [], [0, 5, 6, 7, 8]]
theorem ok119 : FnOk Try.prog 119 ic119 [.t 2] 9 := ⟨Try.f119, hs119, Try.func119, by kernel_rfl, by kernel_rfl, by kernel_rfl, by kernel_rfl⟩

/-- signalbox/frame.Key -/
def ic126 : IC :=
 (.seq (.region 1 [
   ⟨(some 1), .box (.t 0), none, 0, []⟩,
   ⟨(some 2), .mv (.c (.int .i64 0)), none, 1, []⟩] [0, 2])
 (.seq (.seq (.region 0 [
   ⟨(some 4), .load (some 4) (.t 1), none, 0, []⟩,
   ⟨(some 5), .call (.c (.fn 156 [] [])) [(.t 4)], none, 0, [0]⟩,
   ⟨(some 6), .bin .neq (.t 5) (.c (.int .i64 0)), none, 0, [1]⟩,
   ⟨(some 7), .mv (.t 6), none, 0, [2, 1]⟩,
   ⟨(some 8), .load (some 4) (.t 1), (some (7, false)), 0, [3]⟩,
   ⟨(some 9), .call (.c (.fn 157 [] [])) [(.t 8), (.c (.int .i64 4))], (some (7, false)), 0, [4, 3, 3]⟩,
   ⟨(some 10), .pick (.t 7) (.c (.bool true)) (.t 9), none, 0, [3, 5]⟩] [4, 5, 6, 7, 8, 9])
 (.cond (.t 10) [10]
  (.seq (.region 0 [
    ⟨(some 2), .mv (.c (.int .i64 (-1))), none, 0, []⟩] [])
  .ret)
  .skip))
 (.seq (.region 0 [
   ⟨(some 3), .mv (.c (.int .i64 0)), none, 0, []⟩] [3])
 (.seq (.seq (.region 0 [
   ⟨(some 11), .load (some 4) (.t 1), none, 0, []⟩,
   ⟨(some 12), .call (.c (.fn 157 [] [])) [(.t 11), (.c (.int .i64 1))], none, 0, [0]⟩] [11])
 (.cond (.t 12) [12]
  (.seq (.region 0 [
    ⟨(some 13), .faddr 0 (.t 1), none, 0, []⟩,
    ⟨(some 14), .load none (.t 13), none, 0, [0]⟩,
    ⟨(some 15), .bin .shr (.t 14) (.c (.int .u64 18)), none, 0, [1]⟩,
    ⟨(some 16), .bin .shl (.t 15) (.c (.int .u64 2)), none, 0, [2]⟩,
    ⟨(some 17), .bin .or (.t 16) (.c (.int .i64 3)), none, 0, [3]⟩,
    ⟨(some 3), .mv (.t 17), none, 0, [4, 0, 1, 2, 3, 4]⟩] [13, 14, 15, 16, 17])
  (.seq (.region 0 [
    ⟨(some 18), .mv (.t 3), none, 0, []⟩,
    ⟨(some 19), .bin .shl (.t 18) (.c (.int .u64 18)), none, 0, [0]⟩,
    ⟨(some 20), .faddr 0 (.t 1), none, 0, []⟩,
    ⟨(some 21), .load none (.t 20), none, 0, [2]⟩,
    ⟨(some 22), .bin .and (.t 21) (.c (.int .i64 262143)), none, 0, [3]⟩,
    ⟨(some 23), .bin .or (.t 19) (.t 22), none, 0, [1, 4]⟩,
    ⟨(some 3), .mv (.t 23), none, 0, [5, 0, 1, 2, 3, 4, 5]⟩] [18, 19, 20, 21, 22, 23])
  (.region 0 [
    ⟨(some 24), .mv (.t 3), none, 0, []⟩,
    ⟨(some 25), .bin .shl (.t 24) (.c (.int .u64 1)), none, 0, [0]⟩,
    ⟨(some 26), .load (some 4) (.t 1), none, 0, []⟩,
    ⟨(some 27), .call (.c (.fn 158 [] [])) [(.t 26), (.c (.int .i64 2))], none, 0, [2]⟩,
    ⟨(some 28), .bin .or (.t 25) (.t 27), none, 0, [1, 3]⟩,
    ⟨(some 3), .mv (.t 28), none, 0, [4, 3, 0, 1, 2, 3, 4]⟩] [24, 25, 26, 27, 28])))
  (.seq (.regionD 0 [
    ⟨(some 29), .faddr 0 (.t 1), none, 0, []⟩,
    ⟨(some 30), .load none (.t 29), none, 0, [0]⟩,
    ⟨(some 31), .bin .shl (.t 30) (.c (.int .u64 2)), none, 0, [1]⟩,
    ⟨(some 32), .load (some 4) (.t 1), none, 0, []⟩,
    ⟨(some 33), .call (.c (.fn 158 [] [])) [(.t 32), (.c (.int .i64 2))], none, 0, [3]⟩,
    ⟨(some 34), .bin .shl (.t 33) (.c (.int .u64 1)), none, 0, [4]⟩,
    ⟨(some 35), .bin .or (.t 31) (.t 34), none, 0, [2, 5]⟩,
    ⟨(some 3), .mv (.t 35), none, 0, [6, 4, 0, 1, 2, 3, 4, 5, 6]⟩]
    [0, 1, 2, 3, 4, 5, 6, 7] [0, 1, 3, 0, 8, 24, 63, 127] [29, 30, 31, 32, 33, 34, 35])
  (.region 0 [
    ⟨(some 36), .mv (.t 3), none, 0, []⟩,
    ⟨(some 37), .bin .shl (.t 36) (.c (.int .u64 19)), none, 0, [0]⟩,
    ⟨(some 3), .mv (.t 37), none, 0, [1, 0, 1]⟩] [36, 37]))))
 (.seq (.region 0 [
   ⟨(some 38), .mv (.t 3), none, 0, []⟩,
   ⟨(some 39), .bin .shl (.t 38) (.c (.int .u64 1)), none, 0, [0]⟩,
   ⟨(some 40), .load (some 4) (.t 1), none, 0, []⟩,
   ⟨(some 41), .call (.c (.fn 158 [] [])) [(.t 40), (.c (.int .i64 8))], none, 0, [2]⟩,
   ⟨(some 42), .bin .or (.t 39) (.t 41), none, 0, [1, 3]⟩,
   ⟨(some 2), .mv (.t 42), none, 0, [4, 3, 0, 1, 2, 3, 4]⟩] [1, 3, 38, 39, 40, 41, 42])
 .ret)))))
def hs126 : List (List Nat) := [[0, 2], [4, 5, 6, 7, 8, 9], [10], [], [3], [11], [12], [13, 14, 15, 16, 17], [18, 19, 20, 21, 22, 23], [24, 25, 26, 27, 28], [0, 1, 2, 3, 4, 5, 6, 7], [0, 1, 3, 0, 8, 24, 63, 127], [29, 30, 31, 32, 33, 34, 35], [36, 37], [1, 3, 38, 39, 40, 41, 42]]
theorem ok126 : FnOk Try.prog 126 ic126 [.t 2] 43 := ⟨Try.f126, hs126, Try.func126, by kernel_rfl, by kernel_rfl, by kernel_rfl, by kernel_rfl⟩

/-- signalbox/match.Match -/
def ic129 : IC :=
 (.seq (.region 2 [
   ⟨(some 2), .box (.t 0), none, 0, []⟩,
   ⟨(some 3), .box (.t 1), none, 1, []⟩,
   ⟨(some 4), .mv (.c (.bool false)), none, 2, []⟩] [0, 1, 4])
 (.seq (.regionD 0 [
   ⟨(some 5), .load (some 4) (.t 3), none, 0, []⟩,
   ⟨(some 6), .call (.c (.fn 156 [] [])) [(.t 5)], none, 0, [0]⟩,
   ⟨(some 7), .bin .eql (.t 6) (.c (.int .i64 0)), none, 0, [1]⟩,
   ⟨(some 8), .mv (.t 7), none, 0, [2, 1]⟩,
   ⟨(some 9), .faddr 1 (.t 3), (some (8, true)), 0, [3]⟩,
   ⟨(some 10), .load none (.t 9), (some (8, true)), 0, [4, 3]⟩,
   ⟨(some 11), .bin .and (.t 10) (.c (.int .i64 4)), (some (8, true)), 0, [5, 3]⟩,
   ⟨(some 12), .bin .eql (.t 11) (.c (.int .i64 0)), (some (8, true)), 0, [6, 3]⟩,
   ⟨(some 13), .pick (.t 8) (.t 12) (.c (.bool false)), none, 0, [3, 7]⟩,
   ⟨(some 14), .mv (.t 13), none, 0, [8, 3]⟩,
   ⟨(some 15), .load (some 3) (.t 2), (some (14, true)), 0, [9]⟩,
   ⟨(some 16), .load (some 4) (.t 3), (some (14, true)), 0, [9]⟩,
   ⟨(some 17), .call (.c (.fn 161 [] [])) [(.t 16)], (some (14, true)), 0, [11, 9, 9]⟩,
   ⟨(some 18), .call (.c (.fn 160 [] [])) [(.t 15), (.t 17)], (some (14, true)), 0, [10, 12, 12, 9]⟩,
   ⟨(some 19), .pick (.t 14) (.t 18) (.c (.bool false)), none, 0, [9, 13]⟩,
   ⟨(some 4), .mv (.t 19), none, 0, [14, 13, 0, 1, 2, 3, 4, 5, 6, 7, 8, 9, 10, 11, 12, 13, 14]⟩]
   [0, 1, 2, 3, 4, 5, 6, 7, 8, 9, 10, 11, 12, 13, 14, 15] [0, 1, 3, 7, 15, 31, 63, 127, 255, 511, 1023, 1023, 3071, 8191, 16383, 32767] [2, 3, 5, 6, 7, 8, 9, 10, 11, 12, 13, 14, 15, 16, 17, 18, 19])
 .ret))
def hs129 : List (List Nat) := [[0, 1, 4], [0, 1, 2, 3, 4, 5, 6, 7, 8, 9, 10, 11, 12, 13, 14, 15], [0, 1, 3, 7, 15, 31, 63, 127, 255, 511, 1023, 1023, 3071, 8191, 16383, 32767], [2, 3, 5, 6, 7, 8, 9, 10, 11, 12, 13, 14, 15, 16, 17, 18, 19]]
theorem ok129 : FnOk Try.prog 129 ic129 [.t 4] 20 := ⟨Try.f129, hs129, Try.func129, by kernel_rfl, by kernel_rfl, by kernel_rfl, by kernel_rfl⟩

/-- signalbox/cyc.count -/
def ic130 : IC :=
 (.seq (.region 0 [
   ⟨(some 2), .mv (.c (.bool false)), none, 0, []⟩] [2])
 (.seq (.region 0 [
   ⟨(some 3), .mv (.t 0), none, 0, []⟩,
   ⟨(some 4), .bin .geq (.t 3) (.c (.int .i64 0)), none, 0, [0]⟩,
   ⟨(some 5), .mv (.t 4), none, 0, [1]⟩,
   ⟨(some 6), .mv (.t 0), (some (5, true)), 0, [2]⟩,
   ⟨(some 7), .bin .leq (.t 6) (.c (.int .i64 1099511627776)), (some (5, true)), 0, [3, 2]⟩,
   ⟨(some 8), .pick (.t 5) (.t 7) (.c (.bool false)), none, 0, [2, 4]⟩,
   ⟨(some 2), .mv (.t 8), none, 0, [5, 2, 0, 1, 2, 3, 4, 5]⟩] [0, 3, 4, 5, 6, 7, 8])
 .ret))
def hs130 : List (List Nat) := [[2], [0, 3, 4, 5, 6, 7, 8]]
theorem ok130 : FnOk Try.prog 130 ic130 [.t 2] 9 := ⟨Try.f130, hs130, Try.func130, by kernel_rfl, by kernel_rfl, by kernel_rfl, by kernel_rfl⟩

/-- signalbox/cyc.Right -/
def ic131 : IC :=
 (.seq (.region 1 [
   ⟨(some 1), .box (.t 0), none, 0, []⟩,
   ⟨(some 2), .mv (.c (.int .i64 0)), none, 1, []⟩] [0, 2])
 (.seq (.block 0 (.seq (.block 4 (.seq (.block 3 (.block 2 (.seq (.block 1 (.seq (.seq (.seq (.region 0 [
   ⟨(some 4), .faddr 4 (.t 1), none, 0, []⟩,
   ⟨(some 5), .load none (.t 4), none, 0, [0]⟩,
   ⟨(some 6), .lens (.t 5), none, 0, [1]⟩,
   ⟨(some 7), .bin .gtr (.t 6) (.c (.int .i64 256)), none, 0, [2]⟩,
   ⟨(some 3), .mv (.t 7), none, 0, [3]⟩] [4, 5, 6, 7])
 (.cond (.t 3) [3]
  (.exit 1)
  .skip))
 (.seq (.seq (.region 0 [
   ⟨(some 9), .faddr 4 (.t 1), none, 0, []⟩,
   ⟨(some 10), .load none (.t 9), none, 0, [0]⟩,
   ⟨(some 11), .lens (.t 10), none, 0, [1]⟩,
   ⟨(some 12), .bin .eql (.t 11) (.c (.int .i64 0)), none, 0, [2]⟩,
   ⟨(some 8), .mv (.t 12), none, 0, [3]⟩] [9, 10, 11, 12])
 (.cond (.t 8) [8]
  (.exit 2)
  .skip))
 (.seq (.seq (.region 0 [
   ⟨(some 14), .faddr 1 (.t 1), none, 0, []⟩,
   ⟨(some 15), .load none (.t 14), none, 0, [0]⟩,
   ⟨(some 16), .call (.c (.fn 130 [] [])) [(.t 15)], none, 0, [1]⟩,
   ⟨(some 17), .un .not (.t 16), none, 0, [2]⟩,
   ⟨(some 18), .mv (.t 17), none, 0, [3, 2]⟩,
   ⟨(some 19), .faddr 2 (.t 1), (some (18, false)), 0, [4]⟩,
   ⟨(some 20), .load none (.t 19), (some (18, false)), 0, [5, 4]⟩,
   ⟨(some 21), .call (.c (.fn 130 [] [])) [(.t 20)], (some (18, false)), 0, [6, 4, 4]⟩,
   ⟨(some 22), .un .not (.t 21), (some (18, false)), 0, [7, 4]⟩,
   ⟨(some 23), .pick (.t 18) (.c (.bool true)) (.t 22), none, 0, [4, 8]⟩,
   ⟨(some 24), .mv (.t 23), none, 0, [9, 7]⟩,
   ⟨(some 25), .faddr 3 (.t 1), (some (24, false)), 0, [10]⟩,
   ⟨(some 26), .load none (.t 25), (some (24, false)), 0, [11, 10]⟩,
   ⟨(some 27), .call (.c (.fn 130 [] [])) [(.t 26)], (some (24, false)), 0, [12, 10, 10]⟩,
   ⟨(some 28), .un .not (.t 27), (some (24, false)), 0, [13, 10]⟩,
   ⟨(some 29), .pick (.t 24) (.c (.bool true)) (.t 28), none, 0, [10, 14]⟩,
   ⟨(some 13), .mv (.t 29), none, 0, [15, 13]⟩] [14, 15, 16, 17, 18, 19, 20, 21, 22, 23, 24, 25, 26, 27, 28, 29])
 (.cond (.t 13) [13]
  (.exit 3)
  .skip))
 (.seq (.region 0 [
   ⟨(some 31), .faddr 4 (.t 1), none, 0, []⟩,
   ⟨(some 32), .load none (.t 31), none, 0, [0]⟩,
   ⟨(some 33), .call (.c (.fn 162 [] [])) [(.t 32), (.c (.fn 163 [] []))], none, 0, [1]⟩,
   ⟨(some 30), .mv (.t 33), none, 0, [2, 2]⟩] [1, 31, 32, 33])
 (.cond (.t 30) [30]
  (.exit 4)
  .skip)))))
 (.exit 0)))
 (.seq (.seq (.region 0 [
   ⟨(some 2), .mv (.c (.int .i64 9)), none, 0, []⟩] [])
 .ret)
 (.exit 0)))))
 (.seq (.seq (.region 0 [
   ⟨(some 2), .mv (.c (.int .i64 2)), none, 0, []⟩] [])
 .ret)
 (.exit 0))))
 (.seq (.seq (.region 0 [
   ⟨(some 2), .mv (.c (.int .i64 4)), none, 0, []⟩] [])
 .ret)
 (.exit 0))))
 (.seq (.region 0 [
   ⟨(some 2), .mv (.c (.int .i64 0)), none, 0, []⟩] [])
 .ret)))
def hs131 : List (List Nat) := [[0, 2], [4, 5, 6, 7], [3], [9, 10, 11, 12], [8], [14, 15, 16, 17, 18, 19, 20, 21, 22, 23, 24, 25, 26, 27, 28, 29], [13], [1, 31, 32, 33], [30], [], [], [], []]
theorem ok131 : FnOk Try.prog 131 ic131 [.t 2] 34 := ⟨Try.f131, hs131, Try.func131, by kernel_rfl, by kernel_rfl, by kernel_rfl, by kernel_rfl⟩

/-- slices.Clone[[]signalbox/api.Frame,signalbox/api.Frame] -/
def ic132 : IC :=
 (.seq (.region 0 [
   ⟨(some 2), .mv (.c .nils), none, 0, []⟩] [2])
 (.seq (.seq (.region 0 [
   ⟨(some 3), .mv (.t 0), none, 0, []⟩,
   ⟨(some 4), .eqv false .slice (.t 3) (.c .nils), none, 0, [0]⟩] [3])
 (.cond (.t 4) [4]
  (.seq (.region 0 [
    ⟨(some 2), .mv (.c .nils), none, 0, []⟩] [])
  .ret)
  .skip))
 (.seq (.region 2 [
   ⟨(some 5), .bslice 4 [], none, 0, []⟩,
   ⟨(some 6), .mv (.t 0), none, 1, []⟩,
   ⟨(some 7), .app 4 40 (.t 5) (.t 6), none, 1, [0, 1]⟩,
   ⟨(some 2), .mv (.t 7), none, 2, [2, 2, 0, 1, 2]⟩] [0, 5, 6, 7])
 .ret)))
def hs132 : List (List Nat) := [[2], [3], [4], [], [0, 5, 6, 7]]
theorem ok132 : FnOk Try.prog 132 ic132 [.t 2] 8 := ⟨Try.f132, hs132, Try.func132, by kernel_rfl, by kernel_rfl, by kernel_rfl, by kernel_rfl⟩

/-- signalbox/cyc.turns -/
def ic133 : IC :=
 (.seq (.region 1 [
   ⟨(some 1), .box (.t 0), none, 0, []⟩,
   ⟨(some 2), .mv (.c .nilf), none, 1, []⟩] [0, 2])
 (.seq (.region 1 [
   ⟨(some 3), .alloc [(.int .i64 0)], none, 0, []⟩,
   ⟨none, .store 1 (.t 3) (.c (.int .i64 0)), none, 1, [0, 0]⟩] [])
 (.seq (.region 0 [
   ⟨(some 4), .mkfn 164 [] [(.t 1), (.t 3)], none, 0, []⟩,
   ⟨(some 2), .mv (.t 4), none, 0, [0, 0]⟩] [1, 3, 4])
 .ret)))
def hs133 : List (List Nat) := [[0, 2], [], [1, 3, 4]]
theorem ok133 : FnOk Try.prog 133 ic133 [.t 2] 5 := ⟨Try.f133, hs133, Try.func133, by kernel_rfl, by kernel_rfl, by kernel_rfl, by kernel_rfl⟩

/-- (*signalbox/cyc.Cyc).plan -/
def ic134 : IC :=
 (.seq (.region 0 [
   ⟨(some 5), .mv (.t 0), none, 0, []⟩,
   ⟨(some 6), .nilck (.t 5), none, 0, [0]⟩,
   ⟨(some 7), .faddr 0 (.t 6), none, 0, [1]⟩,
   ⟨(some 8), .faddr 3 (.t 7), none, 0, [2]⟩,
   ⟨(some 9), .load none (.t 8), none, 0, [3]⟩,
   ⟨(some 4), .mv (.t 9), none, 0, [4, 0, 1, 2, 3, 4]⟩] [5, 6, 7, 8, 9])
 (.seq (.seq (.region 0 [
   ⟨(some 10), .mv (.t 0), none, 0, []⟩,
   ⟨(some 11), .nilck (.t 10), none, 0, [0]⟩,
   ⟨(some 12), .faddr 9 (.t 11), none, 0, [1]⟩,
   ⟨(some 13), .load none (.t 12), none, 0, [2]⟩,
   ⟨(some 14), .bin .gtr (.t 13) (.c (.int .i64 0)), none, 0, [3]⟩] [10, 11, 12, 13])
 (.cond (.t 14) [14]
  (.region 0 [
    ⟨(some 15), .mv (.t 0), none, 0, []⟩,
    ⟨(some 16), .nilck (.t 15), none, 0, [0]⟩,
    ⟨(some 17), .faddr 0 (.t 16), none, 0, [1]⟩,
    ⟨(some 18), .faddr 2 (.t 17), none, 0, [2]⟩,
    ⟨(some 19), .load none (.t 18), none, 0, [3]⟩,
    ⟨(some 4), .mv (.t 19), none, 0, [4, 0, 1, 2, 3, 4]⟩] [15, 16, 17, 18, 19])
  .skip))
 (.region 0 [
   ⟨(some 20), .mv (.t 0), none, 0, []⟩,
   ⟨(some 21), .mv (.t 0), none, 0, []⟩,
   ⟨(some 22), .mv (.t 1), none, 0, []⟩,
   ⟨(some 23), .mv (.t 4), none, 0, []⟩,
   ⟨(some 24), .bin .add (.t 22) (.t 23), none, 0, [2, 3]⟩,
   ⟨(some 25), .mv (.t 4), none, 0, []⟩,
   ⟨(some 26), .bin .gtr (.t 25) (.c (.int .i64 0)), none, 0, [5]⟩,
   ⟨(some 27), .nilck (.t 20), none, 0, [0, 0, 2, 3, 4]⟩,
   ⟨(some 28), .faddr 10 (.t 27), none, 0, [7, 0, 2, 3, 4]⟩,
   ⟨none, .store 1 (.t 28) (.t 24), none, 0, [8, 4, 0, 2, 3, 4]⟩,
   ⟨(some 29), .nilck (.t 21), none, 0, [1, 0, 1, 2, 3, 4, 5, 6, 7, 8, 9]⟩,
   ⟨(some 30), .faddr 11 (.t 29), none, 0, [10, 0, 1, 2, 3, 4, 5, 6, 7, 8, 9]⟩,
   ⟨none, .store 1 (.t 30) (.t 26), none, 0, [11, 6, 9, 0, 1, 2, 3, 4, 5, 6, 7, 8, 9]⟩] [0, 1, 4, 20, 21, 22, 23, 24, 25, 26, 27, 28, 29, 30])))
def hs134 : List (List Nat) := [[5, 6, 7, 8, 9], [10, 11, 12, 13], [14], [15, 16, 17, 18, 19], [0, 1, 4, 20, 21, 22, 23, 24, 25, 26, 27, 28, 29, 30]]
theorem ok134 : FnOk Try.prog 134 ic134 [] 31 := ⟨Try.f134, hs134, Try.func134, by kernel_rfl, by kernel_rfl, by kernel_rfl, by kernel_rfl⟩

/-- signalbox/ring.New[signalbox/api.Note] -/
def ic136 : IC :=
 (.seq (.region 0 [
   ⟨(some 2), .mv (.c .nilp), none, 0, []⟩] [2])
 (.seq (.region 2 [
   ⟨(some 3), .mv (.t 0), none, 0, []⟩,
   ⟨(some 4), .mx [(.t 3), (.c (.int .i64 1))], none, 0, [0]⟩,
   ⟨(some 5), .mn [(.t 4), (.c (.int .i64 1000))], none, 0, [1]⟩,
   ⟨(some 6), .mksl 7 64 [(.int .i64 0), (.int .i64 0), (.int .i64 0), (.int .i64 0), (.int .i64 0), (.str []), (.int .i64 0)] (.t 5) (.t 5), none, 0, [2, 2]⟩,
   ⟨(some 7), .build [.nils, (.int .i64 0), (.int .i64 0), (.int .i64 0)] [(0, 1, (.t 6))], none, 1, [3]⟩,
   ⟨(some 8), .box (.t 7), none, 1, [4]⟩,
   ⟨(some 2), .mv (.t 8), none, 2, [5, 0, 1, 2, 3, 4, 5]⟩] [0, 3, 4, 5, 6, 7, 8])
 .ret))
def hs136 : List (List Nat) := [[2], [0, 3, 4, 5, 6, 7, 8]]
theorem ok136 : FnOk Try.prog 136 ic136 [.t 2] 9 := ⟨Try.f136, hs136, Try.func136, by kernel_rfl, by kernel_rfl, by kernel_rfl, by kernel_rfl⟩

/-- (*signalbox/ring.Ring[signalbox/api.Note]).Put -/
def ic137 : IC :=
 (.seq (.region 1 [
   ⟨(some 3), .box (.t 1), none, 0, []⟩,
   ⟨(some 4), .mv (.c (.bool false)), none, 1, []⟩] [1, 4])
 (.seq (.block 0 (.seq (.region 0 [
   ⟨(some 6), .mv (.t 0), none, 0, []⟩,
   ⟨(some 7), .eqv false .ptr (.t 6) (.c .nilp), none, 0, [0]⟩,
   ⟨(some 5), .mv (.t 7), none, 0, [1]⟩] [6, 7])
 (.cond (.t 5) [5]
  (.seq (.region 0 [
    ⟨(some 4), .mv (.c (.bool false)), none, 0, []⟩] [])
  .ret)
  (.seq (.regionD 0 [
    ⟨(some 9), .mv (.t 0), none, 0, []⟩,
    ⟨(some 10), .nilck (.t 9), none, 0, [0]⟩,
    ⟨(some 11), .faddr 2 (.t 10), none, 0, [1]⟩,
    ⟨(some 12), .load none (.t 11), none, 0, [2]⟩,
    ⟨(some 13), .mv (.t 0), none, 0, []⟩,
    ⟨(some 14), .nilck (.t 13), none, 0, [4]⟩,
    ⟨(some 15), .faddr 0 (.t 14), none, 0, [5]⟩,
    ⟨(some 16), .load none (.t 15), none, 0, [6]⟩,
    ⟨(some 17), .lens (.t 16), none, 0, [7]⟩,
    ⟨(some 18), .bin .eql (.t 12) (.t 17), none, 0, [3, 8]⟩,
    ⟨(some 8), .mv (.t 18), none, 0, [9]⟩]
    [0, 1, 2, 4, 5, 6, 3, 7, 8, 9, 10] [0, 1, 3, 7, 0, 16, 48, 112, 240, 511, 1023] [9, 10, 11, 12, 13, 14, 15, 16, 17, 18])
  (.cond (.t 8) [8]
   (.seq (.region 0 [
     ⟨(some 19), .mv (.t 0), none, 0, []⟩,
     ⟨(some 20), .nilck (.t 19), none, 0, [0]⟩,
     ⟨(some 21), .faddr 3 (.t 20), none, 0, [1]⟩,
     ⟨(some 22), .load none (.t 21), none, 0, [2]⟩,
     ⟨(some 23), .bin .add (.t 22) (.c (.int .i64 1)), none, 0, [3]⟩,
     ⟨(some 24), .nilck (.t 19), none, 0, [0, 0, 1, 2, 3, 4]⟩,
     ⟨(some 25), .faddr 3 (.t 24), none, 0, [5, 0, 1, 2, 3, 4]⟩,
     ⟨none, .store 1 (.t 25) (.t 23), none, 0, [6, 4, 0, 1, 2, 3, 4]⟩] [0, 19, 20, 21, 22, 23, 24, 25])
   (.seq (.region 0 [
     ⟨(some 4), .mv (.c (.bool false)), none, 0, []⟩] [])
   .ret))
   .skip)))))
 (.seq (.regionD 0 [
   ⟨(some 26), .mv (.t 0), none, 0, []⟩,
   ⟨(some 27), .nilck (.t 26), none, 0, [0]⟩,
   ⟨(some 28), .faddr 0 (.t 27), none, 0, [1]⟩,
   ⟨(some 29), .load none (.t 28), none, 0, [2]⟩,
   ⟨(some 30), .mv (.t 0), none, 0, []⟩,
   ⟨(some 31), .mv (.t 0), none, 0, []⟩,
   ⟨(some 32), .nilck (.t 31), none, 0, [5]⟩,
   ⟨(some 33), .faddr 2 (.t 32), none, 0, [6]⟩,
   ⟨(some 34), .load none (.t 33), none, 0, [7]⟩,
   ⟨(some 35), .call (.c (.fn 150 [] [])) [(.t 30), (.t 34)], none, 0, [4, 8]⟩,
   ⟨(some 36), .load (some 7) (.t 3), none, 0, []⟩,
   ⟨(some 37), .iaddr 7 (.t 29) (.t 35), none, 0, [3, 9, 0, 1, 2, 3, 4, 5, 6, 7, 8, 9, 10]⟩,
   ⟨none, .store 7 (.t 37) (.t 36), none, 0, [11, 10, 9, 0, 1, 2, 3, 4, 5, 6, 7, 8, 9, 10]⟩]
   [0, 1, 2, 4, 5, 6, 7, 3, 8, 10, 9, 11, 12] [0, 1, 3, 7, 0, 0, 32, 96, 224, 496, 0, 2047, 4095] [3, 26, 27, 28, 29, 30, 31, 32, 33, 34, 35, 36, 37])
 (.seq (.region 0 [
   ⟨(some 38), .mv (.t 0), none, 0, []⟩,
   ⟨(some 39), .nilck (.t 38), none, 0, [0]⟩,
   ⟨(some 40), .faddr 2 (.t 39), none, 0, [1]⟩,
   ⟨(some 41), .load none (.t 40), none, 0, [2]⟩,
   ⟨(some 42), .bin .add (.t 41) (.c (.int .i64 1)), none, 0, [3]⟩,
   ⟨(some 43), .nilck (.t 38), none, 0, [0, 0, 1, 2, 3, 4]⟩,
   ⟨(some 44), .faddr 2 (.t 43), none, 0, [5, 0, 1, 2, 3, 4]⟩,
   ⟨none, .store 1 (.t 44) (.t 42), none, 0, [6, 4, 0, 1, 2, 3, 4]⟩] [0, 38, 39, 40, 41, 42, 43, 44])
 (.seq (.region 0 [
   ⟨(some 4), .mv (.c (.bool true)), none, 0, []⟩] [])
 .ret)))))
def hs137 : List (List Nat) := [[1, 4], [6, 7], [5], [], [0, 1, 2, 4, 5, 6, 3, 7, 8, 9, 10], [0, 1, 3, 7, 0, 16, 48, 112, 240, 511, 1023], [9, 10, 11, 12, 13, 14, 15, 16, 17, 18], [8], [0, 19, 20, 21, 22, 23, 24, 25], [], [0, 1, 2, 4, 5, 6, 7, 3, 8, 10, 9, 11, 12], [0, 1, 3, 7, 0, 0, 32, 96, 224, 496, 0, 2047, 4095], [3, 26, 27, 28, 29, 30, 31, 32, 33, 34, 35, 36, 37], [0, 38, 39, 40, 41, 42, 43, 44], []]
theorem ok137 : FnOk Try.prog 137 ic137 [.t 4] 45 := ⟨Try.f137, hs137, Try.func137, by kernel_rfl, by kernel_rfl, by kernel_rfl, by kernel_rfl⟩

/-- signalbox/watch.within -/
def ic138 : IC :=
 (.seq (.region 0 [
   ⟨(some 2), .mv (.c (.int .i64 0)), none, 0, []⟩] [2])
 (.seq (.region 0 [
   ⟨(some 3), .mv (.t 0), none, 0, []⟩,
   ⟨(some 4), .mx [(.t 3), (.c (.int .i64 0))], none, 0, [0]⟩,
   ⟨(some 5), .mn [(.t 4), (.c (.int .i64 2305843009213693952))], none, 0, [1]⟩,
   ⟨(some 2), .mv (.t 5), none, 0, [2, 0, 1, 2]⟩] [0, 3, 4, 5])
 .ret))
def hs138 : List (List Nat) := [[2], [0, 3, 4, 5]]
theorem ok138 : FnOk Try.prog 138 ic138 [.t 2] 6 := ⟨Try.f138, hs138, Try.func138, by kernel_rfl, by kernel_rfl, by kernel_rfl, by kernel_rfl⟩

/-- (*signalbox/watch.Watch).tell -/
def ic139 : IC :=
 (.seq (.region 2 [
   ⟨(some 5), .box (.t 2), none, 0, []⟩,
   ⟨(some 6), .alloc [(.int .i64 0), (.int .i64 0), (.int .i64 0), (.int .i64 0), (.int .i64 0), (.str []), (.int .i64 0)], none, 1, []⟩] [2])
 (.seq (.region 0 [
   ⟨(some 7), .mv (.t 0), none, 0, []⟩,
   ⟨(some 8), .mv (.t 0), none, 0, []⟩,
   ⟨(some 9), .mv (.t 0), none, 0, []⟩,
   ⟨(some 10), .mv (.t 1), none, 0, []⟩,
   ⟨(some 11), .nilck (.t 7), none, 0, [0, 0]⟩,
   ⟨(some 12), .faddr 6 (.t 11), none, 0, [4, 0]⟩,
   ⟨none, .store 1 (.t 12) (.t 5), none, 0, [5, 0]⟩,
   ⟨(some 13), .nilck (.t 8), none, 0, [1, 0, 1, 3, 4, 5, 6]⟩,
   ⟨(some 14), .faddr 7 (.t 13), none, 0, [7, 0, 1, 3, 4, 5, 6]⟩,
   ⟨none, .store 1 (.t 14) (.t 10), none, 0, [8, 3, 6, 0, 1, 3, 4, 5, 6]⟩,
   ⟨(some 15), .nilck (.t 9), none, 0, [2, 0, 1, 2, 3, 4, 5, 6, 7, 8, 9]⟩,
   ⟨(some 16), .faddr 8 (.t 15), none, 0, [10, 0, 1, 2, 3, 4, 5, 6, 7, 8, 9]⟩,
   ⟨none, .store 1 (.t 16) (.c .nilp), none, 0, [11, 9, 0, 1, 2, 3, 4, 5, 6, 7, 8, 9]⟩] [7, 8, 9, 10, 11, 12, 13, 14, 15, 16])
 (.seq (.region 0 [
   ⟨(some 17), .mv (.t 0), none, 0, []⟩,
   ⟨(some 18), .mv (.t 1), none, 0, []⟩,
   ⟨(some 19), .load (some 4) (.t 5), none, 0, []⟩,
   ⟨(some 20), .call (.c (.fn 140 [] [])) [(.t 17), (.c (.int .i64 1)), (.t 18), (.t 19)], none, 0, [0, 1, 2]⟩,
   ⟨none, .store 7 (.t 6) (.t 20), none, 0, [3, 3, 0, 1, 2, 3]⟩] [0, 1, 5, 17, 18, 19, 20])
 .ret)))
def hs139 : List (List Nat) := [[2], [7, 8, 9, 10, 11, 12, 13, 14, 15, 16], [0, 1, 5, 17, 18, 19, 20]]
theorem ok139 : FnOk Try.prog 139 ic139 [.cell 6 (some 7)] 21 := ⟨Try.f139, hs139, Try.func139, by kernel_rfl, by kernel_rfl, by kernel_rfl, by kernel_rfl⟩

/-- (*signalbox/watch.Watch).note -/
def ic140 : IC :=
 (.seq (.region 2 [
   ⟨(some 7), .box (.t 3), none, 0, []⟩,
   ⟨(some 8), .alloc [(.int .i64 0), (.int .i64 0), (.int .i64 0), (.int .i64 0), (.int .i64 0), (.str []), (.int .i64 0)], none, 1, []⟩] [3])
 (.seq (.regionD 0 [
   ⟨(some 9), .mv (.t 1), none, 0, []⟩,
   ⟨(some 10), .mv (.t 0), none, 0, []⟩,
   ⟨(some 11), .nilck (.t 10), none, 0, [1]⟩,
   ⟨(some 12), .faddr 0 (.t 11), none, 0, [2]⟩,
   ⟨(some 13), .faddr 0 (.t 12), none, 0, [3]⟩,
   ⟨(some 14), .faddr 0 (.t 13), none, 0, [4]⟩,
   ⟨(some 15), .load none (.t 14), none, 0, [5]⟩,
   ⟨(some 16), .cvi .i64 (.t 15), none, 0, [6]⟩,
   ⟨(some 17), .load (some 4) (.t 7), none, 0, []⟩,
   ⟨(some 18), .mv (.t 2), none, 0, []⟩,
   ⟨(some 19), .build [(.int .i64 0), (.int .i64 0), (.int .i64 0), (.int .i64 0), (.int .i64 0), (.str []), (.int .i64 0)] [(0, 1, (.t 9)), (1, 1, (.t 16)), (2, 4, (.t 17)), (6, 1, (.t 18))], none, 0, [0, 7, 8, 9]⟩,
   ⟨none, .store 7 (.t 8) (.t 19), none, 0, [10, 0, 1, 2, 3, 4, 5, 6, 7, 8, 9, 10]⟩]
   [0, 1, 2, 3, 4, 5, 9, 6, 7, 8, 10, 11] [0, 0, 2, 6, 14, 30, 62, 126, 0, 0, 1023, 2047] [0, 1, 2, 7, 9, 10, 11, 12, 13, 14, 15, 16, 17, 18, 19])
 .ret))
def hs140 : List (List Nat) := [[3], [0, 1, 2, 3, 4, 5, 9, 6, 7, 8, 10, 11], [0, 0, 2, 6, 14, 30, 62, 126, 0, 0, 1023, 2047], [0, 1, 2, 7, 9, 10, 11, 12, 13, 14, 15, 16, 17, 18, 19]]
theorem ok140 : FnOk Try.prog 140 ic140 [.cell 8 (some 7)] 20 := ⟨Try.f140, hs140, Try.func140, by kernel_rfl, by kernel_rfl, by kernel_rfl, by kernel_rfl⟩

/-- signalbox/watch.Right -/
def ic141 : IC :=
 (.seq (.region 1 [
   ⟨(some 1), .box (.t 0), none, 0, []⟩,
   ⟨(some 2), .mv (.c (.int .i64 0)), none, 1, []⟩] [0, 2])
 (.seq (.block 0 (.seq (.block 2 (.block 1 (.seq (.seq (.seq (.region 0 [
   ⟨(some 4), .faddr 4 (.t 1), none, 0, []⟩,
   ⟨(some 5), .load none (.t 4), none, 0, [0]⟩,
   ⟨(some 6), .call (.c (.fn 165 [] [])) [(.t 5)], none, 0, [1]⟩,
   ⟨(some 7), .un .not (.t 6), none, 0, [2]⟩,
   ⟨(some 8), .mv (.t 7), none, 0, [3, 2]⟩,
   ⟨(some 9), .faddr 5 (.t 1), (some (8, false)), 0, [4]⟩,
   ⟨(some 10), .load none (.t 9), (some (8, false)), 0, [5, 4]⟩,
   ⟨(some 11), .call (.c (.fn 165 [] [])) [(.t 10)], (some (8, false)), 0, [6, 4, 4]⟩,
   ⟨(some 12), .un .not (.t 11), (some (8, false)), 0, [7, 4]⟩,
   ⟨(some 13), .pick (.t 8) (.c (.bool true)) (.t 12), none, 0, [4, 8]⟩,
   ⟨(some 3), .mv (.t 13), none, 0, [9, 7]⟩] [4, 5, 6, 7, 8, 9, 10, 11, 12, 13])
 (.cond (.t 3) [3]
  (.exit 1)
  .skip))
 (.seq (.region 0 [
   ⟨(some 15), .faddr 3 (.t 1), none, 0, []⟩,
   ⟨(some 16), .load none (.t 15), none, 0, [0]⟩,
   ⟨(some 17), .lenst (.t 16), none, 0, [1]⟩,
   ⟨(some 18), .bin .gtr (.t 17) (.c (.int .i64 64)), none, 0, [2]⟩,
   ⟨(some 14), .mv (.t 18), none, 0, [3]⟩] [1, 15, 16, 17, 18])
 (.cond (.t 14) [14]
  (.exit 2)
  .skip)))
 (.exit 0))))
 (.seq (.seq (.region 0 [
   ⟨(some 2), .mv (.c (.int .i64 2)), none, 0, []⟩] [])
 .ret)
 (.exit 0))))
 (.seq (.region 0 [
   ⟨(some 2), .mv (.c (.int .i64 0)), none, 0, []⟩] [])
 .ret)))
def hs141 : List (List Nat) := [[0, 2], [4, 5, 6, 7, 8, 9, 10, 11, 12, 13], [3], [1, 15, 16, 17, 18], [14], [], []]
theorem ok141 : FnOk Try.prog 141 ic141 [.t 2] 19 := ⟨Try.f141, hs141, Try.func141, by kernel_rfl, by kernel_rfl, by kernel_rfl, by kernel_rfl⟩

/-- (*signalbox/ring.Ring[signalbox/api.Note]).Peek -/
def ic149 : IC :=
 (.seq (.region 1 [
   ⟨(some 2), .alloc [(.int .i64 0), (.int .i64 0), (.int .i64 0), (.int .i64 0), (.int .i64 0), (.str []), (.int .i64 0)], none, 0, []⟩,
   ⟨(some 3), .mv (.c (.int .i64 0)), none, 1, []⟩] [3])
 (.seq (.region 1 [
   ⟨(some 4), .alloc [(.int .i64 0), (.int .i64 0), (.int .i64 0), (.int .i64 0), (.int .i64 0), (.str []), (.int .i64 0)], none, 0, []⟩] [])
 (.seq (.block 0 (.seq (.region 0 [
   ⟨(some 6), .mv (.t 0), none, 0, []⟩,
   ⟨(some 7), .eqv false .ptr (.t 6) (.c .nilp), none, 0, [0]⟩,
   ⟨(some 5), .mv (.t 7), none, 0, [1]⟩] [6, 7])
 (.cond (.t 5) [5]
  (.seq (.region 0 [
    ⟨(some 8), .load (some 7) (.t 4), none, 0, []⟩,
    ⟨none, .store 7 (.t 2) (.t 8), none, 0, [0, 0]⟩,
    ⟨(some 3), .mv (.c (.int .i64 1)), none, 0, [1, 0, 1]⟩] [4, 8])
  .ret)
  (.seq (.region 0 [
    ⟨(some 10), .mv (.t 0), none, 0, []⟩,
    ⟨(some 11), .nilck (.t 10), none, 0, [0]⟩,
    ⟨(some 12), .faddr 2 (.t 11), none, 0, [1]⟩,
    ⟨(some 13), .load none (.t 12), none, 0, [2]⟩,
    ⟨(some 14), .bin .eql (.t 13) (.c (.int .i64 0)), none, 0, [3]⟩,
    ⟨(some 9), .mv (.t 14), none, 0, [4]⟩] [10, 11, 12, 13, 14])
  (.cond (.t 9) [9]
   (.seq (.region 0 [
     ⟨(some 15), .load (some 7) (.t 4), none, 0, []⟩,
     ⟨none, .store 7 (.t 2) (.t 15), none, 0, [0, 0]⟩,
     ⟨(some 3), .mv (.c (.int .i64 6)), none, 0, [1, 0, 1]⟩] [4, 15])
   .ret)
   .skip)))))
 (.seq (.regionD 0 [
   ⟨(some 16), .mv (.t 0), none, 0, []⟩,
   ⟨(some 17), .nilck (.t 16), none, 0, [0]⟩,
   ⟨(some 18), .faddr 0 (.t 17), none, 0, [1]⟩,
   ⟨(some 19), .load none (.t 18), none, 0, [2]⟩,
   ⟨(some 20), .mv (.t 0), none, 0, []⟩,
   ⟨(some 21), .nilck (.t 20), none, 0, [4]⟩,
   ⟨(some 22), .faddr 1 (.t 21), none, 0, [5]⟩,
   ⟨(some 23), .load none (.t 22), none, 0, [6]⟩,
   ⟨(some 24), .iaddr 7 (.t 19) (.t 23), none, 0, [3, 7]⟩,
   ⟨(some 25), .load (some 7) (.t 24), none, 0, [8]⟩,
   ⟨none, .store 7 (.t 2) (.t 25), none, 0, [9, 0, 1, 2, 3, 4, 5, 6, 7, 8, 9]⟩,
   ⟨(some 3), .mv (.c (.int .i64 0)), none, 0, [10, 0, 1, 2, 3, 4, 5, 6, 7, 8, 9, 10]⟩]
   [0, 1, 2, 4, 5, 6, 3, 7, 8, 9, 10, 11] [0, 1, 3, 7, 0, 16, 48, 112, 255, 511, 1023, 2047] [0, 16, 17, 18, 19, 20, 21, 22, 23, 24, 25])
 .ret))))
def hs149 : List (List Nat) := [[3], [], [6, 7], [5], [4, 8], [10, 11, 12, 13, 14], [9], [4, 15], [0, 1, 2, 4, 5, 6, 3, 7, 8, 9, 10, 11], [0, 1, 3, 7, 0, 16, 48, 112, 255, 511, 1023, 2047], [0, 16, 17, 18, 19, 20, 21, 22, 23, 24, 25]]
theorem ok149 : FnOk Try.prog 149 ic149 [.cell 2 (some 7), .t 3] 26 := ⟨Try.f149, hs149, Try.func149, by kernel_rfl, by kernel_rfl, by kernel_rfl, by kernel_rfl⟩

/-- (*signalbox/ring.Ring[signalbox/api.Note]).at -/
def ic150 : IC :=
 (.seq (.region 0 [
   ⟨(some 4), .mv (.c (.int .i64 0)), none, 0, []⟩] [4])
 (.seq (.regionD 0 [
   ⟨(some 5), .mv (.t 0), none, 0, []⟩,
   ⟨(some 6), .nilck (.t 5), none, 0, [0]⟩,
   ⟨(some 7), .faddr 1 (.t 6), none, 0, [1]⟩,
   ⟨(some 8), .load none (.t 7), none, 0, [2]⟩,
   ⟨(some 9), .mv (.t 1), none, 0, []⟩,
   ⟨(some 10), .bin .add (.t 8) (.t 9), none, 0, [3, 4]⟩,
   ⟨(some 11), .mv (.t 0), none, 0, []⟩,
   ⟨(some 12), .nilck (.t 11), none, 0, [6]⟩,
   ⟨(some 13), .faddr 0 (.t 12), none, 0, [7]⟩,
   ⟨(some 14), .load none (.t 13), none, 0, [8]⟩,
   ⟨(some 15), .lens (.t 14), none, 0, [9]⟩,
   ⟨(some 16), .bin .rem (.t 10) (.t 15), none, 0, [5, 10]⟩,
   ⟨(some 4), .mv (.t 16), none, 0, [11, 0, 1, 2, 3, 4, 5, 6, 7, 8, 9, 10, 11]⟩]
   [0, 1, 2, 4, 6, 7, 8, 3, 5, 9, 10, 11, 12] [0, 1, 3, 7, 0, 31, 0, 64, 192, 448, 960, 2047, 4095] [0, 1, 5, 6, 7, 8, 9, 10, 11, 12, 13, 14, 15, 16])
 .ret))
def hs150 : List (List Nat) := [[4], [0, 1, 2, 4, 6, 7, 8, 3, 5, 9, 10, 11, 12], [0, 1, 3, 7, 0, 31, 0, 64, 192, 448, 960, 2047, 4095], [0, 1, 5, 6, 7, 8, 9, 10, 11, 12, 13, 14, 15, 16]]
theorem ok150 : FnOk Try.prog 150 ic150 [.t 4] 17 := ⟨Try.f150, hs150, Try.func150, by kernel_rfl, by kernel_rfl, by kernel_rfl, by kernel_rfl⟩

/-- (*signalbox/watch.Watch).Hears -/
def ic151 : IC :=
 (.seq (.region 1 [
   ⟨(some 3), .box (.t 1), none, 0, []⟩,
   ⟨(some 4), .mv (.c (.bool false)), none, 1, []⟩] [1, 4])
 (.seq (.regionD 0 [
   ⟨(some 5), .mv (.t 0), none, 0, []⟩,
   ⟨(some 6), .eqv true .ptr (.t 5) (.c .nilp), none, 0, [0]⟩,
   ⟨(some 7), .mv (.t 6), none, 0, [1]⟩,
   ⟨(some 8), .mv (.t 0), (some (7, true)), 0, [2]⟩,
   ⟨(some 9), .nilck (.t 8), (some (7, true)), 0, [3, 2]⟩,
   ⟨(some 10), .faddr 0 (.t 9), (some (7, true)), 0, [4, 2]⟩,
   ⟨(some 11), .faddr 0 (.t 10), (some (7, true)), 0, [5, 2]⟩,
   ⟨(some 12), .load (some 3) (.t 11), (some (7, true)), 0, [6, 2]⟩,
   ⟨(some 13), .load (some 4) (.t 3), (some (7, true)), 0, [2]⟩,
   ⟨(some 14), .call (.c (.fn 129 [] [])) [(.t 12), (.t 13)], (some (7, true)), 0, [7, 8, 2, 2]⟩,
   ⟨(some 15), .pick (.t 7) (.t 14) (.c (.bool false)), none, 0, [2, 9]⟩,
   ⟨(some 4), .mv (.t 15), none, 0, [10, 9, 0, 1, 2, 3, 4, 5, 6, 7, 8, 9, 10]⟩]
   [0, 1, 2, 3, 4, 5, 6, 7, 8, 9, 10, 11] [0, 1, 3, 7, 15, 31, 63, 127, 7, 511, 1023, 2047] [0, 3, 5, 6, 7, 8, 9, 10, 11, 12, 13, 14, 15])
 .ret))
def hs151 : List (List Nat) := [[1, 4], [0, 1, 2, 3, 4, 5, 6, 7, 8, 9, 10, 11], [0, 1, 3, 7, 15, 31, 63, 127, 7, 511, 1023, 2047], [0, 3, 5, 6, 7, 8, 9, 10, 11, 12, 13, 14, 15]]
theorem ok151 : FnOk Try.prog 151 ic151 [.t 4] 16 := ⟨Try.f151, hs151, Try.func151, by kernel_rfl, by kernel_rfl, by kernel_rfl, by kernel_rfl⟩

/-- (*signalbox/watch.Watch).differs -/
def ic152 : IC :=
 (.seq (.region 1 [
   ⟨(some 3), .box (.t 1), none, 0, []⟩,
   ⟨(some 4), .mv (.c (.bool false)), none, 1, []⟩] [1, 4])
 (.seq (.regionD 0 [
   ⟨(some 5), .mv (.t 0), none, 0, []⟩,
   ⟨(some 6), .nilck (.t 5), none, 0, [0]⟩,
   ⟨(some 7), .faddr 6 (.t 6), none, 0, [1]⟩,
   ⟨(some 8), .load none (.t 7), none, 0, [2]⟩,
   ⟨(some 9), .eqv false .ptr (.t 8) (.c .nilp), none, 0, [3]⟩,
   ⟨(some 10), .mv (.t 9), none, 0, [4]⟩,
   ⟨(some 11), .mv (.t 0), (some (10, false)), 0, [5]⟩,
   ⟨(some 12), .nilck (.t 11), (some (10, false)), 0, [6, 5]⟩,
   ⟨(some 13), .faddr 6 (.t 12), (some (10, false)), 0, [7, 5]⟩,
   ⟨(some 14), .load none (.t 13), (some (10, false)), 0, [8, 5]⟩,
   ⟨(some 15), .nilck (.t 14), (some (10, false)), 0, [9, 5]⟩,
   ⟨(some 16), .faddr 2 (.t 15), (some (10, false)), 0, [10, 5]⟩,
   ⟨(some 17), .load none (.t 16), (some (10, false)), 0, [11, 5]⟩,
   ⟨(some 18), .faddr 2 (.t 3), (some (10, false)), 0, [5]⟩,
   ⟨(some 19), .load none (.t 18), (some (10, false)), 0, [13, 5]⟩,
   ⟨(some 20), .bin .neq (.t 17) (.t 19), (some (10, false)), 0, [12, 14, 5]⟩,
   ⟨(some 21), .pick (.t 10) (.c (.bool true)) (.t 20), none, 0, [5, 15]⟩,
   ⟨(some 22), .mv (.t 21), none, 0, [16, 5]⟩,
   ⟨(some 23), .mv (.t 0), (some (22, false)), 0, [17]⟩,
   ⟨(some 24), .nilck (.t 23), (some (22, false)), 0, [18, 17]⟩,
   ⟨(some 25), .faddr 6 (.t 24), (some (22, false)), 0, [19, 17]⟩,
   ⟨(some 26), .load none (.t 25), (some (22, false)), 0, [20, 17]⟩,
   ⟨(some 27), .nilck (.t 26), (some (22, false)), 0, [21, 17]⟩,
   ⟨(some 28), .faddr 3 (.t 27), (some (22, false)), 0, [22, 17]⟩,
   ⟨(some 29), .load none (.t 28), (some (22, false)), 0, [23, 17]⟩,
   ⟨(some 30), .faddr 3 (.t 3), (some (22, false)), 0, [17]⟩,
   ⟨(some 31), .load none (.t 30), (some (22, false)), 0, [25, 17]⟩,
   ⟨(some 32), .mv (.t 0), (some (22, false)), 0, [17]⟩,
   ⟨(some 33), .nilck (.t 32), (some (22, false)), 0, [27, 17]⟩,
   ⟨(some 34), .faddr 0 (.t 33), (some (22, false)), 0, [28, 17]⟩,
   ⟨(some 35), .faddr 3 (.t 34), (some (22, false)), 0, [29, 17]⟩,
   ⟨(some 36), .load none (.t 35), (some (22, false)), 0, [30, 17]⟩,
   ⟨(some 37), .call (.c (.fn 166 [] [])) [(.t 29), (.t 31), (.t 36)], (some (22, false)), 0, [24, 26, 31, 17, 17]⟩,
   ⟨(some 38), .pick (.t 22) (.c (.bool true)) (.t 37), none, 0, [17, 32]⟩,
   ⟨(some 4), .mv (.t 38), none, 0, [33, 32, 0, 1, 2, 3, 4, 5, 6, 7, 8, 9, 10, 11, 12, 13, 14, 15, 16, 17, 18, 19, 20, 21, 22, 23, 24, 25, 26, 27, 28, 29, 30, 31, 32, 33]⟩]
   [0, 1, 2, 3, 4, 5, 6, 7, 8, 13, 9, 10, 11, 12, 14, 15, 16, 17, 18, 19, 20, 25, 27, 28, 29, 30, 21, 22, 23, 24, 26, 31, 32, 33, 34] [0, 1, 3, 7, 15, 31, 63, 127, 255, 511, 1023, 2047, 4095, 63, 8255, 32767, 65535, 131071, 262143, 524287, 1048575, 2097151, 4194303, 8388607, 16777215, 262143, 33816575, 262143, 134479871, 402915327, 939786239, 2013528063, 4294967295, 8589934591, 17179869183] [0, 3, 5, 6, 7, 8, 9, 10, 11, 12, 13, 14, 15, 16, 17, 18, 19, 20, 21, 22, 23, 24, 25, 26, 27, 28, 29, 30, 31, 32, 33, 34, 35, 36, 37, 38])
 .ret))
def hs152 : List (List Nat) := [[1, 4], [0, 1, 2, 3, 4, 5, 6, 7, 8, 13, 9, 10, 11, 12, 14, 15, 16, 17, 18, 19, 20, 25, 27, 28, 29, 30, 21, 22, 23, 24, 26, 31, 32, 33, 34], [0, 1, 3, 7, 15, 31, 63, 127, 255, 511, 1023, 2047, 4095, 63, 8255, 32767, 65535, 131071, 262143, 524287, 1048575, 2097151, 4194303, 8388607, 16777215, 262143, 33816575, 262143, 134479871, 402915327, 939786239, 2013528063, 4294967295, 8589934591, 17179869183], [0, 3, 5, 6, 7, 8, 9, 10, 11, 12, 13, 14, 15, 16, 17, 18, 19, 20, 21, 22, 23, 24, 25, 26, 27, 28, 29, 30, 31, 32, 33, 34, 35, 36, 37, 38]]
theorem ok152 : FnOk Try.prog 152 ic152 [.t 4] 39 := ⟨Try.f152, hs152, Try.func152, by kernel_rfl, by kernel_rfl, by kernel_rfl, by kernel_rfl⟩

/-- (*signalbox/ring.Ring[signalbox/api.Note]).Len -/
def ic153 : IC :=
 (.seq (.region 0 [
   ⟨(some 2), .mv (.c (.int .i64 0)), none, 0, []⟩] [2])
 (.seq (.seq (.region 0 [
   ⟨(some 3), .mv (.t 0), none, 0, []⟩,
   ⟨(some 4), .eqv false .ptr (.t 3) (.c .nilp), none, 0, [0]⟩] [3])
 (.cond (.t 4) [4]
  (.seq (.region 0 [
    ⟨(some 2), .mv (.c (.int .i64 0)), none, 0, []⟩] [])
  .ret)
  .skip))
 (.seq (.region 0 [
   ⟨(some 5), .mv (.t 0), none, 0, []⟩,
   ⟨(some 6), .nilck (.t 5), none, 0, [0]⟩,
   ⟨(some 7), .faddr 2 (.t 6), none, 0, [1]⟩,
   ⟨(some 8), .load none (.t 7), none, 0, [2]⟩,
   ⟨(some 2), .mv (.t 8), none, 0, [3, 0, 1, 2, 3]⟩] [0, 5, 6, 7, 8])
 .ret)))
def hs153 : List (List Nat) := [[2], [3], [4], [], [0, 5, 6, 7, 8]]
theorem ok153 : FnOk Try.prog 153 ic153 [.t 2] 9 := ⟨Try.f153, hs153, Try.func153, by kernel_rfl, by kernel_rfl, by kernel_rfl, by kernel_rfl⟩

/-- signalbox/frame.Right -/
def ic156 : IC :=
 (.seq (.region 1 [
   ⟨(some 1), .box (.t 0), none, 0, []⟩,
   ⟨(some 2), .mv (.c (.int .i64 0)), none, 1, []⟩] [0, 2])
 (.seq (.region 0 [
   ⟨(some 4), .faddr 2 (.t 1), none, 0, []⟩,
   ⟨(some 5), .load none (.t 4), none, 0, [0]⟩,
   ⟨(some 3), .mv (.t 5), none, 0, [1, 0, 1]⟩] [4, 5])
 (.seq (.block 0 (.seq (.block 3 (.seq (.block 2 (.block 1 (.seq (.seq (.seq (.regionD 0 [
   ⟨(some 7), .load (some 4) (.t 1), none, 0, []⟩,
   ⟨(some 8), .call (.c (.fn 167 [] [])) [(.t 7)], none, 0, [0]⟩,
   ⟨(some 9), .un .not (.t 8), none, 0, [1]⟩,
   ⟨(some 10), .mv (.t 9), none, 0, [2, 1]⟩,
   ⟨(some 11), .faddr 0 (.t 1), (some (10, false)), 0, [3]⟩,
   ⟨(some 12), .load none (.t 11), (some (10, false)), 0, [4, 3]⟩,
   ⟨(some 13), .bin .lss (.t 12) (.c (.int .i64 0)), (some (10, false)), 0, [5, 3]⟩,
   ⟨(some 14), .pick (.t 10) (.c (.bool true)) (.t 13), none, 0, [3, 6]⟩,
   ⟨(some 15), .mv (.t 14), none, 0, [7, 3]⟩,
   ⟨(some 16), .faddr 0 (.t 1), (some (15, false)), 0, [8]⟩,
   ⟨(some 17), .load none (.t 16), (some (15, false)), 0, [9, 8]⟩,
   ⟨(some 18), .load (some 4) (.t 1), (some (15, false)), 0, [8]⟩,
   ⟨(some 19), .call (.c (.fn 168 [] [])) [(.t 18)], (some (15, false)), 0, [11, 8, 8]⟩,
   ⟨(some 20), .bin .gtr (.t 17) (.t 19), (some (15, false)), 0, [10, 12, 8]⟩,
   ⟨(some 21), .pick (.t 15) (.c (.bool true)) (.t 20), none, 0, [8, 13]⟩,
   ⟨(some 6), .mv (.t 21), none, 0, [14, 12]⟩]
   [0, 1, 2, 3, 4, 5, 6, 7, 8, 9, 10, 11, 12, 13, 14, 15] [0, 1, 3, 7, 15, 31, 63, 127, 255, 511, 1023, 511, 2559, 8191, 16383, 32767] [7, 8, 9, 10, 11, 12, 13, 14, 15, 16, 17, 18, 19, 20, 21])
 (.cond (.t 6) [6]
  (.exit 1)
  .skip))
 (.seq (.seq (.region 0 [
   ⟨(some 23), .load (some 4) (.t 1), none, 0, []⟩,
   ⟨(some 24), .call (.c (.fn 169 [] [])) [(.t 23)], none, 0, [0]⟩,
   ⟨(some 25), .un .not (.t 24), none, 0, [1]⟩,
   ⟨(some 22), .mv (.t 25), none, 0, [2, 1]⟩] [23, 24, 25])
 (.cond (.t 22) [22]
  (.exit 2)
  .skip))
 (.seq (.region 0 [
   ⟨(some 27), .load (some 4) (.t 1), none, 0, []⟩,
   ⟨(some 28), .call (.c (.fn 157 [] [])) [(.t 27), (.c (.int .i64 2))], none, 0, [0]⟩,
   ⟨(some 26), .mv (.t 28), none, 0, [1, 1]⟩] [27, 28])
 (.cond (.t 26) [26]
  (.exit 3)
  .skip))))
 (.exit 0))))
 (.seq (.seq (.region 0 [
   ⟨(some 2), .mv (.c (.int .i64 4)), none, 0, []⟩] [])
 .ret)
 (.exit 0))))
 (.seq (.region 0 [
   ⟨(some 3), .mv (.c (.int .i64 0)), none, 0, []⟩] [])
 (.exit 0))))
 (.seq (.seq (.region 0 [
   ⟨(some 29), .faddr 3 (.t 1), none, 0, []⟩,
   ⟨(some 30), .load none (.t 29), none, 0, [0]⟩,
   ⟨(some 31), .lenst (.t 30), none, 0, [1]⟩,
   ⟨(some 32), .mv (.t 3), none, 0, []⟩,
   ⟨(some 33), .bin .neq (.t 31) (.t 32), none, 0, [2, 3]⟩] [1, 3, 29, 30, 31, 32])
 (.cond (.t 33) [33]
  (.seq (.region 0 [
    ⟨(some 2), .mv (.c (.int .i64 4)), none, 0, []⟩] [])
  .ret)
  .skip))
 (.seq (.region 0 [
   ⟨(some 2), .mv (.c (.int .i64 0)), none, 0, []⟩] [])
 .ret)))))
def hs156 : List (List Nat) := [[0, 2], [4, 5], [0, 1, 2, 3, 4, 5, 6, 7, 8, 9, 10, 11, 12, 13, 14, 15], [0, 1, 3, 7, 15, 31, 63, 127, 255, 511, 1023, 511, 2559, 8191, 16383, 32767], [7, 8, 9, 10, 11, 12, 13, 14, 15, 16, 17, 18, 19, 20, 21], [6], [23, 24, 25], [22], [27, 28], [26], [], [], [1, 3, 29, 30, 31, 32], [33], [], []]
theorem ok156 : FnOk Try.prog 156 ic156 [.t 2] 34 := ⟨Try.f156, hs156, Try.func156, by kernel_rfl, by kernel_rfl, by kernel_rfl, by kernel_rfl⟩

/-- signalbox/frame.has -/
def ic157 : IC :=
 (.seq (.region 1 [
   ⟨(some 2), .box (.t 0), none, 0, []⟩,
   ⟨(some 4), .mv (.c (.bool false)), none, 1, []⟩] [0, 4])
 (.seq (.region 0 [
   ⟨(some 5), .faddr 1 (.t 2), none, 0, []⟩,
   ⟨(some 6), .load none (.t 5), none, 0, [0]⟩,
   ⟨(some 7), .mv (.t 1), none, 0, []⟩,
   ⟨(some 8), .bin .and (.t 6) (.t 7), none, 0, [1, 2]⟩,
   ⟨(some 9), .bin .neq (.t 8) (.c (.int .i64 0)), none, 0, [3]⟩,
   ⟨(some 4), .mv (.t 9), none, 0, [4, 0, 1, 2, 3, 4]⟩] [1, 2, 5, 6, 7, 8, 9])
 .ret))
def hs157 : List (List Nat) := [[0, 4], [1, 2, 5, 6, 7, 8, 9]]
theorem ok157 : FnOk Try.prog 157 ic157 [.t 4] 10 := ⟨Try.f157, hs157, Try.func157, by kernel_rfl, by kernel_rfl, by kernel_rfl, by kernel_rfl⟩

/-- signalbox/frame.bit -/
def ic158 : IC :=
 (.seq (.region 1 [
   ⟨(some 2), .box (.t 0), none, 0, []⟩,
   ⟨(some 4), .mv (.c (.int .i64 0)), none, 1, []⟩] [0, 4])
 (.seq (.seq (.region 0 [
   ⟨(some 5), .load (some 4) (.t 2), none, 0, []⟩,
   ⟨(some 6), .mv (.t 1), none, 0, []⟩,
   ⟨(some 7), .call (.c (.fn 157 [] [])) [(.t 5), (.t 6)], none, 0, [0, 1]⟩] [1, 2, 5, 6])
 (.cond (.t 7) [7]
  (.seq (.region 0 [
    ⟨(some 4), .mv (.c (.int .i64 1)), none, 0, []⟩] [])
  .ret)
  .skip))
 (.seq (.region 0 [
   ⟨(some 4), .mv (.c (.int .i64 0)), none, 0, []⟩] [])
 .ret)))
def hs158 : List (List Nat) := [[0, 4], [1, 2, 5, 6], [7], [], []]
theorem ok158 : FnOk Try.prog 158 ic158 [.t 4] 8 := ⟨Try.f158, hs158, Try.func158, by kernel_rfl, by kernel_rfl, by kernel_rfl, by kernel_rfl⟩

/-- signalbox/match.Hit -/
def ic160 : IC :=
 (.seq (.region 1 [
   ⟨(some 2), .box (.t 0), none, 0, []⟩,
   ⟨(some 4), .mv (.c (.bool false)), none, 1, []⟩] [0, 4])
 (.seq (.region 0 [
   ⟨(some 5), .mv (.t 1), none, 0, []⟩,
   ⟨(some 6), .faddr 0 (.t 2), none, 0, []⟩,
   ⟨(some 7), .load none (.t 6), none, 0, [1]⟩,
   ⟨(some 8), .bin .xor (.t 5) (.t 7), none, 0, [0, 2]⟩,
   ⟨(some 9), .faddr 1 (.t 2), none, 0, []⟩,
   ⟨(some 10), .load none (.t 9), none, 0, [4]⟩,
   ⟨(some 11), .bin .and (.t 8) (.t 10), none, 0, [3, 5]⟩,
   ⟨(some 12), .bin .eql (.t 11) (.c (.int .u32 0)), none, 0, [6]⟩,
   ⟨(some 13), .faddr 2 (.t 2), none, 0, []⟩,
   ⟨(some 14), .load none (.t 13), none, 0, [8]⟩,
   ⟨(some 15), .eqv true .bool (.t 12) (.t 14), none, 0, [7, 9]⟩,
   ⟨(some 4), .mv (.t 15), none, 0, [10, 0, 1, 2, 3, 4, 5, 6, 7, 8, 9, 10]⟩] [1, 2, 5, 6, 7, 8, 9, 10, 11, 12, 13, 14, 15])
 .ret))
def hs160 : List (List Nat) := [[0, 4], [1, 2, 5, 6, 7, 8, 9, 10, 11, 12, 13, 14, 15]]
theorem ok160 : FnOk Try.prog 160 ic160 [.t 4] 16 := ⟨Try.f160, hs160, Try.func160, by kernel_rfl, by kernel_rfl, by kernel_rfl, by kernel_rfl⟩

/-- signalbox/frame.Word -/
def ic161 : IC :=
 (.seq (.region 1 [
   ⟨(some 1), .box (.t 0), none, 0, []⟩,
   ⟨(some 2), .mv (.c (.int .u32 0)), none, 1, []⟩] [0, 2])
 (.seq (.seq (.region 0 [
   ⟨(some 4), .load (some 4) (.t 1), none, 0, []⟩,
   ⟨(some 5), .call (.c (.fn 156 [] [])) [(.t 4)], none, 0, [0]⟩,
   ⟨(some 6), .bin .neq (.t 5) (.c (.int .i64 0)), none, 0, [1]⟩] [4, 5])
 (.cond (.t 6) [6]
  (.seq (.region 0 [
    ⟨(some 2), .mv (.c (.int .u32 0)), none, 0, []⟩] [])
  .ret)
  .skip))
 (.seq (.region 0 [
   ⟨(some 7), .faddr 0 (.t 1), none, 0, []⟩,
   ⟨(some 8), .load none (.t 7), none, 0, [0]⟩,
   ⟨(some 9), .cvi .u32 (.t 8), none, 0, [1]⟩,
   ⟨(some 3), .mv (.t 9), none, 0, [2, 0, 1, 2]⟩] [7, 8, 9])
 (.seq (.seq (.region 0 [
   ⟨(some 10), .load (some 4) (.t 1), none, 0, []⟩,
   ⟨(some 11), .call (.c (.fn 157 [] [])) [(.t 10), (.c (.int .i64 1))], none, 0, [0]⟩] [10])
 (.cond (.t 11) [11]
  (.region 0 [
    ⟨(some 12), .mv (.t 3), none, 0, []⟩,
    ⟨(some 13), .bin .or (.t 12) (.c (.int .u32 2147483648)), none, 0, [0]⟩,
    ⟨(some 3), .mv (.t 13), none, 0, [1, 0, 1]⟩] [12, 13])
  .skip))
 (.seq (.seq (.region 0 [
   ⟨(some 14), .load (some 4) (.t 1), none, 0, []⟩,
   ⟨(some 15), .call (.c (.fn 157 [] [])) [(.t 14), (.c (.int .i64 2))], none, 0, [0]⟩] [14])
 (.cond (.t 15) [15]
  (.region 0 [
    ⟨(some 16), .mv (.t 3), none, 0, []⟩,
    ⟨(some 17), .bin .or (.t 16) (.c (.int .u32 1073741824)), none, 0, [0]⟩,
    ⟨(some 3), .mv (.t 17), none, 0, [1, 0, 1]⟩] [16, 17])
  .skip))
 (.seq (.seq (.region 0 [
   ⟨(some 18), .load (some 4) (.t 1), none, 0, []⟩,
   ⟨(some 19), .call (.c (.fn 157 [] [])) [(.t 18), (.c (.int .i64 4))], none, 0, [0]⟩] [1, 18])
 (.cond (.t 19) [19]
  (.region 0 [
    ⟨(some 20), .mv (.t 3), none, 0, []⟩,
    ⟨(some 21), .bin .or (.t 20) (.c (.int .u32 536870912)), none, 0, [0]⟩,
    ⟨(some 3), .mv (.t 21), none, 0, [1, 0, 1]⟩] [20, 21])
  .skip))
 (.seq (.region 0 [
   ⟨(some 22), .mv (.t 3), none, 0, []⟩,
   ⟨(some 2), .mv (.t 22), none, 0, [0, 0]⟩] [3, 22])
 .ret)))))))
def hs161 : List (List Nat) := [[0, 2], [4, 5], [6], [], [7, 8, 9], [10], [11], [12, 13], [14], [15], [16, 17], [1, 18], [19], [20, 21], [3, 22]]
theorem ok161 : FnOk Try.prog 161 ic161 [.t 2] 23 := ⟨Try.f161, hs161, Try.func161, by kernel_rfl, by kernel_rfl, by kernel_rfl, by kernel_rfl⟩

/-- slices.ContainsFunc[[]signalbox/api.Frame,signalbox/api.Frame] -/
def ic162 : IC :=
 (.seq (.region 0 [
   ⟨(some 4), .mv (.c (.bool false)), none, 0, []⟩] [4])
 (.seq (.region 0 [
   ⟨(some 5), .mv (.t 0), none, 0, []⟩,
   ⟨(some 6), .mv (.t 1), none, 0, []⟩,
   ⟨(some 7), .call (.c (.fn 170 [] [])) [(.t 5), (.t 6)], none, 0, [0, 1]⟩,
   ⟨(some 8), .bin .geq (.t 7) (.c (.int .i64 0)), none, 0, [2]⟩,
   ⟨(some 4), .mv (.t 8), none, 0, [3, 2, 0, 1, 2, 3]⟩] [0, 1, 5, 6, 7, 8])
 .ret))
def hs162 : List (List Nat) := [[4], [0, 1, 5, 6, 7, 8]]
theorem ok162 : FnOk Try.prog 162 ic162 [.t 4] 9 := ⟨Try.f162, hs162, Try.func162, by kernel_rfl, by kernel_rfl, by kernel_rfl, by kernel_rfl⟩

/-- signalbox/cyc.Right$1 -/
def ic163 : IC :=
 (.seq (.region 1 [
   ⟨(some 1), .box (.t 0), none, 0, []⟩,
   ⟨(some 2), .mv (.c (.bool false)), none, 1, []⟩] [0, 2])
 (.seq (.region 0 [
   ⟨(some 3), .load (some 4) (.t 1), none, 0, []⟩,
   ⟨(some 4), .call (.c (.fn 126 [] [])) [(.t 3)], none, 0, [0]⟩,
   ⟨(some 5), .bin .lss (.t 4) (.c (.int .i64 0)), none, 0, [1]⟩,
   ⟨(some 2), .mv (.t 5), none, 0, [2, 1, 0, 1, 2]⟩] [1, 3, 4, 5])
 .ret))
def hs163 : List (List Nat) := [[0, 2], [1, 3, 4, 5]]
theorem ok163 : FnOk Try.prog 163 ic163 [.t 2] 6 := ⟨Try.f163, hs163, Try.func163, by kernel_rfl, by kernel_rfl, by kernel_rfl, by kernel_rfl⟩

/-- signalbox/cyc.turns$1 -/
def ic164 : IC :=
 (.seq (.region 1 [
   ⟨(some 2), .alloc [(.int .i64 0), (.int .i64 0), (.int .i64 0), (.str [])], none, 0, []⟩] [])
 (.seq (.region 1 [
   ⟨(some 4), .load none (.t 0), none, 0, []⟩,
   ⟨(some 5), .load none (.t 1), none, 0, []⟩,
   ⟨(some 6), .iaddr 4 (.t 4) (.t 5), none, 0, [0, 1]⟩,
   ⟨(some 7), .load (some 4) (.t 6), none, 0, [2]⟩,
   ⟨(some 3), .alloc [(.int .i64 0), (.int .i64 0), (.int .i64 0), (.str [])], none, 0, []⟩,
   ⟨none, .store 4 (.t 3) (.t 7), none, 1, [4, 3, 0, 1, 2, 3, 4]⟩] [4, 5, 6, 7])
 (.seq (.region 0 [
   ⟨(some 8), .load none (.t 1), none, 0, []⟩,
   ⟨(some 9), .bin .add (.t 8) (.c (.int .i64 1)), none, 0, [0]⟩,
   ⟨(some 10), .load none (.t 0), none, 0, []⟩,
   ⟨(some 11), .lens (.t 10), none, 0, [2]⟩,
   ⟨(some 12), .bin .rem (.t 9) (.t 11), none, 0, [1, 3]⟩,
   ⟨none, .store 1 (.t 1) (.t 12), none, 0, [4, 0, 1, 2, 3, 4]⟩] [0, 1, 8, 9, 10, 11, 12])
 (.seq (.region 0 [
   ⟨(some 13), .load (some 4) (.t 3), none, 0, []⟩,
   ⟨none, .store 4 (.t 2) (.t 13), none, 0, [0, 0]⟩] [3, 13])
 .ret))))
def hs164 : List (List Nat) := [[], [4, 5, 6, 7], [0, 1, 8, 9, 10, 11, 12], [3, 13]]
theorem ok164 : FnOk Try.prog 164 ic164 [.cell 2 (some 4)] 14 := ⟨Try.f164, hs164, Try.func164, by kernel_rfl, by kernel_rfl, by kernel_rfl, by kernel_rfl⟩

/-- signalbox/watch.count -/
def ic165 : IC :=
 (.seq (.region 0 [
   ⟨(some 2), .mv (.c (.bool false)), none, 0, []⟩] [2])
 (.seq (.region 0 [
   ⟨(some 3), .mv (.t 0), none, 0, []⟩,
   ⟨(some 4), .bin .geq (.t 3) (.c (.int .i64 0)), none, 0, [0]⟩,
   ⟨(some 5), .mv (.t 4), none, 0, [1]⟩,
   ⟨(some 6), .mv (.t 0), (some (5, true)), 0, [2]⟩,
   ⟨(some 7), .bin .leq (.t 6) (.c (.int .i64 1099511627776)), (some (5, true)), 0, [3, 2]⟩,
   ⟨(some 8), .pick (.t 5) (.t 7) (.c (.bool false)), none, 0, [2, 4]⟩,
   ⟨(some 2), .mv (.t 8), none, 0, [5, 2, 0, 1, 2, 3, 4, 5]⟩] [0, 3, 4, 5, 6, 7, 8])
 .ret))
def hs165 : List (List Nat) := [[2], [0, 3, 4, 5, 6, 7, 8]]
theorem ok165 : FnOk Try.prog 165 ic165 [.t 2] 9 := ⟨Try.f165, hs165, Try.func165, by kernel_rfl, by kernel_rfl, by kernel_rfl, by kernel_rfl⟩

/-- signalbox/octet.Differ -/
def ic166 : IC :=
 (.seq (.region 0 [
   ⟨(some 6), .mv (.c (.bool false)), none, 0, []⟩] [6])
 (.seq (.region 0 [
   ⟨(some 7), .mv (.t 0), none, 0, []⟩,
   ⟨(some 8), .lenst (.t 7), none, 0, [0]⟩,
   ⟨(some 9), .mv (.t 1), none, 0, []⟩,
   ⟨(some 10), .lenst (.t 9), none, 0, [2]⟩,
   ⟨(some 11), .bin .neq (.t 8) (.t 10), none, 0, [1, 3]⟩,
   ⟨(some 12), .mv (.t 11), none, 0, [4]⟩,
   ⟨(some 13), .mv (.t 0), (some (12, false)), 0, [5]⟩,
   ⟨(some 14), .mv (.t 2), (some (12, false)), 0, [5]⟩,
   ⟨(some 15), .call (.c (.fn 171 [] [])) [(.t 13), (.t 14)], (some (12, false)), 0, [6, 7, 5, 5]⟩,
   ⟨(some 16), .mv (.t 1), (some (12, false)), 0, [5]⟩,
   ⟨(some 17), .mv (.t 2), (some (12, false)), 0, [5]⟩,
   ⟨(some 18), .call (.c (.fn 171 [] [])) [(.t 16), (.t 17)], (some (12, false)), 0, [9, 10, 8, 5]⟩,
   ⟨(some 19), .bin .neq (.t 15) (.t 18), (some (12, false)), 0, [8, 11, 5]⟩,
   ⟨(some 20), .pick (.t 12) (.c (.bool true)) (.t 19), none, 0, [5, 12]⟩,
   ⟨(some 6), .mv (.t 20), none, 0, [13, 11, 0, 1, 2, 3, 4, 5, 6, 7, 8, 9, 10, 11, 12, 13]⟩] [0, 1, 2, 7, 8, 9, 10, 11, 12, 13, 14, 15, 16, 17, 18, 19, 20])
 .ret))
def hs166 : List (List Nat) := [[6], [0, 1, 2, 7, 8, 9, 10, 11, 12, 13, 14, 15, 16, 17, 18, 19, 20]]
theorem ok166 : FnOk Try.prog 166 ic166 [.t 6] 21 := ⟨Try.f166, hs166, Try.func166, by kernel_rfl, by kernel_rfl, by kernel_rfl, by kernel_rfl⟩

/-- signalbox/frame.flags -/
def ic167 : IC :=
 (.seq (.region 1 [
   ⟨(some 1), .box (.t 0), none, 0, []⟩,
   ⟨(some 2), .mv (.c (.bool false)), none, 1, []⟩] [0, 2])
 (.seq (.block 0 (.seq (.region 0 [
   ⟨(some 4), .faddr 1 (.t 1), none, 0, []⟩,
   ⟨(some 5), .load none (.t 4), none, 0, [0]⟩,
   ⟨(some 6), .bin .lss (.t 5) (.c (.int .i64 0)), none, 0, [1]⟩,
   ⟨(some 7), .mv (.t 6), none, 0, [2]⟩,
   ⟨(some 8), .faddr 1 (.t 1), (some (7, false)), 0, [3]⟩,
   ⟨(some 9), .load none (.t 8), (some (7, false)), 0, [4, 3]⟩,
   ⟨(some 10), .bin .gtr (.t 9) (.c (.int .i64 63)), (some (7, false)), 0, [5, 3]⟩,
   ⟨(some 11), .pick (.t 7) (.c (.bool true)) (.t 10), none, 0, [3, 6]⟩,
   ⟨(some 3), .mv (.t 11), none, 0, [7, 3]⟩] [4, 5, 6, 7, 8, 9, 10, 11])
 (.cond (.t 3) [3]
  (.seq (.region 0 [
    ⟨(some 2), .mv (.c (.bool false)), none, 0, []⟩] [])
  .ret)
  (.seq (.region 0 [
    ⟨(some 13), .load (some 4) (.t 1), none, 0, []⟩,
    ⟨(some 14), .call (.c (.fn 157 [] [])) [(.t 13), (.c (.int .i64 4))], none, 0, [0]⟩,
    ⟨(some 12), .mv (.t 14), none, 0, [1, 1]⟩] [13, 14])
  (.cond (.t 12) [12]
   (.seq (.region 0 [
     ⟨(some 15), .faddr 1 (.t 1), none, 0, []⟩,
     ⟨(some 16), .load none (.t 15), none, 0, [0]⟩,
     ⟨(some 17), .bin .eql (.t 16) (.c (.int .i64 4)), none, 0, [1]⟩,
     ⟨(some 2), .mv (.t 17), none, 0, [2, 0, 1, 2]⟩] [1, 15, 16, 17])
   .ret)
   (.seq (.region 0 [
     ⟨(some 19), .load (some 4) (.t 1), none, 0, []⟩,
     ⟨(some 20), .call (.c (.fn 157 [] [])) [(.t 19), (.c (.int .i64 8))], none, 0, [0]⟩,
     ⟨(some 18), .mv (.t 20), none, 0, [1, 1]⟩] [19, 20])
   (.cond (.t 18) [18]
    (.seq (.region 0 [
      ⟨(some 21), .load (some 4) (.t 1), none, 0, []⟩,
      ⟨(some 22), .call (.c (.fn 157 [] [])) [(.t 21), (.c (.int .i64 2))], none, 0, [0]⟩,
      ⟨(some 23), .un .not (.t 22), none, 0, [1]⟩,
      ⟨(some 2), .mv (.t 23), none, 0, [2, 1, 0, 1, 2]⟩] [1, 21, 22, 23])
    .ret)
    .skip)))))))
 (.seq (.region 0 [
   ⟨(some 24), .load (some 4) (.t 1), none, 0, []⟩,
   ⟨(some 25), .call (.c (.fn 157 [] [])) [(.t 24), (.c (.int .i64 48))], none, 0, [0]⟩,
   ⟨(some 26), .un .not (.t 25), none, 0, [1]⟩,
   ⟨(some 2), .mv (.t 26), none, 0, [2, 1, 0, 1, 2]⟩] [1, 24, 25, 26])
 .ret)))
def hs167 : List (List Nat) := [[0, 2], [4, 5, 6, 7, 8, 9, 10, 11], [3], [], [13, 14], [12], [1, 15, 16, 17], [19, 20], [18], [1, 21, 22, 23], [1, 24, 25, 26]]
theorem ok167 : FnOk Try.prog 167 ic167 [.t 2] 27 := ⟨Try.f167, hs167, Try.func167, by kernel_rfl, by kernel_rfl, by kernel_rfl, by kernel_rfl⟩

/-- signalbox/frame.most -/
def ic168 : IC :=
 (.seq (.region 1 [
   ⟨(some 1), .box (.t 0), none, 0, []⟩,
   ⟨(some 2), .mv (.c (.int .i64 0)), none, 1, []⟩] [0, 2])
 (.seq (.seq (.region 0 [
   ⟨(some 3), .load (some 4) (.t 1), none, 0, []⟩,
   ⟨(some 4), .call (.c (.fn 157 [] [])) [(.t 3), (.c (.int .i64 5))], none, 0, [0]⟩] [1, 3])
 (.cond (.t 4) [4]
  (.seq (.region 0 [
    ⟨(some 2), .mv (.c (.int .i64 536870911)), none, 0, []⟩] [])
  .ret)
  .skip))
 (.seq (.region 0 [
   ⟨(some 2), .mv (.c (.int .i64 2047)), none, 0, []⟩] [])
 .ret)))
def hs168 : List (List Nat) := [[0, 2], [1, 3], [4], [], []]
theorem ok168 : FnOk Try.prog 168 ic168 [.t 2] 5 := ⟨Try.f168, hs168, Try.func168, by kernel_rfl, by kernel_rfl, by kernel_rfl, by kernel_rfl⟩

/-- signalbox/frame.long -/
def ic169 : IC :=
 (.seq (.region 1 [
   ⟨(some 1), .box (.t 0), none, 0, []⟩,
   ⟨(some 2), .mv (.c (.bool false)), none, 1, []⟩] [0, 2])
 (.seq (.block 0 (.seq (.region 0 [
   ⟨(some 6), .load (some 4) (.t 1), none, 0, []⟩,
   ⟨(some 7), .call (.c (.fn 157 [] [])) [(.t 6), (.c (.int .i64 4))], none, 0, [0]⟩,
   ⟨(some 5), .mv (.t 7), none, 0, [1, 1]⟩] [6, 7])
 (.cond (.t 5) [5]
  (.seq (.region 0 [
    ⟨(some 8), .faddr 2 (.t 1), none, 0, []⟩,
    ⟨(some 9), .load none (.t 8), none, 0, [0]⟩,
    ⟨(some 10), .bin .eql (.t 9) (.c (.int .i64 8)), none, 0, [1]⟩,
    ⟨(some 2), .mv (.t 10), none, 0, [2, 0, 1, 2]⟩] [1, 8, 9, 10])
  .ret)
  (.seq (.region 0 [
    ⟨(some 12), .load (some 4) (.t 1), none, 0, []⟩,
    ⟨(some 13), .call (.c (.fn 157 [] [])) [(.t 12), (.c (.int .i64 8))], none, 0, [0]⟩,
    ⟨(some 11), .mv (.t 13), none, 0, [1, 1]⟩] [12, 13])
  (.cond (.t 11) [11]
   (.seq (.region 0 [
     ⟨(some 15), .faddr 2 (.t 1), none, 0, []⟩,
     ⟨(some 16), .load none (.t 15), none, 0, [0]⟩,
     ⟨(some 17), .call (.c (.fn 172 [] [])) [(.t 16)], none, 0, [1]⟩,
     ⟨(some 14), .mv (.t 17), none, 0, [2]⟩,
     ⟨(some 18), .ext 0 (.t 14), none, 0, [3]⟩,
     ⟨(some 19), .ext 1 (.t 14), none, 0, [3]⟩,
     ⟨(some 3), .mv (.t 18), none, 0, [4, 2, 0, 1, 2, 3, 4]⟩,
     ⟨(some 4), .mv (.t 19), none, 0, [5, 6, 0, 1, 2, 3, 4, 5, 6]⟩] [1, 3, 14, 15, 16, 17, 18, 19])
   (.seq (.region 0 [
     ⟨(some 20), .mv (.t 4), none, 0, []⟩,
     ⟨(some 2), .mv (.t 20), none, 0, [0, 0]⟩] [4, 20])
   .ret))
   .skip)))))
 (.seq (.region 0 [
   ⟨(some 21), .faddr 2 (.t 1), none, 0, []⟩,
   ⟨(some 22), .load none (.t 21), none, 0, [0]⟩,
   ⟨(some 23), .bin .geq (.t 22) (.c (.int .i64 0)), none, 0, [1]⟩,
   ⟨(some 24), .mv (.t 23), none, 0, [2]⟩,
   ⟨(some 25), .faddr 2 (.t 1), (some (24, true)), 0, [3]⟩,
   ⟨(some 26), .load none (.t 25), (some (24, true)), 0, [4, 3]⟩,
   ⟨(some 27), .bin .leq (.t 26) (.c (.int .i64 8)), (some (24, true)), 0, [5, 3]⟩,
   ⟨(some 28), .pick (.t 24) (.t 27) (.c (.bool false)), none, 0, [3, 6]⟩,
   ⟨(some 2), .mv (.t 28), none, 0, [7, 3, 0, 1, 2, 3, 4, 5, 6, 7]⟩] [1, 21, 22, 23, 24, 25, 26, 27, 28])
 .ret)))
def hs169 : List (List Nat) := [[0, 2], [6, 7], [5], [1, 8, 9, 10], [12, 13], [11], [1, 3, 14, 15, 16, 17, 18, 19], [4, 20], [1, 21, 22, 23, 24, 25, 26, 27, 28]]
theorem ok169 : FnOk Try.prog 169 ic169 [.t 2] 29 := ⟨Try.f169, hs169, Try.func169, by kernel_rfl, by kernel_rfl, by kernel_rfl, by kernel_rfl⟩

/-- slices.IndexFunc[[]signalbox/api.Frame,signalbox/api.Frame] -/
def ic170_b1 : IC :=
 (.seq (.region 0 [
   ⟨(some 9), .bin .lss (.t 8) (.t 7), none, 0, []⟩] [])
 (.seq (.cond (.t 9) [9]
  .skip
  (.exit 0))
 (.seq (.block 1 (.seq (.region 0 [
   ⟨(some 10), .mv (.t 8), none, 0, []⟩,
   ⟨(some 5), .mv (.t 10), none, 0, [0, 0]⟩] [10])
 (.seq (.region 0 [
   ⟨(some 11), .mv (.t 1), none, 0, []⟩,
   ⟨(some 12), .mv (.t 0), none, 0, []⟩,
   ⟨(some 13), .mv (.t 5), none, 0, []⟩,
   ⟨(some 14), .iaddr 4 (.t 12) (.t 13), none, 0, [1, 2]⟩,
   ⟨(some 15), .load (some 4) (.t 14), none, 0, [3]⟩,
   ⟨(some 16), .call (.t 11) [(.t 15)], none, 0, [0, 4]⟩] [11, 12, 13, 14, 15])
 (.cond (.t 16) [16]
  (.seq (.region 0 [
    ⟨(some 17), .mv (.t 5), none, 0, []⟩,
    ⟨(some 4), .mv (.t 17), none, 0, [0, 0]⟩] [5, 17])
  .ret)
  .skip))))
 (.region 0 [
   ⟨(some 18), .bin .add (.t 8) (.c (.int .i64 1)), none, 0, []⟩,
   ⟨(some 8), .mv (.t 18), none, 0, [0]⟩] [18]))))
def ic170_l1 : IC := .loop [4, 5, 6, 9, 10, 11, 12, 13, 14, 15, 16, 17, 18] ic170_b1
def ic170 : IC :=
 (.seq (.region 0 [
   ⟨(some 4), .mv (.c (.int .i64 0)), none, 0, []⟩] [4])
 (.seq (.seq (.region 0 [
   ⟨(some 6), .mv (.t 0), none, 0, []⟩,
   ⟨(some 7), .lens (.t 6), none, 0, [0]⟩,
   ⟨(some 8), .mv (.c (.int .i64 0)), none, 0, []⟩] [6])
 (.block 0 ic170_l1))
 (.seq (.region 0 [
   ⟨(some 4), .mv (.c (.int .i64 (-1))), none, 0, []⟩] [])
 .ret)))
def hs170 : List (List Nat) := [[4], [6], [4, 5, 6, 9, 10, 11, 12, 13, 14, 15, 16, 17, 18], [], [9], [10], [11, 12, 13, 14, 15], [16], [5, 17], [18], []]
theorem ok170 : FnOk Try.prog 170 ic170 [.t 4] 19 := ⟨Try.f170, hs170, Try.func170, by kernel_rfl, by kernel_rfl, by kernel_rfl, by kernel_rfl⟩

/-- signalbox/octet.Mask -/
def ic171 : IC :=
 (.seq (.region 0 [
   ⟨(some 4), .mv (.c (.str [])), none, 0, []⟩] [4])
 (.seq (.region 0 [
   ⟨(some 5), .mv (.t 0), none, 0, []⟩,
   ⟨(some 6), .mv (.t 1), none, 0, []⟩,
   ⟨(some 7), .call (.c (.fn 173 [] [])) [(.t 5), (.t 6), (.c (.fn 174 [] []))], none, 0, [0, 1]⟩,
   ⟨(some 4), .mv (.t 7), none, 0, [2, 2, 0, 1, 2]⟩] [0, 1, 5, 6, 7])
 .ret))
def hs171 : List (List Nat) := [[4], [0, 1, 5, 6, 7]]
theorem ok171 : FnOk Try.prog 171 ic171 [.t 4] 8 := ⟨Try.f171, hs171, Try.func171, by kernel_rfl, by kernel_rfl, by kernel_rfl, by kernel_rfl⟩

/-- signalbox/frame.Code -/
def ic172 : IC :=
 (.seq (.region 1 [
   ⟨(some 1), .box (.t 0), none, 0, []⟩,
   ⟨(some 2), .mv (.c (.int .i64 0)), none, 1, []⟩,
   ⟨(some 3), .mv (.c (.bool false)), none, 1, [1]⟩] [0, 2, 3])
 (.seq (.region 0 [
   ⟨(some 8), .mkfn 176 [] [(.t 1)], none, 0, []⟩,
   ⟨(some 9), .call (.c (.fn 175 [] [])) [(.t 8)], none, 0, [0]⟩,
   ⟨(some 7), .mv (.t 9), none, 0, [1]⟩,
   ⟨(some 10), .ext 0 (.t 7), none, 0, [2]⟩,
   ⟨(some 11), .ext 1 (.t 7), none, 0, [2]⟩,
   ⟨(some 12), .ext 2 (.t 7), none, 0, [2]⟩,
   ⟨(some 4), .mv (.t 10), none, 0, [3, 1, 0, 1, 2, 3]⟩,
   ⟨(some 5), .mv (.t 11), none, 0, [4, 6, 0, 1, 2, 3, 4, 6]⟩,
   ⟨(some 6), .mv (.t 12), none, 0, [5, 7, 0, 1, 2, 3, 4, 5, 6, 7]⟩] [1, 5, 7, 8, 9, 10, 11, 12])
 (.seq (.region 0 [
   ⟨(some 13), .mv (.t 4), none, 0, []⟩,
   ⟨(some 14), .mv (.t 6), none, 0, []⟩,
   ⟨(some 2), .mv (.t 13), none, 0, [0, 0]⟩,
   ⟨(some 3), .mv (.t 14), none, 0, [1, 2, 0, 1, 2]⟩] [4, 6, 13, 14])
 .ret)))
def hs172 : List (List Nat) := [[0, 2, 3], [1, 5, 7, 8, 9, 10, 11, 12], [4, 6, 13, 14]]
theorem ok172 : FnOk Try.prog 172 ic172 [.t 2, .t 3] 15 := ⟨Try.f172, hs172, Try.func172, by kernel_rfl, by kernel_rfl, by kernel_rfl, by kernel_rfl⟩

/- 173 signalbox/octet.each: NOT COMPILED [region 10 octet.go:84] -/
/-- signalbox/octet.Mask$1 -/
def ic174 : IC :=
 (.seq (.region 0 [
   ⟨(some 4), .mv (.c (.int .u8 0)), none, 0, []⟩] [4])
 (.seq (.region 0 [
   ⟨(some 5), .mv (.t 0), none, 0, []⟩,
   ⟨(some 6), .mv (.t 1), none, 0, []⟩,
   ⟨(some 7), .bin .and (.t 5) (.t 6), none, 0, [0, 1]⟩,
   ⟨(some 4), .mv (.t 7), none, 0, [2, 0, 1, 2]⟩] [0, 1, 5, 6, 7])
 .ret))
def hs174 : List (List Nat) := [[4], [0, 1, 5, 6, 7]]
theorem ok174 : FnOk Try.prog 174 ic174 [.t 4] 8 := ⟨Try.f174, hs174, Try.func174, by kernel_rfl, by kernel_rfl, by kernel_rfl, by kernel_rfl⟩

/-- signalbox/frame.first -/
def ic175_b1 : IC :=
 (.seq (.region 0 [
   ⟨(some 9), .bin .lss (.t 8) (.c (.int .i64 16)), none, 0, []⟩] [])
 (.seq (.cond (.t 9) [9]
  .skip
  (.exit 0))
 (.seq (.block 1 (.seq (.region 0 [
   ⟨(some 10), .mv (.t 8), none, 0, []⟩,
   ⟨(some 11), .idxa 16 1 none (.t 7) (.t 8), none, 0, []⟩,
   ⟨(some 5), .mv (.t 10), none, 0, [0, 0, 1]⟩,
   ⟨(some 6), .mv (.t 11), none, 0, [1, 2, 0, 1, 2]⟩] [10, 11])
 (.seq (.region 0 [
   ⟨(some 12), .mv (.t 0), none, 0, []⟩,
   ⟨(some 13), .mv (.t 6), none, 0, []⟩,
   ⟨(some 14), .call (.t 12) [(.t 13)], none, 0, [0, 1]⟩] [12, 13])
 (.cond (.t 14) [14]
  (.seq (.region 0 [
    ⟨(some 15), .mv (.t 5), none, 0, []⟩,
    ⟨(some 16), .mv (.t 6), none, 0, []⟩,
    ⟨(some 2), .mv (.t 15), none, 0, [0, 0]⟩,
    ⟨(some 3), .mv (.t 16), none, 0, [1, 2, 0, 1, 2]⟩,
    ⟨(some 4), .mv (.c (.bool true)), none, 0, [3, 0, 1, 2, 3]⟩] [5, 6, 15, 16])
  .ret)
  .skip))))
 (.region 0 [
   ⟨(some 17), .bin .add (.t 8) (.c (.int .i64 1)), none, 0, []⟩,
   ⟨(some 8), .mv (.t 17), none, 0, [0]⟩] [17]))))
def ic175_l1 : IC := .loop [2, 3, 4, 5, 6, 9, 10, 11, 12, 13, 14, 15, 16, 17] ic175_b1
def ic175 : IC :=
 (.seq (.region 0 [
   ⟨(some 2), .mv (.c (.int .i64 0)), none, 0, []⟩,
   ⟨(some 3), .mv (.c (.int .i64 0)), none, 0, [0]⟩,
   ⟨(some 4), .mv (.c (.bool false)), none, 0, [1]⟩] [2, 3, 4])
 (.seq (.seq (.region 0 [
   ⟨(some 7), .call (.c (.fn 177 [] [])) [], none, 0, []⟩,
   ⟨(some 8), .mv (.c (.int .i64 0)), none, 0, []⟩] [])
 (.block 0 ic175_l1))
 (.seq (.region 0 [
   ⟨(some 2), .mv (.c (.int .i64 0)), none, 0, []⟩,
   ⟨(some 3), .mv (.c (.int .i64 0)), none, 0, [0, 0]⟩,
   ⟨(some 4), .mv (.c (.bool false)), none, 0, [1, 0, 1]⟩] [])
 .ret)))
def hs175 : List (List Nat) := [[2, 3, 4], [], [2, 3, 4, 5, 6, 9, 10, 11, 12, 13, 14, 15, 16, 17], [], [9], [10, 11], [12, 13], [14], [5, 6, 15, 16], [17], []]
theorem ok175 : FnOk Try.prog 175 ic175 [.t 2, .t 3, .t 4] 18 := ⟨Try.f175, hs175, Try.func175, by kernel_rfl, by kernel_rfl, by kernel_rfl, by kernel_rfl⟩

/-- signalbox/frame.Code$1 -/
def ic176 : IC :=
 (.seq (.region 0 [
   ⟨(some 3), .mv (.c (.bool false)), none, 0, []⟩] [3])
 (.seq (.region 0 [
   ⟨(some 4), .mv (.t 0), none, 0, []⟩,
   ⟨(some 5), .load none (.t 1), none, 0, []⟩,
   ⟨(some 6), .bin .eql (.t 4) (.t 5), none, 0, [0, 1]⟩,
   ⟨(some 3), .mv (.t 6), none, 0, [2, 0, 1, 2]⟩] [0, 1, 4, 5, 6])
 .ret))
def hs176 : List (List Nat) := [[3], [0, 1, 4, 5, 6]]
theorem ok176 : FnOk Try.prog 176 ic176 [.t 3] 7 := ⟨Try.f176, hs176, Try.func176, by kernel_rfl, by kernel_rfl, by kernel_rfl, by kernel_rfl⟩

/-- signalbox/frame.sizes -/
def ic177 : IC :=
 (.seq (.region 1 [
   ⟨(some 0), .alloc [(.int .i64 0), (.int .i64 0), (.int .i64 0), (.int .i64 0), (.int .i64 0), (.int .i64 0), (.int .i64 0), (.int .i64 0), (.int .i64 0), (.int .i64 0), (.int .i64 0), (.int .i64 0), (.int .i64 0), (.int .i64 0), (.int .i64 0), (.int .i64 0)], none, 0, []⟩] [])
 (.seq (.region 0 [
   ⟨(some 1), .build [(.int .i64 0), (.int .i64 0), (.int .i64 0), (.int .i64 0), (.int .i64 0), (.int .i64 0), (.int .i64 0), (.int .i64 0), (.int .i64 0), (.int .i64 0), (.int .i64 0), (.int .i64 0), (.int .i64 0), (.int .i64 0), (.int .i64 0), (.int .i64 0)] [(0, 1, (.c (.int .i64 0))), (1, 1, (.c (.int .i64 1))), (2, 1, (.c (.int .i64 2))), (3, 1, (.c (.int .i64 3))), (4, 1, (.c (.int .i64 4))), (5, 1, (.c (.int .i64 5))), (6, 1, (.c (.int .i64 6))), (7, 1, (.c (.int .i64 7))), (8, 1, (.c (.int .i64 8))), (9, 1, (.c (.int .i64 12))), (10, 1, (.c (.int .i64 16))), (11, 1, (.c (.int .i64 20))), (12, 1, (.c (.int .i64 24))), (13, 1, (.c (.int .i64 32))), (14, 1, (.c (.int .i64 48))), (15, 1, (.c (.int .i64 64)))], none, 0, []⟩,
   ⟨none, .store 16 (.t 0) (.t 1), none, 0, [0, 0]⟩] [1])
 .ret))
def hs177 : List (List Nat) := [[], [1]]
theorem ok177 : FnOk Try.prog 177 ic177 [.cell 0 (some 16)] 2 := ⟨Try.f177, hs177, Try.func177, by kernel_rfl, by kernel_rfl, by kernel_rfl, by kernel_rfl⟩

def tabL : TabL := [(9, ic9, [.t 4], 114),
  (20, ic20, [.t 0], 65),
  (21, ic21, [.t 2], 7),
  (22, ic22, [.t 8, .t 9], 63),
  (25, ic25, [.t 4], 78),
  (26, ic26, [.t 6], 31),
  (28, ic28, [.t 8], 50),
  (29, ic29, [.t 4], 20),
  (30, ic30, [.t 4], 35),
  (45, ic45, [.cell 6 (some 7), .t 7], 30),
  (46, ic46, [.cell 6 (some 6), .t 7], 30),
  (47, ic47, [.cell 4 (some 7), .t 5], 22),
  (48, ic48, [.t 6], 31),
  (49, ic49, [.t 6], 42),
  (50, ic50, [.t 4], 9),
  (51, ic51, [.t 4], 9),
  (64, ic64, [.t 2], 9),
  (65, ic65, [.t 4, .t 5], 38),
  (66, ic66, [.t 4], 42),
  (67, ic67, [.t 2], 8),
  (68, ic68, [.t 4], 10),
  (69, ic69, [.t 6], 17),
  (70, ic70, [.t 4], 21),
  (71, ic71, [.t 3], 8),
  (72, ic72, [.cell 2 (some 4), .t 3], 29),
  (75, ic75, [.cell 4 (some 6)], 59),
  (76, ic76, [], 33),
  (77, ic77, [.t 4], 78),
  (78, ic78, [.t 4], 9),
  (79, ic79, [.t 4, .t 5], 17),
  (80, ic80, [.t 4], 42),
  (81, ic81, [.t 2], 8),
  (82, ic82, [.t 4], 10),
  (83, ic83, [.t 6], 17),
  (84, ic84, [.t 4], 21),
  (85, ic85, [.t 3], 8),
  (86, ic86, [.t 3], 8),
  (87, ic87, [.t 3], 8),
  (88, ic88, [.t 3], 8),
  (89, ic89, [.t 3], 8),
  (108, ic108, [.t 4], 19),
  (109, ic109, [.t 4], 9),
  (110, ic110, [.cell 2 (some 7)], 16),
  (111, ic111, [.t 4], 19),
  (112, ic112, [.t 4], 9),
  (113, ic113, [.cell 2 (some 6)], 10),
  (114, ic114, [.t 4], 13),
  (115, ic115, [.cell 2 (some 7), .t 3], 27),
  (116, ic116, [.t 4], 9),
  (117, ic117, [.cell 6 (some 7), .t 7], 58),
  (118, ic118, [.t 2], 60),
  (119, ic119, [.t 2], 9),
  (126, ic126, [.t 2], 43),
  (129, ic129, [.t 4], 20),
  (130, ic130, [.t 2], 9),
  (131, ic131, [.t 2], 34),
  (132, ic132, [.t 2], 8),
  (133, ic133, [.t 2], 5),
  (134, ic134, [], 31),
  (136, ic136, [.t 2], 9),
  (137, ic137, [.t 4], 45),
  (138, ic138, [.t 2], 6),
  (139, ic139, [.cell 6 (some 7)], 21),
  (140, ic140, [.cell 8 (some 7)], 20),
  (141, ic141, [.t 2], 19),
  (149, ic149, [.cell 2 (some 7), .t 3], 26),
  (150, ic150, [.t 4], 17),
  (151, ic151, [.t 4], 16),
  (152, ic152, [.t 4], 39),
  (153, ic153, [.t 2], 9),
  (156, ic156, [.t 2], 34),
  (157, ic157, [.t 4], 10),
  (158, ic158, [.t 4], 8),
  (160, ic160, [.t 4], 16),
  (161, ic161, [.t 2], 23),
  (162, ic162, [.t 4], 9),
  (163, ic163, [.t 2], 6),
  (164, ic164, [.cell 2 (some 4)], 14),
  (165, ic165, [.t 2], 9),
  (166, ic166, [.t 6], 21),
  (167, ic167, [.t 2], 27),
  (168, ic168, [.t 2], 5),
  (169, ic169, [.t 2], 29),
  (170, ic170, [.t 4], 19),
  (171, ic171, [.t 4], 8),
  (172, ic172, [.t 2, .t 3], 15),
  (174, ic174, [.t 4], 8),
  (175, ic175, [.t 2, .t 3, .t 4], 18),
  (176, ic176, [.t 3], 7),
  (177, ic177, [.cell 0 (some 16)], 2)]
theorem tabOk : TabL.OK Try.prog tabL := TabL.ok_cons ok9 (TabL.ok_cons ok20 (TabL.ok_cons ok21 (TabL.ok_cons ok22 (TabL.ok_cons ok25 (TabL.ok_cons ok26 (TabL.ok_cons ok28 (TabL.ok_cons ok29 (TabL.ok_cons ok30 (TabL.ok_cons ok45 (TabL.ok_cons ok46 (TabL.ok_cons ok47 (TabL.ok_cons ok48 (TabL.ok_cons ok49 (TabL.ok_cons ok50 (TabL.ok_cons ok51 (TabL.ok_cons ok64 (TabL.ok_cons ok65 (TabL.ok_cons ok66 (TabL.ok_cons ok67 (TabL.ok_cons ok68 (TabL.ok_cons ok69 (TabL.ok_cons ok70 (TabL.ok_cons ok71 (TabL.ok_cons ok72 (TabL.ok_cons ok75 (TabL.ok_cons ok76 (TabL.ok_cons ok77 (TabL.ok_cons ok78 (TabL.ok_cons ok79 (TabL.ok_cons ok80 (TabL.ok_cons ok81 (TabL.ok_cons ok82 (TabL.ok_cons ok83 (TabL.ok_cons ok84 (TabL.ok_cons ok85 (TabL.ok_cons ok86 (TabL.ok_cons ok87 (TabL.ok_cons ok88 (TabL.ok_cons ok89 (TabL.ok_cons ok108 (TabL.ok_cons ok109 (TabL.ok_cons ok110 (TabL.ok_cons ok111 (TabL.ok_cons ok112 (TabL.ok_cons ok113 (TabL.ok_cons ok114 (TabL.ok_cons ok115 (TabL.ok_cons ok116 (TabL.ok_cons ok117 (TabL.ok_cons ok118 (TabL.ok_cons ok119 (TabL.ok_cons ok126 (TabL.ok_cons ok129 (TabL.ok_cons ok130 (TabL.ok_cons ok131 (TabL.ok_cons ok132 (TabL.ok_cons ok133 (TabL.ok_cons ok134 (TabL.ok_cons ok136 (TabL.ok_cons ok137 (TabL.ok_cons ok138 (TabL.ok_cons ok139 (TabL.ok_cons ok140 (TabL.ok_cons ok141 (TabL.ok_cons ok149 (TabL.ok_cons ok150 (TabL.ok_cons ok151 (TabL.ok_cons ok152 (TabL.ok_cons ok153 (TabL.ok_cons ok156 (TabL.ok_cons ok157 (TabL.ok_cons ok158 (TabL.ok_cons ok160 (TabL.ok_cons ok161 (TabL.ok_cons ok162 (TabL.ok_cons ok163 (TabL.ok_cons ok164 (TabL.ok_cons ok165 (TabL.ok_cons ok166 (TabL.ok_cons ok167 (TabL.ok_cons ok168 (TabL.ok_cons ok169 (TabL.ok_cons ok170 (TabL.ok_cons ok171 (TabL.ok_cons ok172 (TabL.ok_cons ok174 (TabL.ok_cons ok175 (TabL.ok_cons ok176 (TabL.ok_cons ok177 TabL.ok_nil)))))))))))))))))))))))))))))))))))))))))))))))))))))))))))))))))))))))))))))))))))))))))
end Go.Proofs.Ytapoilcpollmpaa
