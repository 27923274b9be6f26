/- The IR of this program's functions, as printed by MkIC.lean. Conditions: none. -/
import Derived.Test.YtkkccabchhnebaaFwSc
import Derived.Test.YtkkccabchhnebaaChecked
namespace Go.Proofs.Ytkkccabchhnebaa
open Go.SB
set_option maxRecDepth 100000
abbrev f_law13_BoxTurns : Nat := 3
abbrev f_law13_BoxPlays : Nat := 4
abbrev f_law13_alive : Nat := 8
abbrev f_box_New : Nat := 9
abbrev f_box_Boxes_Put : Nat := 10
abbrev f_box_Boxes_Best : Nat := 11
abbrev f_ref02_Key : Nat := 12
abbrev f_box_Boxes_Sent : Nat := 13
abbrev f_law13_few : Nat := 14
abbrev f_ref13_New : Nat := 15
abbrev f_law13_do : Nat := 16
abbrev f_ref09_Ints : Nat := 17
abbrev f_box_Boxes_States : Nat := 18
abbrev f_box_Boxes_Free : Nat := 19
abbrev f_ref13_Boxes_Free : Nat := 20
abbrev f_box_Boxes_Take : Nat := 21
abbrev f_box_Boxes_Abort : Nat := 22
abbrev f_law13_packet : Nat := 36
abbrev f_frame_Key : Nat := 37
abbrev f_slices_IndexFunc_of_cell : Nat := 38
abbrev f_box_Boxes_Put_1 : Nat := 39
abbrev f_box_Boxes_Best_1 : Nat := 40
abbrev f_ref02_Right : Nat := 41
abbrev f_ref02_Has : Nat := 42
abbrev f_ref02_KeyBits : Nat := 43
abbrev f_box_Boxes_ends : Nat := 44
abbrev f_ref13_Boxes_Put : Nat := 45
abbrev f_ref13_Boxes_Best : Nat := 46
abbrev f_ref13_Boxes_End : Nat := 47
abbrev f_ref13_Boxes_Take : Nat := 48
abbrev f_slices_Clone_of_int : Nat := 49
abbrev f_frame_Right : Nat := 59
abbrev f_frame_has : Nat := 60
abbrev f_frame_bit : Nat := 61
abbrev f_ref02_Code : Nat := 62
abbrev f_ref02_Bits : Nat := 63
abbrev f_frame_flags : Nat := 67
abbrev f_frame_most : Nat := 68
abbrev f_frame_long : Nat := 69
abbrev f_ref02_Sizes : Nat := 70
abbrev f_frame_Code : Nat := 71
abbrev f_frame_first : Nat := 72
abbrev f_frame_Code_1 : Nat := 73
abbrev f_frame_sizes : Nat := 74

/-- signalbox/signalboxlaw13.BoxTurns -/
def ic_law13_BoxTurns_b1 : IC :=
 (.seq (.seq (.region 0 [
   ⟨(some 21), .mv (.t 4), none, 0, []⟩,
   ⟨(some 22), .mv (.t 0), none, 0, []⟩,
   ⟨(some 23), .lens (.t 22), none, 0, [1]⟩,
   ⟨(some 24), .bin .lss (.t 21) (.t 23), none, 0, [0, 2]⟩,
   ⟨(some 25), .mv (.t 24), none, 0, [3]⟩,
   ⟨(some 26), .mv (.t 4), (some (25, true)), 0, [4]⟩,
   ⟨(some 27), .bin .leq (.t 26) (.c (.int .i64 100)), (some (25, true)), 0, [5, 4]⟩,
   ⟨(some 28), .pick (.t 25) (.t 27) (.c (.bool false)), none, 0, [4, 6]⟩] [21, 22, 23, 24, 25, 26, 27])
 (.cond (.t 28) [28]
  .skip
  (.exit 0)))
 (.seq (.block 1 (.region 0 [
   ⟨(some 31), .mv (.t 3), none, 0, []⟩,
   ⟨(some 32), .mv (.t 0), none, 0, []⟩,
   ⟨(some 33), .mv (.t 4), none, 0, []⟩,
   ⟨(some 34), .iaddr 7 (.t 32) (.t 33), none, 0, [1, 2]⟩,
   ⟨(some 35), .faddr 0 (.t 34), none, 0, [3]⟩,
   ⟨(some 36), .faddr 3 (.t 35), none, 0, [4]⟩,
   ⟨(some 37), .load none (.t 36), none, 0, [5]⟩,
   ⟨(some 38), .lenst (.t 37), none, 0, [6]⟩,
   ⟨(some 39), .mn [(.t 38), (.c (.int .i64 5000))], none, 0, [7]⟩,
   ⟨(some 40), .bin .add (.t 31) (.t 39), none, 0, [0, 8]⟩,
   ⟨(some 3), .mv (.t 40), none, 0, [9, 0, 1, 2, 3, 4, 5, 6, 7, 8, 9]⟩] [31, 32, 33, 34, 35, 36, 37, 38, 39, 40]))
 (.region 0 [
   ⟨(some 29), .mv (.t 4), none, 0, []⟩,
   ⟨(some 30), .bin .add (.t 29) (.c (.int .i64 1)), none, 0, [0]⟩,
   ⟨(some 4), .mv (.t 30), none, 0, [1, 0, 1]⟩] [29, 30])))
def ic_law13_BoxTurns_l1 : IC := .loop [2, 5, 6, 7, 8, 9, 10, 11, 12, 13, 14, 15, 16, 17, 18, 19, 20, 21, 22, 23, 24, 25, 26, 27, 28, 29, 30, 31, 32, 33, 34, 35, 36, 37, 38, 39, 40, 41, 42, 43, 44, 45, 46, 47, 48, 49, 50, 51, 52, 53, 54, 55, 56, 57, 58, 59, 60, 61, 62, 63, 64, 65, 66, 67, 68, 69, 70, 71, 72, 73, 74, 75, 76, 77, 78, 79, 80, 81, 82, 83, 84, 85, 86, 87, 88, 89, 90, 91, 92, 93, 94, 95, 96, 97, 98, 99, 100, 101, 102, 103, 104, 105, 106, 107, 108, 109, 110, 111, 112, 113, 114, 115, 116, 117, 118, 119, 120, 121, 122, 123, 124, 125, 126, 127, 128] ic_law13_BoxTurns_b1
def ic_law13_BoxTurns_b2 : IC :=
 (.seq (.region 0 [
   ⟨(some 53), .bin .lss (.t 52) (.t 51), none, 0, []⟩] [])
 (.seq (.cond (.t 53) [53]
  .skip
  (.exit 2))
 (.seq (.block 3 (.seq (.region 1 [
   ⟨(some 54), .mv (.t 52), none, 0, []⟩,
   ⟨(some 55), .iaddr 7 (.t 50) (.t 52), none, 0, []⟩,
   ⟨(some 56), .load (some 7) (.t 55), none, 0, [1]⟩,
   ⟨(some 8), .alloc [(.int .i64 0), (.int .i64 0), (.int .i64 0), (.str []), (.int .i64 0), (.int .i64 0), (.bool false)], none, 0, []⟩,
   ⟨(some 7), .mv (.t 54), none, 1, [0, 0, 1, 2, 3]⟩,
   ⟨none, .store 7 (.t 8) (.t 56), none, 1, [3, 2, 4, 0, 1, 2, 3, 4]⟩] [54, 55, 56])
 (.seq (.region 0 [
   ⟨(some 57), .mv (.t 7), none, 0, []⟩,
   ⟨(some 58), .faddr 5 (.t 8), none, 0, [0]⟩,
   ⟨none, .store 1 (.t 58) (.t 57), none, 0, [1, 0, 0]⟩] [7, 57, 58])
 (.seq (.region 0 [
   ⟨(some 60), .mv (.t 5), none, 0, []⟩,
   ⟨(some 61), .load (some 7) (.t 8), none, 0, []⟩,
   ⟨(some 62), .call (.c (.fn f_box_Boxes_Put [] [])) [(.t 60), (.t 61)], none, 0, [0, 1]⟩,
   ⟨(some 59), .mv (.t 62), none, 0, [2]⟩,
   ⟨(some 63), .ext 0 (.t 59), none, 0, [3]⟩,
   ⟨(some 64), .ext 1 (.t 59), none, 0, [3]⟩,
   ⟨(some 9), .mv (.t 63), none, 0, [4, 2, 0, 1, 2, 3, 4]⟩,
   ⟨(some 10), .mv (.t 64), none, 0, [5, 6, 0, 1, 2, 3, 4, 5, 6]⟩] [8, 9, 59, 60, 61, 62, 63, 64])
 (.seq (.region 0 [
   ⟨(some 65), .mv (.t 10), none, 0, []⟩,
   ⟨(some 66), .bin .eql (.t 65) (.c (.int .i64 0)), none, 0, [0]⟩] [10, 65])
 (.cond (.t 66) [66]
  (.region 0 [
    ⟨(some 67), .mv (.t 6), none, 0, []⟩,
    ⟨(some 68), .bin .add (.t 67) (.c (.int .i64 1)), none, 0, [0]⟩,
    ⟨(some 6), .mv (.t 68), none, 0, [1, 0, 1]⟩] [67, 68])
  .skip))))))
 (.region 0 [
   ⟨(some 69), .bin .add (.t 52) (.c (.int .i64 1)), none, 0, []⟩,
   ⟨(some 52), .mv (.t 69), none, 0, [0]⟩] [69]))))
def ic_law13_BoxTurns_l2 : IC := .loop [0, 2, 3, 4, 7, 8, 9, 10, 11, 12, 13, 14, 15, 16, 17, 18, 19, 20, 21, 22, 23, 24, 25, 26, 27, 28, 29, 30, 31, 32, 33, 34, 35, 36, 37, 38, 39, 40, 41, 42, 43, 44, 45, 46, 47, 48, 49, 53, 54, 55, 56, 57, 58, 59, 60, 61, 62, 63, 64, 65, 66, 67, 68, 69, 70, 71, 72, 73, 74, 75, 76, 77, 78, 79, 80, 81, 82, 83, 84, 85, 86, 87, 88, 89, 90, 91, 92, 93, 94, 95, 96, 97, 98, 99, 100, 101, 102, 103, 104, 105, 106, 107, 108, 109, 110, 111, 112, 113, 114, 115, 116, 117, 118, 119, 120, 121, 122, 123, 124, 125, 126, 127, 128] ic_law13_BoxTurns_b2
def ic_law13_BoxTurns_b3 : IC :=
 (.seq (.seq (.region 0 [
   ⟨(some 71), .mv (.t 12), none, 0, []⟩,
   ⟨(some 72), .mv (.t 6), none, 0, []⟩,
   ⟨(some 73), .bin .lss (.t 71) (.t 72), none, 0, [0, 1]⟩] [71, 72])
 (.cond (.t 73) [73]
  .skip
  (.exit 4)))
 (.seq (.block 5 (.seq (.region 1 [
   ⟨(some 77), .mv (.t 5), none, 0, []⟩,
   ⟨(some 78), .call (.c (.fn f_box_Boxes_Best [] [])) [(.t 77)], none, 0, [0]⟩,
   ⟨(some 76), .mv (.t 78), none, 0, [1]⟩,
   ⟨(some 79), .ext 0 (.t 76), none, 0, [2]⟩,
   ⟨(some 80), .ext 1 (.t 76), none, 0, [2]⟩,
   ⟨(some 81), .ext 2 (.t 76), none, 0, [2]⟩,
   ⟨(some 14), .alloc [(.int .i64 0), (.int .i64 0), (.int .i64 0), (.str []), (.int .i64 0), (.int .i64 0), (.bool false)], none, 0, []⟩,
   ⟨(some 13), .mv (.t 79), none, 1, [3, 1, 0, 1, 2, 3, 6]⟩,
   ⟨none, .store 7 (.t 14) (.t 80), none, 1, [6, 4, 7, 0, 1, 2, 3, 4, 6, 7]⟩,
   ⟨(some 15), .mv (.t 81), none, 1, [5, 8, 0, 1, 2, 3, 4, 5, 6, 7, 8]⟩] [76, 77, 78, 79, 80, 81])
 (.seq (.regionD 0 [
   ⟨(some 82), .faddr 0 (.t 11), none, 0, []⟩,
   ⟨(some 83), .load (some 4) (.t 82), none, 0, [0]⟩,
   ⟨(some 84), .call (.c (.fn f_ref02_Key [] [])) [(.t 83)], none, 0, [1]⟩,
   ⟨(some 85), .faddr 0 (.t 14), none, 0, []⟩,
   ⟨(some 86), .load (some 4) (.t 85), none, 0, [3]⟩,
   ⟨(some 87), .call (.c (.fn f_ref02_Key [] [])) [(.t 86)], none, 0, [4, 2]⟩,
   ⟨(some 16), .mv (.t 84), none, 0, [2, 5, 0, 1, 2]⟩,
   ⟨(some 17), .mv (.t 87), none, 0, [5, 6, 0, 1, 2, 3, 4, 5, 6]⟩]
   [0, 3, 1, 4, 2, 5, 6, 7] [0, 1, 3, 0, 8, 31, 63, 127] [82, 83, 84, 85, 86, 87])
 (.seq (.seq (.region 0 [
   ⟨(some 88), .mv (.t 15), none, 0, []⟩,
   ⟨(some 89), .un .not (.t 88), none, 0, [0]⟩,
   ⟨(some 90), .mv (.t 89), none, 0, [1]⟩,
   ⟨(some 91), .mv (.t 5), (some (90, false)), 0, [2]⟩,
   ⟨(some 92), .mv (.t 13), (some (90, false)), 0, [2]⟩,
   ⟨(some 93), .call (.c (.fn f_box_Boxes_Sent [] [])) [(.t 91), (.t 92)], (some (90, false)), 0, [3, 4, 2, 2]⟩,
   ⟨(some 94), .bin .neq (.t 93) (.c (.int .i64 0)), (some (90, false)), 0, [5, 2]⟩,
   ⟨(some 95), .pick (.t 90) (.c (.bool true)) (.t 94), none, 0, [2, 6]⟩,
   ⟨(some 96), .mv (.t 95), none, 0, [7, 5]⟩,
   ⟨(some 97), .mv (.t 12), (some (96, false)), 0, [8]⟩,
   ⟨(some 98), .bin .gtr (.t 97) (.c (.int .i64 0)), (some (96, false)), 0, [9, 8]⟩,
   ⟨(some 99), .mv (.t 98), (some (96, false)), 0, [10, 8, 8]⟩,
   ⟨(some 100), .mv (.t 17), (some (99, true)), 0, [11]⟩,
   ⟨(some 101), .mv (.t 16), (some (99, true)), 0, [11]⟩,
   ⟨(some 102), .bin .lss (.t 100) (.t 101), (some (99, true)), 0, [12, 13, 11]⟩,
   ⟨(some 103), .mv (.t 102), (some (99, true)), 0, [14, 11, 11]⟩,
   ⟨(some 104), .mv (.t 17), (some (103, false)), 0, [15]⟩,
   ⟨(some 105), .mv (.t 16), (some (103, false)), 0, [15]⟩,
   ⟨(some 106), .bin .eql (.t 104) (.t 105), (some (103, false)), 0, [16, 17, 15]⟩,
   ⟨(some 107), .mv (.t 106), (some (103, false)), 0, [18, 15, 15]⟩,
   ⟨(some 108), .faddr 5 (.t 14), (some (107, true)), 0, [19]⟩,
   ⟨(some 109), .load none (.t 108), (some (107, true)), 0, [20, 19]⟩,
   ⟨(some 110), .faddr 5 (.t 11), (some (107, true)), 0, [19]⟩,
   ⟨(some 111), .load none (.t 110), (some (107, true)), 0, [22, 19]⟩,
   ⟨(some 112), .bin .leq (.t 109) (.t 111), (some (107, true)), 0, [21, 23, 19]⟩,
   ⟨(some 113), .pick (.t 107) (.t 112) (.c (.bool false)), (some (103, false)), 0, [19, 24, 15]⟩,
   ⟨(some 114), .pick (.t 103) (.c (.bool true)) (.t 113), (some (99, true)), 0, [15, 25, 11]⟩,
   ⟨(some 115), .pick (.t 99) (.t 114) (.c (.bool false)), (some (96, false)), 0, [11, 26, 8]⟩,
   ⟨(some 116), .pick (.t 96) (.c (.bool true)) (.t 115), none, 0, [8, 27]⟩] [13, 15, 16, 17, 88, 89, 90, 91, 92, 93, 94, 95, 96, 97, 98, 99, 100, 101, 102, 103, 104, 105, 106, 107, 108, 109, 110, 111, 112, 113, 114, 115])
 (.cond (.t 116) [116]
  (.seq (.region 0 [
    ⟨(some 2), .mv (.c (.bool false)), none, 0, []⟩] [])
  .ret)
  .skip))
 (.region 0 [
   ⟨(some 117), .load (some 7) (.t 14), none, 0, []⟩,
   ⟨none, .store 7 (.t 11) (.t 117), none, 0, [0, 0]⟩] [14, 117])))))
 (.region 0 [
   ⟨(some 74), .mv (.t 12), none, 0, []⟩,
   ⟨(some 75), .bin .add (.t 74) (.c (.int .i64 1)), none, 0, [0]⟩,
   ⟨(some 12), .mv (.t 75), none, 0, [1, 0, 1]⟩] [74, 75])))
def ic_law13_BoxTurns_l3 : IC := .loop [0, 2, 3, 4, 7, 8, 9, 10, 13, 14, 15, 16, 17, 18, 19, 20, 21, 22, 23, 24, 25, 26, 27, 28, 29, 30, 31, 32, 33, 34, 35, 36, 37, 38, 39, 40, 41, 42, 43, 44, 45, 46, 47, 48, 49, 50, 51, 52, 53, 54, 55, 56, 57, 58, 59, 60, 61, 62, 63, 64, 65, 66, 67, 68, 69, 70, 71, 72, 73, 74, 75, 76, 77, 78, 79, 80, 81, 82, 83, 84, 85, 86, 87, 88, 89, 90, 91, 92, 93, 94, 95, 96, 97, 98, 99, 100, 101, 102, 103, 104, 105, 106, 107, 108, 109, 110, 111, 112, 113, 114, 115, 116, 117, 118, 119, 120, 121, 122, 123, 124, 125, 126, 127, 128] ic_law13_BoxTurns_b3
def ic_law13_BoxTurns : IC :=
 (.seq (.region 0 [
   ⟨(some 2), .mv (.c (.bool false)), none, 0, []⟩] [2])
 (.seq (.region 0 [
   ⟨(some 3), .mv (.c (.int .i64 0)), none, 0, []⟩] [])
 (.seq (.seq (.region 0 [
   ⟨(some 4), .mv (.c (.int .i64 0)), none, 0, []⟩] [])
 (.block 0 ic_law13_BoxTurns_l1))
 (.seq (.seq (.region 0 [
   ⟨(some 41), .mv (.t 0), none, 0, []⟩,
   ⟨(some 42), .lens (.t 41), none, 0, [0]⟩,
   ⟨(some 43), .bin .gtr (.t 42) (.c (.int .i64 100)), none, 0, [1]⟩,
   ⟨(some 44), .mv (.t 43), none, 0, [2]⟩,
   ⟨(some 45), .mv (.t 3), (some (44, false)), 0, [3]⟩,
   ⟨(some 46), .bin .gtr (.t 45) (.c (.int .i64 3000)), (some (44, false)), 0, [4, 3]⟩,
   ⟨(some 47), .pick (.t 44) (.c (.bool true)) (.t 46), none, 0, [3, 5]⟩] [3, 41, 42, 43, 44, 45, 46])
 (.cond (.t 47) [47]
  (.seq (.region 0 [
    ⟨(some 48), .call (.c (.fn f_law13_alive [] [])) [], none, 0, []⟩,
    ⟨(some 2), .mv (.t 48), none, 0, [0, 0, 0]⟩] [48])
  .ret)
  .skip))
 (.seq (.region 0 [
   ⟨(some 49), .call (.c (.fn f_box_New [] [])) [(.c (.int .i64 100))], none, 0, []⟩,
   ⟨(some 5), .mv (.t 49), none, 0, [0, 0, 0]⟩] [49])
 (.seq (.region 0 [
   ⟨(some 6), .mv (.c (.int .i64 0)), none, 0, []⟩] [])
 (.seq (.seq (.region 0 [
   ⟨(some 50), .mv (.t 0), none, 0, []⟩,
   ⟨(some 51), .lens (.t 50), none, 0, [0]⟩,
   ⟨(some 52), .mv (.c (.int .i64 0)), none, 0, []⟩] [0])
 (.block 2 ic_law13_BoxTurns_l2))
 (.seq (.region 1 [
   ⟨(some 70), .build [(.int .i64 0), (.int .i64 0), (.int .i64 0), (.str []), (.int .i64 0), (.int .i64 0), (.bool false)] [(5, 1, (.c (.int .i64 (-1))))], none, 0, []⟩,
   ⟨(some 11), .alloc [(.int .i64 0), (.int .i64 0), (.int .i64 0), (.str []), (.int .i64 0), (.int .i64 0), (.bool false)], none, 0, []⟩,
   ⟨none, .store 7 (.t 11) (.t 70), none, 1, [1, 0, 0, 1]⟩] [70])
 (.seq (.seq (.region 0 [
   ⟨(some 12), .mv (.c (.int .i64 0)), none, 0, []⟩] [])
 (.block 4 ic_law13_BoxTurns_l3))
 (.seq (.region 1 [
   ⟨(some 119), .mv (.t 5), none, 0, []⟩,
   ⟨(some 120), .call (.c (.fn f_box_Boxes_Best [] [])) [(.t 119)], none, 0, [0]⟩,
   ⟨(some 118), .mv (.t 120), none, 0, [1]⟩,
   ⟨(some 121), .ext 0 (.t 118), none, 0, [2]⟩,
   ⟨(some 122), .ext 1 (.t 118), none, 0, [2]⟩,
   ⟨(some 123), .ext 2 (.t 118), none, 0, [2]⟩,
   ⟨(some 19), .alloc [(.int .i64 0), (.int .i64 0), (.int .i64 0), (.str []), (.int .i64 0), (.int .i64 0), (.bool false)], none, 0, []⟩,
   ⟨(some 18), .mv (.t 121), none, 1, [3, 1, 0, 1, 2, 3, 6]⟩,
   ⟨none, .store 7 (.t 19) (.t 122), none, 1, [6, 4, 7, 0, 1, 2, 3, 4, 6, 7]⟩,
   ⟨(some 20), .mv (.t 123), none, 1, [5, 8, 0, 1, 2, 3, 4, 5, 6, 7, 8]⟩] [5, 18, 19, 118, 119, 120, 121, 122, 123])
 (.seq (.region 0 [
   ⟨(some 124), .mv (.t 20), none, 0, []⟩,
   ⟨(some 125), .un .not (.t 124), none, 0, [0]⟩,
   ⟨(some 126), .mv (.t 125), none, 0, [1]⟩,
   ⟨(some 127), .call (.c (.fn f_law13_alive [] [])) [], (some (126, true)), 0, [2, 2]⟩,
   ⟨(some 128), .pick (.t 126) (.t 127) (.c (.bool false)), none, 0, [2, 3]⟩,
   ⟨(some 2), .mv (.t 128), none, 0, [4, 3, 0, 1, 2, 3, 4]⟩] [20, 124, 125, 126, 127, 128])
 .ret)))))))))))
def hs_law13_BoxTurns : List (List Nat) := [[2], [], [], [2, 5, 6, 7, 8, 9, 10, 11, 12, 13, 14, 15, 16, 17, 18, 19, 20, 21, 22, 23, 24, 25, 26, 27, 28, 29, 30, 31, 32, 33, 34, 35, 36, 37, 38, 39, 40, 41, 42, 43, 44, 45, 46, 47, 48, 49, 50, 51, 52, 53, 54, 55, 56, 57, 58, 59, 60, 61, 62, 63, 64, 65, 66, 67, 68, 69, 70, 71, 72, 73, 74, 75, 76, 77, 78, 79, 80, 81, 82, 83, 84, 85, 86, 87, 88, 89, 90, 91, 92, 93, 94, 95, 96, 97, 98, 99, 100, 101, 102, 103, 104, 105, 106, 107, 108, 109, 110, 111, 112, 113, 114, 115, 116, 117, 118, 119, 120, 121, 122, 123, 124, 125, 126, 127, 128], [21, 22, 23, 24, 25, 26, 27], [28], [31, 32, 33, 34, 35, 36, 37, 38, 39, 40], [29, 30], [3, 41, 42, 43, 44, 45, 46], [47], [48], [49], [], [0], [0, 2, 3, 4, 7, 8, 9, 10, 11, 12, 13, 14, 15, 16, 17, 18, 19, 20, 21, 22, 23, 24, 25, 26, 27, 28, 29, 30, 31, 32, 33, 34, 35, 36, 37, 38, 39, 40, 41, 42, 43, 44, 45, 46, 47, 48, 49, 53, 54, 55, 56, 57, 58, 59, 60, 61, 62, 63, 64, 65, 66, 67, 68, 69, 70, 71, 72, 73, 74, 75, 76, 77, 78, 79, 80, 81, 82, 83, 84, 85, 86, 87, 88, 89, 90, 91, 92, 93, 94, 95, 96, 97, 98, 99, 100, 101, 102, 103, 104, 105, 106, 107, 108, 109, 110, 111, 112, 113, 114, 115, 116, 117, 118, 119, 120, 121, 122, 123, 124, 125, 126, 127, 128], [], [53], [54, 55, 56], [7, 57, 58], [8, 9, 59, 60, 61, 62, 63, 64], [10, 65], [66], [67, 68], [69], [70], [], [0, 2, 3, 4, 7, 8, 9, 10, 13, 14, 15, 16, 17, 18, 19, 20, 21, 22, 23, 24, 25, 26, 27, 28, 29, 30, 31, 32, 33, 34, 35, 36, 37, 38, 39, 40, 41, 42, 43, 44, 45, 46, 47, 48, 49, 50, 51, 52, 53, 54, 55, 56, 57, 58, 59, 60, 61, 62, 63, 64, 65, 66, 67, 68, 69, 70, 71, 72, 73, 74, 75, 76, 77, 78, 79, 80, 81, 82, 83, 84, 85, 86, 87, 88, 89, 90, 91, 92, 93, 94, 95, 96, 97, 98, 99, 100, 101, 102, 103, 104, 105, 106, 107, 108, 109, 110, 111, 112, 113, 114, 115, 116, 117, 118, 119, 120, 121, 122, 123, 124, 125, 126, 127, 128], [71, 72], [73], [76, 77, 78, 79, 80, 81], [0, 3, 1, 4, 2, 5, 6, 7], [0, 1, 3, 0, 8, 31, 63, 127], [82, 83, 84, 85, 86, 87], [13, 15, 16, 17, 88, 89, 90, 91, 92, 93, 94, 95, 96, 97, 98, 99, 100, 101, 102, 103, 104, 105, 106, 107, 108, 109, 110, 111, 112, 113, 114, 115], [116], [], [14, 117], [74, 75], [5, 18, 19, 118, 119, 120, 121, 122, 123], [20, 124, 125, 126, 127, 128]]
theorem ok_law13_BoxTurns : FnOk Try.prog f_law13_BoxTurns ic_law13_BoxTurns [.t 2] 129 := ⟨Try.f3, hs_law13_BoxTurns, Try.func3, by kernel_rfl, by kernel_rfl, by kernel_rfl, by kernel_rfl⟩

/-- signalbox/signalboxlaw13.BoxPlays -/
def ic_law13_BoxPlays_b1 : IC :=
 (.seq (.region 0 [
   ⟨(some 20), .bin .lss (.t 19) (.t 18), none, 0, []⟩] [])
 (.seq (.cond (.t 20) [20]
  .skip
  (.exit 0))
 (.seq (.block 1 (.seq (.region 1 [
   ⟨(some 21), .iaddr 9 (.t 17) (.t 19), none, 0, []⟩,
   ⟨(some 22), .load (some 9) (.t 21), none, 0, [0]⟩,
   ⟨(some 8), .alloc [(.int .i64 0), (.int .i64 0), (.int .i64 0), (.int .i64 0), (.int .i64 0), (.str []), (.int .i64 0), (.int .i64 0), (.bool false)], none, 0, []⟩,
   ⟨none, .store 9 (.t 8) (.t 22), none, 1, [2, 1, 0, 1, 2]⟩] [21, 22])
 (.seq (.region 0 [
   ⟨(some 23), .mv (.t 5), none, 0, []⟩,
   ⟨(some 24), .mv (.t 6), none, 0, []⟩,
   ⟨(some 25), .load (some 9) (.t 8), none, 0, []⟩,
   ⟨(some 26), .call (.c (.fn f_law13_do [] [])) [(.t 23), (.t 24), (.t 25)], none, 0, [0, 1, 2]⟩,
   ⟨(some 27), .un .not (.t 26), none, 0, [3]⟩] [8, 23, 24, 25, 26])
 (.cond (.t 27) [27]
  (.seq (.region 0 [
    ⟨(some 4), .mv (.c (.bool false)), none, 0, []⟩] [])
  .ret)
  .skip))))
 (.region 0 [
   ⟨(some 28), .bin .add (.t 19) (.c (.int .i64 1)), none, 0, []⟩,
   ⟨(some 19), .mv (.t 28), none, 0, [0]⟩] [28]))))
def ic_law13_BoxPlays_l1 : IC := .loop [0, 1, 4, 8, 9, 10, 11, 12, 13, 14, 15, 16, 20, 21, 22, 23, 24, 25, 26, 27, 28, 29, 30, 31, 32, 33, 34, 35, 36, 37, 38, 39, 40, 41, 42, 43, 44, 45] ic_law13_BoxPlays_b1
def ic_law13_BoxPlays : IC :=
 (.seq (.region 0 [
   ⟨(some 4), .mv (.c (.bool false)), none, 0, []⟩] [4])
 (.seq (.seq (.region 0 [
   ⟨(some 9), .mv (.t 1), none, 0, []⟩,
   ⟨(some 10), .call (.c (.fn f_law13_few [] [])) [(.t 9)], none, 0, [0]⟩,
   ⟨(some 11), .un .not (.t 10), none, 0, [1]⟩] [9, 10])
 (.cond (.t 11) [11]
  (.seq (.region 0 [
    ⟨(some 12), .call (.c (.fn f_law13_alive [] [])) [], none, 0, []⟩,
    ⟨(some 4), .mv (.t 12), none, 0, [0, 0, 0]⟩] [12])
  .ret)
  .skip))
 (.seq (.region 0 [
   ⟨(some 13), .mv (.t 0), none, 0, []⟩,
   ⟨(some 14), .call (.c (.fn f_box_New [] [])) [(.t 13)], none, 0, [0]⟩,
   ⟨(some 15), .mv (.t 0), none, 0, []⟩,
   ⟨(some 16), .call (.c (.fn f_ref13_New [] [])) [(.t 15)], none, 0, [2, 1]⟩,
   ⟨(some 5), .mv (.t 14), none, 0, [1, 3, 0, 1]⟩,
   ⟨(some 6), .mv (.t 16), none, 0, [3, 4, 0, 1, 2, 3, 4]⟩] [0, 13, 14, 15, 16])
 (.seq (.seq (.region 0 [
   ⟨(some 17), .mv (.t 1), none, 0, []⟩,
   ⟨(some 18), .lens (.t 17), none, 0, [0]⟩,
   ⟨(some 19), .mv (.c (.int .i64 0)), none, 0, []⟩] [1])
 (.block 0 ic_law13_BoxPlays_l1))
 (.seq (.regionD 0 [
   ⟨(some 29), .mv (.t 5), none, 0, []⟩,
   ⟨(some 30), .call (.c (.fn f_box_Boxes_States [] [])) [(.t 29)], none, 0, [0]⟩,
   ⟨(some 31), .mv (.t 6), none, 0, []⟩,
   ⟨(some 32), .nilck (.t 31), none, 0, [2]⟩,
   ⟨(some 33), .faddr 0 (.t 32), none, 0, [3]⟩,
   ⟨(some 34), .load none (.t 33), none, 0, [4]⟩,
   ⟨(some 35), .call (.c (.fn f_ref09_Ints [] [])) [(.t 30), (.t 34)], none, 0, [1, 5, 1]⟩,
   ⟨(some 36), .mv (.t 35), none, 0, [6, 6]⟩,
   ⟨(some 37), .mv (.t 5), (some (36, true)), 0, [7]⟩,
   ⟨(some 38), .call (.c (.fn f_box_Boxes_Free [] [])) [(.t 37)], (some (36, true)), 0, [8, 7, 7]⟩,
   ⟨(some 39), .mv (.t 6), (some (36, true)), 0, [7]⟩,
   ⟨(some 40), .call (.c (.fn f_ref13_Boxes_Free [] [])) [(.t 39)], (some (36, true)), 0, [10, 9, 7]⟩,
   ⟨(some 41), .bin .eql (.t 38) (.t 40), (some (36, true)), 0, [9, 11, 7]⟩,
   ⟨(some 42), .pick (.t 36) (.t 41) (.c (.bool false)), none, 0, [7, 12]⟩,
   ⟨(some 43), .mv (.t 42), none, 0, [13, 11]⟩,
   ⟨(some 44), .call (.c (.fn f_law13_alive [] [])) [], (some (43, true)), 0, [14, 14]⟩,
   ⟨(some 45), .pick (.t 43) (.t 44) (.c (.bool false)), none, 0, [14, 15]⟩,
   ⟨(some 4), .mv (.t 45), none, 0, [16, 15, 0, 1, 2, 3, 4, 5, 6, 7, 8, 9, 10, 11, 12, 13, 14, 15, 16]⟩]
   [0, 2, 3, 4, 5, 1, 6, 7, 8, 10, 9, 11, 12, 13, 14, 15, 16, 17] [0, 1, 0, 4, 12, 28, 63, 127, 255, 511, 255, 2047, 4095, 8191, 16383, 32767, 65535, 131071] [5, 6, 29, 30, 31, 32, 33, 34, 35, 36, 37, 38, 39, 40, 41, 42, 43, 44, 45])
 .ret)))))
def hs_law13_BoxPlays : List (List Nat) := [[4], [9, 10], [11], [12], [0, 13, 14, 15, 16], [1], [0, 1, 4, 8, 9, 10, 11, 12, 13, 14, 15, 16, 20, 21, 22, 23, 24, 25, 26, 27, 28, 29, 30, 31, 32, 33, 34, 35, 36, 37, 38, 39, 40, 41, 42, 43, 44, 45], [], [20], [21, 22], [8, 23, 24, 25, 26], [27], [], [28], [0, 2, 3, 4, 5, 1, 6, 7, 8, 10, 9, 11, 12, 13, 14, 15, 16, 17], [0, 1, 0, 4, 12, 28, 63, 127, 255, 511, 255, 2047, 4095, 8191, 16383, 32767, 65535, 131071], [5, 6, 29, 30, 31, 32, 33, 34, 35, 36, 37, 38, 39, 40, 41, 42, 43, 44, 45]]
theorem ok_law13_BoxPlays : FnOk Try.prog f_law13_BoxPlays ic_law13_BoxPlays [.t 4] 46 := ⟨Try.f4, hs_law13_BoxPlays, Try.func4, by kernel_rfl, by kernel_rfl, by kernel_rfl, by kernel_rfl⟩

/-- signalbox/signalboxlaw13.alive -/
def ic_law13_alive : IC :=
 (.seq (.region 0 [
   ⟨(some 0), .mv (.c (.bool false)), none, 0, []⟩] [0])
 (.seq (.region 0 [
   ⟨(some 16), .call (.c (.fn f_box_New [] [])) [(.c (.int .i64 2))], none, 0, []⟩,
   ⟨(some 1), .mv (.t 16), none, 0, [0, 0, 0]⟩] [16])
 (.seq (.region 0 [
   ⟨(some 18), .mv (.t 1), none, 0, []⟩,
   ⟨(some 19), .call (.c (.fn f_law13_packet [] [])) [(.c (.int .i64 5)), (.c (.int .i64 1))], none, 0, []⟩,
   ⟨(some 20), .call (.c (.fn f_box_Boxes_Put [] [])) [(.t 18), (.t 19)], none, 0, [0, 1, 1]⟩,
   ⟨(some 17), .mv (.t 20), none, 0, [2]⟩,
   ⟨(some 21), .ext 0 (.t 17), none, 0, [3]⟩,
   ⟨(some 22), .ext 1 (.t 17), none, 0, [3]⟩,
   ⟨(some 2), .mv (.t 21), none, 0, [4, 2, 0, 1, 2, 3, 4]⟩,
   ⟨(some 3), .mv (.t 22), none, 0, [5, 6, 0, 1, 2, 3, 4, 5, 6]⟩] [17, 18, 19, 20, 21, 22])
 (.seq (.region 0 [
   ⟨(some 24), .mv (.t 1), none, 0, []⟩,
   ⟨(some 25), .call (.c (.fn f_law13_packet [] [])) [(.c (.int .i64 3)), (.c (.int .i64 2))], none, 0, []⟩,
   ⟨(some 26), .call (.c (.fn f_box_Boxes_Put [] [])) [(.t 24), (.t 25)], none, 0, [0, 1, 1]⟩,
   ⟨(some 23), .mv (.t 26), none, 0, [2]⟩,
   ⟨(some 27), .ext 0 (.t 23), none, 0, [3]⟩,
   ⟨(some 28), .ext 1 (.t 23), none, 0, [3]⟩,
   ⟨(some 4), .mv (.t 27), none, 0, [4, 2, 0, 1, 2, 3, 4]⟩,
   ⟨(some 5), .mv (.t 28), none, 0, [5, 6, 0, 1, 2, 3, 4, 5, 6]⟩] [23, 24, 25, 26, 27, 28])
 (.seq (.region 0 [
   ⟨(some 30), .mv (.t 1), none, 0, []⟩,
   ⟨(some 31), .call (.c (.fn f_law13_packet [] [])) [(.c (.int .i64 1)), (.c (.int .i64 3))], none, 0, []⟩,
   ⟨(some 32), .call (.c (.fn f_box_Boxes_Put [] [])) [(.t 30), (.t 31)], none, 0, [0, 1, 1]⟩,
   ⟨(some 29), .mv (.t 32), none, 0, [2]⟩,
   ⟨(some 33), .ext 0 (.t 29), none, 0, [3]⟩,
   ⟨(some 34), .ext 1 (.t 29), none, 0, [3]⟩,
   ⟨(some 6), .mv (.t 33), none, 0, [4, 2, 0, 1, 2, 3, 4]⟩,
   ⟨(some 7), .mv (.t 34), none, 0, [5, 6, 0, 1, 2, 3, 4, 5, 6]⟩] [6, 29, 30, 31, 32, 33, 34])
 (.seq (.region 1 [
   ⟨(some 36), .mv (.t 1), none, 0, []⟩,
   ⟨(some 37), .call (.c (.fn f_box_Boxes_Best [] [])) [(.t 36)], none, 0, [0]⟩,
   ⟨(some 35), .mv (.t 37), none, 0, [1]⟩,
   ⟨(some 38), .ext 0 (.t 35), none, 0, [2]⟩,
   ⟨(some 39), .ext 1 (.t 35), none, 0, [2]⟩,
   ⟨(some 40), .ext 2 (.t 35), none, 0, [2]⟩,
   ⟨(some 9), .alloc [(.int .i64 0), (.int .i64 0), (.int .i64 0), (.str []), (.int .i64 0), (.int .i64 0), (.bool false)], none, 0, []⟩,
   ⟨(some 8), .mv (.t 38), none, 1, [3, 1, 0, 1, 2, 3, 6]⟩,
   ⟨none, .store 7 (.t 9) (.t 39), none, 1, [6, 4, 7, 0, 1, 2, 3, 4, 6, 7]⟩,
   ⟨(some 10), .mv (.t 40), none, 1, [5, 8, 0, 1, 2, 3, 4, 5, 6, 7, 8]⟩] [35, 36, 37, 38, 39, 40])
 (.seq (.region 0 [
   ⟨(some 41), .mv (.t 1), none, 0, []⟩,
   ⟨(some 42), .call (.c (.fn f_box_Boxes_Sent [] [])) [(.t 41), (.c (.int .i64 1))], none, 0, [0]⟩,
   ⟨(some 11), .mv (.t 42), none, 0, [1, 1, 0, 1]⟩] [41, 42])
 (.seq (.region 1 [
   ⟨(some 44), .mv (.t 1), none, 0, []⟩,
   ⟨(some 45), .call (.c (.fn f_box_Boxes_Take [] [])) [(.t 44)], none, 0, [0]⟩,
   ⟨(some 43), .mv (.t 45), none, 0, [1]⟩,
   ⟨(some 46), .ext 0 (.t 43), none, 0, [2]⟩,
   ⟨(some 47), .ext 1 (.t 43), none, 0, [2]⟩,
   ⟨(some 12), .alloc [(.int .i64 0), (.int .i64 0), (.int .i64 0), (.int .i64 0), (.str []), (.int .i64 0), (.int .i64 0), (.bool false), (.bool false)], none, 0, []⟩,
   ⟨none, .store 9 (.t 12) (.t 46), none, 1, [5, 3, 1, 0, 1, 2, 3, 5]⟩,
   ⟨(some 13), .mv (.t 47), none, 1, [4, 6, 0, 1, 2, 3, 4, 5, 6]⟩] [43, 44, 45, 46, 47])
 (.seq (.region 0 [
   ⟨(some 49), .mv (.t 1), none, 0, []⟩,
   ⟨(some 50), .call (.c (.fn f_law13_packet [] [])) [(.c (.int .i64 1)), (.c (.int .i64 3))], none, 0, []⟩,
   ⟨(some 51), .call (.c (.fn f_box_Boxes_Put [] [])) [(.t 49), (.t 50)], none, 0, [0, 1, 1]⟩,
   ⟨(some 48), .mv (.t 51), none, 0, [2]⟩,
   ⟨(some 52), .ext 0 (.t 48), none, 0, [3]⟩,
   ⟨(some 53), .ext 1 (.t 48), none, 0, [3]⟩,
   ⟨(some 14), .mv (.t 52), none, 0, [4, 2, 0, 1, 2, 3, 4]⟩,
   ⟨(some 15), .mv (.t 53), none, 0, [5, 6, 0, 1, 2, 3, 4, 5, 6]⟩] [1, 48, 49, 50, 51, 52, 53])
 (.seq (.region 0 [
   ⟨(some 54), .mv (.t 2), none, 0, []⟩,
   ⟨(some 55), .bin .eql (.t 54) (.c (.int .i64 0)), none, 0, [0]⟩,
   ⟨(some 56), .mv (.t 55), none, 0, [1]⟩,
   ⟨(some 57), .mv (.t 4), (some (56, true)), 0, [2]⟩,
   ⟨(some 58), .bin .eql (.t 57) (.c (.int .i64 1)), (some (56, true)), 0, [3, 2]⟩,
   ⟨(some 59), .pick (.t 56) (.t 58) (.c (.bool false)), none, 0, [2, 4]⟩,
   ⟨(some 60), .mv (.t 59), none, 0, [5, 2]⟩,
   ⟨(some 61), .mv (.t 14), (some (60, true)), 0, [6]⟩,
   ⟨(some 62), .bin .eql (.t 61) (.c (.int .i64 1)), (some (60, true)), 0, [7, 6]⟩,
   ⟨(some 63), .pick (.t 60) (.t 62) (.c (.bool false)), none, 0, [6, 8]⟩,
   ⟨(some 64), .mv (.t 63), none, 0, [9, 6]⟩,
   ⟨(some 65), .mv (.t 3), (some (64, true)), 0, [10]⟩,
   ⟨(some 66), .mv (.t 5), (some (64, true)), 0, [10]⟩,
   ⟨(some 67), .bin .add (.t 65) (.t 66), (some (64, true)), 0, [11, 12, 10]⟩,
   ⟨(some 68), .mv (.t 11), (some (64, true)), 0, [10]⟩,
   ⟨(some 69), .bin .add (.t 67) (.t 68), (some (64, true)), 0, [13, 14, 10]⟩,
   ⟨(some 70), .mv (.t 13), (some (64, true)), 0, [10]⟩,
   ⟨(some 71), .bin .add (.t 69) (.t 70), (some (64, true)), 0, [15, 16, 10]⟩,
   ⟨(some 72), .mv (.t 15), (some (64, true)), 0, [10]⟩,
   ⟨(some 73), .bin .add (.t 71) (.t 72), (some (64, true)), 0, [17, 18, 10]⟩,
   ⟨(some 74), .bin .eql (.t 73) (.c (.int .i64 0)), (some (64, true)), 0, [19, 10]⟩,
   ⟨(some 75), .pick (.t 64) (.t 74) (.c (.bool false)), none, 0, [10, 20]⟩,
   ⟨(some 76), .mv (.t 75), none, 0, [21, 10]⟩,
   ⟨(some 77), .mv (.t 7), (some (76, true)), 0, [22]⟩,
   ⟨(some 78), .bin .eql (.t 77) (.c (.int .i64 5)), (some (76, true)), 0, [23, 22]⟩,
   ⟨(some 79), .pick (.t 76) (.t 78) (.c (.bool false)), none, 0, [22, 24]⟩,
   ⟨(some 80), .mv (.t 79), none, 0, [25, 22]⟩,
   ⟨(some 81), .mv (.t 8), (some (80, true)), 0, [26]⟩,
   ⟨(some 82), .bin .eql (.t 81) (.c (.int .i64 1)), (some (80, true)), 0, [27, 26]⟩,
   ⟨(some 83), .pick (.t 80) (.t 82) (.c (.bool false)), none, 0, [26, 28]⟩,
   ⟨(some 84), .mv (.t 83), none, 0, [29, 26]⟩,
   ⟨(some 85), .faddr 5 (.t 9), (some (84, true)), 0, [30]⟩,
   ⟨(some 86), .load none (.t 85), (some (84, true)), 0, [31, 30]⟩,
   ⟨(some 87), .bin .eql (.t 86) (.c (.int .i64 2)), (some (84, true)), 0, [32, 30]⟩,
   ⟨(some 88), .pick (.t 84) (.t 87) (.c (.bool false)), none, 0, [30, 33]⟩,
   ⟨(some 89), .mv (.t 88), none, 0, [34, 30]⟩,
   ⟨(some 90), .mv (.t 10), (some (89, true)), 0, [35]⟩,
   ⟨(some 91), .pick (.t 89) (.t 90) (.c (.bool false)), none, 0, [35, 36]⟩,
   ⟨(some 92), .mv (.t 91), none, 0, [37, 35]⟩,
   ⟨(some 93), .faddr 8 (.t 12), (some (92, true)), 0, [38]⟩,
   ⟨(some 94), .load none (.t 93), (some (92, true)), 0, [39, 38]⟩,
   ⟨(some 95), .pick (.t 92) (.t 94) (.c (.bool false)), none, 0, [38, 40]⟩,
   ⟨(some 96), .mv (.t 95), none, 0, [41, 38]⟩,
   ⟨(some 97), .faddr 1 (.t 12), (some (96, true)), 0, [42]⟩,
   ⟨(some 98), .faddr 5 (.t 97), (some (96, true)), 0, [43, 42]⟩,
   ⟨(some 99), .load none (.t 98), (some (96, true)), 0, [44, 42]⟩,
   ⟨(some 100), .bin .eql (.t 99) (.c (.int .i64 2)), (some (96, true)), 0, [45, 42]⟩,
   ⟨(some 101), .pick (.t 96) (.t 100) (.c (.bool false)), none, 0, [42, 46]⟩,
   ⟨(some 0), .mv (.t 101), none, 0, [47, 42, 0, 1, 2, 3, 4, 5, 6, 7, 8, 9, 10, 11, 12, 13, 14, 15, 16, 17, 18, 19, 20, 21, 22, 23, 24, 25, 26, 27, 28, 29, 30, 31, 32, 33, 34, 35, 36, 37, 38, 39, 40, 41, 42, 43, 44, 45, 46, 47]⟩] [2, 3, 4, 5, 7, 8, 9, 10, 11, 12, 13, 14, 15, 54, 55, 56, 57, 58, 59, 60, 61, 62, 63, 64, 65, 66, 67, 68, 69, 70, 71, 72, 73, 74, 75, 76, 77, 78, 79, 80, 81, 82, 83, 84, 85, 86, 87, 88, 89, 90, 91, 92, 93, 94, 95, 96, 97, 98, 99, 100, 101])
 .ret))))))))))
def hs_law13_alive : List (List Nat) := [[0], [16], [17, 18, 19, 20, 21, 22], [23, 24, 25, 26, 27, 28], [6, 29, 30, 31, 32, 33, 34], [35, 36, 37, 38, 39, 40], [41, 42], [43, 44, 45, 46, 47], [1, 48, 49, 50, 51, 52, 53], [2, 3, 4, 5, 7, 8, 9, 10, 11, 12, 13, 14, 15, 54, 55, 56, 57, 58, 59, 60, 61, 62, 63, 64, 65, 66, 67, 68, 69, 70, 71, 72, 73, 74, 75, 76, 77, 78, 79, 80, 81, 82, 83, 84, 85, 86, 87, 88, 89, 90, 91, 92, 93, 94, 95, 96, 97, 98, 99, 100, 101]]
theorem ok_law13_alive : FnOk Try.prog f_law13_alive ic_law13_alive [.t 0] 102 := ⟨Try.f8, hs_law13_alive, Try.func8, by kernel_rfl, by kernel_rfl, by kernel_rfl, by kernel_rfl⟩

/-- signalbox/box.New -/
def ic_box_New : IC :=
 (.seq (.region 0 [
   ⟨(some 2), .mv (.c .nilp), none, 0, []⟩] [2])
 (.seq (.region 2 [
   ⟨(some 3), .mv (.t 0), none, 0, []⟩,
   ⟨(some 4), .mx [(.t 3), (.c (.int .i64 1))], none, 0, [0]⟩,
   ⟨(some 5), .mn [(.t 4), (.c (.int .i64 1000))], none, 0, [1]⟩,
   ⟨(some 6), .mksl 9 80 [(.int .i64 0), (.int .i64 0), (.int .i64 0), (.int .i64 0), (.str []), (.int .i64 0), (.int .i64 0), (.bool false), (.int .i64 0)] (.t 5) (.t 5), none, 0, [2, 2]⟩,
   ⟨(some 7), .build [.nils, .nils, (.int .i64 0)] [(0, 1, (.t 6))], none, 1, [3]⟩,
   ⟨(some 8), .box (.t 7), none, 1, [4]⟩,
   ⟨(some 2), .mv (.t 8), none, 2, [5, 0, 1, 2, 3, 4, 5]⟩] [0, 3, 4, 5, 6, 7, 8])
 .ret))
def hs_box_New : List (List Nat) := [[2], [0, 3, 4, 5, 6, 7, 8]]
theorem ok_box_New : FnOk Try.prog f_box_New ic_box_New [.t 2] 9 := ⟨Try.f9, hs_box_New, Try.func9, by kernel_rfl, by kernel_rfl, by kernel_rfl, by kernel_rfl⟩

/-- (*signalbox/box.Boxes).Put -/
def ic_box_Boxes_Put : IC :=
 (.seq (.region 1 [
   ⟨(some 3), .box (.t 1), none, 0, []⟩,
   ⟨(some 4), .mv (.c (.int .i64 0)), none, 1, []⟩,
   ⟨(some 5), .mv (.c (.int .i64 0)), none, 1, [1]⟩] [1, 4, 5])
 (.seq (.block 0 (.seq (.region 0 [
   ⟨(some 8), .mv (.t 0), none, 0, []⟩,
   ⟨(some 9), .eqv false .ptr (.t 8) (.c .nilp), none, 0, [0]⟩,
   ⟨(some 7), .mv (.t 9), none, 0, [1]⟩] [8, 9])
 (.cond (.t 7) [7]
  (.seq (.region 0 [
    ⟨(some 4), .mv (.c (.int .i64 0)), none, 0, []⟩,
    ⟨(some 5), .mv (.c (.int .i64 1)), none, 0, [0, 0]⟩] [])
  .ret)
  (.seq (.region 0 [
    ⟨(some 11), .faddr 0 (.t 3), none, 0, []⟩,
    ⟨(some 12), .load (some 4) (.t 11), none, 0, [0]⟩,
    ⟨(some 13), .call (.c (.fn f_frame_Key [] [])) [(.t 12)], none, 0, [1]⟩,
    ⟨(some 14), .bin .lss (.t 13) (.c (.int .i64 0)), none, 0, [2]⟩,
    ⟨(some 10), .mv (.t 14), none, 0, [3, 2]⟩] [11, 12, 13, 14])
  (.cond (.t 10) [10]
   (.seq (.region 0 [
     ⟨(some 4), .mv (.c (.int .i64 0)), none, 0, []⟩,
     ⟨(some 5), .mv (.c (.int .i64 4)), none, 0, [0, 0]⟩] [])
   .ret)
   .skip)))))
 (.seq (.region 0 [
   ⟨(some 15), .mv (.t 0), none, 0, []⟩,
   ⟨(some 16), .nilck (.t 15), none, 0, [0]⟩,
   ⟨(some 17), .faddr 0 (.t 16), none, 0, [1]⟩,
   ⟨(some 18), .load none (.t 17), none, 0, [2]⟩,
   ⟨(some 19), .call (.c (.fn f_slices_IndexFunc_of_cell [] [])) [(.t 18), (.c (.fn f_box_Boxes_Put_1 [] []))], none, 0, [3]⟩,
   ⟨(some 6), .mv (.t 19), none, 0, [4, 4, 0, 1, 2, 3, 4]⟩] [15, 16, 17, 18, 19])
 (.seq (.seq (.region 0 [
   ⟨(some 20), .mv (.t 6), none, 0, []⟩,
   ⟨(some 21), .bin .lss (.t 20) (.c (.int .i64 0)), none, 0, [0]⟩] [20])
 (.cond (.t 21) [21]
  (.seq (.region 0 [
    ⟨(some 4), .mv (.c (.int .i64 0)), none, 0, []⟩,
    ⟨(some 5), .mv (.c (.int .i64 5)), none, 0, [0, 0]⟩] [])
  .ret)
  .skip))
 (.seq (.regionD 0 [
   ⟨(some 22), .mv (.t 0), none, 0, []⟩,
   ⟨(some 23), .nilck (.t 22), none, 0, [0]⟩,
   ⟨(some 24), .faddr 0 (.t 23), none, 0, [1]⟩,
   ⟨(some 25), .load none (.t 24), none, 0, [2]⟩,
   ⟨(some 26), .mv (.t 6), none, 0, []⟩,
   ⟨(some 27), .load (some 7) (.t 3), none, 0, []⟩,
   ⟨(some 28), .mv (.t 0), none, 0, []⟩,
   ⟨(some 29), .nilck (.t 28), none, 0, [6]⟩,
   ⟨(some 30), .faddr 2 (.t 29), none, 0, [7]⟩,
   ⟨(some 31), .load none (.t 30), none, 0, [8]⟩,
   ⟨(some 32), .build [(.int .i64 0), (.int .i64 0), (.int .i64 0), (.int .i64 0), (.str []), (.int .i64 0), (.int .i64 0), (.bool false), (.int .i64 0)] [(0, 1, (.c (.int .i64 1))), (1, 7, (.t 27)), (8, 1, (.t 31))], none, 0, [5, 9]⟩,
   ⟨(some 33), .iaddr 9 (.t 25) (.t 26), none, 0, [3, 4, 0, 1, 2, 3, 4, 5, 6, 7, 8, 9, 10]⟩,
   ⟨none, .store 9 (.t 33) (.t 32), none, 0, [11, 10, 0, 1, 2, 3, 4, 5, 6, 7, 8, 9, 10]⟩]
   [0, 1, 2, 4, 6, 7, 8, 3, 5, 9, 10, 11, 12] [0, 1, 3, 7, 0, 0, 0, 64, 192, 448, 992, 2047, 4095] [3, 22, 23, 24, 25, 26, 27, 28, 29, 30, 31, 32, 33])
 (.seq (.region 0 [
   ⟨(some 34), .mv (.t 0), none, 0, []⟩,
   ⟨(some 35), .nilck (.t 34), none, 0, [0]⟩,
   ⟨(some 36), .faddr 2 (.t 35), none, 0, [1]⟩,
   ⟨(some 37), .load none (.t 36), none, 0, [2]⟩,
   ⟨(some 38), .bin .add (.t 37) (.c (.int .i64 1)), none, 0, [3]⟩,
   ⟨(some 39), .nilck (.t 34), none, 0, [0, 0, 1, 2, 3, 4]⟩,
   ⟨(some 40), .faddr 2 (.t 39), none, 0, [5, 0, 1, 2, 3, 4]⟩,
   ⟨none, .store 1 (.t 40) (.t 38), none, 0, [6, 4, 0, 1, 2, 3, 4]⟩] [0, 34, 35, 36, 37, 38, 39, 40])
 (.seq (.region 0 [
   ⟨(some 41), .mv (.t 6), none, 0, []⟩,
   ⟨(some 4), .mv (.t 41), none, 0, [0, 0]⟩,
   ⟨(some 5), .mv (.c (.int .i64 0)), none, 0, [1, 0, 1]⟩] [6, 41])
 .ret)))))))
def hs_box_Boxes_Put : List (List Nat) := [[1, 4, 5], [8, 9], [7], [], [11, 12, 13, 14], [10], [], [15, 16, 17, 18, 19], [20], [21], [], [0, 1, 2, 4, 6, 7, 8, 3, 5, 9, 10, 11, 12], [0, 1, 3, 7, 0, 0, 0, 64, 192, 448, 992, 2047, 4095], [3, 22, 23, 24, 25, 26, 27, 28, 29, 30, 31, 32, 33], [0, 34, 35, 36, 37, 38, 39, 40], [6, 41]]
theorem ok_box_Boxes_Put : FnOk Try.prog f_box_Boxes_Put ic_box_Boxes_Put [.t 4, .t 5] 42 := ⟨Try.f10, hs_box_Boxes_Put, Try.func10, by kernel_rfl, by kernel_rfl, by kernel_rfl, by kernel_rfl⟩

/-- (*signalbox/box.Boxes).Best -/
def ic_box_Boxes_Best_b1 : IC :=
 (.seq (.region 0 [
   ⟨(some 18), .bin .lss (.t 17) (.t 16), none, 0, []⟩] [])
 (.seq (.cond (.t 18) [18]
  .skip
  (.exit 0))
 (.seq (.block 1 (.seq (.region 1 [
   ⟨(some 19), .mv (.t 17), none, 0, []⟩,
   ⟨(some 20), .iaddr 9 (.t 15) (.t 17), none, 0, []⟩,
   ⟨(some 21), .load (some 9) (.t 20), none, 0, [1]⟩,
   ⟨(some 8), .alloc [(.int .i64 0), (.int .i64 0), (.int .i64 0), (.int .i64 0), (.str []), (.int .i64 0), (.int .i64 0), (.bool false), (.int .i64 0)], none, 0, []⟩,
   ⟨(some 7), .mv (.t 19), none, 1, [0, 0, 1, 2, 3]⟩,
   ⟨none, .store 9 (.t 8) (.t 21), none, 1, [3, 2, 4, 0, 1, 2, 3, 4]⟩] [19, 20, 21])
 (.seq (.regionD 0 [
   ⟨(some 22), .faddr 0 (.t 8), none, 0, []⟩,
   ⟨(some 23), .load none (.t 22), none, 0, [0]⟩,
   ⟨(some 24), .bin .eql (.t 23) (.c (.int .i64 1)), none, 0, [1]⟩,
   ⟨(some 25), .mv (.t 24), none, 0, [2]⟩,
   ⟨(some 26), .mv (.t 5), (some (25, true)), 0, [3]⟩,
   ⟨(some 27), .bin .lss (.t 26) (.c (.int .i64 0)), (some (25, true)), 0, [4, 3]⟩,
   ⟨(some 28), .mv (.t 27), (some (25, true)), 0, [5, 3, 3]⟩,
   ⟨(some 29), .mv (.t 6), (some (28, false)), 0, [6]⟩,
   ⟨(some 30), .load (some 9) (.t 8), (some (28, false)), 0, [6]⟩,
   ⟨(some 31), .mv (.t 0), (some (28, false)), 0, [6]⟩,
   ⟨(some 32), .nilck (.t 31), (some (28, false)), 0, [9, 6]⟩,
   ⟨(some 33), .faddr 0 (.t 32), (some (28, false)), 0, [10, 6]⟩,
   ⟨(some 34), .load none (.t 33), (some (28, false)), 0, [11, 6]⟩,
   ⟨(some 35), .mv (.t 5), (some (28, false)), 0, [6]⟩,
   ⟨(some 36), .iaddr 9 (.t 34) (.t 35), (some (28, false)), 0, [12, 13, 6]⟩,
   ⟨(some 37), .load (some 9) (.t 36), (some (28, false)), 0, [14, 6]⟩,
   ⟨(some 38), .call (.t 29) [(.t 30), (.t 37)], (some (28, false)), 0, [7, 8, 15, 6, 6]⟩,
   ⟨(some 39), .pick (.t 28) (.c (.bool true)) (.t 38), (some (25, true)), 0, [6, 16, 3]⟩,
   ⟨(some 40), .pick (.t 25) (.t 39) (.c (.bool false)), none, 0, [3, 17]⟩]
   [0, 1, 2, 3, 4, 5, 6, 7, 9, 10, 11, 13, 8, 12, 14, 15, 16, 17, 18] [0, 1, 3, 7, 15, 31, 63, 127, 127, 127, 639, 1663, 3711, 127, 15999, 32383, 65535, 131071, 262143] [8, 22, 23, 24, 25, 26, 27, 28, 29, 30, 31, 32, 33, 34, 35, 36, 37, 38, 39])
 (.cond (.t 40) [40]
  (.region 0 [
    ⟨(some 41), .mv (.t 7), none, 0, []⟩,
    ⟨(some 5), .mv (.t 41), none, 0, [0, 0]⟩] [7, 41])
  .skip))))
 (.region 0 [
   ⟨(some 42), .bin .add (.t 17) (.c (.int .i64 1)), none, 0, []⟩,
   ⟨(some 17), .mv (.t 42), none, 0, [0]⟩] [42]))))
def ic_box_Boxes_Best_l1 : IC := .loop [2, 4, 7, 8, 9, 10, 11, 12, 13, 14, 18, 19, 20, 21, 22, 23, 24, 25, 26, 27, 28, 29, 30, 31, 32, 33, 34, 35, 36, 37, 38, 39, 40, 41, 42, 43, 44, 45, 46, 47, 48, 49, 50, 51, 52, 53, 54] ic_box_Boxes_Best_b1
def ic_box_Boxes_Best : IC :=
 (.seq (.region 1 [
   ⟨(some 2), .mv (.c (.int .i64 0)), none, 0, []⟩,
   ⟨(some 3), .alloc [(.int .i64 0), (.int .i64 0), (.int .i64 0), (.str []), (.int .i64 0), (.int .i64 0), (.bool false)], none, 0, []⟩,
   ⟨(some 4), .mv (.c (.bool false)), none, 1, [0]⟩] [2, 4])
 (.seq (.seq (.region 0 [
   ⟨(some 9), .mv (.t 0), none, 0, []⟩,
   ⟨(some 10), .eqv false .ptr (.t 9) (.c .nilp), none, 0, [0]⟩] [9])
 (.cond (.t 10) [10]
  (.seq (.region 0 [
    ⟨(some 11), .build [(.int .i64 0), (.int .i64 0), (.int .i64 0), (.str []), (.int .i64 0), (.int .i64 0), (.bool false)] [], none, 0, []⟩,
    ⟨(some 2), .mv (.c (.int .i64 0)), none, 0, []⟩,
    ⟨none, .store 7 (.t 3) (.t 11), none, 0, [0, 1, 0, 1]⟩,
    ⟨(some 4), .mv (.c (.bool false)), none, 0, [2, 0, 1, 2]⟩] [11])
  .ret)
  .skip))
 (.seq (.region 0 [
   ⟨(some 5), .mv (.c (.int .i64 (-1))), none, 0, []⟩] [])
 (.seq (.region 0 [
   ⟨(some 6), .mv (.c (.fn f_box_Boxes_Best_1 [] [])), none, 0, []⟩] [])
 (.seq (.seq (.region 0 [
   ⟨(some 12), .mv (.t 0), none, 0, []⟩,
   ⟨(some 13), .nilck (.t 12), none, 0, [0]⟩,
   ⟨(some 14), .faddr 0 (.t 13), none, 0, [1]⟩,
   ⟨(some 15), .load none (.t 14), none, 0, [2]⟩,
   ⟨(some 16), .lens (.t 15), none, 0, [3]⟩,
   ⟨(some 17), .mv (.c (.int .i64 0)), none, 0, []⟩] [12, 13, 14])
 (.block 0 ic_box_Boxes_Best_l1))
 (.seq (.seq (.region 0 [
   ⟨(some 43), .mv (.t 5), none, 0, []⟩,
   ⟨(some 44), .bin .lss (.t 43) (.c (.int .i64 0)), none, 0, [0]⟩] [43])
 (.cond (.t 44) [44]
  (.seq (.region 0 [
    ⟨(some 45), .build [(.int .i64 0), (.int .i64 0), (.int .i64 0), (.str []), (.int .i64 0), (.int .i64 0), (.bool false)] [], none, 0, []⟩,
    ⟨(some 2), .mv (.c (.int .i64 0)), none, 0, []⟩,
    ⟨none, .store 7 (.t 3) (.t 45), none, 0, [0, 1, 0, 1]⟩,
    ⟨(some 4), .mv (.c (.bool false)), none, 0, [2, 0, 1, 2]⟩] [45])
  .ret)
  .skip))
 (.seq (.regionD 0 [
   ⟨(some 46), .mv (.t 5), none, 0, []⟩,
   ⟨(some 47), .mv (.t 0), none, 0, []⟩,
   ⟨(some 48), .nilck (.t 47), none, 0, [1]⟩,
   ⟨(some 49), .faddr 0 (.t 48), none, 0, [2]⟩,
   ⟨(some 50), .load none (.t 49), none, 0, [3]⟩,
   ⟨(some 51), .mv (.t 5), none, 0, []⟩,
   ⟨(some 52), .iaddr 9 (.t 50) (.t 51), none, 0, [4, 5]⟩,
   ⟨(some 53), .faddr 1 (.t 52), none, 0, [6]⟩,
   ⟨(some 54), .load (some 7) (.t 53), none, 0, [7]⟩,
   ⟨(some 2), .mv (.t 46), none, 0, [0, 0]⟩,
   ⟨none, .store 7 (.t 3) (.t 54), none, 0, [8, 9, 0, 1, 2, 3, 4, 5, 6, 7, 8, 9]⟩,
   ⟨(some 4), .mv (.c (.bool true)), none, 0, [10, 0, 1, 2, 3, 4, 5, 6, 7, 8, 9, 10]⟩]
   [0, 1, 2, 3, 5, 9, 4, 6, 7, 8, 10, 11] [0, 0, 2, 6, 14, 0, 62, 126, 254, 1, 1023, 2047] [0, 5, 46, 47, 48, 49, 50, 51, 52, 53, 54])
 .ret)))))))
def hs_box_Boxes_Best : List (List Nat) := [[2, 4], [9], [10], [11], [], [], [12, 13, 14], [2, 4, 7, 8, 9, 10, 11, 12, 13, 14, 18, 19, 20, 21, 22, 23, 24, 25, 26, 27, 28, 29, 30, 31, 32, 33, 34, 35, 36, 37, 38, 39, 40, 41, 42, 43, 44, 45, 46, 47, 48, 49, 50, 51, 52, 53, 54], [], [18], [19, 20, 21], [0, 1, 2, 3, 4, 5, 6, 7, 9, 10, 11, 13, 8, 12, 14, 15, 16, 17, 18], [0, 1, 3, 7, 15, 31, 63, 127, 127, 127, 639, 1663, 3711, 127, 15999, 32383, 65535, 131071, 262143], [8, 22, 23, 24, 25, 26, 27, 28, 29, 30, 31, 32, 33, 34, 35, 36, 37, 38, 39], [40], [7, 41], [42], [43], [44], [45], [0, 1, 2, 3, 5, 9, 4, 6, 7, 8, 10, 11], [0, 0, 2, 6, 14, 0, 62, 126, 254, 1, 1023, 2047], [0, 5, 46, 47, 48, 49, 50, 51, 52, 53, 54]]
theorem ok_box_Boxes_Best : FnOk Try.prog f_box_Boxes_Best ic_box_Boxes_Best [.t 2, .cell 3 (some 7), .t 4] 55 := ⟨Try.f11, hs_box_Boxes_Best, Try.func11, by kernel_rfl, by kernel_rfl, by kernel_rfl, by kernel_rfl⟩

/-- signalbox/signalboxref02.Key -/
def ic_ref02_Key_b1 : IC :=
 (.seq (.seq (.region 0 [
   ⟨(some 15), .mv (.t 5), none, 0, []⟩,
   ⟨(some 16), .mv (.t 4), none, 0, []⟩,
   ⟨(some 17), .lens (.t 16), none, 0, [1]⟩,
   ⟨(some 18), .bin .lss (.t 15) (.t 17), none, 0, [0, 2]⟩] [15, 16, 17])
 (.cond (.t 18) [18]
  .skip
  (.exit 0)))
 (.seq (.block 1 (.seq (.region 0 [
   ⟨(some 21), .mv (.t 3), none, 0, []⟩,
   ⟨(some 22), .bin .mul (.c (.int .i64 2)) (.t 21), none, 0, [0]⟩,
   ⟨(some 3), .mv (.t 22), none, 0, [1, 0, 1]⟩] [21, 22])
 (.seq (.region 0 [
   ⟨(some 23), .mv (.t 4), none, 0, []⟩,
   ⟨(some 24), .mv (.t 5), none, 0, []⟩,
   ⟨(some 25), .iaddr 1 (.t 23) (.t 24), none, 0, [0, 1]⟩,
   ⟨(some 26), .load none (.t 25), none, 0, [2]⟩] [23, 24, 25])
 (.cond (.t 26) [26]
  (.region 0 [
    ⟨(some 27), .mv (.t 3), none, 0, []⟩,
    ⟨(some 28), .bin .add (.t 27) (.c (.int .i64 1)), none, 0, [0]⟩,
    ⟨(some 3), .mv (.t 28), none, 0, [1, 0, 1]⟩] [27, 28])
  .skip))))
 (.region 0 [
   ⟨(some 19), .mv (.t 5), none, 0, []⟩,
   ⟨(some 20), .bin .add (.t 19) (.c (.int .i64 1)), none, 0, [0]⟩,
   ⟨(some 5), .mv (.t 20), none, 0, [1, 0, 1]⟩] [19, 20])))
def ic_ref02_Key_l1 : IC := .loop [0, 1, 2, 6, 7, 8, 9, 10, 11, 12, 13, 14, 15, 16, 17, 18, 19, 20, 21, 22, 23, 24, 25, 26, 27, 28, 29] ic_ref02_Key_b1
def ic_ref02_Key : IC :=
 (.seq (.region 1 [
   ⟨(some 1), .box (.t 0), none, 0, []⟩,
   ⟨(some 2), .mv (.c (.int .i64 0)), none, 1, []⟩] [0, 2])
 (.seq (.seq (.region 0 [
   ⟨(some 6), .load (some 4) (.t 1), none, 0, []⟩,
   ⟨(some 7), .call (.c (.fn f_ref02_Right [] [])) [(.t 6)], none, 0, [0]⟩,
   ⟨(some 8), .un .not (.t 7), none, 0, [1]⟩,
   ⟨(some 9), .mv (.t 8), none, 0, [2, 1]⟩,
   ⟨(some 10), .load (some 4) (.t 1), (some (9, false)), 0, [3]⟩,
   ⟨(some 11), .call (.c (.fn f_ref02_Has [] [])) [(.t 10), (.c (.int .i64 4))], (some (9, false)), 0, [4, 3, 3]⟩,
   ⟨(some 12), .pick (.t 9) (.c (.bool true)) (.t 11), none, 0, [3, 5]⟩] [6, 7, 8, 9, 10, 11])
 (.cond (.t 12) [12]
  (.seq (.region 0 [
    ⟨(some 2), .mv (.c (.int .i64 (-1))), none, 0, []⟩] [])
  .ret)
  .skip))
 (.seq (.region 0 [
   ⟨(some 3), .mv (.c (.int .i64 0)), none, 0, []⟩] [])
 (.seq (.region 0 [
   ⟨(some 13), .load (some 4) (.t 1), none, 0, []⟩,
   ⟨(some 14), .call (.c (.fn f_ref02_KeyBits [] [])) [(.t 13)], none, 0, [0]⟩,
   ⟨(some 4), .mv (.t 14), none, 0, [1, 1, 0, 1]⟩] [1, 13, 14])
 (.seq (.seq (.region 0 [
   ⟨(some 5), .mv (.c (.int .i64 0)), none, 0, []⟩] [])
 (.block 0 ic_ref02_Key_l1))
 (.seq (.region 0 [
   ⟨(some 29), .mv (.t 3), none, 0, []⟩,
   ⟨(some 2), .mv (.t 29), none, 0, [0, 0]⟩] [3, 29])
 .ret))))))
def hs_ref02_Key : List (List Nat) := [[0, 2], [6, 7, 8, 9, 10, 11], [12], [], [], [1, 13, 14], [], [0, 1, 2, 6, 7, 8, 9, 10, 11, 12, 13, 14, 15, 16, 17, 18, 19, 20, 21, 22, 23, 24, 25, 26, 27, 28, 29], [15, 16, 17], [18], [21, 22], [23, 24, 25], [26], [27, 28], [19, 20], [3, 29]]
theorem ok_ref02_Key : FnOk Try.prog f_ref02_Key ic_ref02_Key [.t 2] 30 := ⟨Try.f12, hs_ref02_Key, Try.func12, by kernel_rfl, by kernel_rfl, by kernel_rfl, by kernel_rfl⟩

/-- (*signalbox/box.Boxes).Sent -/
def ic_box_Boxes_Sent : IC :=
 (.seq (.region 0 [
   ⟨(some 4), .mv (.c (.int .i64 0)), none, 0, []⟩] [4])
 (.seq (.region 0 [
   ⟨(some 5), .mv (.t 0), none, 0, []⟩,
   ⟨(some 6), .mv (.t 1), none, 0, []⟩,
   ⟨(some 7), .call (.c (.fn f_box_Boxes_ends [] [])) [(.t 5), (.t 6), (.c (.int .i64 2))], none, 0, [0, 1]⟩,
   ⟨(some 4), .mv (.t 7), none, 0, [2, 2, 0, 1, 2]⟩] [0, 1, 5, 6, 7])
 .ret))
def hs_box_Boxes_Sent : List (List Nat) := [[4], [0, 1, 5, 6, 7]]
theorem ok_box_Boxes_Sent : FnOk Try.prog f_box_Boxes_Sent ic_box_Boxes_Sent [.t 4] 8 := ⟨Try.f13, hs_box_Boxes_Sent, Try.func13, by kernel_rfl, by kernel_rfl, by kernel_rfl, by kernel_rfl⟩

/-- signalbox/signalboxlaw13.few -/
def ic_law13_few_b1 : IC :=
 (.seq (.seq (.region 0 [
   ⟨(some 5), .mv (.t 4), none, 0, []⟩,
   ⟨(some 6), .mv (.t 0), none, 0, []⟩,
   ⟨(some 7), .lens (.t 6), none, 0, [1]⟩,
   ⟨(some 8), .bin .lss (.t 5) (.t 7), none, 0, [0, 2]⟩,
   ⟨(some 9), .mv (.t 8), none, 0, [3]⟩,
   ⟨(some 10), .mv (.t 4), (some (9, true)), 0, [4]⟩,
   ⟨(some 11), .bin .leq (.t 10) (.c (.int .i64 400)), (some (9, true)), 0, [5, 4]⟩,
   ⟨(some 12), .pick (.t 9) (.t 11) (.c (.bool false)), none, 0, [4, 6]⟩] [5, 6, 7, 8, 9, 10, 11])
 (.cond (.t 12) [12]
  .skip
  (.exit 0)))
 (.seq (.block 1 (.region 0 [
   ⟨(some 15), .mv (.t 3), none, 0, []⟩,
   ⟨(some 16), .mv (.t 0), none, 0, []⟩,
   ⟨(some 17), .mv (.t 4), none, 0, []⟩,
   ⟨(some 18), .iaddr 9 (.t 16) (.t 17), none, 0, [1, 2]⟩,
   ⟨(some 19), .faddr 2 (.t 18), none, 0, [3]⟩,
   ⟨(some 20), .faddr 0 (.t 19), none, 0, [4]⟩,
   ⟨(some 21), .faddr 3 (.t 20), none, 0, [5]⟩,
   ⟨(some 22), .load none (.t 21), none, 0, [6]⟩,
   ⟨(some 23), .lenst (.t 22), none, 0, [7]⟩,
   ⟨(some 24), .mn [(.t 23), (.c (.int .i64 5000))], none, 0, [8]⟩,
   ⟨(some 25), .bin .add (.t 15) (.t 24), none, 0, [0, 9]⟩,
   ⟨(some 3), .mv (.t 25), none, 0, [10, 0, 1, 2, 3, 4, 5, 6, 7, 8, 9, 10]⟩] [15, 16, 17, 18, 19, 20, 21, 22, 23, 24, 25]))
 (.region 0 [
   ⟨(some 13), .mv (.t 4), none, 0, []⟩,
   ⟨(some 14), .bin .add (.t 13) (.c (.int .i64 1)), none, 0, [0]⟩,
   ⟨(some 4), .mv (.t 14), none, 0, [1, 0, 1]⟩] [13, 14])))
def ic_law13_few_l1 : IC := .loop [2, 5, 6, 7, 8, 9, 10, 11, 12, 13, 14, 15, 16, 17, 18, 19, 20, 21, 22, 23, 24, 25, 26, 27, 28, 29, 30, 31, 32] ic_law13_few_b1
def ic_law13_few : IC :=
 (.seq (.region 0 [
   ⟨(some 2), .mv (.c (.bool false)), none, 0, []⟩] [2])
 (.seq (.region 0 [
   ⟨(some 3), .mv (.c (.int .i64 0)), none, 0, []⟩] [])
 (.seq (.seq (.region 0 [
   ⟨(some 4), .mv (.c (.int .i64 0)), none, 0, []⟩] [])
 (.block 0 ic_law13_few_l1))
 (.seq (.region 0 [
   ⟨(some 26), .mv (.t 0), none, 0, []⟩,
   ⟨(some 27), .lens (.t 26), none, 0, [0]⟩,
   ⟨(some 28), .bin .leq (.t 27) (.c (.int .i64 400)), none, 0, [1]⟩,
   ⟨(some 29), .mv (.t 28), none, 0, [2]⟩,
   ⟨(some 30), .mv (.t 3), (some (29, true)), 0, [3]⟩,
   ⟨(some 31), .bin .leq (.t 30) (.c (.int .i64 8000)), (some (29, true)), 0, [4, 3]⟩,
   ⟨(some 32), .pick (.t 29) (.t 31) (.c (.bool false)), none, 0, [3, 5]⟩,
   ⟨(some 2), .mv (.t 32), none, 0, [6, 3, 0, 1, 2, 3, 4, 5, 6]⟩] [0, 3, 26, 27, 28, 29, 30, 31, 32])
 .ret))))
def hs_law13_few : List (List Nat) := [[2], [], [], [2, 5, 6, 7, 8, 9, 10, 11, 12, 13, 14, 15, 16, 17, 18, 19, 20, 21, 22, 23, 24, 25, 26, 27, 28, 29, 30, 31, 32], [5, 6, 7, 8, 9, 10, 11], [12], [15, 16, 17, 18, 19, 20, 21, 22, 23, 24, 25], [13, 14], [0, 3, 26, 27, 28, 29, 30, 31, 32]]
theorem ok_law13_few : FnOk Try.prog f_law13_few ic_law13_few [.t 2] 33 := ⟨Try.f14, hs_law13_few, Try.func14, by kernel_rfl, by kernel_rfl, by kernel_rfl, by kernel_rfl⟩

/-- signalbox/signalboxref13.New -/
def ic_ref13_New : IC :=
 (.seq (.region 0 [
   ⟨(some 2), .mv (.c .nilp), none, 0, []⟩] [2])
 (.seq (.seq (.region 0 [
   ⟨(some 3), .mv (.t 0), none, 0, []⟩,
   ⟨(some 4), .bin .lss (.t 3) (.c (.int .i64 1)), none, 0, [0]⟩] [3])
 (.cond (.t 4) [4]
  (.region 0 [
    ⟨(some 0), .mv (.c (.int .i64 1)), none, 0, []⟩] [])
  .skip))
 (.seq (.seq (.region 0 [
   ⟨(some 5), .mv (.t 0), none, 0, []⟩,
   ⟨(some 6), .bin .gtr (.t 5) (.c (.int .i64 1000)), none, 0, [0]⟩] [5])
 (.cond (.t 6) [6]
  (.region 0 [
    ⟨(some 0), .mv (.c (.int .i64 1000)), none, 0, []⟩] [])
  .skip))
 (.seq (.regionD 3 [
   ⟨(some 7), .mv (.t 0), none, 0, []⟩,
   ⟨(some 8), .mksl 1 8 [(.int .i64 0)] (.t 7) (.t 7), none, 0, [0, 0]⟩,
   ⟨(some 9), .mv (.t 0), none, 1, []⟩,
   ⟨(some 10), .mksl 7 64 [(.int .i64 0), (.int .i64 0), (.int .i64 0), (.str []), (.int .i64 0), (.int .i64 0), (.bool false)] (.t 9) (.t 9), none, 1, [2, 2]⟩,
   ⟨(some 11), .build [.nils, .nils, .nils, .nils] [(0, 1, (.t 8)), (1, 1, (.t 10))], none, 2, [1, 3]⟩,
   ⟨(some 12), .box (.t 11), none, 2, [4]⟩,
   ⟨(some 2), .mv (.t 12), none, 3, [5, 0, 1, 2, 3, 4, 5]⟩]
   [0, 2, 1, 3, 4, 5, 6] [0, 1, 0, 4, 15, 31, 63] [0, 7, 8, 9, 10, 11, 12])
 .ret))))
def hs_ref13_New : List (List Nat) := [[2], [3], [4], [], [5], [6], [], [0, 2, 1, 3, 4, 5, 6], [0, 1, 0, 4, 15, 31, 63], [0, 7, 8, 9, 10, 11, 12]]
theorem ok_ref13_New : FnOk Try.prog f_ref13_New ic_ref13_New [.t 2] 13 := ⟨Try.f15, hs_ref13_New, Try.func15, by kernel_rfl, by kernel_rfl, by kernel_rfl, by kernel_rfl⟩

/-- signalbox/signalboxlaw13.do -/
def ic_law13_do : IC :=
 (.seq (.region 1 [
   ⟨(some 5), .box (.t 2), none, 0, []⟩,
   ⟨(some 6), .mv (.c (.bool false)), none, 1, []⟩] [2, 6])
 (.seq (.seq (.region 0 [
   ⟨(some 24), .faddr 0 (.t 5), none, 0, []⟩,
   ⟨(some 25), .load none (.t 24), none, 0, [0]⟩] [24])
 (.block 0 (.seq (.region 0 [
   ⟨(some 27), .bin .eql (.t 25) (.c (.int .i64 0)), none, 0, []⟩,
   ⟨(some 26), .mv (.t 27), none, 0, [0]⟩] [27])
 (.cond (.t 26) [26]
  (.seq (.region 0 [
    ⟨(some 29), .mv (.t 0), none, 0, []⟩,
    ⟨(some 30), .faddr 2 (.t 5), none, 0, []⟩,
    ⟨(some 31), .load (some 7) (.t 30), none, 0, [1]⟩,
    ⟨(some 32), .call (.c (.fn f_box_Boxes_Put [] [])) [(.t 29), (.t 31)], none, 0, [0, 2]⟩,
    ⟨(some 28), .mv (.t 32), none, 0, [3]⟩,
    ⟨(some 33), .ext 0 (.t 28), none, 0, [4]⟩,
    ⟨(some 34), .ext 1 (.t 28), none, 0, [4]⟩,
    ⟨(some 7), .mv (.t 33), none, 0, [5, 3, 0, 1, 2, 3, 4, 5]⟩,
    ⟨(some 8), .mv (.t 34), none, 0, [6, 7, 0, 1, 2, 3, 4, 5, 6, 7]⟩] [0, 28, 29, 30, 31, 32, 33, 34])
  (.seq (.region 0 [
    ⟨(some 36), .mv (.t 1), none, 0, []⟩,
    ⟨(some 37), .faddr 2 (.t 5), none, 0, []⟩,
    ⟨(some 38), .load (some 7) (.t 37), none, 0, [1]⟩,
    ⟨(some 39), .call (.c (.fn f_ref13_Boxes_Put [] [])) [(.t 36), (.t 38)], none, 0, [0, 2]⟩,
    ⟨(some 35), .mv (.t 39), none, 0, [3]⟩,
    ⟨(some 40), .ext 0 (.t 35), none, 0, [4]⟩,
    ⟨(some 41), .ext 1 (.t 35), none, 0, [4]⟩,
    ⟨(some 9), .mv (.t 40), none, 0, [5, 3, 0, 1, 2, 3, 4, 5]⟩,
    ⟨(some 10), .mv (.t 41), none, 0, [6, 7, 0, 1, 2, 3, 4, 5, 6, 7]⟩] [1, 5, 35, 36, 37, 38, 39, 40, 41])
  (.seq (.region 0 [
    ⟨(some 42), .mv (.t 7), none, 0, []⟩,
    ⟨(some 43), .mv (.t 9), none, 0, []⟩,
    ⟨(some 44), .bin .eql (.t 42) (.t 43), none, 0, [0, 1]⟩,
    ⟨(some 45), .mv (.t 44), none, 0, [2]⟩,
    ⟨(some 46), .mv (.t 8), (some (45, true)), 0, [3]⟩,
    ⟨(some 47), .mv (.t 10), (some (45, true)), 0, [3]⟩,
    ⟨(some 48), .bin .eql (.t 46) (.t 47), (some (45, true)), 0, [4, 5, 3]⟩,
    ⟨(some 49), .pick (.t 45) (.t 48) (.c (.bool false)), none, 0, [3, 6]⟩,
    ⟨(some 6), .mv (.t 49), none, 0, [7, 3, 0, 1, 2, 3, 4, 5, 6, 7]⟩] [7, 8, 9, 10, 42, 43, 44, 45, 46, 47, 48, 49])
  .ret)))
  (.seq (.region 0 [
    ⟨(some 51), .bin .eql (.t 25) (.c (.int .i64 1)), none, 0, []⟩,
    ⟨(some 50), .mv (.t 51), none, 0, [0]⟩] [51])
  (.cond (.t 50) [50]
   (.seq (.region 1 [
     ⟨(some 53), .mv (.t 0), none, 0, []⟩,
     ⟨(some 54), .call (.c (.fn f_box_Boxes_Best [] [])) [(.t 53)], none, 0, [0]⟩,
     ⟨(some 52), .mv (.t 54), none, 0, [1]⟩,
     ⟨(some 55), .ext 0 (.t 52), none, 0, [2]⟩,
     ⟨(some 56), .ext 1 (.t 52), none, 0, [2]⟩,
     ⟨(some 57), .ext 2 (.t 52), none, 0, [2]⟩,
     ⟨(some 12), .alloc [(.int .i64 0), (.int .i64 0), (.int .i64 0), (.str []), (.int .i64 0), (.int .i64 0), (.bool false)], none, 0, []⟩,
     ⟨(some 11), .mv (.t 55), none, 1, [3, 1, 0, 1, 2, 3, 6]⟩,
     ⟨none, .store 7 (.t 12) (.t 56), none, 1, [6, 4, 7, 0, 1, 2, 3, 4, 6, 7]⟩,
     ⟨(some 13), .mv (.t 57), none, 1, [5, 8, 0, 1, 2, 3, 4, 5, 6, 7, 8]⟩] [0, 52, 53, 54, 55, 56, 57])
   (.seq (.region 0 [
     ⟨(some 58), .mv (.t 1), none, 0, []⟩,
     ⟨(some 59), .call (.c (.fn f_ref13_Boxes_Best [] [])) [(.t 58)], none, 0, [0]⟩,
     ⟨(some 14), .mv (.t 59), none, 0, [1, 1, 0, 1]⟩] [58, 59])
   (.seq (.regionD 0 [
     ⟨(some 60), .mv (.t 13), none, 0, []⟩,
     ⟨(some 61), .mv (.t 14), none, 0, []⟩,
     ⟨(some 62), .bin .geq (.t 61) (.c (.int .i64 0)), none, 0, [1]⟩,
     ⟨(some 63), .eqv false .bool (.t 60) (.t 62), none, 0, [0, 2]⟩,
     ⟨(some 64), .mv (.t 63), none, 0, [3]⟩,
     ⟨(some 65), .mv (.t 13), (some (64, true)), 0, [4]⟩,
     ⟨(some 66), .un .not (.t 65), (some (64, true)), 0, [5, 4]⟩,
     ⟨(some 67), .mv (.t 66), (some (64, true)), 0, [6, 4, 4]⟩,
     ⟨(some 68), .mv (.t 11), (some (67, false)), 0, [7]⟩,
     ⟨(some 69), .mv (.t 14), (some (67, false)), 0, [7]⟩,
     ⟨(some 70), .bin .eql (.t 68) (.t 69), (some (67, false)), 0, [8, 9, 7]⟩,
     ⟨(some 71), .mv (.t 70), (some (67, false)), 0, [10, 7, 7]⟩,
     ⟨(some 72), .load (some 7) (.t 12), (some (71, true)), 0, [11]⟩,
     ⟨(some 73), .mv (.t 1), (some (71, true)), 0, [11]⟩,
     ⟨(some 74), .nilck (.t 73), (some (71, true)), 0, [13, 11]⟩,
     ⟨(some 75), .faddr 1 (.t 74), (some (71, true)), 0, [14, 11]⟩,
     ⟨(some 76), .load none (.t 75), (some (71, true)), 0, [15, 11]⟩,
     ⟨(some 77), .mv (.t 14), (some (71, true)), 0, [11]⟩,
     ⟨(some 78), .iaddr 7 (.t 76) (.t 77), (some (71, true)), 0, [16, 17, 11]⟩,
     ⟨(some 79), .load (some 7) (.t 78), (some (71, true)), 0, [18, 11]⟩,
     ⟨(some 80), .eqv false (.struct [.int, .int, .int, .str, .int, .int, .bool]) (.t 72) (.t 79), (some (71, true)), 0, [12, 19, 11]⟩,
     ⟨(some 81), .pick (.t 71) (.t 80) (.c (.bool false)), (some (67, false)), 0, [11, 20, 7]⟩,
     ⟨(some 82), .pick (.t 67) (.c (.bool true)) (.t 81), (some (64, true)), 0, [7, 21, 4]⟩,
     ⟨(some 83), .pick (.t 64) (.t 82) (.c (.bool false)), none, 0, [4, 22]⟩,
     ⟨(some 84), .mv (.t 83), none, 0, [23, 11]⟩,
     ⟨(some 85), .mv (.t 13), (some (84, true)), 0, [24]⟩,
     ⟨(some 86), .mv (.t 85), (some (84, true)), 0, [25, 24, 24]⟩,
     ⟨(some 87), .mv (.t 11), (some (86, false)), 0, [26]⟩,
     ⟨(some 88), .bin .eql (.t 87) (.c (.int .i64 0)), (some (86, false)), 0, [27, 26]⟩,
     ⟨(some 89), .mv (.t 88), (some (86, false)), 0, [28, 26, 26]⟩,
     ⟨(some 90), .load (some 7) (.t 12), (some (89, true)), 0, [29]⟩,
     ⟨(some 91), .build [(.int .i64 0), (.int .i64 0), (.int .i64 0), (.str []), (.int .i64 0), (.int .i64 0), (.bool false)] [], (some (89, true)), 0, [29]⟩,
     ⟨(some 92), .eqv false (.struct [.int, .int, .int, .str, .int, .int, .bool]) (.t 90) (.t 91), (some (89, true)), 0, [30, 31, 29]⟩,
     ⟨(some 93), .pick (.t 89) (.t 92) (.c (.bool false)), (some (86, false)), 0, [29, 32, 26]⟩,
     ⟨(some 94), .pick (.t 86) (.c (.bool true)) (.t 93), (some (84, true)), 0, [26, 33, 24]⟩,
     ⟨(some 95), .pick (.t 84) (.t 94) (.c (.bool false)), none, 0, [24, 34]⟩,
     ⟨(some 6), .mv (.t 95), none, 0, [35, 29, 0, 1, 2, 3, 4, 5, 6, 7, 8, 9, 10, 11, 12, 13, 14, 15, 16, 17, 18, 19, 20, 21, 22, 23, 24, 25, 26, 27, 28, 29, 30, 31, 32, 33, 34, 35]⟩]
     [0, 1, 2, 3, 4, 5, 6, 7, 8, 9, 10, 11, 13, 14, 15, 17, 12, 16, 18, 19, 20, 21, 22, 23, 24, 25, 26, 27, 28, 29, 31, 30, 32, 33, 34, 35, 36] [0, 0, 2, 7, 15, 31, 63, 127, 255, 255, 1023, 2047, 4095, 4095, 12287, 28671, 61439, 4095, 258047, 520191, 1048575, 2097151, 4194303, 8388607, 16777215, 33554431, 67108863, 134217727, 268435455, 536870911, 1073741823, 1073741823, 4294967295, 8589934591, 17179869183, 34359738367, 68719476735] [1, 11, 12, 13, 14, 60, 61, 62, 63, 64, 65, 66, 67, 68, 69, 70, 71, 72, 73, 74, 75, 76, 77, 78, 79, 80, 81, 82, 83, 84, 85, 86, 87, 88, 89, 90, 91, 92, 93, 94, 95])
   .ret)))
   (.seq (.region 0 [
     ⟨(some 97), .bin .eql (.t 25) (.c (.int .i64 2)), none, 0, []⟩,
     ⟨(some 96), .mv (.t 97), none, 0, [0]⟩] [97])
   (.cond (.t 96) [96]
    (.seq (.regionD 0 [
      ⟨(some 98), .mv (.t 0), none, 0, []⟩,
      ⟨(some 99), .faddr 1 (.t 5), none, 0, []⟩,
      ⟨(some 100), .load none (.t 99), none, 0, [1]⟩,
      ⟨(some 101), .call (.c (.fn f_box_Boxes_Sent [] [])) [(.t 98), (.t 100)], none, 0, [0, 2]⟩,
      ⟨(some 102), .mv (.t 1), none, 0, []⟩,
      ⟨(some 103), .faddr 1 (.t 5), none, 0, []⟩,
      ⟨(some 104), .load none (.t 103), none, 0, [5]⟩,
      ⟨(some 105), .call (.c (.fn f_ref13_Boxes_End [] [])) [(.t 102), (.t 104), (.c (.int .i64 2))], none, 0, [4, 6, 3]⟩,
      ⟨(some 106), .bin .eql (.t 101) (.t 105), none, 0, [3, 7]⟩,
      ⟨(some 6), .mv (.t 106), none, 0, [8, 7, 0, 1, 2, 3, 4, 5, 6, 7, 8]⟩]
      [0, 1, 4, 5, 2, 6, 3, 7, 8, 9] [0, 0, 2, 7, 0, 0, 32, 127, 255, 511] [0, 1, 5, 98, 99, 100, 101, 102, 103, 104, 105, 106])
    .ret)
    (.seq (.region 0 [
      ⟨(some 108), .bin .eql (.t 25) (.c (.int .i64 3)), none, 0, []⟩,
      ⟨(some 107), .mv (.t 108), none, 0, [0]⟩] [108])
    (.cond (.t 107) [107]
     (.seq (.regionD 0 [
       ⟨(some 109), .mv (.t 0), none, 0, []⟩,
       ⟨(some 110), .faddr 1 (.t 5), none, 0, []⟩,
       ⟨(some 111), .load none (.t 110), none, 0, [1]⟩,
       ⟨(some 112), .call (.c (.fn f_box_Boxes_Abort [] [])) [(.t 109), (.t 111)], none, 0, [0, 2]⟩,
       ⟨(some 113), .mv (.t 1), none, 0, []⟩,
       ⟨(some 114), .faddr 1 (.t 5), none, 0, []⟩,
       ⟨(some 115), .load none (.t 114), none, 0, [5]⟩,
       ⟨(some 116), .call (.c (.fn f_ref13_Boxes_End [] [])) [(.t 113), (.t 115), (.c (.int .i64 3))], none, 0, [4, 6, 3]⟩,
       ⟨(some 117), .bin .eql (.t 112) (.t 116), none, 0, [3, 7]⟩,
       ⟨(some 6), .mv (.t 117), none, 0, [8, 7, 0, 1, 2, 3, 4, 5, 6, 7, 8]⟩]
       [0, 1, 4, 5, 2, 6, 3, 7, 8, 9] [0, 0, 2, 7, 0, 0, 32, 127, 255, 511] [0, 1, 5, 109, 110, 111, 112, 113, 114, 115, 116, 117])
     .ret)
     (.seq (.region 0 [
       ⟨(some 119), .bin .eql (.t 25) (.c (.int .i64 4)), none, 0, []⟩,
       ⟨(some 118), .mv (.t 119), none, 0, [0]⟩] [119])
     (.cond (.t 118) [118]
      (.seq (.region 1 [
        ⟨(some 121), .mv (.t 0), none, 0, []⟩,
        ⟨(some 122), .call (.c (.fn f_box_Boxes_Take [] [])) [(.t 121)], none, 0, [0]⟩,
        ⟨(some 120), .mv (.t 122), none, 0, [1]⟩,
        ⟨(some 123), .ext 0 (.t 120), none, 0, [2]⟩,
        ⟨(some 124), .ext 1 (.t 120), none, 0, [2]⟩,
        ⟨(some 15), .alloc [(.int .i64 0), (.int .i64 0), (.int .i64 0), (.int .i64 0), (.str []), (.int .i64 0), (.int .i64 0), (.bool false), (.bool false)], none, 0, []⟩,
        ⟨none, .store 9 (.t 15) (.t 123), none, 1, [5, 3, 1, 0, 1, 2, 3, 5]⟩,
        ⟨(some 16), .mv (.t 124), none, 1, [4, 6, 0, 1, 2, 3, 4, 5, 6]⟩] [0, 120, 121, 122, 123, 124])
      (.seq (.region 1 [
        ⟨(some 126), .mv (.t 1), none, 0, []⟩,
        ⟨(some 127), .call (.c (.fn f_ref13_Boxes_Take [] [])) [(.t 126)], none, 0, [0]⟩,
        ⟨(some 125), .mv (.t 127), none, 0, [1]⟩,
        ⟨(some 128), .ext 0 (.t 125), none, 0, [2]⟩,
        ⟨(some 129), .ext 1 (.t 125), none, 0, [2]⟩,
        ⟨(some 130), .ext 2 (.t 125), none, 0, [2]⟩,
        ⟨(some 18), .alloc [(.int .i64 0), (.int .i64 0), (.int .i64 0), (.str []), (.int .i64 0), (.int .i64 0), (.bool false)], none, 0, []⟩,
        ⟨(some 17), .mv (.t 128), none, 1, [3, 1, 0, 1, 2, 3, 6]⟩,
        ⟨none, .store 7 (.t 18) (.t 129), none, 1, [6, 4, 7, 0, 1, 2, 3, 4, 6, 7]⟩,
        ⟨(some 19), .mv (.t 130), none, 1, [5, 8, 0, 1, 2, 3, 4, 5, 6, 7, 8]⟩] [1, 125, 126, 127, 128, 129, 130])
      (.seq (.region 0 [
        ⟨(some 131), .mv (.t 16), none, 0, []⟩,
        ⟨(some 132), .bin .eql (.t 131) (.c (.int .i64 0)), none, 0, [0]⟩,
        ⟨(some 133), .mv (.t 17), none, 0, []⟩,
        ⟨(some 134), .bin .geq (.t 133) (.c (.int .i64 0)), none, 0, [2]⟩,
        ⟨(some 135), .eqv false .bool (.t 132) (.t 134), none, 0, [1, 3]⟩,
        ⟨(some 136), .mv (.t 135), none, 0, [4]⟩,
        ⟨(some 137), .mv (.t 17), (some (136, true)), 0, [5]⟩,
        ⟨(some 138), .bin .lss (.t 137) (.c (.int .i64 0)), (some (136, true)), 0, [6, 5]⟩,
        ⟨(some 139), .mv (.t 138), (some (136, true)), 0, [7, 5, 5]⟩,
        ⟨(some 140), .mv (.t 16), (some (139, true)), 0, [8]⟩,
        ⟨(some 141), .bin .eql (.t 140) (.c (.int .i64 6)), (some (139, true)), 0, [9, 8]⟩,
        ⟨(some 142), .pick (.t 139) (.t 141) (.c (.bool false)), (some (136, true)), 0, [8, 10, 5]⟩,
        ⟨(some 143), .mv (.t 142), (some (136, true)), 0, [11, 8, 5]⟩,
        ⟨(some 144), .load (some 9) (.t 15), (some (143, true)), 0, [12]⟩,
        ⟨(some 145), .build [(.int .i64 0), (.int .i64 0), (.int .i64 0), (.int .i64 0), (.str []), (.int .i64 0), (.int .i64 0), (.bool false), (.bool false)] [], (some (143, true)), 0, [12]⟩,
        ⟨(some 146), .eqv false (.struct [.int, .int, .int, .int, .str, .int, .int, .bool, .bool]) (.t 144) (.t 145), (some (143, true)), 0, [13, 14, 12]⟩,
        ⟨(some 147), .pick (.t 143) (.t 146) (.c (.bool false)), (some (136, true)), 0, [12, 15, 5]⟩,
        ⟨(some 148), .mv (.t 147), (some (136, true)), 0, [16, 12, 5]⟩,
        ⟨(some 149), .mv (.t 17), (some (148, false)), 0, [17]⟩,
        ⟨(some 150), .bin .geq (.t 149) (.c (.int .i64 0)), (some (148, false)), 0, [18, 17]⟩,
        ⟨(some 151), .mv (.t 150), (some (148, false)), 0, [19, 17, 17]⟩,
        ⟨(some 152), .load (some 9) (.t 15), (some (151, true)), 0, [20]⟩,
        ⟨(some 153), .mv (.t 17), (some (151, true)), 0, [20]⟩,
        ⟨(some 154), .load (some 7) (.t 18), (some (151, true)), 0, [20]⟩,
        ⟨(some 155), .mv (.t 19), (some (151, true)), 0, [20]⟩,
        ⟨(some 156), .build [(.int .i64 0), (.int .i64 0), (.int .i64 0), (.int .i64 0), (.str []), (.int .i64 0), (.int .i64 0), (.bool false), (.bool false)] [(0, 1, (.t 153)), (1, 7, (.t 154)), (8, 1, (.t 155))], (some (151, true)), 0, [22, 23, 24, 20]⟩,
        ⟨(some 157), .eqv false (.struct [.int, .int, .int, .int, .str, .int, .int, .bool, .bool]) (.t 152) (.t 156), (some (151, true)), 0, [21, 25, 20]⟩,
        ⟨(some 158), .pick (.t 151) (.t 157) (.c (.bool false)), (some (148, false)), 0, [20, 26, 17]⟩,
        ⟨(some 159), .pick (.t 148) (.c (.bool true)) (.t 158), (some (136, true)), 0, [17, 27, 5]⟩,
        ⟨(some 160), .pick (.t 136) (.t 159) (.c (.bool false)), none, 0, [5, 28]⟩,
        ⟨(some 6), .mv (.t 160), none, 0, [29, 20, 0, 1, 2, 3, 4, 5, 6, 7, 8, 9, 10, 11, 12, 13, 14, 15, 16, 17, 18, 19, 20, 21, 22, 23, 24, 25, 26, 27, 28, 29]⟩] [15, 16, 17, 18, 19, 131, 132, 133, 134, 135, 136, 137, 138, 139, 140, 141, 142, 143, 144, 145, 146, 147, 148, 149, 150, 151, 152, 153, 154, 155, 156, 157, 158, 159, 160])
      .ret)))
      (.seq (.region 0 [
        ⟨(some 162), .bin .eql (.t 25) (.c (.int .i64 5)), none, 0, []⟩,
        ⟨(some 161), .mv (.t 162), none, 0, [0]⟩] [25, 162])
      (.cond (.t 161) [161]
       (.seq (.region 1 [
         ⟨(some 164), .mv (.t 0), none, 0, []⟩,
         ⟨(some 165), .call (.c (.fn f_box_Boxes_Best [] [])) [(.t 164)], none, 0, [0]⟩,
         ⟨(some 163), .mv (.t 165), none, 0, [1]⟩,
         ⟨(some 166), .ext 0 (.t 163), none, 0, [2]⟩,
         ⟨(some 167), .ext 1 (.t 163), none, 0, [2]⟩,
         ⟨(some 168), .ext 2 (.t 163), none, 0, [2]⟩,
         ⟨(some 21), .alloc [(.int .i64 0), (.int .i64 0), (.int .i64 0), (.str []), (.int .i64 0), (.int .i64 0), (.bool false)], none, 0, []⟩,
         ⟨(some 20), .mv (.t 166), none, 1, [3, 1, 0, 1, 2, 3, 6]⟩,
         ⟨none, .store 7 (.t 21) (.t 167), none, 1, [6, 4, 7, 0, 1, 2, 3, 4, 6, 7]⟩,
         ⟨(some 22), .mv (.t 168), none, 1, [5, 8, 0, 1, 2, 3, 4, 5, 6, 7, 8]⟩] [21, 163, 164, 165, 166, 167, 168])
       (.seq (.region 0 [
         ⟨(some 169), .mv (.t 1), none, 0, []⟩,
         ⟨(some 170), .call (.c (.fn f_ref13_Boxes_Best [] [])) [(.t 169)], none, 0, [0]⟩,
         ⟨(some 23), .mv (.t 170), none, 0, [1, 1, 0, 1]⟩] [169, 170])
       (.seq (.region 0 [
         ⟨(some 171), .mv (.t 22), none, 0, []⟩,
         ⟨(some 172), .mv (.t 23), none, 0, []⟩,
         ⟨(some 173), .bin .geq (.t 172) (.c (.int .i64 0)), none, 0, [1]⟩,
         ⟨(some 174), .eqv false .bool (.t 171) (.t 173), none, 0, [0, 2]⟩,
         ⟨(some 175), .mv (.t 174), none, 0, [3]⟩,
         ⟨(some 176), .mv (.t 22), (some (175, true)), 0, [4]⟩,
         ⟨(some 177), .un .not (.t 176), (some (175, true)), 0, [5, 4]⟩,
         ⟨(some 178), .mv (.t 177), (some (175, true)), 0, [6, 4, 4]⟩,
         ⟨(some 179), .mv (.t 20), (some (178, false)), 0, [7]⟩,
         ⟨(some 180), .mv (.t 23), (some (178, false)), 0, [7]⟩,
         ⟨(some 181), .bin .eql (.t 179) (.t 180), (some (178, false)), 0, [8, 9, 7]⟩,
         ⟨(some 182), .mv (.t 181), (some (178, false)), 0, [10, 7, 7]⟩,
         ⟨(some 183), .mv (.t 0), (some (182, true)), 0, [11]⟩,
         ⟨(some 184), .mv (.t 20), (some (182, true)), 0, [11]⟩,
         ⟨(some 185), .call (.c (.fn f_box_Boxes_Sent [] [])) [(.t 183), (.t 184)], (some (182, true)), 0, [12, 13, 11, 11]⟩,
         ⟨(some 186), .mv (.t 1), (some (182, true)), 0, [11]⟩,
         ⟨(some 187), .mv (.t 23), (some (182, true)), 0, [11]⟩,
         ⟨(some 188), .call (.c (.fn f_ref13_Boxes_End [] [])) [(.t 186), (.t 187), (.c (.int .i64 2))], (some (182, true)), 0, [15, 16, 14, 11]⟩,
         ⟨(some 189), .bin .eql (.t 185) (.t 188), (some (182, true)), 0, [14, 17, 11]⟩,
         ⟨(some 190), .pick (.t 182) (.t 189) (.c (.bool false)), (some (178, false)), 0, [11, 18, 7]⟩,
         ⟨(some 191), .pick (.t 178) (.c (.bool true)) (.t 190), (some (175, true)), 0, [7, 19, 4]⟩,
         ⟨(some 192), .pick (.t 175) (.t 191) (.c (.bool false)), none, 0, [4, 20]⟩,
         ⟨(some 6), .mv (.t 192), none, 0, [21, 17, 0, 1, 2, 3, 4, 5, 6, 7, 8, 9, 10, 11, 12, 13, 14, 15, 16, 17, 18, 19, 20, 21]⟩] [0, 1, 20, 22, 23, 171, 172, 173, 174, 175, 176, 177, 178, 179, 180, 181, 182, 183, 184, 185, 186, 187, 188, 189, 190, 191, 192])
       .ret)))
       .skip))))))))))))))
 (.seq (.region 0 [
   ⟨(some 6), .mv (.c (.bool true)), none, 0, []⟩] [])
 .ret)))
def hs_law13_do : List (List Nat) := [[2, 6], [24], [27], [26], [0, 28, 29, 30, 31, 32, 33, 34], [1, 5, 35, 36, 37, 38, 39, 40, 41], [7, 8, 9, 10, 42, 43, 44, 45, 46, 47, 48, 49], [51], [50], [0, 52, 53, 54, 55, 56, 57], [58, 59], [0, 1, 2, 3, 4, 5, 6, 7, 8, 9, 10, 11, 13, 14, 15, 17, 12, 16, 18, 19, 20, 21, 22, 23, 24, 25, 26, 27, 28, 29, 31, 30, 32, 33, 34, 35, 36], [0, 0, 2, 7, 15, 31, 63, 127, 255, 255, 1023, 2047, 4095, 4095, 12287, 28671, 61439, 4095, 258047, 520191, 1048575, 2097151, 4194303, 8388607, 16777215, 33554431, 67108863, 134217727, 268435455, 536870911, 1073741823, 1073741823, 4294967295, 8589934591, 17179869183, 34359738367, 68719476735], [1, 11, 12, 13, 14, 60, 61, 62, 63, 64, 65, 66, 67, 68, 69, 70, 71, 72, 73, 74, 75, 76, 77, 78, 79, 80, 81, 82, 83, 84, 85, 86, 87, 88, 89, 90, 91, 92, 93, 94, 95], [97], [96], [0, 1, 4, 5, 2, 6, 3, 7, 8, 9], [0, 0, 2, 7, 0, 0, 32, 127, 255, 511], [0, 1, 5, 98, 99, 100, 101, 102, 103, 104, 105, 106], [108], [107], [0, 1, 4, 5, 2, 6, 3, 7, 8, 9], [0, 0, 2, 7, 0, 0, 32, 127, 255, 511], [0, 1, 5, 109, 110, 111, 112, 113, 114, 115, 116, 117], [119], [118], [0, 120, 121, 122, 123, 124], [1, 125, 126, 127, 128, 129, 130], [15, 16, 17, 18, 19, 131, 132, 133, 134, 135, 136, 137, 138, 139, 140, 141, 142, 143, 144, 145, 146, 147, 148, 149, 150, 151, 152, 153, 154, 155, 156, 157, 158, 159, 160], [25, 162], [161], [21, 163, 164, 165, 166, 167, 168], [169, 170], [0, 1, 20, 22, 23, 171, 172, 173, 174, 175, 176, 177, 178, 179, 180, 181, 182, 183, 184, 185, 186, 187, 188, 189, 190, 191, 192], []]
theorem ok_law13_do : FnOk Try.prog f_law13_do ic_law13_do [.t 6] 193 := ⟨Try.f16, hs_law13_do, Try.func16, by kernel_rfl, by kernel_rfl, by kernel_rfl, by kernel_rfl⟩

/-- signalbox/signalboxref09.Ints -/
def ic_ref09_Ints_b1 : IC :=
 (.seq (.seq (.region 0 [
   ⟨(some 11), .mv (.t 5), none, 0, []⟩,
   ⟨(some 12), .mv (.t 0), none, 0, []⟩,
   ⟨(some 13), .lens (.t 12), none, 0, [1]⟩,
   ⟨(some 14), .bin .lss (.t 11) (.t 13), none, 0, [0, 2]⟩] [11, 12, 13])
 (.cond (.t 14) [14]
  .skip
  (.exit 0)))
 (.seq (.block 1 (.seq (.regionD 0 [
   ⟨(some 17), .mv (.t 0), none, 0, []⟩,
   ⟨(some 18), .mv (.t 5), none, 0, []⟩,
   ⟨(some 19), .iaddr 1 (.t 17) (.t 18), none, 0, [0, 1]⟩,
   ⟨(some 20), .load none (.t 19), none, 0, [2]⟩,
   ⟨(some 21), .mv (.t 1), none, 0, []⟩,
   ⟨(some 22), .mv (.t 5), none, 0, []⟩,
   ⟨(some 23), .iaddr 1 (.t 21) (.t 22), none, 0, [4, 5]⟩,
   ⟨(some 24), .load none (.t 23), none, 0, [6]⟩,
   ⟨(some 25), .bin .neq (.t 20) (.t 24), none, 0, [3, 7]⟩]
   [0, 1, 2, 4, 5, 6, 3, 7, 8] [0, 0, 3, 7, 0, 0, 48, 112, 255] [17, 18, 19, 20, 21, 22, 23, 24])
 (.cond (.t 25) [25]
  (.seq (.region 0 [
    ⟨(some 4), .mv (.c (.bool false)), none, 0, []⟩] [])
  .ret)
  .skip)))
 (.region 0 [
   ⟨(some 15), .mv (.t 5), none, 0, []⟩,
   ⟨(some 16), .bin .add (.t 15) (.c (.int .i64 1)), none, 0, [0]⟩,
   ⟨(some 5), .mv (.t 16), none, 0, [1, 0, 1]⟩] [15, 16])))
def ic_ref09_Ints_l1 : IC := .loop [4, 6, 7, 8, 9, 10, 11, 12, 13, 14, 15, 16, 17, 18, 19, 20, 21, 22, 23, 24, 25] ic_ref09_Ints_b1
def ic_ref09_Ints : IC :=
 (.seq (.region 0 [
   ⟨(some 4), .mv (.c (.bool false)), none, 0, []⟩] [4])
 (.seq (.seq (.region 0 [
   ⟨(some 6), .mv (.t 0), none, 0, []⟩,
   ⟨(some 7), .lens (.t 6), none, 0, [0]⟩,
   ⟨(some 8), .mv (.t 1), none, 0, []⟩,
   ⟨(some 9), .lens (.t 8), none, 0, [2]⟩,
   ⟨(some 10), .bin .neq (.t 7) (.t 9), none, 0, [1, 3]⟩] [6, 7, 8, 9])
 (.cond (.t 10) [10]
  (.seq (.region 0 [
    ⟨(some 4), .mv (.c (.bool false)), none, 0, []⟩] [])
  .ret)
  .skip))
 (.seq (.seq (.region 0 [
   ⟨(some 5), .mv (.c (.int .i64 0)), none, 0, []⟩] [])
 (.block 0 ic_ref09_Ints_l1))
 (.seq (.region 0 [
   ⟨(some 4), .mv (.c (.bool true)), none, 0, []⟩] [])
 .ret))))
def hs_ref09_Ints : List (List Nat) := [[4], [6, 7, 8, 9], [10], [], [], [4, 6, 7, 8, 9, 10, 11, 12, 13, 14, 15, 16, 17, 18, 19, 20, 21, 22, 23, 24, 25], [11, 12, 13], [14], [0, 1, 2, 4, 5, 6, 3, 7, 8], [0, 0, 3, 7, 0, 0, 48, 112, 255], [17, 18, 19, 20, 21, 22, 23, 24], [25], [], [15, 16], []]
theorem ok_ref09_Ints : FnOk Try.prog f_ref09_Ints ic_ref09_Ints [.t 4] 26 := ⟨Try.f17, hs_ref09_Ints, Try.func17, by kernel_rfl, by kernel_rfl, by kernel_rfl, by kernel_rfl⟩

/-- (*signalbox/box.Boxes).States -/
def ic_box_Boxes_States_b1 : IC :=
 (.seq (.region 0 [
   ⟨(some 15), .bin .lss (.t 14) (.t 13), none, 0, []⟩] [])
 (.seq (.cond (.t 15) [15]
  .skip
  (.exit 0))
 (.seq (.block 1 (.seq (.region 1 [
   ⟨(some 16), .iaddr 9 (.t 12) (.t 14), none, 0, []⟩,
   ⟨(some 17), .load (some 9) (.t 16), none, 0, [0]⟩,
   ⟨(some 5), .alloc [(.int .i64 0), (.int .i64 0), (.int .i64 0), (.int .i64 0), (.str []), (.int .i64 0), (.int .i64 0), (.bool false), (.int .i64 0)], none, 0, []⟩,
   ⟨none, .store 9 (.t 5) (.t 17), none, 1, [2, 1, 0, 1, 2]⟩] [16, 17])
 (.region 2 [
   ⟨(some 18), .mv (.t 3), none, 0, []⟩,
   ⟨(some 19), .faddr 0 (.t 5), none, 0, []⟩,
   ⟨(some 20), .load none (.t 19), none, 0, [1]⟩,
   ⟨(some 21), .bslice 1 [(.t 20)], none, 0, [2]⟩,
   ⟨(some 22), .app 1 8 (.t 18) (.t 21), none, 1, [0, 3]⟩,
   ⟨(some 3), .mv (.t 22), none, 2, [4, 4, 0, 1, 2, 3, 4]⟩] [5, 18, 19, 20, 21, 22])))
 (.region 0 [
   ⟨(some 23), .bin .add (.t 14) (.c (.int .i64 1)), none, 0, []⟩,
   ⟨(some 14), .mv (.t 23), none, 0, [0]⟩] [23]))))
def ic_box_Boxes_States_l1 : IC := .loop [0, 2, 5, 6, 7, 8, 9, 10, 11, 15, 16, 17, 18, 19, 20, 21, 22, 23, 24] ic_box_Boxes_States_b1
def ic_box_Boxes_States : IC :=
 (.seq (.region 0 [
   ⟨(some 2), .mv (.c .nils), none, 0, []⟩] [2])
 (.seq (.region 0 [
   ⟨(some 3), .mv (.c .nils), none, 0, []⟩] [])
 (.seq (.seq (.region 0 [
   ⟨(some 6), .mv (.t 0), none, 0, []⟩,
   ⟨(some 7), .eqv false .ptr (.t 6) (.c .nilp), none, 0, [0]⟩] [6])
 (.cond (.t 7) [7]
  (.seq (.region 0 [
    ⟨(some 8), .mv (.t 3), none, 0, []⟩,
    ⟨(some 2), .mv (.t 8), none, 0, [0, 0]⟩] [3, 8])
  .ret)
  .skip))
 (.seq (.seq (.region 0 [
   ⟨(some 9), .mv (.t 0), none, 0, []⟩,
   ⟨(some 10), .nilck (.t 9), none, 0, [0]⟩,
   ⟨(some 11), .faddr 0 (.t 10), none, 0, [1]⟩,
   ⟨(some 12), .load none (.t 11), none, 0, [2]⟩,
   ⟨(some 13), .lens (.t 12), none, 0, [3]⟩,
   ⟨(some 14), .mv (.c (.int .i64 0)), none, 0, []⟩] [0, 9, 10, 11])
 (.block 0 ic_box_Boxes_States_l1))
 (.seq (.region 0 [
   ⟨(some 24), .mv (.t 3), none, 0, []⟩,
   ⟨(some 2), .mv (.t 24), none, 0, [0, 0]⟩] [3, 24])
 .ret)))))
def hs_box_Boxes_States : List (List Nat) := [[2], [], [6], [7], [3, 8], [0, 9, 10, 11], [0, 2, 5, 6, 7, 8, 9, 10, 11, 15, 16, 17, 18, 19, 20, 21, 22, 23, 24], [], [15], [16, 17], [5, 18, 19, 20, 21, 22], [23], [3, 24]]
theorem ok_box_Boxes_States : FnOk Try.prog f_box_Boxes_States ic_box_Boxes_States [.t 2] 25 := ⟨Try.f18, hs_box_Boxes_States, Try.func18, by kernel_rfl, by kernel_rfl, by kernel_rfl, by kernel_rfl⟩

/-- (*signalbox/box.Boxes).Free -/
def ic_box_Boxes_Free_b1 : IC :=
 (.seq (.region 0 [
   ⟨(some 10), .bin .lss (.t 9) (.t 8), none, 0, []⟩] [])
 (.seq (.cond (.t 10) [10]
  .skip
  (.exit 0))
 (.seq (.block 1 (.seq (.region 0 [
   ⟨(some 11), .iaddr 1 (.t 7) (.t 9), none, 0, []⟩,
   ⟨(some 12), .load none (.t 11), none, 0, [0]⟩,
   ⟨(some 5), .mv (.t 12), none, 0, [1, 0, 1]⟩] [11, 12])
 (.seq (.region 0 [
   ⟨(some 13), .mv (.t 5), none, 0, []⟩,
   ⟨(some 14), .bin .eql (.t 13) (.c (.int .i64 0)), none, 0, [0]⟩] [5, 13])
 (.cond (.t 14) [14]
  (.region 0 [
    ⟨(some 15), .mv (.t 3), none, 0, []⟩,
    ⟨(some 16), .bin .add (.t 15) (.c (.int .i64 1)), none, 0, [0]⟩,
    ⟨(some 3), .mv (.t 16), none, 0, [1, 0, 1]⟩] [15, 16])
  .skip))))
 (.region 0 [
   ⟨(some 17), .bin .add (.t 9) (.c (.int .i64 1)), none, 0, []⟩,
   ⟨(some 9), .mv (.t 17), none, 0, [0]⟩] [17]))))
def ic_box_Boxes_Free_l1 : IC := .loop [0, 2, 5, 6, 10, 11, 12, 13, 14, 15, 16, 17, 18] ic_box_Boxes_Free_b1
def ic_box_Boxes_Free : IC :=
 (.seq (.region 0 [
   ⟨(some 2), .mv (.c (.int .i64 0)), none, 0, []⟩] [2])
 (.seq (.region 0 [
   ⟨(some 3), .mv (.c (.int .i64 0)), none, 0, []⟩] [])
 (.seq (.seq (.region 0 [
   ⟨(some 6), .mv (.t 0), none, 0, []⟩,
   ⟨(some 7), .call (.c (.fn f_box_Boxes_States [] [])) [(.t 6)], none, 0, [0]⟩,
   ⟨(some 8), .lens (.t 7), none, 0, [1]⟩,
   ⟨(some 9), .mv (.c (.int .i64 0)), none, 0, []⟩] [0, 6])
 (.block 0 ic_box_Boxes_Free_l1))
 (.seq (.region 0 [
   ⟨(some 18), .mv (.t 3), none, 0, []⟩,
   ⟨(some 2), .mv (.t 18), none, 0, [0, 0]⟩] [3, 18])
 .ret))))
def hs_box_Boxes_Free : List (List Nat) := [[2], [], [0, 6], [0, 2, 5, 6, 10, 11, 12, 13, 14, 15, 16, 17, 18], [], [10], [11, 12], [5, 13], [14], [15, 16], [17], [3, 18]]
theorem ok_box_Boxes_Free : FnOk Try.prog f_box_Boxes_Free ic_box_Boxes_Free [.t 2] 19 := ⟨Try.f19, hs_box_Boxes_Free, Try.func19, by kernel_rfl, by kernel_rfl, by kernel_rfl, by kernel_rfl⟩

/-- (*signalbox/signalboxref13.Boxes).Free -/
def ic_ref13_Boxes_Free_b1 : IC :=
 (.seq (.seq (.region 0 [
   ⟨(some 5), .mv (.t 4), none, 0, []⟩,
   ⟨(some 6), .mv (.t 0), none, 0, []⟩,
   ⟨(some 7), .nilck (.t 6), none, 0, [1]⟩,
   ⟨(some 8), .faddr 0 (.t 7), none, 0, [2]⟩,
   ⟨(some 9), .load none (.t 8), none, 0, [3]⟩,
   ⟨(some 10), .lens (.t 9), none, 0, [4]⟩,
   ⟨(some 11), .bin .lss (.t 5) (.t 10), none, 0, [0, 5]⟩] [5, 6, 7, 8, 9, 10])
 (.cond (.t 11) [11]
  .skip
  (.exit 0)))
 (.seq (.block 1 (.seq (.region 0 [
   ⟨(some 14), .mv (.t 0), none, 0, []⟩,
   ⟨(some 15), .nilck (.t 14), none, 0, [0]⟩,
   ⟨(some 16), .faddr 0 (.t 15), none, 0, [1]⟩,
   ⟨(some 17), .load none (.t 16), none, 0, [2]⟩,
   ⟨(some 18), .mv (.t 4), none, 0, []⟩,
   ⟨(some 19), .iaddr 1 (.t 17) (.t 18), none, 0, [3, 4]⟩,
   ⟨(some 20), .load none (.t 19), none, 0, [5]⟩,
   ⟨(some 21), .bin .eql (.t 20) (.c (.int .i64 0)), none, 0, [6]⟩] [14, 15, 16, 17, 18, 19, 20])
 (.cond (.t 21) [21]
  (.region 0 [
    ⟨(some 22), .mv (.t 3), none, 0, []⟩,
    ⟨(some 23), .bin .add (.t 22) (.c (.int .i64 1)), none, 0, [0]⟩,
    ⟨(some 3), .mv (.t 23), none, 0, [1, 0, 1]⟩] [22, 23])
  .skip)))
 (.region 0 [
   ⟨(some 12), .mv (.t 4), none, 0, []⟩,
   ⟨(some 13), .bin .add (.t 12) (.c (.int .i64 1)), none, 0, [0]⟩,
   ⟨(some 4), .mv (.t 13), none, 0, [1, 0, 1]⟩] [12, 13])))
def ic_ref13_Boxes_Free_l1 : IC := .loop [2, 5, 6, 7, 8, 9, 10, 11, 12, 13, 14, 15, 16, 17, 18, 19, 20, 21, 22, 23, 24] ic_ref13_Boxes_Free_b1
def ic_ref13_Boxes_Free : IC :=
 (.seq (.region 0 [
   ⟨(some 2), .mv (.c (.int .i64 0)), none, 0, []⟩] [2])
 (.seq (.region 0 [
   ⟨(some 3), .mv (.c (.int .i64 0)), none, 0, []⟩] [])
 (.seq (.seq (.region 0 [
   ⟨(some 4), .mv (.c (.int .i64 0)), none, 0, []⟩] [])
 (.block 0 ic_ref13_Boxes_Free_l1))
 (.seq (.region 0 [
   ⟨(some 24), .mv (.t 3), none, 0, []⟩,
   ⟨(some 2), .mv (.t 24), none, 0, [0, 0]⟩] [3, 24])
 .ret))))
def hs_ref13_Boxes_Free : List (List Nat) := [[2], [], [], [2, 5, 6, 7, 8, 9, 10, 11, 12, 13, 14, 15, 16, 17, 18, 19, 20, 21, 22, 23, 24], [5, 6, 7, 8, 9, 10], [11], [14, 15, 16, 17, 18, 19, 20], [21], [22, 23], [12, 13], [3, 24]]
theorem ok_ref13_Boxes_Free : FnOk Try.prog f_ref13_Boxes_Free ic_ref13_Boxes_Free [.t 2] 25 := ⟨Try.f20, hs_ref13_Boxes_Free, Try.func20, by kernel_rfl, by kernel_rfl, by kernel_rfl, by kernel_rfl⟩

/-- (*signalbox/box.Boxes).Take -/
def ic_box_Boxes_Take : IC :=
 (.seq (.region 1 [
   ⟨(some 2), .alloc [(.int .i64 0), (.int .i64 0), (.int .i64 0), (.int .i64 0), (.str []), (.int .i64 0), (.int .i64 0), (.bool false), (.bool false)], none, 0, []⟩,
   ⟨(some 3), .mv (.c (.int .i64 0)), none, 1, []⟩] [3])
 (.seq (.block 0 (.seq (.region 0 [
   ⟨(some 7), .mv (.t 0), none, 0, []⟩,
   ⟨(some 8), .eqv false .ptr (.t 7) (.c .nilp), none, 0, [0]⟩,
   ⟨(some 6), .mv (.t 8), none, 0, [1]⟩] [7, 8])
 (.cond (.t 6) [6]
  (.seq (.region 0 [
    ⟨(some 9), .build [(.int .i64 0), (.int .i64 0), (.int .i64 0), (.int .i64 0), (.str []), (.int .i64 0), (.int .i64 0), (.bool false), (.bool false)] [], none, 0, []⟩,
    ⟨none, .store 9 (.t 2) (.t 9), none, 0, [0, 0]⟩,
    ⟨(some 3), .mv (.c (.int .i64 1)), none, 0, [1, 0, 1]⟩] [9])
  .ret)
  (.seq (.region 0 [
    ⟨(some 11), .mv (.t 0), none, 0, []⟩,
    ⟨(some 12), .nilck (.t 11), none, 0, [0]⟩,
    ⟨(some 13), .faddr 1 (.t 12), none, 0, [1]⟩,
    ⟨(some 14), .load none (.t 13), none, 0, [2]⟩,
    ⟨(some 15), .lens (.t 14), none, 0, [3]⟩,
    ⟨(some 16), .bin .eql (.t 15) (.c (.int .i64 0)), none, 0, [4]⟩,
    ⟨(some 10), .mv (.t 16), none, 0, [5]⟩] [11, 12, 13, 14, 15, 16])
  (.cond (.t 10) [10]
   (.seq (.region 0 [
     ⟨(some 17), .build [(.int .i64 0), (.int .i64 0), (.int .i64 0), (.int .i64 0), (.str []), (.int .i64 0), (.int .i64 0), (.bool false), (.bool false)] [], none, 0, []⟩,
     ⟨none, .store 9 (.t 2) (.t 17), none, 0, [0, 0]⟩,
     ⟨(some 3), .mv (.c (.int .i64 6)), none, 0, [1, 0, 1]⟩] [17])
   .ret)
   .skip)))))
 (.seq (.region 0 [
   ⟨(some 18), .mv (.t 0), none, 0, []⟩,
   ⟨(some 19), .nilck (.t 18), none, 0, [0]⟩,
   ⟨(some 20), .faddr 1 (.t 19), none, 0, [1]⟩,
   ⟨(some 21), .load none (.t 20), none, 0, [2]⟩,
   ⟨(some 22), .iaddr 1 (.t 21) (.c (.int .i64 0)), none, 0, [3]⟩,
   ⟨(some 23), .load none (.t 22), none, 0, [4]⟩,
   ⟨(some 4), .mv (.t 23), none, 0, [5, 0, 1, 2, 3, 4, 5]⟩] [18, 19, 20, 21, 22, 23])
 (.seq (.region 0 [
   ⟨(some 24), .mv (.t 0), none, 0, []⟩,
   ⟨(some 25), .mv (.t 0), none, 0, []⟩,
   ⟨(some 26), .nilck (.t 25), none, 0, [1]⟩,
   ⟨(some 27), .faddr 1 (.t 26), none, 0, [2]⟩,
   ⟨(some 28), .load none (.t 27), none, 0, [3]⟩,
   ⟨(some 29), .slc 1 (.t 28) (some (.c (.int .i64 1))) none none, none, 0, [4]⟩,
   ⟨(some 30), .call (.c (.fn f_slices_Clone_of_int [] [])) [(.t 29)], none, 0, [5]⟩,
   ⟨(some 31), .nilck (.t 24), none, 0, [0, 0, 1, 2, 3, 4, 5, 6]⟩,
   ⟨(some 32), .faddr 1 (.t 31), none, 0, [7, 0, 1, 2, 3, 4, 5, 6]⟩,
   ⟨none, .store 1 (.t 32) (.t 30), none, 0, [8, 6, 6, 0, 1, 2, 3, 4, 5, 6]⟩] [24, 25, 26, 27, 28, 29, 30, 31, 32])
 (.seq (.region 1 [
   ⟨(some 33), .mv (.t 0), none, 0, []⟩,
   ⟨(some 34), .nilck (.t 33), none, 0, [0]⟩,
   ⟨(some 35), .faddr 0 (.t 34), none, 0, [1]⟩,
   ⟨(some 36), .load none (.t 35), none, 0, [2]⟩,
   ⟨(some 37), .mv (.t 4), none, 0, []⟩,
   ⟨(some 38), .iaddr 9 (.t 36) (.t 37), none, 0, [3, 4]⟩,
   ⟨(some 39), .load (some 9) (.t 38), none, 0, [5]⟩,
   ⟨(some 5), .alloc [(.int .i64 0), (.int .i64 0), (.int .i64 0), (.int .i64 0), (.str []), (.int .i64 0), (.int .i64 0), (.bool false), (.int .i64 0)], none, 0, []⟩,
   ⟨none, .store 9 (.t 5) (.t 39), none, 1, [7, 6, 0, 1, 2, 3, 4, 5, 6, 7]⟩] [33, 34, 35, 36, 37, 38, 39])
 (.seq (.region 0 [
   ⟨(some 40), .mv (.t 0), none, 0, []⟩,
   ⟨(some 41), .nilck (.t 40), none, 0, [0]⟩,
   ⟨(some 42), .faddr 0 (.t 41), none, 0, [1]⟩,
   ⟨(some 43), .load none (.t 42), none, 0, [2]⟩,
   ⟨(some 44), .mv (.t 4), none, 0, []⟩,
   ⟨(some 45), .build [(.int .i64 0), (.int .i64 0), (.int .i64 0), (.int .i64 0), (.str []), (.int .i64 0), (.int .i64 0), (.bool false), (.int .i64 0)] [], none, 0, []⟩,
   ⟨(some 46), .iaddr 9 (.t 43) (.t 44), none, 0, [3, 4, 0, 1, 2, 3, 4, 5]⟩,
   ⟨none, .store 9 (.t 46) (.t 45), none, 0, [6, 5, 0, 1, 2, 3, 4, 5]⟩] [0, 40, 41, 42, 43, 44, 45, 46])
 (.seq (.region 0 [
   ⟨(some 47), .mv (.t 4), none, 0, []⟩,
   ⟨(some 48), .faddr 1 (.t 5), none, 0, []⟩,
   ⟨(some 49), .load (some 7) (.t 48), none, 0, [1]⟩,
   ⟨(some 50), .faddr 0 (.t 5), none, 0, []⟩,
   ⟨(some 51), .load none (.t 50), none, 0, [3]⟩,
   ⟨(some 52), .bin .eql (.t 51) (.c (.int .i64 2)), none, 0, [4]⟩,
   ⟨(some 53), .build [(.int .i64 0), (.int .i64 0), (.int .i64 0), (.int .i64 0), (.str []), (.int .i64 0), (.int .i64 0), (.bool false), (.bool false)] [(0, 1, (.t 47)), (1, 7, (.t 49)), (8, 1, (.t 52))], none, 0, [0, 2, 5]⟩,
   ⟨none, .store 9 (.t 2) (.t 53), none, 0, [6, 0, 1, 2, 3, 4, 5, 6]⟩,
   ⟨(some 3), .mv (.c (.int .i64 0)), none, 0, [7, 0, 1, 2, 3, 4, 5, 6, 7]⟩] [4, 5, 47, 48, 49, 50, 51, 52, 53])
 .ret)))))))
def hs_box_Boxes_Take : List (List Nat) := [[3], [7, 8], [6], [9], [11, 12, 13, 14, 15, 16], [10], [17], [18, 19, 20, 21, 22, 23], [24, 25, 26, 27, 28, 29, 30, 31, 32], [33, 34, 35, 36, 37, 38, 39], [0, 40, 41, 42, 43, 44, 45, 46], [4, 5, 47, 48, 49, 50, 51, 52, 53]]
theorem ok_box_Boxes_Take : FnOk Try.prog f_box_Boxes_Take ic_box_Boxes_Take [.cell 2 (some 9), .t 3] 54 := ⟨Try.f21, hs_box_Boxes_Take, Try.func21, by kernel_rfl, by kernel_rfl, by kernel_rfl, by kernel_rfl⟩

/-- (*signalbox/box.Boxes).Abort -/
def ic_box_Boxes_Abort : IC :=
 (.seq (.region 0 [
   ⟨(some 4), .mv (.c (.int .i64 0)), none, 0, []⟩] [4])
 (.seq (.region 0 [
   ⟨(some 5), .mv (.t 0), none, 0, []⟩,
   ⟨(some 6), .mv (.t 1), none, 0, []⟩,
   ⟨(some 7), .call (.c (.fn f_box_Boxes_ends [] [])) [(.t 5), (.t 6), (.c (.int .i64 3))], none, 0, [0, 1]⟩,
   ⟨(some 4), .mv (.t 7), none, 0, [2, 2, 0, 1, 2]⟩] [0, 1, 5, 6, 7])
 .ret))
def hs_box_Boxes_Abort : List (List Nat) := [[4], [0, 1, 5, 6, 7]]
theorem ok_box_Boxes_Abort : FnOk Try.prog f_box_Boxes_Abort ic_box_Boxes_Abort [.t 4] 8 := ⟨Try.f22, hs_box_Boxes_Abort, Try.func22, by kernel_rfl, by kernel_rfl, by kernel_rfl, by kernel_rfl⟩

/-- signalbox/signalboxlaw13.packet -/
def ic_law13_packet : IC :=
 (.seq (.region 1 [
   ⟨(some 4), .alloc [(.int .i64 0), (.int .i64 0), (.int .i64 0), (.str []), (.int .i64 0), (.int .i64 0), (.bool false)], none, 0, []⟩] [])
 (.seq (.region 0 [
   ⟨(some 5), .mv (.t 0), none, 0, []⟩,
   ⟨(some 6), .build [(.int .i64 0), (.int .i64 0), (.int .i64 0), (.str [])] [(0, 1, (.t 5))], none, 0, [0]⟩,
   ⟨(some 7), .mv (.t 1), none, 0, []⟩,
   ⟨(some 8), .build [(.int .i64 0), (.int .i64 0), (.int .i64 0), (.str []), (.int .i64 0), (.int .i64 0), (.bool false)] [(0, 4, (.t 6)), (5, 1, (.t 7))], none, 0, [1, 2]⟩,
   ⟨none, .store 7 (.t 4) (.t 8), none, 0, [3, 0, 1, 2, 3]⟩] [0, 1, 5, 6, 7, 8])
 .ret))
def hs_law13_packet : List (List Nat) := [[], [0, 1, 5, 6, 7, 8]]
theorem ok_law13_packet : FnOk Try.prog f_law13_packet ic_law13_packet [.cell 4 (some 7)] 9 := ⟨Try.f36, hs_law13_packet, Try.func36, by kernel_rfl, by kernel_rfl, by kernel_rfl, by kernel_rfl⟩

/-- signalbox/frame.Key -/
def ic_frame_Key : IC :=
 (.seq (.region 1 [
   ⟨(some 1), .box (.t 0), none, 0, []⟩,
   ⟨(some 2), .mv (.c (.int .i64 0)), none, 1, []⟩] [0, 2])
 (.seq (.seq (.region 0 [
   ⟨(some 4), .load (some 4) (.t 1), none, 0, []⟩,
   ⟨(some 5), .call (.c (.fn f_frame_Right [] [])) [(.t 4)], none, 0, [0]⟩,
   ⟨(some 6), .bin .neq (.t 5) (.c (.int .i64 0)), none, 0, [1]⟩,
   ⟨(some 7), .mv (.t 6), none, 0, [2, 1]⟩,
   ⟨(some 8), .load (some 4) (.t 1), (some (7, false)), 0, [3]⟩,
   ⟨(some 9), .call (.c (.fn f_frame_has [] [])) [(.t 8), (.c (.int .i64 4))], (some (7, false)), 0, [4, 3, 3]⟩,
   ⟨(some 10), .pick (.t 7) (.c (.bool true)) (.t 9), none, 0, [3, 5]⟩] [4, 5, 6, 7, 8, 9])
 (.cond (.t 10) [10]
  (.seq (.region 0 [
    ⟨(some 2), .mv (.c (.int .i64 (-1))), none, 0, []⟩] [])
  .ret)
  .skip))
 (.seq (.region 0 [
   ⟨(some 3), .mv (.c (.int .i64 0)), none, 0, []⟩] [3])
 (.seq (.seq (.region 0 [
   ⟨(some 11), .load (some 4) (.t 1), none, 0, []⟩,
   ⟨(some 12), .call (.c (.fn f_frame_has [] [])) [(.t 11), (.c (.int .i64 1))], none, 0, [0]⟩] [11])
 (.cond (.t 12) [12]
  (.seq (.region 0 [
    ⟨(some 13), .faddr 0 (.t 1), none, 0, []⟩,
    ⟨(some 14), .load none (.t 13), none, 0, [0]⟩,
    ⟨(some 15), .bin .shr (.t 14) (.c (.int .u64 18)), none, 0, [1]⟩,
    ⟨(some 16), .bin .shl (.t 15) (.c (.int .u64 2)), none, 0, [2]⟩,
    ⟨(some 17), .bin .or (.t 16) (.c (.int .i64 3)), none, 0, [3]⟩,
    ⟨(some 3), .mv (.t 17), none, 0, [4, 0, 1, 2, 3, 4]⟩] [13, 14, 15, 16, 17])
  (.seq (.region 0 [
    ⟨(some 18), .mv (.t 3), none, 0, []⟩,
    ⟨(some 19), .bin .shl (.t 18) (.c (.int .u64 18)), none, 0, [0]⟩,
    ⟨(some 20), .faddr 0 (.t 1), none, 0, []⟩,
    ⟨(some 21), .load none (.t 20), none, 0, [2]⟩,
    ⟨(some 22), .bin .and (.t 21) (.c (.int .i64 262143)), none, 0, [3]⟩,
    ⟨(some 23), .bin .or (.t 19) (.t 22), none, 0, [1, 4]⟩,
    ⟨(some 3), .mv (.t 23), none, 0, [5, 0, 1, 2, 3, 4, 5]⟩] [18, 19, 20, 21, 22, 23])
  (.region 0 [
    ⟨(some 24), .mv (.t 3), none, 0, []⟩,
    ⟨(some 25), .bin .shl (.t 24) (.c (.int .u64 1)), none, 0, [0]⟩,
    ⟨(some 26), .load (some 4) (.t 1), none, 0, []⟩,
    ⟨(some 27), .call (.c (.fn f_frame_bit [] [])) [(.t 26), (.c (.int .i64 2))], none, 0, [2]⟩,
    ⟨(some 28), .bin .or (.t 25) (.t 27), none, 0, [1, 3]⟩,
    ⟨(some 3), .mv (.t 28), none, 0, [4, 3, 0, 1, 2, 3, 4]⟩] [24, 25, 26, 27, 28])))
  (.seq (.regionD 0 [
    ⟨(some 29), .faddr 0 (.t 1), none, 0, []⟩,
    ⟨(some 30), .load none (.t 29), none, 0, [0]⟩,
    ⟨(some 31), .bin .shl (.t 30) (.c (.int .u64 2)), none, 0, [1]⟩,
    ⟨(some 32), .load (some 4) (.t 1), none, 0, []⟩,
    ⟨(some 33), .call (.c (.fn f_frame_bit [] [])) [(.t 32), (.c (.int .i64 2))], none, 0, [3]⟩,
    ⟨(some 34), .bin .shl (.t 33) (.c (.int .u64 1)), none, 0, [4]⟩,
    ⟨(some 35), .bin .or (.t 31) (.t 34), none, 0, [2, 5]⟩,
    ⟨(some 3), .mv (.t 35), none, 0, [6, 4, 0, 1, 2, 3, 4, 5, 6]⟩]
    [0, 1, 2, 3, 4, 5, 6, 7] [0, 1, 3, 0, 8, 24, 63, 127] [29, 30, 31, 32, 33, 34, 35])
  (.region 0 [
    ⟨(some 36), .mv (.t 3), none, 0, []⟩,
    ⟨(some 37), .bin .shl (.t 36) (.c (.int .u64 19)), none, 0, [0]⟩,
    ⟨(some 3), .mv (.t 37), none, 0, [1, 0, 1]⟩] [36, 37]))))
 (.seq (.region 0 [
   ⟨(some 38), .mv (.t 3), none, 0, []⟩,
   ⟨(some 39), .bin .shl (.t 38) (.c (.int .u64 1)), none, 0, [0]⟩,
   ⟨(some 40), .load (some 4) (.t 1), none, 0, []⟩,
   ⟨(some 41), .call (.c (.fn f_frame_bit [] [])) [(.t 40), (.c (.int .i64 8))], none, 0, [2]⟩,
   ⟨(some 42), .bin .or (.t 39) (.t 41), none, 0, [1, 3]⟩,
   ⟨(some 2), .mv (.t 42), none, 0, [4, 3, 0, 1, 2, 3, 4]⟩] [1, 3, 38, 39, 40, 41, 42])
 .ret)))))
def hs_frame_Key : List (List Nat) := [[0, 2], [4, 5, 6, 7, 8, 9], [10], [], [3], [11], [12], [13, 14, 15, 16, 17], [18, 19, 20, 21, 22, 23], [24, 25, 26, 27, 28], [0, 1, 2, 3, 4, 5, 6, 7], [0, 1, 3, 0, 8, 24, 63, 127], [29, 30, 31, 32, 33, 34, 35], [36, 37], [1, 3, 38, 39, 40, 41, 42]]
theorem ok_frame_Key : FnOk Try.prog f_frame_Key ic_frame_Key [.t 2] 43 := ⟨Try.f37, hs_frame_Key, Try.func37, by kernel_rfl, by kernel_rfl, by kernel_rfl, by kernel_rfl⟩

/-- slices.IndexFunc[[]signalbox/box.cell,signalbox/box.cell] -/
def ic_slices_IndexFunc_of_cell_b1 : IC :=
 (.seq (.region 0 [
   ⟨(some 9), .bin .lss (.t 8) (.t 7), none, 0, []⟩] [])
 (.seq (.cond (.t 9) [9]
  .skip
  (.exit 0))
 (.seq (.block 1 (.seq (.region 0 [
   ⟨(some 10), .mv (.t 8), none, 0, []⟩,
   ⟨(some 5), .mv (.t 10), none, 0, [0, 0]⟩] [10])
 (.seq (.region 0 [
   ⟨(some 11), .mv (.t 1), none, 0, []⟩,
   ⟨(some 12), .mv (.t 0), none, 0, []⟩,
   ⟨(some 13), .mv (.t 5), none, 0, []⟩,
   ⟨(some 14), .iaddr 9 (.t 12) (.t 13), none, 0, [1, 2]⟩,
   ⟨(some 15), .load (some 9) (.t 14), none, 0, [3]⟩,
   ⟨(some 16), .call (.t 11) [(.t 15)], none, 0, [0, 4]⟩] [11, 12, 13, 14, 15])
 (.cond (.t 16) [16]
  (.seq (.region 0 [
    ⟨(some 17), .mv (.t 5), none, 0, []⟩,
    ⟨(some 4), .mv (.t 17), none, 0, [0, 0]⟩] [5, 17])
  .ret)
  .skip))))
 (.region 0 [
   ⟨(some 18), .bin .add (.t 8) (.c (.int .i64 1)), none, 0, []⟩,
   ⟨(some 8), .mv (.t 18), none, 0, [0]⟩] [18]))))
def ic_slices_IndexFunc_of_cell_l1 : IC := .loop [4, 5, 6, 9, 10, 11, 12, 13, 14, 15, 16, 17, 18] ic_slices_IndexFunc_of_cell_b1
def ic_slices_IndexFunc_of_cell : IC :=
 (.seq (.region 0 [
   ⟨(some 4), .mv (.c (.int .i64 0)), none, 0, []⟩] [4])
 (.seq (.seq (.region 0 [
   ⟨(some 6), .mv (.t 0), none, 0, []⟩,
   ⟨(some 7), .lens (.t 6), none, 0, [0]⟩,
   ⟨(some 8), .mv (.c (.int .i64 0)), none, 0, []⟩] [6])
 (.block 0 ic_slices_IndexFunc_of_cell_l1))
 (.seq (.region 0 [
   ⟨(some 4), .mv (.c (.int .i64 (-1))), none, 0, []⟩] [])
 .ret)))
def hs_slices_IndexFunc_of_cell : List (List Nat) := [[4], [6], [4, 5, 6, 9, 10, 11, 12, 13, 14, 15, 16, 17, 18], [], [9], [10], [11, 12, 13, 14, 15], [16], [5, 17], [18], []]
theorem ok_slices_IndexFunc_of_cell : FnOk Try.prog f_slices_IndexFunc_of_cell ic_slices_IndexFunc_of_cell [.t 4] 19 := ⟨Try.f38, hs_slices_IndexFunc_of_cell, Try.func38, by kernel_rfl, by kernel_rfl, by kernel_rfl, by kernel_rfl⟩

/-- (*signalbox/box.Boxes).Put$1 -/
def ic_box_Boxes_Put_1 : IC :=
 (.seq (.region 1 [
   ⟨(some 1), .box (.t 0), none, 0, []⟩,
   ⟨(some 2), .mv (.c (.bool false)), none, 1, []⟩] [0, 2])
 (.seq (.region 0 [
   ⟨(some 3), .faddr 0 (.t 1), none, 0, []⟩,
   ⟨(some 4), .load none (.t 3), none, 0, [0]⟩,
   ⟨(some 5), .bin .eql (.t 4) (.c (.int .i64 0)), none, 0, [1]⟩,
   ⟨(some 2), .mv (.t 5), none, 0, [2, 0, 1, 2]⟩] [1, 3, 4, 5])
 .ret))
def hs_box_Boxes_Put_1 : List (List Nat) := [[0, 2], [1, 3, 4, 5]]
theorem ok_box_Boxes_Put_1 : FnOk Try.prog f_box_Boxes_Put_1 ic_box_Boxes_Put_1 [.t 2] 6 := ⟨Try.f39, hs_box_Boxes_Put_1, Try.func39, by kernel_rfl, by kernel_rfl, by kernel_rfl, by kernel_rfl⟩

/-- (*signalbox/box.Boxes).Best$1 -/
def ic_box_Boxes_Best_1 : IC :=
 (.seq (.region 2 [
   ⟨(some 2), .box (.t 0), none, 0, []⟩,
   ⟨(some 3), .box (.t 1), none, 1, []⟩,
   ⟨(some 4), .mv (.c (.bool false)), none, 2, []⟩] [0, 1, 4])
 (.seq (.regionD 0 [
   ⟨(some 7), .faddr 1 (.t 2), none, 0, []⟩,
   ⟨(some 8), .faddr 0 (.t 7), none, 0, [0]⟩,
   ⟨(some 9), .load (some 4) (.t 8), none, 0, [1]⟩,
   ⟨(some 10), .call (.c (.fn f_frame_Key [] [])) [(.t 9)], none, 0, [2]⟩,
   ⟨(some 11), .faddr 1 (.t 3), none, 0, []⟩,
   ⟨(some 12), .faddr 0 (.t 11), none, 0, [4]⟩,
   ⟨(some 13), .load (some 4) (.t 12), none, 0, [5]⟩,
   ⟨(some 14), .call (.c (.fn f_frame_Key [] [])) [(.t 13)], none, 0, [6, 3]⟩,
   ⟨(some 5), .mv (.t 10), none, 0, [3, 7, 0, 1, 2, 3]⟩,
   ⟨(some 6), .mv (.t 14), none, 0, [7, 8, 0, 1, 2, 3, 4, 5, 6, 7, 8]⟩]
   [0, 1, 4, 5, 2, 6, 3, 7, 8, 9] [0, 1, 3, 7, 0, 16, 48, 127, 255, 511] [7, 8, 9, 10, 11, 12, 13, 14])
 (.seq (.region 0 [
   ⟨(some 15), .mv (.t 5), none, 0, []⟩,
   ⟨(some 16), .mv (.t 6), none, 0, []⟩,
   ⟨(some 17), .bin .lss (.t 15) (.t 16), none, 0, [0, 1]⟩,
   ⟨(some 18), .mv (.t 17), none, 0, [2]⟩,
   ⟨(some 19), .mv (.t 5), (some (18, false)), 0, [3]⟩,
   ⟨(some 20), .mv (.t 6), (some (18, false)), 0, [3]⟩,
   ⟨(some 21), .bin .eql (.t 19) (.t 20), (some (18, false)), 0, [4, 5, 3]⟩,
   ⟨(some 22), .mv (.t 21), (some (18, false)), 0, [6, 3, 3]⟩,
   ⟨(some 23), .faddr 8 (.t 2), (some (22, true)), 0, [7]⟩,
   ⟨(some 24), .load none (.t 23), (some (22, true)), 0, [8, 7]⟩,
   ⟨(some 25), .faddr 8 (.t 3), (some (22, true)), 0, [7]⟩,
   ⟨(some 26), .load none (.t 25), (some (22, true)), 0, [10, 7]⟩,
   ⟨(some 27), .bin .lss (.t 24) (.t 26), (some (22, true)), 0, [9, 11, 7]⟩,
   ⟨(some 28), .pick (.t 22) (.t 27) (.c (.bool false)), (some (18, false)), 0, [7, 12, 3]⟩,
   ⟨(some 29), .pick (.t 18) (.c (.bool true)) (.t 28), none, 0, [3, 13]⟩,
   ⟨(some 4), .mv (.t 29), none, 0, [14, 7, 0, 1, 2, 3, 4, 5, 6, 7, 8, 9, 10, 11, 12, 13, 14]⟩] [2, 3, 5, 6, 15, 16, 17, 18, 19, 20, 21, 22, 23, 24, 25, 26, 27, 28, 29])
 .ret)))
def hs_box_Boxes_Best_1 : List (List Nat) := [[0, 1, 4], [0, 1, 4, 5, 2, 6, 3, 7, 8, 9], [0, 1, 3, 7, 0, 16, 48, 127, 255, 511], [7, 8, 9, 10, 11, 12, 13, 14], [2, 3, 5, 6, 15, 16, 17, 18, 19, 20, 21, 22, 23, 24, 25, 26, 27, 28, 29]]
theorem ok_box_Boxes_Best_1 : FnOk Try.prog f_box_Boxes_Best_1 ic_box_Boxes_Best_1 [.t 4] 30 := ⟨Try.f40, hs_box_Boxes_Best_1, Try.func40, by kernel_rfl, by kernel_rfl, by kernel_rfl, by kernel_rfl⟩

/-- signalbox/signalboxref02.Right -/
def ic_ref02_Right : IC :=
 (.seq (.region 1 [
   ⟨(some 1), .box (.t 0), none, 0, []⟩,
   ⟨(some 2), .mv (.c (.bool false)), none, 1, []⟩] [0, 2])
 (.seq (.seq (.region 0 [
   ⟨(some 7), .faddr 1 (.t 1), none, 0, []⟩,
   ⟨(some 8), .load none (.t 7), none, 0, [0]⟩,
   ⟨(some 9), .bin .lss (.t 8) (.c (.int .i64 0)), none, 0, [1]⟩,
   ⟨(some 10), .mv (.t 9), none, 0, [2]⟩,
   ⟨(some 11), .faddr 1 (.t 1), (some (10, false)), 0, [3]⟩,
   ⟨(some 12), .load none (.t 11), (some (10, false)), 0, [4, 3]⟩,
   ⟨(some 13), .bin .gtr (.t 12) (.c (.int .i64 63)), (some (10, false)), 0, [5, 3]⟩,
   ⟨(some 14), .pick (.t 10) (.c (.bool true)) (.t 13), none, 0, [3, 6]⟩,
   ⟨(some 15), .mv (.t 14), none, 0, [7, 3]⟩,
   ⟨(some 16), .faddr 0 (.t 1), (some (15, false)), 0, [8]⟩,
   ⟨(some 17), .load none (.t 16), (some (15, false)), 0, [9, 8]⟩,
   ⟨(some 18), .bin .lss (.t 17) (.c (.int .i64 0)), (some (15, false)), 0, [10, 8]⟩,
   ⟨(some 19), .pick (.t 15) (.c (.bool true)) (.t 18), none, 0, [8, 11]⟩,
   ⟨(some 20), .mv (.t 19), none, 0, [12, 8]⟩,
   ⟨(some 21), .faddr 0 (.t 1), (some (20, false)), 0, [13]⟩,
   ⟨(some 22), .load none (.t 21), (some (20, false)), 0, [14, 13]⟩,
   ⟨(some 23), .bin .gtr (.t 22) (.c (.int .i64 536870911)), (some (20, false)), 0, [15, 13]⟩,
   ⟨(some 24), .pick (.t 20) (.c (.bool true)) (.t 23), none, 0, [13, 16]⟩] [7, 8, 9, 10, 11, 12, 13, 14, 15, 16, 17, 18, 19, 20, 21, 22, 23])
 (.cond (.t 24) [24]
  (.seq (.region 0 [
    ⟨(some 2), .mv (.c (.bool false)), none, 0, []⟩] [])
  .ret)
  .skip))
 (.seq (.regionD 0 [
   ⟨(some 25), .load (some 4) (.t 1), none, 0, []⟩,
   ⟨(some 26), .call (.c (.fn f_ref02_Has [] [])) [(.t 25), (.c (.int .i64 4))], none, 0, [0]⟩,
   ⟨(some 27), .load (some 4) (.t 1), none, 0, []⟩,
   ⟨(some 28), .call (.c (.fn f_ref02_Has [] [])) [(.t 27), (.c (.int .i64 8))], none, 0, [2, 1]⟩,
   ⟨(some 29), .load (some 4) (.t 1), none, 0, []⟩,
   ⟨(some 30), .call (.c (.fn f_ref02_Has [] [])) [(.t 29), (.c (.int .i64 2))], none, 0, [4, 3]⟩,
   ⟨(some 31), .load (some 4) (.t 1), none, 0, []⟩,
   ⟨(some 32), .call (.c (.fn f_ref02_Has [] [])) [(.t 31), (.c (.int .i64 1))], none, 0, [6, 5]⟩,
   ⟨(some 3), .mv (.t 26), none, 0, [1, 7, 0, 1]⟩,
   ⟨(some 4), .mv (.t 28), none, 0, [3, 8, 0, 1, 2, 3, 8]⟩,
   ⟨(some 5), .mv (.t 30), none, 0, [5, 9, 0, 1, 2, 3, 4, 5, 8, 9]⟩,
   ⟨(some 6), .mv (.t 32), none, 0, [7, 10, 0, 1, 2, 3, 4, 5, 6, 7, 8, 9, 10]⟩]
   [0, 2, 4, 6, 1, 3, 5, 7, 8, 9, 10, 11] [0, 1, 0, 7, 0, 31, 0, 127, 255, 511, 1023, 2047] [25, 26, 27, 28, 29, 30, 31, 32])
 (.seq (.seq (.region 0 [
   ⟨(some 33), .mv (.t 3), none, 0, []⟩,
   ⟨(some 34), .mv (.t 33), none, 0, [0]⟩,
   ⟨(some 35), .mv (.t 6), (some (34, true)), 0, [1]⟩,
   ⟨(some 36), .mv (.t 35), (some (34, true)), 0, [2, 1, 1]⟩,
   ⟨(some 37), .mv (.t 5), (some (36, false)), 0, [3]⟩,
   ⟨(some 38), .pick (.t 36) (.c (.bool true)) (.t 37), (some (34, true)), 0, [3, 4, 1]⟩,
   ⟨(some 39), .mv (.t 38), (some (34, true)), 0, [5, 3, 1]⟩,
   ⟨(some 40), .mv (.t 4), (some (39, false)), 0, [6]⟩,
   ⟨(some 41), .pick (.t 39) (.c (.bool true)) (.t 40), (some (34, true)), 0, [6, 7, 1]⟩,
   ⟨(some 42), .pick (.t 34) (.t 41) (.c (.bool false)), none, 0, [1, 8]⟩,
   ⟨(some 43), .mv (.t 42), none, 0, [9, 6]⟩,
   ⟨(some 44), .mv (.t 4), (some (43, false)), 0, [10]⟩,
   ⟨(some 45), .mv (.t 44), (some (43, false)), 0, [11, 10, 10]⟩,
   ⟨(some 46), .mv (.t 5), (some (45, true)), 0, [12]⟩,
   ⟨(some 47), .pick (.t 45) (.t 46) (.c (.bool false)), (some (43, false)), 0, [12, 13, 10]⟩,
   ⟨(some 48), .pick (.t 43) (.c (.bool true)) (.t 47), none, 0, [10, 14]⟩,
   ⟨(some 49), .mv (.t 48), none, 0, [15, 12]⟩,
   ⟨(some 50), .load (some 4) (.t 1), (some (49, false)), 0, [16]⟩,
   ⟨(some 51), .call (.c (.fn f_ref02_Has [] [])) [(.t 50), (.c (.int .i64 16))], (some (49, false)), 0, [17, 16, 16]⟩,
   ⟨(some 52), .mv (.t 51), (some (49, false)), 0, [18, 18, 16]⟩,
   ⟨(some 53), .load (some 4) (.t 1), (some (52, false)), 0, [19]⟩,
   ⟨(some 54), .call (.c (.fn f_ref02_Has [] [])) [(.t 53), (.c (.int .i64 32))], (some (52, false)), 0, [20, 19, 19]⟩,
   ⟨(some 55), .pick (.t 52) (.c (.bool true)) (.t 54), (some (49, false)), 0, [19, 21, 16]⟩,
   ⟨(some 56), .mv (.t 55), (some (49, false)), 0, [22, 21, 16]⟩,
   ⟨(some 57), .mv (.t 4), (some (56, true)), 0, [23]⟩,
   ⟨(some 58), .un .not (.t 57), (some (56, true)), 0, [24, 23]⟩,
   ⟨(some 59), .pick (.t 56) (.t 58) (.c (.bool false)), (some (49, false)), 0, [23, 25, 16]⟩,
   ⟨(some 60), .pick (.t 49) (.c (.bool true)) (.t 59), none, 0, [16, 26]⟩] [33, 34, 35, 36, 37, 38, 39, 40, 41, 42, 43, 44, 45, 46, 47, 48, 49, 50, 51, 52, 53, 54, 55, 56, 57, 58, 59])
 (.cond (.t 60) [60]
  (.seq (.region 0 [
    ⟨(some 2), .mv (.c (.bool false)), none, 0, []⟩] [])
  .ret)
  .skip))
 (.seq (.seq (.region 0 [
   ⟨(some 61), .faddr 0 (.t 1), none, 0, []⟩,
   ⟨(some 62), .load none (.t 61), none, 0, [0]⟩,
   ⟨(some 63), .bin .gtr (.t 62) (.c (.int .i64 2047)), none, 0, [1]⟩,
   ⟨(some 64), .mv (.t 63), none, 0, [2]⟩,
   ⟨(some 65), .mv (.t 6), (some (64, true)), 0, [3]⟩,
   ⟨(some 66), .un .not (.t 65), (some (64, true)), 0, [4, 3]⟩,
   ⟨(some 67), .pick (.t 64) (.t 66) (.c (.bool false)), none, 0, [3, 5]⟩,
   ⟨(some 68), .mv (.t 67), none, 0, [6, 3]⟩,
   ⟨(some 69), .mv (.t 3), (some (68, true)), 0, [7]⟩,
   ⟨(some 70), .un .not (.t 69), (some (68, true)), 0, [8, 7]⟩,
   ⟨(some 71), .pick (.t 68) (.t 70) (.c (.bool false)), none, 0, [7, 9]⟩] [6, 61, 62, 63, 64, 65, 66, 67, 68, 69, 70])
 (.cond (.t 71) [71]
  (.seq (.region 0 [
    ⟨(some 2), .mv (.c (.bool false)), none, 0, []⟩] [])
  .ret)
  .skip))
 (.seq (.seq (.region 0 [
   ⟨(some 72), .faddr 2 (.t 1), none, 0, []⟩,
   ⟨(some 73), .load none (.t 72), none, 0, [0]⟩,
   ⟨(some 74), .bin .lss (.t 73) (.c (.int .i64 0)), none, 0, [1]⟩,
   ⟨(some 75), .mv (.t 74), none, 0, [2]⟩,
   ⟨(some 76), .faddr 2 (.t 1), (some (75, false)), 0, [3]⟩,
   ⟨(some 77), .load none (.t 76), (some (75, false)), 0, [4, 3]⟩,
   ⟨(some 78), .bin .gtr (.t 77) (.c (.int .i64 64)), (some (75, false)), 0, [5, 3]⟩,
   ⟨(some 79), .pick (.t 75) (.c (.bool true)) (.t 78), none, 0, [3, 6]⟩,
   ⟨(some 80), .mv (.t 79), none, 0, [7, 3]⟩,
   ⟨(some 81), .mv (.t 4), (some (80, false)), 0, [8]⟩,
   ⟨(some 82), .un .not (.t 81), (some (80, false)), 0, [9, 8]⟩,
   ⟨(some 83), .mv (.t 82), (some (80, false)), 0, [10, 8, 8]⟩,
   ⟨(some 84), .faddr 2 (.t 1), (some (83, true)), 0, [11]⟩,
   ⟨(some 85), .load none (.t 84), (some (83, true)), 0, [12, 11]⟩,
   ⟨(some 86), .bin .gtr (.t 85) (.c (.int .i64 8)), (some (83, true)), 0, [13, 11]⟩,
   ⟨(some 87), .pick (.t 83) (.t 86) (.c (.bool false)), (some (80, false)), 0, [11, 14, 8]⟩,
   ⟨(some 88), .pick (.t 80) (.c (.bool true)) (.t 87), none, 0, [8, 15]⟩,
   ⟨(some 89), .mv (.t 88), none, 0, [16, 11]⟩,
   ⟨(some 90), .mv (.t 4), (some (89, false)), 0, [17]⟩,
   ⟨(some 91), .mv (.t 90), (some (89, false)), 0, [18, 17, 17]⟩,
   ⟨(some 92), .faddr 2 (.t 1), (some (91, true)), 0, [19]⟩,
   ⟨(some 93), .load none (.t 92), (some (91, true)), 0, [20, 19]⟩,
   ⟨(some 94), .call (.c (.fn f_ref02_Code [] [])) [(.t 93)], (some (91, true)), 0, [21, 19, 19]⟩,
   ⟨(some 95), .bin .lss (.t 94) (.c (.int .i64 0)), (some (91, true)), 0, [22, 19]⟩,
   ⟨(some 96), .pick (.t 91) (.t 95) (.c (.bool false)), (some (89, false)), 0, [19, 23, 17]⟩,
   ⟨(some 97), .pick (.t 89) (.c (.bool true)) (.t 96), none, 0, [17, 24]⟩,
   ⟨(some 98), .mv (.t 97), none, 0, [25, 22]⟩,
   ⟨(some 99), .mv (.t 3), (some (98, false)), 0, [26]⟩,
   ⟨(some 100), .mv (.t 99), (some (98, false)), 0, [27, 26, 26]⟩,
   ⟨(some 101), .faddr 2 (.t 1), (some (100, true)), 0, [28]⟩,
   ⟨(some 102), .load none (.t 101), (some (100, true)), 0, [29, 28]⟩,
   ⟨(some 103), .bin .neq (.t 102) (.c (.int .i64 8)), (some (100, true)), 0, [30, 28]⟩,
   ⟨(some 104), .pick (.t 100) (.t 103) (.c (.bool false)), (some (98, false)), 0, [28, 31, 26]⟩,
   ⟨(some 105), .pick (.t 98) (.c (.bool true)) (.t 104), none, 0, [26, 32]⟩] [3, 4, 72, 73, 74, 75, 76, 77, 78, 79, 80, 81, 82, 83, 84, 85, 86, 87, 88, 89, 90, 91, 92, 93, 94, 95, 96, 97, 98, 99, 100, 101, 102, 103, 104])
 (.cond (.t 105) [105]
  (.seq (.region 0 [
    ⟨(some 2), .mv (.c (.bool false)), none, 0, []⟩] [])
  .ret)
  .skip))
 (.seq (.seq (.region 0 [
   ⟨(some 106), .mv (.t 5), none, 0, []⟩] [5])
 (.cond (.t 106) [106]
  (.seq (.region 0 [
    ⟨(some 107), .faddr 3 (.t 1), none, 0, []⟩,
    ⟨(some 108), .load none (.t 107), none, 0, [0]⟩,
    ⟨(some 109), .bin .eql (.t 108) (.c (.str [])), none, 0, [1]⟩,
    ⟨(some 2), .mv (.t 109), none, 0, [2, 0, 1, 2]⟩] [1, 107, 108, 109])
  .ret)
  .skip))
 (.seq (.region 0 [
   ⟨(some 110), .faddr 3 (.t 1), none, 0, []⟩,
   ⟨(some 111), .load none (.t 110), none, 0, [0]⟩,
   ⟨(some 112), .lenst (.t 111), none, 0, [1]⟩,
   ⟨(some 113), .faddr 2 (.t 1), none, 0, []⟩,
   ⟨(some 114), .load none (.t 113), none, 0, [3]⟩,
   ⟨(some 115), .bin .eql (.t 112) (.t 114), none, 0, [2, 4]⟩,
   ⟨(some 2), .mv (.t 115), none, 0, [5, 0, 1, 2, 3, 4, 5]⟩] [1, 110, 111, 112, 113, 114, 115])
 .ret))))))))
def hs_ref02_Right : List (List Nat) := [[0, 2], [7, 8, 9, 10, 11, 12, 13, 14, 15, 16, 17, 18, 19, 20, 21, 22, 23], [24], [], [0, 2, 4, 6, 1, 3, 5, 7, 8, 9, 10, 11], [0, 1, 0, 7, 0, 31, 0, 127, 255, 511, 1023, 2047], [25, 26, 27, 28, 29, 30, 31, 32], [33, 34, 35, 36, 37, 38, 39, 40, 41, 42, 43, 44, 45, 46, 47, 48, 49, 50, 51, 52, 53, 54, 55, 56, 57, 58, 59], [60], [], [6, 61, 62, 63, 64, 65, 66, 67, 68, 69, 70], [71], [], [3, 4, 72, 73, 74, 75, 76, 77, 78, 79, 80, 81, 82, 83, 84, 85, 86, 87, 88, 89, 90, 91, 92, 93, 94, 95, 96, 97, 98, 99, 100, 101, 102, 103, 104], [105], [], [5], [106], [1, 107, 108, 109], [1, 110, 111, 112, 113, 114, 115]]
theorem ok_ref02_Right : FnOk Try.prog f_ref02_Right ic_ref02_Right [.t 2] 116 := ⟨Try.f41, hs_ref02_Right, Try.func41, by kernel_rfl, by kernel_rfl, by kernel_rfl, by kernel_rfl⟩

/-- signalbox/signalboxref02.Has -/
def ic_ref02_Has : IC :=
 (.seq (.region 1 [
   ⟨(some 2), .box (.t 0), none, 0, []⟩,
   ⟨(some 4), .mv (.c (.bool false)), none, 1, []⟩] [0, 4])
 (.seq (.seq (.region 0 [
   ⟨(some 5), .faddr 1 (.t 2), none, 0, []⟩,
   ⟨(some 6), .load none (.t 5), none, 0, [0]⟩,
   ⟨(some 7), .bin .lss (.t 6) (.c (.int .i64 0)), none, 0, [1]⟩] [5, 6])
 (.cond (.t 7) [7]
  (.seq (.region 0 [
    ⟨(some 4), .mv (.c (.bool false)), none, 0, []⟩] [])
  .ret)
  .skip))
 (.seq (.region 0 [
   ⟨(some 8), .faddr 1 (.t 2), none, 0, []⟩,
   ⟨(some 9), .load none (.t 8), none, 0, [0]⟩,
   ⟨(some 10), .mv (.t 1), none, 0, []⟩,
   ⟨(some 11), .bin .quo (.t 9) (.t 10), none, 0, [1, 2]⟩,
   ⟨(some 12), .bin .rem (.t 11) (.c (.int .i64 2)), none, 0, [3]⟩,
   ⟨(some 13), .bin .eql (.t 12) (.c (.int .i64 1)), none, 0, [4]⟩,
   ⟨(some 4), .mv (.t 13), none, 0, [5, 0, 1, 2, 3, 4, 5]⟩] [1, 2, 8, 9, 10, 11, 12, 13])
 .ret)))
def hs_ref02_Has : List (List Nat) := [[0, 4], [5, 6], [7], [], [1, 2, 8, 9, 10, 11, 12, 13]]
theorem ok_ref02_Has : FnOk Try.prog f_ref02_Has ic_ref02_Has [.t 4] 14 := ⟨Try.f42, hs_ref02_Has, Try.func42, by kernel_rfl, by kernel_rfl, by kernel_rfl, by kernel_rfl⟩

/-- signalbox/signalboxref02.KeyBits -/
def ic_ref02_KeyBits_b1 : IC :=
 (.seq (.seq (.region 0 [
   ⟨(some 37), .mv (.t 4), none, 0, []⟩,
   ⟨(some 38), .bin .lss (.t 37) (.c (.int .i64 19)), none, 0, [0]⟩] [37])
 (.cond (.t 38) [38]
  .skip
  (.exit 0)))
 (.seq (.block 1 (.region 2 [
   ⟨(some 41), .mv (.t 3), none, 0, []⟩,
   ⟨(some 42), .bslice 1 [(.c (.bool false))], none, 0, []⟩,
   ⟨(some 43), .app 1 1 (.t 41) (.t 42), none, 1, [0, 1]⟩,
   ⟨(some 3), .mv (.t 43), none, 2, [2, 2, 0, 1, 2]⟩] [41, 42, 43]))
 (.region 0 [
   ⟨(some 39), .mv (.t 4), none, 0, []⟩,
   ⟨(some 40), .bin .add (.t 39) (.c (.int .i64 1)), none, 0, [0]⟩,
   ⟨(some 4), .mv (.t 40), none, 0, [1, 0, 1]⟩] [39, 40])))
def ic_ref02_KeyBits_l1 : IC := .loop [0, 2, 5, 6, 7, 8, 9, 10, 11, 12, 13, 14, 15, 16, 17, 18, 19, 20, 21, 22, 23, 24, 25, 26, 27, 28, 29, 30, 31, 32, 33, 34, 35, 36, 37, 38, 39, 40, 41, 42, 43, 44, 45, 46, 47, 48] ic_ref02_KeyBits_b1
def ic_ref02_KeyBits : IC :=
 (.seq (.region 1 [
   ⟨(some 1), .box (.t 0), none, 0, []⟩,
   ⟨(some 2), .mv (.c .nils), none, 1, []⟩] [0, 2])
 (.seq (.region 0 [
   ⟨(some 3), .mv (.c .nils), none, 0, []⟩] [])
 (.seq (.seq (.region 0 [
   ⟨(some 5), .load (some 4) (.t 1), none, 0, []⟩,
   ⟨(some 6), .call (.c (.fn f_ref02_Has [] [])) [(.t 5), (.c (.int .i64 1))], none, 0, [0]⟩] [5])
 (.cond (.t 6) [6]
  (.seq (.region 1 [
    ⟨(some 7), .mv (.t 3), none, 0, []⟩,
    ⟨(some 8), .faddr 0 (.t 1), none, 0, []⟩,
    ⟨(some 9), .load none (.t 8), none, 0, [1]⟩,
    ⟨(some 10), .bin .quo (.t 9) (.c (.int .i64 262144)), none, 0, [2]⟩,
    ⟨(some 11), .call (.c (.fn f_ref02_Bits [] [])) [(.t 10), (.c (.int .i64 11))], none, 0, [3]⟩,
    ⟨(some 12), .app 1 1 (.t 7) (.t 11), none, 0, [0, 4, 4]⟩,
    ⟨(some 3), .mv (.t 12), none, 1, [5, 5, 0, 1, 2, 3, 4, 5]⟩] [7, 8, 9, 10, 11, 12])
  (.seq (.region 2 [
    ⟨(some 13), .mv (.t 3), none, 0, []⟩,
    ⟨(some 14), .bslice 1 [(.c (.bool true)), (.c (.bool true))], none, 0, []⟩,
    ⟨(some 15), .app 1 1 (.t 13) (.t 14), none, 1, [0, 1]⟩,
    ⟨(some 3), .mv (.t 15), none, 2, [2, 2, 0, 1, 2]⟩] [13, 14, 15])
  (.seq (.region 1 [
    ⟨(some 16), .mv (.t 3), none, 0, []⟩,
    ⟨(some 17), .faddr 0 (.t 1), none, 0, []⟩,
    ⟨(some 18), .load none (.t 17), none, 0, [1]⟩,
    ⟨(some 19), .bin .rem (.t 18) (.c (.int .i64 262144)), none, 0, [2]⟩,
    ⟨(some 20), .call (.c (.fn f_ref02_Bits [] [])) [(.t 19), (.c (.int .i64 18))], none, 0, [3]⟩,
    ⟨(some 21), .app 1 1 (.t 16) (.t 20), none, 0, [0, 4, 4]⟩,
    ⟨(some 3), .mv (.t 21), none, 1, [5, 5, 0, 1, 2, 3, 4, 5]⟩] [16, 17, 18, 19, 20, 21])
  (.region 2 [
    ⟨(some 22), .mv (.t 3), none, 0, []⟩,
    ⟨(some 23), .load (some 4) (.t 1), none, 0, []⟩,
    ⟨(some 24), .call (.c (.fn f_ref02_Has [] [])) [(.t 23), (.c (.int .i64 2))], none, 0, [1]⟩,
    ⟨(some 25), .bslice 1 [(.t 24)], none, 0, [2]⟩,
    ⟨(some 26), .app 1 1 (.t 22) (.t 25), none, 1, [0, 3, 2]⟩,
    ⟨(some 3), .mv (.t 26), none, 2, [4, 4, 0, 1, 2, 3, 4]⟩] [22, 23, 24, 25, 26]))))
  (.seq (.region 1 [
    ⟨(some 27), .mv (.t 3), none, 0, []⟩,
    ⟨(some 28), .faddr 0 (.t 1), none, 0, []⟩,
    ⟨(some 29), .load none (.t 28), none, 0, [1]⟩,
    ⟨(some 30), .call (.c (.fn f_ref02_Bits [] [])) [(.t 29), (.c (.int .i64 11))], none, 0, [2]⟩,
    ⟨(some 31), .app 1 1 (.t 27) (.t 30), none, 0, [0, 3, 3]⟩,
    ⟨(some 3), .mv (.t 31), none, 1, [4, 4, 0, 1, 2, 3, 4]⟩] [27, 28, 29, 30, 31])
  (.seq (.region 2 [
    ⟨(some 32), .mv (.t 3), none, 0, []⟩,
    ⟨(some 33), .load (some 4) (.t 1), none, 0, []⟩,
    ⟨(some 34), .call (.c (.fn f_ref02_Has [] [])) [(.t 33), (.c (.int .i64 2))], none, 0, [1]⟩,
    ⟨(some 35), .bslice 1 [(.t 34), (.c (.bool false))], none, 0, [2]⟩,
    ⟨(some 36), .app 1 1 (.t 32) (.t 35), none, 1, [0, 3, 2]⟩,
    ⟨(some 3), .mv (.t 36), none, 2, [4, 4, 0, 1, 2, 3, 4]⟩] [32, 33, 34, 35, 36])
  (.seq (.region 0 [
    ⟨(some 4), .mv (.c (.int .i64 0)), none, 0, []⟩] [])
  (.block 0 ic_ref02_KeyBits_l1))))))
 (.seq (.region 2 [
   ⟨(some 44), .mv (.t 3), none, 0, []⟩,
   ⟨(some 45), .load (some 4) (.t 1), none, 0, []⟩,
   ⟨(some 46), .call (.c (.fn f_ref02_Has [] [])) [(.t 45), (.c (.int .i64 8))], none, 0, [1]⟩,
   ⟨(some 47), .bslice 1 [(.t 46)], none, 0, [2]⟩,
   ⟨(some 48), .app 1 1 (.t 44) (.t 47), none, 1, [0, 3, 2]⟩,
   ⟨(some 2), .mv (.t 48), none, 2, [4, 4, 0, 1, 2, 3, 4]⟩] [1, 3, 44, 45, 46, 47, 48])
 .ret))))
def hs_ref02_KeyBits : List (List Nat) := [[0, 2], [], [5], [6], [7, 8, 9, 10, 11, 12], [13, 14, 15], [16, 17, 18, 19, 20, 21], [22, 23, 24, 25, 26], [27, 28, 29, 30, 31], [32, 33, 34, 35, 36], [], [0, 2, 5, 6, 7, 8, 9, 10, 11, 12, 13, 14, 15, 16, 17, 18, 19, 20, 21, 22, 23, 24, 25, 26, 27, 28, 29, 30, 31, 32, 33, 34, 35, 36, 37, 38, 39, 40, 41, 42, 43, 44, 45, 46, 47, 48], [37], [38], [41, 42, 43], [39, 40], [1, 3, 44, 45, 46, 47, 48]]
theorem ok_ref02_KeyBits : FnOk Try.prog f_ref02_KeyBits ic_ref02_KeyBits [.t 2] 49 := ⟨Try.f43, hs_ref02_KeyBits, Try.func43, by kernel_rfl, by kernel_rfl, by kernel_rfl, by kernel_rfl⟩

/-- (*signalbox/box.Boxes).ends -/
def ic_box_Boxes_ends : IC :=
 (.seq (.region 0 [
   ⟨(some 6), .mv (.c (.int .i64 0)), none, 0, []⟩] [6])
 (.seq (.block 0 (.seq (.block 3 (.block 2 (.seq (.block 1 (.seq (.seq (.seq (.region 0 [
   ⟨(some 8), .mv (.t 0), none, 0, []⟩,
   ⟨(some 9), .eqv false .ptr (.t 8) (.c .nilp), none, 0, [0]⟩,
   ⟨(some 7), .mv (.t 9), none, 0, [1]⟩] [8, 9])
 (.cond (.t 7) [7]
  (.exit 1)
  .skip))
 (.seq (.seq (.region 0 [
   ⟨(some 11), .mv (.t 1), none, 0, []⟩,
   ⟨(some 12), .bin .lss (.t 11) (.c (.int .i64 0)), none, 0, [0]⟩,
   ⟨(some 13), .mv (.t 12), none, 0, [1]⟩,
   ⟨(some 14), .mv (.t 1), (some (13, false)), 0, [2]⟩,
   ⟨(some 15), .mv (.t 0), (some (13, false)), 0, [2]⟩,
   ⟨(some 16), .nilck (.t 15), (some (13, false)), 0, [4, 2]⟩,
   ⟨(some 17), .faddr 0 (.t 16), (some (13, false)), 0, [5, 2]⟩,
   ⟨(some 18), .load none (.t 17), (some (13, false)), 0, [6, 2]⟩,
   ⟨(some 19), .lens (.t 18), (some (13, false)), 0, [7, 2]⟩,
   ⟨(some 20), .bin .geq (.t 14) (.t 19), (some (13, false)), 0, [3, 8, 2]⟩,
   ⟨(some 21), .pick (.t 13) (.c (.bool true)) (.t 20), none, 0, [2, 9]⟩,
   ⟨(some 10), .mv (.t 21), none, 0, [10, 2]⟩] [11, 12, 13, 14, 15, 16, 17, 18, 19, 20, 21])
 (.cond (.t 10) [10]
  (.exit 2)
  .skip))
 (.seq (.region 0 [
   ⟨(some 23), .mv (.t 0), none, 0, []⟩,
   ⟨(some 24), .nilck (.t 23), none, 0, [0]⟩,
   ⟨(some 25), .faddr 0 (.t 24), none, 0, [1]⟩,
   ⟨(some 26), .load none (.t 25), none, 0, [2]⟩,
   ⟨(some 27), .mv (.t 1), none, 0, []⟩,
   ⟨(some 28), .iaddr 9 (.t 26) (.t 27), none, 0, [3, 4]⟩,
   ⟨(some 29), .faddr 0 (.t 28), none, 0, [5]⟩,
   ⟨(some 30), .load none (.t 29), none, 0, [6]⟩,
   ⟨(some 31), .bin .neq (.t 30) (.c (.int .i64 1)), none, 0, [7]⟩,
   ⟨(some 22), .mv (.t 31), none, 0, [8]⟩] [23, 24, 25, 26, 27, 28, 29, 30, 31])
 (.cond (.t 22) [22]
  (.exit 3)
  .skip))))
 (.exit 0)))
 (.seq (.seq (.region 0 [
   ⟨(some 6), .mv (.c (.int .i64 1)), none, 0, []⟩] [])
 .ret)
 (.exit 0)))))
 (.seq (.seq (.region 0 [
   ⟨(some 6), .mv (.c (.int .i64 2)), none, 0, []⟩] [])
 .ret)
 (.exit 0))))
 (.seq (.region 0 [
   ⟨(some 32), .mv (.t 0), none, 0, []⟩,
   ⟨(some 33), .nilck (.t 32), none, 0, [0]⟩,
   ⟨(some 34), .faddr 0 (.t 33), none, 0, [1]⟩,
   ⟨(some 35), .load none (.t 34), none, 0, [2]⟩,
   ⟨(some 36), .mv (.t 1), none, 0, []⟩,
   ⟨(some 37), .mv (.t 2), none, 0, []⟩,
   ⟨(some 38), .iaddr 9 (.t 35) (.t 36), none, 0, [3, 4, 0, 1, 2, 3, 4, 5]⟩,
   ⟨(some 39), .faddr 0 (.t 38), none, 0, [6, 0, 1, 2, 3, 4, 5]⟩,
   ⟨none, .store 1 (.t 39) (.t 37), none, 0, [7, 5, 0, 1, 2, 3, 4, 5]⟩] [2, 32, 33, 34, 35, 36, 37, 38, 39])
 (.seq (.region 2 [
   ⟨(some 40), .mv (.t 0), none, 0, []⟩,
   ⟨(some 41), .mv (.t 0), none, 0, []⟩,
   ⟨(some 42), .nilck (.t 41), none, 0, [1]⟩,
   ⟨(some 43), .faddr 1 (.t 42), none, 0, [2]⟩,
   ⟨(some 44), .load none (.t 43), none, 0, [3]⟩,
   ⟨(some 45), .mv (.t 1), none, 0, []⟩,
   ⟨(some 46), .bslice 1 [(.t 45)], none, 0, [5]⟩,
   ⟨(some 47), .app 1 8 (.t 44) (.t 46), none, 1, [4, 6]⟩,
   ⟨(some 48), .nilck (.t 40), none, 2, [0, 0, 1, 2, 3, 4, 5, 6, 7]⟩,
   ⟨(some 49), .faddr 1 (.t 48), none, 2, [8, 0, 1, 2, 3, 4, 5, 6, 7]⟩,
   ⟨none, .store 1 (.t 49) (.t 47), none, 2, [9, 7, 7, 0, 1, 2, 3, 4, 5, 6, 7]⟩] [0, 1, 40, 41, 42, 43, 44, 45, 46, 47, 48, 49])
 (.seq (.region 0 [
   ⟨(some 6), .mv (.c (.int .i64 0)), none, 0, []⟩] [])
 .ret)))))
def hs_box_Boxes_ends : List (List Nat) := [[6], [8, 9], [7], [11, 12, 13, 14, 15, 16, 17, 18, 19, 20, 21], [10], [23, 24, 25, 26, 27, 28, 29, 30, 31], [22], [], [], [2, 32, 33, 34, 35, 36, 37, 38, 39], [0, 1, 40, 41, 42, 43, 44, 45, 46, 47, 48, 49], []]
theorem ok_box_Boxes_ends : FnOk Try.prog f_box_Boxes_ends ic_box_Boxes_ends [.t 6] 50 := ⟨Try.f44, hs_box_Boxes_ends, Try.func44, by kernel_rfl, by kernel_rfl, by kernel_rfl, by kernel_rfl⟩

/-- (*signalbox/signalboxref13.Boxes).Put -/
def ic_ref13_Boxes_Put_b1 : IC :=
 (.seq (.seq (.region 0 [
   ⟨(some 11), .mv (.t 6), none, 0, []⟩,
   ⟨(some 12), .mv (.t 0), none, 0, []⟩,
   ⟨(some 13), .nilck (.t 12), none, 0, [1]⟩,
   ⟨(some 14), .faddr 0 (.t 13), none, 0, [2]⟩,
   ⟨(some 15), .load none (.t 14), none, 0, [3]⟩,
   ⟨(some 16), .lens (.t 15), none, 0, [4]⟩,
   ⟨(some 17), .bin .lss (.t 11) (.t 16), none, 0, [0, 5]⟩] [11, 12, 13, 14, 15, 16])
 (.cond (.t 17) [17]
  .skip
  (.exit 0)))
 (.seq (.block 1 (.seq (.region 0 [
   ⟨(some 20), .mv (.t 0), none, 0, []⟩,
   ⟨(some 21), .nilck (.t 20), none, 0, [0]⟩,
   ⟨(some 22), .faddr 0 (.t 21), none, 0, [1]⟩,
   ⟨(some 23), .load none (.t 22), none, 0, [2]⟩,
   ⟨(some 24), .mv (.t 6), none, 0, []⟩,
   ⟨(some 25), .iaddr 1 (.t 23) (.t 24), none, 0, [3, 4]⟩,
   ⟨(some 26), .load none (.t 25), none, 0, [5]⟩,
   ⟨(some 27), .bin .eql (.t 26) (.c (.int .i64 0)), none, 0, [6]⟩] [20, 21, 22, 23, 24, 25, 26])
 (.cond (.t 27) [27]
  (.seq (.region 0 [
    ⟨(some 28), .mv (.t 0), none, 0, []⟩,
    ⟨(some 29), .nilck (.t 28), none, 0, [0]⟩,
    ⟨(some 30), .faddr 0 (.t 29), none, 0, [1]⟩,
    ⟨(some 31), .load none (.t 30), none, 0, [2]⟩,
    ⟨(some 32), .mv (.t 6), none, 0, []⟩,
    ⟨(some 33), .iaddr 1 (.t 31) (.t 32), none, 0, [3, 4, 0, 1, 2, 3, 4]⟩,
    ⟨none, .store 1 (.t 33) (.c (.int .i64 1)), none, 0, [5, 0, 1, 2, 3, 4]⟩] [28, 29, 30, 31, 32, 33])
  (.seq (.regionD 0 [
    ⟨(some 34), .mv (.t 0), none, 0, []⟩,
    ⟨(some 35), .nilck (.t 34), none, 0, [0]⟩,
    ⟨(some 36), .faddr 1 (.t 35), none, 0, [1]⟩,
    ⟨(some 37), .load none (.t 36), none, 0, [2]⟩,
    ⟨(some 38), .mv (.t 6), none, 0, []⟩,
    ⟨(some 39), .load (some 7) (.t 3), none, 0, []⟩,
    ⟨(some 40), .iaddr 7 (.t 37) (.t 38), none, 0, [3, 4, 0, 1, 2, 3, 4, 5]⟩,
    ⟨none, .store 7 (.t 40) (.t 39), none, 0, [6, 5, 0, 1, 2, 3, 4, 5]⟩]
    [0, 1, 2, 4, 3, 5, 6, 7] [0, 1, 3, 7, 0, 0, 63, 127] [3, 34, 35, 36, 37, 38, 39, 40])
  (.seq (.region 2 [
    ⟨(some 41), .mv (.t 0), none, 0, []⟩,
    ⟨(some 42), .mv (.t 0), none, 0, []⟩,
    ⟨(some 43), .nilck (.t 42), none, 0, [1]⟩,
    ⟨(some 44), .faddr 2 (.t 43), none, 0, [2]⟩,
    ⟨(some 45), .load none (.t 44), none, 0, [3]⟩,
    ⟨(some 46), .mv (.t 6), none, 0, []⟩,
    ⟨(some 47), .bslice 1 [(.t 46)], none, 0, [5]⟩,
    ⟨(some 48), .app 1 8 (.t 45) (.t 47), none, 1, [4, 6]⟩,
    ⟨(some 49), .nilck (.t 41), none, 2, [0, 0, 1, 2, 3, 4, 5, 6, 7]⟩,
    ⟨(some 50), .faddr 2 (.t 49), none, 2, [8, 0, 1, 2, 3, 4, 5, 6, 7]⟩,
    ⟨none, .store 1 (.t 50) (.t 48), none, 2, [9, 7, 7, 0, 1, 2, 3, 4, 5, 6, 7]⟩] [0, 41, 42, 43, 44, 45, 46, 47, 48, 49, 50])
  (.seq (.region 0 [
    ⟨(some 51), .mv (.t 6), none, 0, []⟩,
    ⟨(some 4), .mv (.t 51), none, 0, [0, 0]⟩,
    ⟨(some 5), .mv (.c (.int .i64 0)), none, 0, [1, 0, 1]⟩] [6, 51])
  .ret))))
  .skip)))
 (.region 0 [
   ⟨(some 18), .mv (.t 6), none, 0, []⟩,
   ⟨(some 19), .bin .add (.t 18) (.c (.int .i64 1)), none, 0, [0]⟩,
   ⟨(some 6), .mv (.t 19), none, 0, [1, 0, 1]⟩] [18, 19])))
def ic_ref13_Boxes_Put_l1 : IC := .loop [1, 4, 5, 7, 8, 9, 10, 11, 12, 13, 14, 15, 16, 17, 18, 19, 20, 21, 22, 23, 24, 25, 26, 27, 28, 29, 30, 31, 32, 33, 34, 35, 36, 37, 38, 39, 40, 41, 42, 43, 44, 45, 46, 47, 48, 49, 50, 51] ic_ref13_Boxes_Put_b1
def ic_ref13_Boxes_Put : IC :=
 (.seq (.region 1 [
   ⟨(some 3), .box (.t 1), none, 0, []⟩,
   ⟨(some 4), .mv (.c (.int .i64 0)), none, 1, []⟩,
   ⟨(some 5), .mv (.c (.int .i64 0)), none, 1, [1]⟩] [1, 4, 5])
 (.seq (.seq (.region 0 [
   ⟨(some 7), .faddr 0 (.t 3), none, 0, []⟩,
   ⟨(some 8), .load (some 4) (.t 7), none, 0, [0]⟩,
   ⟨(some 9), .call (.c (.fn f_ref02_Key [] [])) [(.t 8)], none, 0, [1]⟩,
   ⟨(some 10), .bin .lss (.t 9) (.c (.int .i64 0)), none, 0, [2]⟩] [7, 8, 9])
 (.cond (.t 10) [10]
  (.seq (.region 0 [
    ⟨(some 4), .mv (.c (.int .i64 0)), none, 0, []⟩,
    ⟨(some 5), .mv (.c (.int .i64 4)), none, 0, [0, 0]⟩] [])
  .ret)
  .skip))
 (.seq (.seq (.region 0 [
   ⟨(some 6), .mv (.c (.int .i64 0)), none, 0, []⟩] [])
 (.block 0 ic_ref13_Boxes_Put_l1))
 (.seq (.region 0 [
   ⟨(some 4), .mv (.c (.int .i64 0)), none, 0, []⟩,
   ⟨(some 5), .mv (.c (.int .i64 5)), none, 0, [0, 0]⟩] [])
 .ret))))
def hs_ref13_Boxes_Put : List (List Nat) := [[1, 4, 5], [7, 8, 9], [10], [], [], [1, 4, 5, 7, 8, 9, 10, 11, 12, 13, 14, 15, 16, 17, 18, 19, 20, 21, 22, 23, 24, 25, 26, 27, 28, 29, 30, 31, 32, 33, 34, 35, 36, 37, 38, 39, 40, 41, 42, 43, 44, 45, 46, 47, 48, 49, 50, 51], [11, 12, 13, 14, 15, 16], [17], [20, 21, 22, 23, 24, 25, 26], [27], [28, 29, 30, 31, 32, 33], [0, 1, 2, 4, 3, 5, 6, 7], [0, 1, 3, 7, 0, 0, 63, 127], [3, 34, 35, 36, 37, 38, 39, 40], [0, 41, 42, 43, 44, 45, 46, 47, 48, 49, 50], [6, 51], [18, 19], []]
theorem ok_ref13_Boxes_Put : FnOk Try.prog f_ref13_Boxes_Put ic_ref13_Boxes_Put [.t 4, .t 5] 52 := ⟨Try.f45, hs_ref13_Boxes_Put, Try.func45, by kernel_rfl, by kernel_rfl, by kernel_rfl, by kernel_rfl⟩

/-- (*signalbox/signalboxref13.Boxes).Best -/
def ic_ref13_Boxes_Best_b1 : IC :=
 (.seq (.seq (.region 0 [
   ⟨(some 6), .mv (.t 4), none, 0, []⟩,
   ⟨(some 7), .mv (.t 0), none, 0, []⟩,
   ⟨(some 8), .nilck (.t 7), none, 0, [1]⟩,
   ⟨(some 9), .faddr 2 (.t 8), none, 0, [2]⟩,
   ⟨(some 10), .load none (.t 9), none, 0, [3]⟩,
   ⟨(some 11), .lens (.t 10), none, 0, [4]⟩,
   ⟨(some 12), .bin .lss (.t 6) (.t 11), none, 0, [0, 5]⟩] [6, 7, 8, 9, 10, 11])
 (.cond (.t 12) [12]
  .skip
  (.exit 0)))
 (.seq (.block 1 (.seq (.region 0 [
   ⟨(some 15), .mv (.t 0), none, 0, []⟩,
   ⟨(some 16), .nilck (.t 15), none, 0, [0]⟩,
   ⟨(some 17), .faddr 2 (.t 16), none, 0, [1]⟩,
   ⟨(some 18), .load none (.t 17), none, 0, [2]⟩,
   ⟨(some 19), .mv (.t 4), none, 0, []⟩,
   ⟨(some 20), .iaddr 1 (.t 18) (.t 19), none, 0, [3, 4]⟩,
   ⟨(some 21), .load none (.t 20), none, 0, [5]⟩,
   ⟨(some 5), .mv (.t 21), none, 0, [6, 0, 1, 2, 3, 4, 5, 6]⟩] [15, 16, 17, 18, 19, 20, 21])
 (.seq (.regionD 0 [
   ⟨(some 22), .mv (.t 3), none, 0, []⟩,
   ⟨(some 23), .bin .lss (.t 22) (.c (.int .i64 0)), none, 0, [0]⟩,
   ⟨(some 24), .mv (.t 23), none, 0, [1]⟩,
   ⟨(some 25), .mv (.t 0), (some (24, false)), 0, [2]⟩,
   ⟨(some 26), .nilck (.t 25), (some (24, false)), 0, [3, 2]⟩,
   ⟨(some 27), .faddr 1 (.t 26), (some (24, false)), 0, [4, 2]⟩,
   ⟨(some 28), .load none (.t 27), (some (24, false)), 0, [5, 2]⟩,
   ⟨(some 29), .mv (.t 5), (some (24, false)), 0, [2]⟩,
   ⟨(some 30), .iaddr 7 (.t 28) (.t 29), (some (24, false)), 0, [6, 7, 2]⟩,
   ⟨(some 31), .faddr 0 (.t 30), (some (24, false)), 0, [8, 2]⟩,
   ⟨(some 32), .load (some 4) (.t 31), (some (24, false)), 0, [9, 2]⟩,
   ⟨(some 33), .call (.c (.fn f_ref02_Key [] [])) [(.t 32)], (some (24, false)), 0, [10, 2, 2]⟩,
   ⟨(some 34), .mv (.t 0), (some (24, false)), 0, [2]⟩,
   ⟨(some 35), .nilck (.t 34), (some (24, false)), 0, [12, 2]⟩,
   ⟨(some 36), .faddr 1 (.t 35), (some (24, false)), 0, [13, 2]⟩,
   ⟨(some 37), .load none (.t 36), (some (24, false)), 0, [14, 2]⟩,
   ⟨(some 38), .mv (.t 3), (some (24, false)), 0, [2]⟩,
   ⟨(some 39), .iaddr 7 (.t 37) (.t 38), (some (24, false)), 0, [15, 16, 2]⟩,
   ⟨(some 40), .faddr 0 (.t 39), (some (24, false)), 0, [17, 2]⟩,
   ⟨(some 41), .load (some 4) (.t 40), (some (24, false)), 0, [18, 2]⟩,
   ⟨(some 42), .call (.c (.fn f_ref02_Key [] [])) [(.t 41)], (some (24, false)), 0, [19, 11, 2]⟩,
   ⟨(some 43), .bin .lss (.t 33) (.t 42), (some (24, false)), 0, [11, 20, 2]⟩,
   ⟨(some 44), .pick (.t 24) (.c (.bool true)) (.t 43), none, 0, [2, 21]⟩]
   [0, 1, 2, 3, 4, 5, 7, 12, 13, 14, 16, 6, 8, 9, 10, 15, 17, 18, 19, 11, 20, 21, 22] [0, 1, 3, 7, 15, 31, 63, 7, 255, 511, 1023, 2047, 7, 4103, 12295, 28679, 7, 126983, 258055, 520199, 1048575, 2097151, 4194303] [22, 23, 24, 25, 26, 27, 28, 29, 30, 31, 32, 33, 34, 35, 36, 37, 38, 39, 40, 41, 42, 43])
 (.cond (.t 44) [44]
  (.region 0 [
    ⟨(some 45), .mv (.t 5), none, 0, []⟩,
    ⟨(some 3), .mv (.t 45), none, 0, [0, 0]⟩] [5, 45])
  .skip))))
 (.region 0 [
   ⟨(some 13), .mv (.t 4), none, 0, []⟩,
   ⟨(some 14), .bin .add (.t 13) (.c (.int .i64 1)), none, 0, [0]⟩,
   ⟨(some 4), .mv (.t 14), none, 0, [1, 0, 1]⟩] [13, 14])))
def ic_ref13_Boxes_Best_l1 : IC := .loop [2, 5, 6, 7, 8, 9, 10, 11, 12, 13, 14, 15, 16, 17, 18, 19, 20, 21, 22, 23, 24, 25, 26, 27, 28, 29, 30, 31, 32, 33, 34, 35, 36, 37, 38, 39, 40, 41, 42, 43, 44, 45, 46] ic_ref13_Boxes_Best_b1
def ic_ref13_Boxes_Best : IC :=
 (.seq (.region 0 [
   ⟨(some 2), .mv (.c (.int .i64 0)), none, 0, []⟩] [2])
 (.seq (.region 0 [
   ⟨(some 3), .mv (.c (.int .i64 (-1))), none, 0, []⟩] [])
 (.seq (.seq (.region 0 [
   ⟨(some 4), .mv (.c (.int .i64 0)), none, 0, []⟩] [])
 (.block 0 ic_ref13_Boxes_Best_l1))
 (.seq (.region 0 [
   ⟨(some 46), .mv (.t 3), none, 0, []⟩,
   ⟨(some 2), .mv (.t 46), none, 0, [0, 0]⟩] [3, 46])
 .ret))))
def hs_ref13_Boxes_Best : List (List Nat) := [[2], [], [], [2, 5, 6, 7, 8, 9, 10, 11, 12, 13, 14, 15, 16, 17, 18, 19, 20, 21, 22, 23, 24, 25, 26, 27, 28, 29, 30, 31, 32, 33, 34, 35, 36, 37, 38, 39, 40, 41, 42, 43, 44, 45, 46], [6, 7, 8, 9, 10, 11], [12], [15, 16, 17, 18, 19, 20, 21], [0, 1, 2, 3, 4, 5, 7, 12, 13, 14, 16, 6, 8, 9, 10, 15, 17, 18, 19, 11, 20, 21, 22], [0, 1, 3, 7, 15, 31, 63, 7, 255, 511, 1023, 2047, 7, 4103, 12295, 28679, 7, 126983, 258055, 520199, 1048575, 2097151, 4194303], [22, 23, 24, 25, 26, 27, 28, 29, 30, 31, 32, 33, 34, 35, 36, 37, 38, 39, 40, 41, 42, 43], [44], [5, 45], [13, 14], [3, 46]]
theorem ok_ref13_Boxes_Best : FnOk Try.prog f_ref13_Boxes_Best ic_ref13_Boxes_Best [.t 2] 47 := ⟨Try.f46, hs_ref13_Boxes_Best, Try.func46, by kernel_rfl, by kernel_rfl, by kernel_rfl, by kernel_rfl⟩

/-- (*signalbox/signalboxref13.Boxes).End -/
def ic_ref13_Boxes_End_b1 : IC :=
 (.seq (.seq (.region 0 [
   ⟨(some 37), .mv (.t 8), none, 0, []⟩,
   ⟨(some 38), .mv (.t 0), none, 0, []⟩,
   ⟨(some 39), .nilck (.t 38), none, 0, [1]⟩,
   ⟨(some 40), .faddr 2 (.t 39), none, 0, [2]⟩,
   ⟨(some 41), .load none (.t 40), none, 0, [3]⟩,
   ⟨(some 42), .lens (.t 41), none, 0, [4]⟩,
   ⟨(some 43), .bin .lss (.t 37) (.t 42), none, 0, [0, 5]⟩] [37, 38, 39, 40, 41, 42])
 (.cond (.t 43) [43]
  .skip
  (.exit 0)))
 (.seq (.block 1 (.seq (.region 0 [
   ⟨(some 46), .mv (.t 0), none, 0, []⟩,
   ⟨(some 47), .nilck (.t 46), none, 0, [0]⟩,
   ⟨(some 48), .faddr 2 (.t 47), none, 0, [1]⟩,
   ⟨(some 49), .load none (.t 48), none, 0, [2]⟩,
   ⟨(some 50), .mv (.t 8), none, 0, []⟩,
   ⟨(some 51), .iaddr 1 (.t 49) (.t 50), none, 0, [3, 4]⟩,
   ⟨(some 52), .load none (.t 51), none, 0, [5]⟩,
   ⟨(some 53), .mv (.t 1), none, 0, []⟩,
   ⟨(some 54), .bin .neq (.t 52) (.t 53), none, 0, [6, 7]⟩] [46, 47, 48, 49, 50, 51, 52, 53])
 (.cond (.t 54) [54]
  (.region 2 [
    ⟨(some 55), .mv (.t 7), none, 0, []⟩,
    ⟨(some 56), .mv (.t 0), none, 0, []⟩,
    ⟨(some 57), .nilck (.t 56), none, 0, [1]⟩,
    ⟨(some 58), .faddr 2 (.t 57), none, 0, [2]⟩,
    ⟨(some 59), .load none (.t 58), none, 0, [3]⟩,
    ⟨(some 60), .mv (.t 8), none, 0, []⟩,
    ⟨(some 61), .iaddr 1 (.t 59) (.t 60), none, 0, [4, 5]⟩,
    ⟨(some 62), .load none (.t 61), none, 0, [6]⟩,
    ⟨(some 63), .bslice 1 [(.t 62)], none, 0, [7]⟩,
    ⟨(some 64), .app 1 8 (.t 55) (.t 63), none, 1, [0, 8]⟩,
    ⟨(some 7), .mv (.t 64), none, 2, [9, 9, 0, 1, 2, 3, 4, 5, 6, 7, 8, 9]⟩] [55, 56, 57, 58, 59, 60, 61, 62, 63, 64])
  .skip)))
 (.region 0 [
   ⟨(some 44), .mv (.t 8), none, 0, []⟩,
   ⟨(some 45), .bin .add (.t 44) (.c (.int .i64 1)), none, 0, [0]⟩,
   ⟨(some 8), .mv (.t 45), none, 0, [1, 0, 1]⟩] [44, 45])))
def ic_ref13_Boxes_End_l1 : IC := .loop [2, 6, 9, 10, 11, 12, 13, 14, 15, 16, 17, 18, 19, 20, 21, 22, 23, 24, 25, 26, 27, 28, 29, 30, 31, 32, 33, 34, 35, 36, 37, 38, 39, 40, 41, 42, 43, 44, 45, 46, 47, 48, 49, 50, 51, 52, 53, 54, 55, 56, 57, 58, 59, 60, 61, 62, 63, 64, 65, 66, 67, 68, 69, 70, 71, 72, 73, 74, 75, 76, 77, 78] ic_ref13_Boxes_End_b1
def ic_ref13_Boxes_End : IC :=
 (.seq (.region 0 [
   ⟨(some 6), .mv (.c (.int .i64 0)), none, 0, []⟩] [6])
 (.seq (.seq (.region 0 [
   ⟨(some 9), .mv (.t 1), none, 0, []⟩,
   ⟨(some 10), .bin .lss (.t 9) (.c (.int .i64 0)), none, 0, [0]⟩,
   ⟨(some 11), .mv (.t 10), none, 0, [1]⟩,
   ⟨(some 12), .mv (.t 1), (some (11, false)), 0, [2]⟩,
   ⟨(some 13), .mv (.t 0), (some (11, false)), 0, [2]⟩,
   ⟨(some 14), .nilck (.t 13), (some (11, false)), 0, [4, 2]⟩,
   ⟨(some 15), .faddr 0 (.t 14), (some (11, false)), 0, [5, 2]⟩,
   ⟨(some 16), .load none (.t 15), (some (11, false)), 0, [6, 2]⟩,
   ⟨(some 17), .lens (.t 16), (some (11, false)), 0, [7, 2]⟩,
   ⟨(some 18), .bin .geq (.t 12) (.t 17), (some (11, false)), 0, [3, 8, 2]⟩,
   ⟨(some 19), .pick (.t 11) (.c (.bool true)) (.t 18), none, 0, [2, 9]⟩,
   ⟨(some 20), .mv (.t 19), none, 0, [10, 2]⟩,
   ⟨(some 21), .mv (.t 0), (some (20, false)), 0, [11]⟩,
   ⟨(some 22), .nilck (.t 21), (some (20, false)), 0, [12, 11]⟩,
   ⟨(some 23), .faddr 0 (.t 22), (some (20, false)), 0, [13, 11]⟩,
   ⟨(some 24), .load none (.t 23), (some (20, false)), 0, [14, 11]⟩,
   ⟨(some 25), .mv (.t 1), (some (20, false)), 0, [11]⟩,
   ⟨(some 26), .iaddr 1 (.t 24) (.t 25), (some (20, false)), 0, [15, 16, 11]⟩,
   ⟨(some 27), .load none (.t 26), (some (20, false)), 0, [17, 11]⟩,
   ⟨(some 28), .bin .neq (.t 27) (.c (.int .i64 1)), (some (20, false)), 0, [18, 11]⟩,
   ⟨(some 29), .pick (.t 20) (.c (.bool true)) (.t 28), none, 0, [11, 19]⟩] [9, 10, 11, 12, 13, 14, 15, 16, 17, 18, 19, 20, 21, 22, 23, 24, 25, 26, 27, 28])
 (.cond (.t 29) [29]
  (.seq (.region 0 [
    ⟨(some 6), .mv (.c (.int .i64 2)), none, 0, []⟩] [])
  .ret)
  .skip))
 (.seq (.region 0 [
   ⟨(some 30), .mv (.t 0), none, 0, []⟩,
   ⟨(some 31), .nilck (.t 30), none, 0, [0]⟩,
   ⟨(some 32), .faddr 0 (.t 31), none, 0, [1]⟩,
   ⟨(some 33), .load none (.t 32), none, 0, [2]⟩,
   ⟨(some 34), .mv (.t 1), none, 0, []⟩,
   ⟨(some 35), .mv (.t 2), none, 0, []⟩,
   ⟨(some 36), .iaddr 1 (.t 33) (.t 34), none, 0, [3, 4, 0, 1, 2, 3, 4, 5]⟩,
   ⟨none, .store 1 (.t 36) (.t 35), none, 0, [6, 5, 0, 1, 2, 3, 4, 5]⟩] [2, 30, 31, 32, 33, 34, 35, 36])
 (.seq (.region 0 [
   ⟨(some 7), .mv (.c .nils), none, 0, []⟩] [])
 (.seq (.seq (.region 0 [
   ⟨(some 8), .mv (.c (.int .i64 0)), none, 0, []⟩] [])
 (.block 0 ic_ref13_Boxes_End_l1))
 (.seq (.region 0 [
   ⟨(some 65), .mv (.t 0), none, 0, []⟩,
   ⟨(some 66), .mv (.t 7), none, 0, []⟩,
   ⟨(some 67), .nilck (.t 65), none, 0, [0, 0, 1]⟩,
   ⟨(some 68), .faddr 2 (.t 67), none, 0, [2, 0, 1]⟩,
   ⟨none, .store 1 (.t 68) (.t 66), none, 0, [3, 1, 0, 1]⟩] [7, 65, 66, 67, 68])
 (.seq (.region 2 [
   ⟨(some 69), .mv (.t 0), none, 0, []⟩,
   ⟨(some 70), .mv (.t 0), none, 0, []⟩,
   ⟨(some 71), .nilck (.t 70), none, 0, [1]⟩,
   ⟨(some 72), .faddr 3 (.t 71), none, 0, [2]⟩,
   ⟨(some 73), .load none (.t 72), none, 0, [3]⟩,
   ⟨(some 74), .mv (.t 1), none, 0, []⟩,
   ⟨(some 75), .bslice 1 [(.t 74)], none, 0, [5]⟩,
   ⟨(some 76), .app 1 8 (.t 73) (.t 75), none, 1, [4, 6]⟩,
   ⟨(some 77), .nilck (.t 69), none, 2, [0, 0, 1, 2, 3, 4, 5, 6, 7]⟩,
   ⟨(some 78), .faddr 3 (.t 77), none, 2, [8, 0, 1, 2, 3, 4, 5, 6, 7]⟩,
   ⟨none, .store 1 (.t 78) (.t 76), none, 2, [9, 7, 7, 0, 1, 2, 3, 4, 5, 6, 7]⟩] [0, 1, 69, 70, 71, 72, 73, 74, 75, 76, 77, 78])
 (.seq (.region 0 [
   ⟨(some 6), .mv (.c (.int .i64 0)), none, 0, []⟩] [])
 .ret))))))))
def hs_ref13_Boxes_End : List (List Nat) := [[6], [9, 10, 11, 12, 13, 14, 15, 16, 17, 18, 19, 20, 21, 22, 23, 24, 25, 26, 27, 28], [29], [], [2, 30, 31, 32, 33, 34, 35, 36], [], [], [2, 6, 9, 10, 11, 12, 13, 14, 15, 16, 17, 18, 19, 20, 21, 22, 23, 24, 25, 26, 27, 28, 29, 30, 31, 32, 33, 34, 35, 36, 37, 38, 39, 40, 41, 42, 43, 44, 45, 46, 47, 48, 49, 50, 51, 52, 53, 54, 55, 56, 57, 58, 59, 60, 61, 62, 63, 64, 65, 66, 67, 68, 69, 70, 71, 72, 73, 74, 75, 76, 77, 78], [37, 38, 39, 40, 41, 42], [43], [46, 47, 48, 49, 50, 51, 52, 53], [54], [55, 56, 57, 58, 59, 60, 61, 62, 63, 64], [44, 45], [7, 65, 66, 67, 68], [0, 1, 69, 70, 71, 72, 73, 74, 75, 76, 77, 78], []]
theorem ok_ref13_Boxes_End : FnOk Try.prog f_ref13_Boxes_End ic_ref13_Boxes_End [.t 6] 79 := ⟨Try.f47, hs_ref13_Boxes_End, Try.func47, by kernel_rfl, by kernel_rfl, by kernel_rfl, by kernel_rfl⟩

/-- (*signalbox/signalboxref13.Boxes).Take -/
def ic_ref13_Boxes_Take : IC :=
 (.seq (.region 1 [
   ⟨(some 2), .mv (.c (.int .i64 0)), none, 0, []⟩,
   ⟨(some 3), .alloc [(.int .i64 0), (.int .i64 0), (.int .i64 0), (.str []), (.int .i64 0), (.int .i64 0), (.bool false)], none, 0, []⟩,
   ⟨(some 4), .mv (.c (.bool false)), none, 1, [0]⟩] [2, 4])
 (.seq (.seq (.region 0 [
   ⟨(some 8), .mv (.t 0), none, 0, []⟩,
   ⟨(some 9), .nilck (.t 8), none, 0, [0]⟩,
   ⟨(some 10), .faddr 3 (.t 9), none, 0, [1]⟩,
   ⟨(some 11), .load none (.t 10), none, 0, [2]⟩,
   ⟨(some 12), .lens (.t 11), none, 0, [3]⟩,
   ⟨(some 13), .bin .eql (.t 12) (.c (.int .i64 0)), none, 0, [4]⟩] [8, 9, 10, 11, 12])
 (.cond (.t 13) [13]
  (.seq (.region 0 [
    ⟨(some 14), .build [(.int .i64 0), (.int .i64 0), (.int .i64 0), (.str []), (.int .i64 0), (.int .i64 0), (.bool false)] [], none, 0, []⟩,
    ⟨(some 2), .mv (.c (.int .i64 (-1))), none, 0, []⟩,
    ⟨none, .store 7 (.t 3) (.t 14), none, 0, [0, 1, 0, 1]⟩,
    ⟨(some 4), .mv (.c (.bool false)), none, 0, [2, 0, 1, 2]⟩] [14])
  .ret)
  .skip))
 (.seq (.region 0 [
   ⟨(some 15), .mv (.t 0), none, 0, []⟩,
   ⟨(some 16), .nilck (.t 15), none, 0, [0]⟩,
   ⟨(some 17), .faddr 3 (.t 16), none, 0, [1]⟩,
   ⟨(some 18), .load none (.t 17), none, 0, [2]⟩,
   ⟨(some 19), .iaddr 1 (.t 18) (.c (.int .i64 0)), none, 0, [3]⟩,
   ⟨(some 20), .load none (.t 19), none, 0, [4]⟩,
   ⟨(some 5), .mv (.t 20), none, 0, [5, 0, 1, 2, 3, 4, 5]⟩] [15, 16, 17, 18, 19, 20])
 (.seq (.region 0 [
   ⟨(some 21), .mv (.t 0), none, 0, []⟩,
   ⟨(some 22), .mv (.t 0), none, 0, []⟩,
   ⟨(some 23), .nilck (.t 22), none, 0, [1]⟩,
   ⟨(some 24), .faddr 3 (.t 23), none, 0, [2]⟩,
   ⟨(some 25), .load none (.t 24), none, 0, [3]⟩,
   ⟨(some 26), .slc 1 (.t 25) (some (.c (.int .i64 1))) none none, none, 0, [4]⟩,
   ⟨(some 27), .nilck (.t 21), none, 0, [0, 0, 1, 2, 3, 4, 5]⟩,
   ⟨(some 28), .faddr 3 (.t 27), none, 0, [6, 0, 1, 2, 3, 4, 5]⟩,
   ⟨none, .store 1 (.t 28) (.t 26), none, 0, [7, 5, 0, 1, 2, 3, 4, 5]⟩] [21, 22, 23, 24, 25, 26, 27, 28])
 (.seq (.regionD 1 [
   ⟨(some 29), .mv (.t 0), none, 0, []⟩,
   ⟨(some 30), .nilck (.t 29), none, 0, [0]⟩,
   ⟨(some 31), .faddr 1 (.t 30), none, 0, [1]⟩,
   ⟨(some 32), .load none (.t 31), none, 0, [2]⟩,
   ⟨(some 33), .mv (.t 5), none, 0, []⟩,
   ⟨(some 34), .iaddr 7 (.t 32) (.t 33), none, 0, [3, 4]⟩,
   ⟨(some 35), .load (some 7) (.t 34), none, 0, [5]⟩,
   ⟨(some 36), .mv (.t 0), none, 0, []⟩,
   ⟨(some 37), .nilck (.t 36), none, 0, [7]⟩,
   ⟨(some 38), .faddr 0 (.t 37), none, 0, [8]⟩,
   ⟨(some 39), .load none (.t 38), none, 0, [9]⟩,
   ⟨(some 40), .mv (.t 5), none, 0, []⟩,
   ⟨(some 41), .iaddr 1 (.t 39) (.t 40), none, 0, [10, 11]⟩,
   ⟨(some 42), .load none (.t 41), none, 0, [12]⟩,
   ⟨(some 43), .bin .eql (.t 42) (.c (.int .i64 2)), none, 0, [13]⟩,
   ⟨(some 6), .alloc [(.int .i64 0), (.int .i64 0), (.int .i64 0), (.str []), (.int .i64 0), (.int .i64 0), (.bool false)], none, 0, []⟩,
   ⟨none, .store 7 (.t 6) (.t 35), none, 1, [15, 6, 0, 1, 2, 3, 4, 5, 6, 15]⟩,
   ⟨(some 7), .mv (.t 43), none, 1, [14, 16, 0, 1, 2, 3, 4, 5, 6, 7, 8, 9, 10, 11, 12, 13, 14, 15, 16]⟩]
   [0, 1, 2, 4, 7, 8, 9, 11, 3, 5, 6, 10, 12, 13, 14, 15, 16, 17] [0, 1, 3, 7, 0, 31, 63, 0, 128, 384, 896, 0, 3968, 8064, 16256, 0, 32895, 131071] [29, 30, 31, 32, 33, 34, 35, 36, 37, 38, 39, 40, 41, 42, 43])
 (.seq (.region 0 [
   ⟨(some 44), .mv (.t 0), none, 0, []⟩,
   ⟨(some 45), .nilck (.t 44), none, 0, [0]⟩,
   ⟨(some 46), .faddr 0 (.t 45), none, 0, [1]⟩,
   ⟨(some 47), .load none (.t 46), none, 0, [2]⟩,
   ⟨(some 48), .mv (.t 5), none, 0, []⟩,
   ⟨(some 49), .iaddr 1 (.t 47) (.t 48), none, 0, [3, 4, 0, 1, 2, 3, 4]⟩,
   ⟨none, .store 1 (.t 49) (.c (.int .i64 0)), none, 0, [5, 0, 1, 2, 3, 4]⟩] [44, 45, 46, 47, 48, 49])
 (.seq (.region 0 [
   ⟨(some 50), .mv (.t 0), none, 0, []⟩,
   ⟨(some 51), .nilck (.t 50), none, 0, [0]⟩,
   ⟨(some 52), .faddr 1 (.t 51), none, 0, [1]⟩,
   ⟨(some 53), .load none (.t 52), none, 0, [2]⟩,
   ⟨(some 54), .mv (.t 5), none, 0, []⟩,
   ⟨(some 55), .build [(.int .i64 0), (.int .i64 0), (.int .i64 0), (.str []), (.int .i64 0), (.int .i64 0), (.bool false)] [], none, 0, []⟩,
   ⟨(some 56), .iaddr 7 (.t 53) (.t 54), none, 0, [3, 4, 0, 1, 2, 3, 4, 5]⟩,
   ⟨none, .store 7 (.t 56) (.t 55), none, 0, [6, 5, 0, 1, 2, 3, 4, 5]⟩] [0, 50, 51, 52, 53, 54, 55, 56])
 (.seq (.regionD 0 [
   ⟨(some 57), .mv (.t 5), none, 0, []⟩,
   ⟨(some 58), .load (some 7) (.t 6), none, 0, []⟩,
   ⟨(some 59), .mv (.t 7), none, 0, []⟩,
   ⟨(some 2), .mv (.t 57), none, 0, [0, 0]⟩,
   ⟨none, .store 7 (.t 3) (.t 58), none, 0, [1, 3, 0, 1, 3]⟩,
   ⟨(some 4), .mv (.t 59), none, 0, [2, 4, 0, 1, 2, 3, 4]⟩]
   [0, 2, 3, 1, 4, 5] [0, 0, 0, 1, 11, 31] [5, 6, 7, 57, 58, 59])
 .ret))))))))
def hs_ref13_Boxes_Take : List (List Nat) := [[2, 4], [8, 9, 10, 11, 12], [13], [14], [15, 16, 17, 18, 19, 20], [21, 22, 23, 24, 25, 26, 27, 28], [0, 1, 2, 4, 7, 8, 9, 11, 3, 5, 6, 10, 12, 13, 14, 15, 16, 17], [0, 1, 3, 7, 0, 31, 63, 0, 128, 384, 896, 0, 3968, 8064, 16256, 0, 32895, 131071], [29, 30, 31, 32, 33, 34, 35, 36, 37, 38, 39, 40, 41, 42, 43], [44, 45, 46, 47, 48, 49], [0, 50, 51, 52, 53, 54, 55, 56], [0, 2, 3, 1, 4, 5], [0, 0, 0, 1, 11, 31], [5, 6, 7, 57, 58, 59]]
theorem ok_ref13_Boxes_Take : FnOk Try.prog f_ref13_Boxes_Take ic_ref13_Boxes_Take [.t 2, .cell 3 (some 7), .t 4] 60 := ⟨Try.f48, hs_ref13_Boxes_Take, Try.func48, by kernel_rfl, by kernel_rfl, by kernel_rfl, by kernel_rfl⟩

/-- slices.Clone[[]int,int] -/
def ic_slices_Clone_of_int : IC :=
 (.seq (.region 0 [
   ⟨(some 2), .mv (.c .nils), none, 0, []⟩] [2])
 (.seq (.seq (.region 0 [
   ⟨(some 3), .mv (.t 0), none, 0, []⟩,
   ⟨(some 4), .eqv false .slice (.t 3) (.c .nils), none, 0, [0]⟩] [3])
 (.cond (.t 4) [4]
  (.seq (.region 0 [
    ⟨(some 2), .mv (.c .nils), none, 0, []⟩] [])
  .ret)
  .skip))
 (.seq (.region 2 [
   ⟨(some 5), .bslice 1 [], none, 0, []⟩,
   ⟨(some 6), .mv (.t 0), none, 1, []⟩,
   ⟨(some 7), .app 1 8 (.t 5) (.t 6), none, 1, [0, 1]⟩,
   ⟨(some 2), .mv (.t 7), none, 2, [2, 2, 0, 1, 2]⟩] [0, 5, 6, 7])
 .ret)))
def hs_slices_Clone_of_int : List (List Nat) := [[2], [3], [4], [], [0, 5, 6, 7]]
theorem ok_slices_Clone_of_int : FnOk Try.prog f_slices_Clone_of_int ic_slices_Clone_of_int [.t 2] 8 := ⟨Try.f49, hs_slices_Clone_of_int, Try.func49, by kernel_rfl, by kernel_rfl, by kernel_rfl, by kernel_rfl⟩

/-- signalbox/frame.Right -/
def ic_frame_Right : IC :=
 (.seq (.region 1 [
   ⟨(some 1), .box (.t 0), none, 0, []⟩,
   ⟨(some 2), .mv (.c (.int .i64 0)), none, 1, []⟩] [0, 2])
 (.seq (.region 0 [
   ⟨(some 4), .faddr 2 (.t 1), none, 0, []⟩,
   ⟨(some 5), .load none (.t 4), none, 0, [0]⟩,
   ⟨(some 3), .mv (.t 5), none, 0, [1, 0, 1]⟩] [4, 5])
 (.seq (.block 0 (.seq (.block 3 (.seq (.block 2 (.block 1 (.seq (.seq (.seq (.regionD 0 [
   ⟨(some 7), .load (some 4) (.t 1), none, 0, []⟩,
   ⟨(some 8), .call (.c (.fn f_frame_flags [] [])) [(.t 7)], none, 0, [0]⟩,
   ⟨(some 9), .un .not (.t 8), none, 0, [1]⟩,
   ⟨(some 10), .mv (.t 9), none, 0, [2, 1]⟩,
   ⟨(some 11), .faddr 0 (.t 1), (some (10, false)), 0, [3]⟩,
   ⟨(some 12), .load none (.t 11), (some (10, false)), 0, [4, 3]⟩,
   ⟨(some 13), .bin .lss (.t 12) (.c (.int .i64 0)), (some (10, false)), 0, [5, 3]⟩,
   ⟨(some 14), .pick (.t 10) (.c (.bool true)) (.t 13), none, 0, [3, 6]⟩,
   ⟨(some 15), .mv (.t 14), none, 0, [7, 3]⟩,
   ⟨(some 16), .faddr 0 (.t 1), (some (15, false)), 0, [8]⟩,
   ⟨(some 17), .load none (.t 16), (some (15, false)), 0, [9, 8]⟩,
   ⟨(some 18), .load (some 4) (.t 1), (some (15, false)), 0, [8]⟩,
   ⟨(some 19), .call (.c (.fn f_frame_most [] [])) [(.t 18)], (some (15, false)), 0, [11, 8, 8]⟩,
   ⟨(some 20), .bin .gtr (.t 17) (.t 19), (some (15, false)), 0, [10, 12, 8]⟩,
   ⟨(some 21), .pick (.t 15) (.c (.bool true)) (.t 20), none, 0, [8, 13]⟩,
   ⟨(some 6), .mv (.t 21), none, 0, [14, 12]⟩]
   [0, 1, 2, 3, 4, 5, 6, 7, 8, 9, 10, 11, 12, 13, 14, 15] [0, 1, 3, 7, 15, 31, 63, 127, 255, 511, 1023, 511, 2559, 8191, 16383, 32767] [7, 8, 9, 10, 11, 12, 13, 14, 15, 16, 17, 18, 19, 20, 21])
 (.cond (.t 6) [6]
  (.exit 1)
  .skip))
 (.seq (.seq (.region 0 [
   ⟨(some 23), .load (some 4) (.t 1), none, 0, []⟩,
   ⟨(some 24), .call (.c (.fn f_frame_long [] [])) [(.t 23)], none, 0, [0]⟩,
   ⟨(some 25), .un .not (.t 24), none, 0, [1]⟩,
   ⟨(some 22), .mv (.t 25), none, 0, [2, 1]⟩] [23, 24, 25])
 (.cond (.t 22) [22]
  (.exit 2)
  .skip))
 (.seq (.region 0 [
   ⟨(some 27), .load (some 4) (.t 1), none, 0, []⟩,
   ⟨(some 28), .call (.c (.fn f_frame_has [] [])) [(.t 27), (.c (.int .i64 2))], none, 0, [0]⟩,
   ⟨(some 26), .mv (.t 28), none, 0, [1, 1]⟩] [27, 28])
 (.cond (.t 26) [26]
  (.exit 3)
  .skip))))
 (.exit 0))))
 (.seq (.seq (.region 0 [
   ⟨(some 2), .mv (.c (.int .i64 4)), none, 0, []⟩] [])
 .ret)
 (.exit 0))))
 (.seq (.region 0 [
   ⟨(some 3), .mv (.c (.int .i64 0)), none, 0, []⟩] [])
 (.exit 0))))
 (.seq (.seq (.region 0 [
   ⟨(some 29), .faddr 3 (.t 1), none, 0, []⟩,
   ⟨(some 30), .load none (.t 29), none, 0, [0]⟩,
   ⟨(some 31), .lenst (.t 30), none, 0, [1]⟩,
   ⟨(some 32), .mv (.t 3), none, 0, []⟩,
   ⟨(some 33), .bin .neq (.t 31) (.t 32), none, 0, [2, 3]⟩] [1, 3, 29, 30, 31, 32])
 (.cond (.t 33) [33]
  (.seq (.region 0 [
    ⟨(some 2), .mv (.c (.int .i64 4)), none, 0, []⟩] [])
  .ret)
  .skip))
 (.seq (.region 0 [
   ⟨(some 2), .mv (.c (.int .i64 0)), none, 0, []⟩] [])
 .ret)))))
def hs_frame_Right : List (List Nat) := [[0, 2], [4, 5], [0, 1, 2, 3, 4, 5, 6, 7, 8, 9, 10, 11, 12, 13, 14, 15], [0, 1, 3, 7, 15, 31, 63, 127, 255, 511, 1023, 511, 2559, 8191, 16383, 32767], [7, 8, 9, 10, 11, 12, 13, 14, 15, 16, 17, 18, 19, 20, 21], [6], [23, 24, 25], [22], [27, 28], [26], [], [], [1, 3, 29, 30, 31, 32], [33], [], []]
theorem ok_frame_Right : FnOk Try.prog f_frame_Right ic_frame_Right [.t 2] 34 := ⟨Try.f59, hs_frame_Right, Try.func59, by kernel_rfl, by kernel_rfl, by kernel_rfl, by kernel_rfl⟩

/-- signalbox/frame.has -/
def ic_frame_has : IC :=
 (.seq (.region 1 [
   ⟨(some 2), .box (.t 0), none, 0, []⟩,
   ⟨(some 4), .mv (.c (.bool false)), none, 1, []⟩] [0, 4])
 (.seq (.region 0 [
   ⟨(some 5), .faddr 1 (.t 2), none, 0, []⟩,
   ⟨(some 6), .load none (.t 5), none, 0, [0]⟩,
   ⟨(some 7), .mv (.t 1), none, 0, []⟩,
   ⟨(some 8), .bin .and (.t 6) (.t 7), none, 0, [1, 2]⟩,
   ⟨(some 9), .bin .neq (.t 8) (.c (.int .i64 0)), none, 0, [3]⟩,
   ⟨(some 4), .mv (.t 9), none, 0, [4, 0, 1, 2, 3, 4]⟩] [1, 2, 5, 6, 7, 8, 9])
 .ret))
def hs_frame_has : List (List Nat) := [[0, 4], [1, 2, 5, 6, 7, 8, 9]]
theorem ok_frame_has : FnOk Try.prog f_frame_has ic_frame_has [.t 4] 10 := ⟨Try.f60, hs_frame_has, Try.func60, by kernel_rfl, by kernel_rfl, by kernel_rfl, by kernel_rfl⟩

/-- signalbox/frame.bit -/
def ic_frame_bit : IC :=
 (.seq (.region 1 [
   ⟨(some 2), .box (.t 0), none, 0, []⟩,
   ⟨(some 4), .mv (.c (.int .i64 0)), none, 1, []⟩] [0, 4])
 (.seq (.seq (.region 0 [
   ⟨(some 5), .load (some 4) (.t 2), none, 0, []⟩,
   ⟨(some 6), .mv (.t 1), none, 0, []⟩,
   ⟨(some 7), .call (.c (.fn f_frame_has [] [])) [(.t 5), (.t 6)], none, 0, [0, 1]⟩] [1, 2, 5, 6])
 (.cond (.t 7) [7]
  (.seq (.region 0 [
    ⟨(some 4), .mv (.c (.int .i64 1)), none, 0, []⟩] [])
  .ret)
  .skip))
 (.seq (.region 0 [
   ⟨(some 4), .mv (.c (.int .i64 0)), none, 0, []⟩] [])
 .ret)))
def hs_frame_bit : List (List Nat) := [[0, 4], [1, 2, 5, 6], [7], [], []]
theorem ok_frame_bit : FnOk Try.prog f_frame_bit ic_frame_bit [.t 4] 8 := ⟨Try.f61, hs_frame_bit, Try.func61, by kernel_rfl, by kernel_rfl, by kernel_rfl, by kernel_rfl⟩

/-- signalbox/signalboxref02.Code -/
def ic_ref02_Code_b1 : IC :=
 (.seq (.seq (.region 0 [
   ⟨(some 6), .mv (.t 4), none, 0, []⟩,
   ⟨(some 7), .mv (.t 3), none, 0, []⟩,
   ⟨(some 8), .lens (.t 7), none, 0, [1]⟩,
   ⟨(some 9), .bin .lss (.t 6) (.t 8), none, 0, [0, 2]⟩] [6, 7, 8])
 (.cond (.t 9) [9]
  .skip
  (.exit 0)))
 (.seq (.block 1 (.seq (.region 0 [
   ⟨(some 12), .mv (.t 3), none, 0, []⟩,
   ⟨(some 13), .mv (.t 4), none, 0, []⟩,
   ⟨(some 14), .iaddr 1 (.t 12) (.t 13), none, 0, [0, 1]⟩,
   ⟨(some 15), .load none (.t 14), none, 0, [2]⟩,
   ⟨(some 16), .mv (.t 0), none, 0, []⟩,
   ⟨(some 17), .bin .eql (.t 15) (.t 16), none, 0, [3, 4]⟩] [12, 13, 14, 15, 16])
 (.cond (.t 17) [17]
  (.seq (.region 0 [
    ⟨(some 18), .mv (.t 4), none, 0, []⟩,
    ⟨(some 2), .mv (.t 18), none, 0, [0, 0]⟩] [4, 18])
  .ret)
  .skip)))
 (.region 0 [
   ⟨(some 10), .mv (.t 4), none, 0, []⟩,
   ⟨(some 11), .bin .add (.t 10) (.c (.int .i64 1)), none, 0, [0]⟩,
   ⟨(some 4), .mv (.t 11), none, 0, [1, 0, 1]⟩] [10, 11])))
def ic_ref02_Code_l1 : IC := .loop [2, 5, 6, 7, 8, 9, 10, 11, 12, 13, 14, 15, 16, 17, 18] ic_ref02_Code_b1
def ic_ref02_Code : IC :=
 (.seq (.region 0 [
   ⟨(some 2), .mv (.c (.int .i64 0)), none, 0, []⟩] [2])
 (.seq (.region 0 [
   ⟨(some 5), .call (.c (.fn f_ref02_Sizes [] [])) [], none, 0, []⟩,
   ⟨(some 3), .mv (.t 5), none, 0, [0, 0, 0]⟩] [5])
 (.seq (.seq (.region 0 [
   ⟨(some 4), .mv (.c (.int .i64 0)), none, 0, []⟩] [])
 (.block 0 ic_ref02_Code_l1))
 (.seq (.region 0 [
   ⟨(some 2), .mv (.c (.int .i64 (-1))), none, 0, []⟩] [])
 .ret))))
def hs_ref02_Code : List (List Nat) := [[2], [5], [], [2, 5, 6, 7, 8, 9, 10, 11, 12, 13, 14, 15, 16, 17, 18], [6, 7, 8], [9], [12, 13, 14, 15, 16], [17], [4, 18], [10, 11], []]
theorem ok_ref02_Code : FnOk Try.prog f_ref02_Code ic_ref02_Code [.t 2] 19 := ⟨Try.f62, hs_ref02_Code, Try.func62, by kernel_rfl, by kernel_rfl, by kernel_rfl, by kernel_rfl⟩

/-- signalbox/signalboxref02.Bits -/
def ic_ref02_Bits_b1 : IC :=
 (.seq (.seq (.region 0 [
   ⟨(some 15), .mv (.t 8), none, 0, []⟩,
   ⟨(some 16), .mv (.t 1), none, 0, []⟩,
   ⟨(some 17), .bin .sub (.t 16) (.c (.int .i64 1)), none, 0, [1]⟩,
   ⟨(some 18), .mv (.t 6), none, 0, []⟩,
   ⟨(some 19), .bin .sub (.t 17) (.t 18), none, 0, [2, 3]⟩,
   ⟨(some 20), .bin .lss (.t 15) (.t 19), none, 0, [0, 4]⟩] [15, 16, 17, 18, 19])
 (.cond (.t 20) [20]
  .skip
  (.exit 2)))
 (.seq (.block 3 (.region 0 [
   ⟨(some 23), .mv (.t 7), none, 0, []⟩,
   ⟨(some 24), .bin .quo (.t 23) (.c (.int .i64 2)), none, 0, [0]⟩,
   ⟨(some 7), .mv (.t 24), none, 0, [1, 0, 1]⟩] [23, 24]))
 (.region 0 [
   ⟨(some 21), .mv (.t 8), none, 0, []⟩,
   ⟨(some 22), .bin .add (.t 21) (.c (.int .i64 1)), none, 0, [0]⟩,
   ⟨(some 8), .mv (.t 22), none, 0, [1, 0, 1]⟩] [21, 22])))
def ic_ref02_Bits_l1 : IC := .loop [4, 9, 10, 11, 12, 13, 14, 15, 16, 17, 18, 19, 20, 21, 22, 23, 24, 25, 26, 27, 28, 29, 30, 31] ic_ref02_Bits_b1
def ic_ref02_Bits_b2 : IC :=
 (.seq (.seq (.region 0 [
   ⟨(some 9), .mv (.t 6), none, 0, []⟩,
   ⟨(some 10), .mv (.t 1), none, 0, []⟩,
   ⟨(some 11), .bin .lss (.t 9) (.t 10), none, 0, [0, 1]⟩] [9, 10])
 (.cond (.t 11) [11]
  .skip
  (.exit 0)))
 (.seq (.block 1 (.seq (.region 0 [
   ⟨(some 14), .mv (.t 0), none, 0, []⟩,
   ⟨(some 7), .mv (.t 14), none, 0, [0, 0]⟩] [14])
 (.seq (.seq (.region 0 [
   ⟨(some 8), .mv (.c (.int .i64 0)), none, 0, []⟩] [])
 (.block 2 ic_ref02_Bits_l1))
 (.region 2 [
   ⟨(some 25), .mv (.t 5), none, 0, []⟩,
   ⟨(some 26), .mv (.t 7), none, 0, []⟩,
   ⟨(some 27), .bin .rem (.t 26) (.c (.int .i64 2)), none, 0, [1]⟩,
   ⟨(some 28), .bin .eql (.t 27) (.c (.int .i64 1)), none, 0, [2]⟩,
   ⟨(some 29), .bslice 1 [(.t 28)], none, 0, [3]⟩,
   ⟨(some 30), .app 1 1 (.t 25) (.t 29), none, 1, [0, 4]⟩,
   ⟨(some 5), .mv (.t 30), none, 2, [5, 5, 0, 1, 2, 3, 4, 5]⟩] [7, 25, 26, 27, 28, 29, 30]))))
 (.region 0 [
   ⟨(some 12), .mv (.t 6), none, 0, []⟩,
   ⟨(some 13), .bin .add (.t 12) (.c (.int .i64 1)), none, 0, [0]⟩,
   ⟨(some 6), .mv (.t 13), none, 0, [1, 0, 1]⟩] [12, 13])))
def ic_ref02_Bits_l2 : IC := .loop [4, 7, 8, 9, 10, 11, 12, 13, 14, 15, 16, 17, 18, 19, 20, 21, 22, 23, 24, 25, 26, 27, 28, 29, 30, 31] ic_ref02_Bits_b2
def ic_ref02_Bits : IC :=
 (.seq (.region 0 [
   ⟨(some 4), .mv (.c .nils), none, 0, []⟩] [4])
 (.seq (.region 0 [
   ⟨(some 5), .mv (.c .nils), none, 0, []⟩] [])
 (.seq (.seq (.region 0 [
   ⟨(some 6), .mv (.c (.int .i64 0)), none, 0, []⟩] [])
 (.block 0 ic_ref02_Bits_l2))
 (.seq (.region 0 [
   ⟨(some 31), .mv (.t 5), none, 0, []⟩,
   ⟨(some 4), .mv (.t 31), none, 0, [0, 0]⟩] [5, 31])
 .ret))))
def hs_ref02_Bits : List (List Nat) := [[4], [], [], [4, 7, 8, 9, 10, 11, 12, 13, 14, 15, 16, 17, 18, 19, 20, 21, 22, 23, 24, 25, 26, 27, 28, 29, 30, 31], [9, 10], [11], [14], [], [4, 9, 10, 11, 12, 13, 14, 15, 16, 17, 18, 19, 20, 21, 22, 23, 24, 25, 26, 27, 28, 29, 30, 31], [15, 16, 17, 18, 19], [20], [23, 24], [21, 22], [7, 25, 26, 27, 28, 29, 30], [12, 13], [5, 31]]
theorem ok_ref02_Bits : FnOk Try.prog f_ref02_Bits ic_ref02_Bits [.t 4] 32 := ⟨Try.f63, hs_ref02_Bits, Try.func63, by kernel_rfl, by kernel_rfl, by kernel_rfl, by kernel_rfl⟩

/-- signalbox/frame.flags -/
def ic_frame_flags : IC :=
 (.seq (.region 1 [
   ⟨(some 1), .box (.t 0), none, 0, []⟩,
   ⟨(some 2), .mv (.c (.bool false)), none, 1, []⟩] [0, 2])
 (.seq (.block 0 (.seq (.region 0 [
   ⟨(some 4), .faddr 1 (.t 1), none, 0, []⟩,
   ⟨(some 5), .load none (.t 4), none, 0, [0]⟩,
   ⟨(some 6), .bin .lss (.t 5) (.c (.int .i64 0)), none, 0, [1]⟩,
   ⟨(some 7), .mv (.t 6), none, 0, [2]⟩,
   ⟨(some 8), .faddr 1 (.t 1), (some (7, false)), 0, [3]⟩,
   ⟨(some 9), .load none (.t 8), (some (7, false)), 0, [4, 3]⟩,
   ⟨(some 10), .bin .gtr (.t 9) (.c (.int .i64 63)), (some (7, false)), 0, [5, 3]⟩,
   ⟨(some 11), .pick (.t 7) (.c (.bool true)) (.t 10), none, 0, [3, 6]⟩,
   ⟨(some 3), .mv (.t 11), none, 0, [7, 3]⟩] [4, 5, 6, 7, 8, 9, 10, 11])
 (.cond (.t 3) [3]
  (.seq (.region 0 [
    ⟨(some 2), .mv (.c (.bool false)), none, 0, []⟩] [])
  .ret)
  (.seq (.region 0 [
    ⟨(some 13), .load (some 4) (.t 1), none, 0, []⟩,
    ⟨(some 14), .call (.c (.fn f_frame_has [] [])) [(.t 13), (.c (.int .i64 4))], none, 0, [0]⟩,
    ⟨(some 12), .mv (.t 14), none, 0, [1, 1]⟩] [13, 14])
  (.cond (.t 12) [12]
   (.seq (.region 0 [
     ⟨(some 15), .faddr 1 (.t 1), none, 0, []⟩,
     ⟨(some 16), .load none (.t 15), none, 0, [0]⟩,
     ⟨(some 17), .bin .eql (.t 16) (.c (.int .i64 4)), none, 0, [1]⟩,
     ⟨(some 2), .mv (.t 17), none, 0, [2, 0, 1, 2]⟩] [1, 15, 16, 17])
   .ret)
   (.seq (.region 0 [
     ⟨(some 19), .load (some 4) (.t 1), none, 0, []⟩,
     ⟨(some 20), .call (.c (.fn f_frame_has [] [])) [(.t 19), (.c (.int .i64 8))], none, 0, [0]⟩,
     ⟨(some 18), .mv (.t 20), none, 0, [1, 1]⟩] [19, 20])
   (.cond (.t 18) [18]
    (.seq (.region 0 [
      ⟨(some 21), .load (some 4) (.t 1), none, 0, []⟩,
      ⟨(some 22), .call (.c (.fn f_frame_has [] [])) [(.t 21), (.c (.int .i64 2))], none, 0, [0]⟩,
      ⟨(some 23), .un .not (.t 22), none, 0, [1]⟩,
      ⟨(some 2), .mv (.t 23), none, 0, [2, 1, 0, 1, 2]⟩] [1, 21, 22, 23])
    .ret)
    .skip)))))))
 (.seq (.region 0 [
   ⟨(some 24), .load (some 4) (.t 1), none, 0, []⟩,
   ⟨(some 25), .call (.c (.fn f_frame_has [] [])) [(.t 24), (.c (.int .i64 48))], none, 0, [0]⟩,
   ⟨(some 26), .un .not (.t 25), none, 0, [1]⟩,
   ⟨(some 2), .mv (.t 26), none, 0, [2, 1, 0, 1, 2]⟩] [1, 24, 25, 26])
 .ret)))
def hs_frame_flags : List (List Nat) := [[0, 2], [4, 5, 6, 7, 8, 9, 10, 11], [3], [], [13, 14], [12], [1, 15, 16, 17], [19, 20], [18], [1, 21, 22, 23], [1, 24, 25, 26]]
theorem ok_frame_flags : FnOk Try.prog f_frame_flags ic_frame_flags [.t 2] 27 := ⟨Try.f67, hs_frame_flags, Try.func67, by kernel_rfl, by kernel_rfl, by kernel_rfl, by kernel_rfl⟩

/-- signalbox/frame.most -/
def ic_frame_most : IC :=
 (.seq (.region 1 [
   ⟨(some 1), .box (.t 0), none, 0, []⟩,
   ⟨(some 2), .mv (.c (.int .i64 0)), none, 1, []⟩] [0, 2])
 (.seq (.seq (.region 0 [
   ⟨(some 3), .load (some 4) (.t 1), none, 0, []⟩,
   ⟨(some 4), .call (.c (.fn f_frame_has [] [])) [(.t 3), (.c (.int .i64 5))], none, 0, [0]⟩] [1, 3])
 (.cond (.t 4) [4]
  (.seq (.region 0 [
    ⟨(some 2), .mv (.c (.int .i64 536870911)), none, 0, []⟩] [])
  .ret)
  .skip))
 (.seq (.region 0 [
   ⟨(some 2), .mv (.c (.int .i64 2047)), none, 0, []⟩] [])
 .ret)))
def hs_frame_most : List (List Nat) := [[0, 2], [1, 3], [4], [], []]
theorem ok_frame_most : FnOk Try.prog f_frame_most ic_frame_most [.t 2] 5 := ⟨Try.f68, hs_frame_most, Try.func68, by kernel_rfl, by kernel_rfl, by kernel_rfl, by kernel_rfl⟩

/-- signalbox/frame.long -/
def ic_frame_long : IC :=
 (.seq (.region 1 [
   ⟨(some 1), .box (.t 0), none, 0, []⟩,
   ⟨(some 2), .mv (.c (.bool false)), none, 1, []⟩] [0, 2])
 (.seq (.block 0 (.seq (.region 0 [
   ⟨(some 6), .load (some 4) (.t 1), none, 0, []⟩,
   ⟨(some 7), .call (.c (.fn f_frame_has [] [])) [(.t 6), (.c (.int .i64 4))], none, 0, [0]⟩,
   ⟨(some 5), .mv (.t 7), none, 0, [1, 1]⟩] [6, 7])
 (.cond (.t 5) [5]
  (.seq (.region 0 [
    ⟨(some 8), .faddr 2 (.t 1), none, 0, []⟩,
    ⟨(some 9), .load none (.t 8), none, 0, [0]⟩,
    ⟨(some 10), .bin .eql (.t 9) (.c (.int .i64 8)), none, 0, [1]⟩,
    ⟨(some 2), .mv (.t 10), none, 0, [2, 0, 1, 2]⟩] [1, 8, 9, 10])
  .ret)
  (.seq (.region 0 [
    ⟨(some 12), .load (some 4) (.t 1), none, 0, []⟩,
    ⟨(some 13), .call (.c (.fn f_frame_has [] [])) [(.t 12), (.c (.int .i64 8))], none, 0, [0]⟩,
    ⟨(some 11), .mv (.t 13), none, 0, [1, 1]⟩] [12, 13])
  (.cond (.t 11) [11]
   (.seq (.region 0 [
     ⟨(some 15), .faddr 2 (.t 1), none, 0, []⟩,
     ⟨(some 16), .load none (.t 15), none, 0, [0]⟩,
     ⟨(some 17), .call (.c (.fn f_frame_Code [] [])) [(.t 16)], none, 0, [1]⟩,
     ⟨(some 14), .mv (.t 17), none, 0, [2]⟩,
     ⟨(some 18), .ext 0 (.t 14), none, 0, [3]⟩,
     ⟨(some 19), .ext 1 (.t 14), none, 0, [3]⟩,
     ⟨(some 3), .mv (.t 18), none, 0, [4, 2, 0, 1, 2, 3, 4]⟩,
     ⟨(some 4), .mv (.t 19), none, 0, [5, 6, 0, 1, 2, 3, 4, 5, 6]⟩] [1, 3, 14, 15, 16, 17, 18, 19])
   (.seq (.region 0 [
     ⟨(some 20), .mv (.t 4), none, 0, []⟩,
     ⟨(some 2), .mv (.t 20), none, 0, [0, 0]⟩] [4, 20])
   .ret))
   .skip)))))
 (.seq (.region 0 [
   ⟨(some 21), .faddr 2 (.t 1), none, 0, []⟩,
   ⟨(some 22), .load none (.t 21), none, 0, [0]⟩,
   ⟨(some 23), .bin .geq (.t 22) (.c (.int .i64 0)), none, 0, [1]⟩,
   ⟨(some 24), .mv (.t 23), none, 0, [2]⟩,
   ⟨(some 25), .faddr 2 (.t 1), (some (24, true)), 0, [3]⟩,
   ⟨(some 26), .load none (.t 25), (some (24, true)), 0, [4, 3]⟩,
   ⟨(some 27), .bin .leq (.t 26) (.c (.int .i64 8)), (some (24, true)), 0, [5, 3]⟩,
   ⟨(some 28), .pick (.t 24) (.t 27) (.c (.bool false)), none, 0, [3, 6]⟩,
   ⟨(some 2), .mv (.t 28), none, 0, [7, 3, 0, 1, 2, 3, 4, 5, 6, 7]⟩] [1, 21, 22, 23, 24, 25, 26, 27, 28])
 .ret)))
def hs_frame_long : List (List Nat) := [[0, 2], [6, 7], [5], [1, 8, 9, 10], [12, 13], [11], [1, 3, 14, 15, 16, 17, 18, 19], [4, 20], [1, 21, 22, 23, 24, 25, 26, 27, 28]]
theorem ok_frame_long : FnOk Try.prog f_frame_long ic_frame_long [.t 2] 29 := ⟨Try.f69, hs_frame_long, Try.func69, by kernel_rfl, by kernel_rfl, by kernel_rfl, by kernel_rfl⟩

/-- signalbox/signalboxref02.Sizes -/
def ic_ref02_Sizes : IC :=
 (.seq (.region 0 [
   ⟨(some 0), .mv (.c .nils), none, 0, []⟩] [0])
 (.seq (.region 1 [
   ⟨(some 1), .bslice 1 [(.c (.int .i64 0)), (.c (.int .i64 1)), (.c (.int .i64 2)), (.c (.int .i64 3)), (.c (.int .i64 4)), (.c (.int .i64 5)), (.c (.int .i64 6)), (.c (.int .i64 7)), (.c (.int .i64 8)), (.c (.int .i64 12)), (.c (.int .i64 16)), (.c (.int .i64 20)), (.c (.int .i64 24)), (.c (.int .i64 32)), (.c (.int .i64 48)), (.c (.int .i64 64))], none, 0, []⟩,
   ⟨(some 0), .mv (.t 1), none, 1, [0, 0]⟩] [1])
 .ret))
def hs_ref02_Sizes : List (List Nat) := [[0], [1]]
theorem ok_ref02_Sizes : FnOk Try.prog f_ref02_Sizes ic_ref02_Sizes [.t 0] 2 := ⟨Try.f70, hs_ref02_Sizes, Try.func70, by kernel_rfl, by kernel_rfl, by kernel_rfl, by kernel_rfl⟩

/-- signalbox/frame.Code -/
def ic_frame_Code : IC :=
 (.seq (.region 1 [
   ⟨(some 1), .box (.t 0), none, 0, []⟩,
   ⟨(some 2), .mv (.c (.int .i64 0)), none, 1, []⟩,
   ⟨(some 3), .mv (.c (.bool false)), none, 1, [1]⟩] [0, 2, 3])
 (.seq (.region 0 [
   ⟨(some 8), .mkfn f_frame_Code_1 [] [(.t 1)], none, 0, []⟩,
   ⟨(some 9), .call (.c (.fn f_frame_first [] [])) [(.t 8)], none, 0, [0]⟩,
   ⟨(some 7), .mv (.t 9), none, 0, [1]⟩,
   ⟨(some 10), .ext 0 (.t 7), none, 0, [2]⟩,
   ⟨(some 11), .ext 1 (.t 7), none, 0, [2]⟩,
   ⟨(some 12), .ext 2 (.t 7), none, 0, [2]⟩,
   ⟨(some 4), .mv (.t 10), none, 0, [3, 1, 0, 1, 2, 3]⟩,
   ⟨(some 5), .mv (.t 11), none, 0, [4, 6, 0, 1, 2, 3, 4, 6]⟩,
   ⟨(some 6), .mv (.t 12), none, 0, [5, 7, 0, 1, 2, 3, 4, 5, 6, 7]⟩] [1, 5, 7, 8, 9, 10, 11, 12])
 (.seq (.region 0 [
   ⟨(some 13), .mv (.t 4), none, 0, []⟩,
   ⟨(some 14), .mv (.t 6), none, 0, []⟩,
   ⟨(some 2), .mv (.t 13), none, 0, [0, 0]⟩,
   ⟨(some 3), .mv (.t 14), none, 0, [1, 2, 0, 1, 2]⟩] [4, 6, 13, 14])
 .ret)))
def hs_frame_Code : List (List Nat) := [[0, 2, 3], [1, 5, 7, 8, 9, 10, 11, 12], [4, 6, 13, 14]]
theorem ok_frame_Code : FnOk Try.prog f_frame_Code ic_frame_Code [.t 2, .t 3] 15 := ⟨Try.f71, hs_frame_Code, Try.func71, by kernel_rfl, by kernel_rfl, by kernel_rfl, by kernel_rfl⟩

/-- signalbox/frame.first -/
def ic_frame_first_b1 : IC :=
 (.seq (.region 0 [
   ⟨(some 9), .bin .lss (.t 8) (.c (.int .i64 16)), none, 0, []⟩] [])
 (.seq (.cond (.t 9) [9]
  .skip
  (.exit 0))
 (.seq (.block 1 (.seq (.region 0 [
   ⟨(some 10), .mv (.t 8), none, 0, []⟩,
   ⟨(some 11), .idxa 16 1 none (.t 7) (.t 8), none, 0, []⟩,
   ⟨(some 5), .mv (.t 10), none, 0, [0, 0, 1]⟩,
   ⟨(some 6), .mv (.t 11), none, 0, [1, 2, 0, 1, 2]⟩] [10, 11])
 (.seq (.region 0 [
   ⟨(some 12), .mv (.t 0), none, 0, []⟩,
   ⟨(some 13), .mv (.t 6), none, 0, []⟩,
   ⟨(some 14), .call (.t 12) [(.t 13)], none, 0, [0, 1]⟩] [12, 13])
 (.cond (.t 14) [14]
  (.seq (.region 0 [
    ⟨(some 15), .mv (.t 5), none, 0, []⟩,
    ⟨(some 16), .mv (.t 6), none, 0, []⟩,
    ⟨(some 2), .mv (.t 15), none, 0, [0, 0]⟩,
    ⟨(some 3), .mv (.t 16), none, 0, [1, 2, 0, 1, 2]⟩,
    ⟨(some 4), .mv (.c (.bool true)), none, 0, [3, 0, 1, 2, 3]⟩] [5, 6, 15, 16])
  .ret)
  .skip))))
 (.region 0 [
   ⟨(some 17), .bin .add (.t 8) (.c (.int .i64 1)), none, 0, []⟩,
   ⟨(some 8), .mv (.t 17), none, 0, [0]⟩] [17]))))
def ic_frame_first_l1 : IC := .loop [2, 3, 4, 5, 6, 9, 10, 11, 12, 13, 14, 15, 16, 17] ic_frame_first_b1
def ic_frame_first : IC :=
 (.seq (.region 0 [
   ⟨(some 2), .mv (.c (.int .i64 0)), none, 0, []⟩,
   ⟨(some 3), .mv (.c (.int .i64 0)), none, 0, [0]⟩,
   ⟨(some 4), .mv (.c (.bool false)), none, 0, [1]⟩] [2, 3, 4])
 (.seq (.seq (.region 0 [
   ⟨(some 7), .call (.c (.fn f_frame_sizes [] [])) [], none, 0, []⟩,
   ⟨(some 8), .mv (.c (.int .i64 0)), none, 0, []⟩] [])
 (.block 0 ic_frame_first_l1))
 (.seq (.region 0 [
   ⟨(some 2), .mv (.c (.int .i64 0)), none, 0, []⟩,
   ⟨(some 3), .mv (.c (.int .i64 0)), none, 0, [0, 0]⟩,
   ⟨(some 4), .mv (.c (.bool false)), none, 0, [1, 0, 1]⟩] [])
 .ret)))
def hs_frame_first : List (List Nat) := [[2, 3, 4], [], [2, 3, 4, 5, 6, 9, 10, 11, 12, 13, 14, 15, 16, 17], [], [9], [10, 11], [12, 13], [14], [5, 6, 15, 16], [17], []]
theorem ok_frame_first : FnOk Try.prog f_frame_first ic_frame_first [.t 2, .t 3, .t 4] 18 := ⟨Try.f72, hs_frame_first, Try.func72, by kernel_rfl, by kernel_rfl, by kernel_rfl, by kernel_rfl⟩

/-- signalbox/frame.Code$1 -/
def ic_frame_Code_1 : IC :=
 (.seq (.region 0 [
   ⟨(some 3), .mv (.c (.bool false)), none, 0, []⟩] [3])
 (.seq (.region 0 [
   ⟨(some 4), .mv (.t 0), none, 0, []⟩,
   ⟨(some 5), .load none (.t 1), none, 0, []⟩,
   ⟨(some 6), .bin .eql (.t 4) (.t 5), none, 0, [0, 1]⟩,
   ⟨(some 3), .mv (.t 6), none, 0, [2, 0, 1, 2]⟩] [0, 1, 4, 5, 6])
 .ret))
def hs_frame_Code_1 : List (List Nat) := [[3], [0, 1, 4, 5, 6]]
theorem ok_frame_Code_1 : FnOk Try.prog f_frame_Code_1 ic_frame_Code_1 [.t 3] 7 := ⟨Try.f73, hs_frame_Code_1, Try.func73, by kernel_rfl, by kernel_rfl, by kernel_rfl, by kernel_rfl⟩

/-- signalbox/frame.sizes -/
def ic_frame_sizes : IC :=
 (.seq (.region 1 [
   ⟨(some 0), .alloc [(.int .i64 0), (.int .i64 0), (.int .i64 0), (.int .i64 0), (.int .i64 0), (.int .i64 0), (.int .i64 0), (.int .i64 0), (.int .i64 0), (.int .i64 0), (.int .i64 0), (.int .i64 0), (.int .i64 0), (.int .i64 0), (.int .i64 0), (.int .i64 0)], none, 0, []⟩] [])
 (.seq (.region 0 [
   ⟨(some 1), .build [(.int .i64 0), (.int .i64 0), (.int .i64 0), (.int .i64 0), (.int .i64 0), (.int .i64 0), (.int .i64 0), (.int .i64 0), (.int .i64 0), (.int .i64 0), (.int .i64 0), (.int .i64 0), (.int .i64 0), (.int .i64 0), (.int .i64 0), (.int .i64 0)] [(0, 1, (.c (.int .i64 0))), (1, 1, (.c (.int .i64 1))), (2, 1, (.c (.int .i64 2))), (3, 1, (.c (.int .i64 3))), (4, 1, (.c (.int .i64 4))), (5, 1, (.c (.int .i64 5))), (6, 1, (.c (.int .i64 6))), (7, 1, (.c (.int .i64 7))), (8, 1, (.c (.int .i64 8))), (9, 1, (.c (.int .i64 12))), (10, 1, (.c (.int .i64 16))), (11, 1, (.c (.int .i64 20))), (12, 1, (.c (.int .i64 24))), (13, 1, (.c (.int .i64 32))), (14, 1, (.c (.int .i64 48))), (15, 1, (.c (.int .i64 64)))], none, 0, []⟩,
   ⟨none, .store 16 (.t 0) (.t 1), none, 0, [0, 0]⟩] [1])
 .ret))
def hs_frame_sizes : List (List Nat) := [[], [1]]
theorem ok_frame_sizes : FnOk Try.prog f_frame_sizes ic_frame_sizes [.cell 0 (some 16)] 2 := ⟨Try.f74, hs_frame_sizes, Try.func74, by kernel_rfl, by kernel_rfl, by kernel_rfl, by kernel_rfl⟩


def tabL : TabL := [(f_law13_BoxTurns, ic_law13_BoxTurns, [.t 2], 129),
  (f_law13_BoxPlays, ic_law13_BoxPlays, [.t 4], 46),
  (f_law13_alive, ic_law13_alive, [.t 0], 102),
  (f_box_New, ic_box_New, [.t 2], 9),
  (f_box_Boxes_Put, ic_box_Boxes_Put, [.t 4, .t 5], 42),
  (f_box_Boxes_Best, ic_box_Boxes_Best, [.t 2, .cell 3 (some 7), .t 4], 55),
  (f_ref02_Key, ic_ref02_Key, [.t 2], 30),
  (f_box_Boxes_Sent, ic_box_Boxes_Sent, [.t 4], 8),
  (f_law13_few, ic_law13_few, [.t 2], 33),
  (f_ref13_New, ic_ref13_New, [.t 2], 13),
  (f_law13_do, ic_law13_do, [.t 6], 193),
  (f_ref09_Ints, ic_ref09_Ints, [.t 4], 26),
  (f_box_Boxes_States, ic_box_Boxes_States, [.t 2], 25),
  (f_box_Boxes_Free, ic_box_Boxes_Free, [.t 2], 19),
  (f_ref13_Boxes_Free, ic_ref13_Boxes_Free, [.t 2], 25),
  (f_box_Boxes_Take, ic_box_Boxes_Take, [.cell 2 (some 9), .t 3], 54),
  (f_box_Boxes_Abort, ic_box_Boxes_Abort, [.t 4], 8),
  (f_law13_packet, ic_law13_packet, [.cell 4 (some 7)], 9),
  (f_frame_Key, ic_frame_Key, [.t 2], 43),
  (f_slices_IndexFunc_of_cell, ic_slices_IndexFunc_of_cell, [.t 4], 19),
  (f_box_Boxes_Put_1, ic_box_Boxes_Put_1, [.t 2], 6),
  (f_box_Boxes_Best_1, ic_box_Boxes_Best_1, [.t 4], 30),
  (f_ref02_Right, ic_ref02_Right, [.t 2], 116),
  (f_ref02_Has, ic_ref02_Has, [.t 4], 14),
  (f_ref02_KeyBits, ic_ref02_KeyBits, [.t 2], 49),
  (f_box_Boxes_ends, ic_box_Boxes_ends, [.t 6], 50),
  (f_ref13_Boxes_Put, ic_ref13_Boxes_Put, [.t 4, .t 5], 52),
  (f_ref13_Boxes_Best, ic_ref13_Boxes_Best, [.t 2], 47),
  (f_ref13_Boxes_End, ic_ref13_Boxes_End, [.t 6], 79),
  (f_ref13_Boxes_Take, ic_ref13_Boxes_Take, [.t 2, .cell 3 (some 7), .t 4], 60),
  (f_slices_Clone_of_int, ic_slices_Clone_of_int, [.t 2], 8),
  (f_frame_Right, ic_frame_Right, [.t 2], 34),
  (f_frame_has, ic_frame_has, [.t 4], 10),
  (f_frame_bit, ic_frame_bit, [.t 4], 8),
  (f_ref02_Code, ic_ref02_Code, [.t 2], 19),
  (f_ref02_Bits, ic_ref02_Bits, [.t 4], 32),
  (f_frame_flags, ic_frame_flags, [.t 2], 27),
  (f_frame_most, ic_frame_most, [.t 2], 5),
  (f_frame_long, ic_frame_long, [.t 2], 29),
  (f_ref02_Sizes, ic_ref02_Sizes, [.t 0], 2),
  (f_frame_Code, ic_frame_Code, [.t 2, .t 3], 15),
  (f_frame_first, ic_frame_first, [.t 2, .t 3, .t 4], 18),
  (f_frame_Code_1, ic_frame_Code_1, [.t 3], 7),
  (f_frame_sizes, ic_frame_sizes, [.cell 0 (some 16)], 2)]
theorem tabOk : TabL.OK Try.prog tabL := TabL.ok_cons ok_law13_BoxTurns (TabL.ok_cons ok_law13_BoxPlays (TabL.ok_cons ok_law13_alive (TabL.ok_cons ok_box_New (TabL.ok_cons ok_box_Boxes_Put (TabL.ok_cons ok_box_Boxes_Best (TabL.ok_cons ok_ref02_Key (TabL.ok_cons ok_box_Boxes_Sent (TabL.ok_cons ok_law13_few (TabL.ok_cons ok_ref13_New (TabL.ok_cons ok_law13_do (TabL.ok_cons ok_ref09_Ints (TabL.ok_cons ok_box_Boxes_States (TabL.ok_cons ok_box_Boxes_Free (TabL.ok_cons ok_ref13_Boxes_Free (TabL.ok_cons ok_box_Boxes_Take (TabL.ok_cons ok_box_Boxes_Abort (TabL.ok_cons ok_law13_packet (TabL.ok_cons ok_frame_Key (TabL.ok_cons ok_slices_IndexFunc_of_cell (TabL.ok_cons ok_box_Boxes_Put_1 (TabL.ok_cons ok_box_Boxes_Best_1 (TabL.ok_cons ok_ref02_Right (TabL.ok_cons ok_ref02_Has (TabL.ok_cons ok_ref02_KeyBits (TabL.ok_cons ok_box_Boxes_ends (TabL.ok_cons ok_ref13_Boxes_Put (TabL.ok_cons ok_ref13_Boxes_Best (TabL.ok_cons ok_ref13_Boxes_End (TabL.ok_cons ok_ref13_Boxes_Take (TabL.ok_cons ok_slices_Clone_of_int (TabL.ok_cons ok_frame_Right (TabL.ok_cons ok_frame_has (TabL.ok_cons ok_frame_bit (TabL.ok_cons ok_ref02_Code (TabL.ok_cons ok_ref02_Bits (TabL.ok_cons ok_frame_flags (TabL.ok_cons ok_frame_most (TabL.ok_cons ok_frame_long (TabL.ok_cons ok_ref02_Sizes (TabL.ok_cons ok_frame_Code (TabL.ok_cons ok_frame_first (TabL.ok_cons ok_frame_Code_1 (TabL.ok_cons ok_frame_sizes TabL.ok_nil)))))))))))))))))))))))))))))))))))))))))))
end Go.Proofs.Ytkkccabchhnebaa
