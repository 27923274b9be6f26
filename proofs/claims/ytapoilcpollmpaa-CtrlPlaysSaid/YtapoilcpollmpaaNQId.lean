/- QId, put together. Conditions: none. -/
import Derived.Test.YtapoilcpollmpaaNP0
import Derived.Test.YtapoilcpollmpaaNQIa
/- What the program's functions do, in compact code, as printed by MkHC.lean. -/
section
namespace Go.Proofs.Ytapoilcpollmpaa
open Go.SB
set_option maxRecDepth 100000
abbrev f_law14_CtrlHears : Nat := 3
abbrev f_law14_alive : Nat := 10
abbrev f_ctrl_New : Nat := 11
abbrev f_ctrl_Ctrl_Fetch : Nat := 12
abbrev f_ref05_Any : Nat := 14
abbrev f_ctrl_Ctrl_Hear : Nat := 15
abbrev f_ctrl_Ctrl_Kept : Nat := 16
abbrev f_ctrl_Ctrl_Lost : Nat := 17
abbrev f_ref03_Same : Nat := 18
abbrev f_ctrl_Ctrl_Asks : Nat := 34
abbrev f_ctrl_Ctrl_Free : Nat := 35
abbrev f_box_New : Nat := 52
abbrev f_ring_New_of_Frame : Nat := 53
abbrev f_slices_Clone_of_Filter : Nat := 54
abbrev f_ring_Ring_of_Frame_Take : Nat := 55
abbrev f_ref05_Match : Nat := 59
abbrev f_ctrl_Ctrl_lets : Nat := 60
abbrev f_ring_Ring_of_Frame_Put : Nat := 61
abbrev f_ring_Ring_of_Frame_Len : Nat := 62
abbrev f_ring_Ring_of_Frame_Lost : Nat := 63
abbrev f_box_Boxes_Free : Nat := 101
abbrev f_box_Boxes_States : Nat := 102
abbrev f_ring_Ring_of_Frame_Peek : Nat := 120
abbrev f_ring_Ring_of_Frame_at : Nat := 121
abbrev f_ref05_Hit : Nat := 124
abbrev f_ref02_Word : Nat := 125
abbrev f_slices_ContainsFunc_of_Filter : Nat := 127
abbrev f_ctrl_Ctrl_lets_1 : Nat := 128
abbrev f_match_Match : Nat := 129
abbrev f_ref05_bit : Nat := 155
abbrev f_slices_IndexFunc_of_Filter : Nat := 159
abbrev f_match_Hit : Nat := 160
abbrev f_frame_Word : Nat := 161

/-- signalbox/signalboxlaw14.CtrlHears [0, 1, 2, 3, 6, 7, 8, 9, 10, 11, 12, 14, 15, 16, 17, 18, 27, 59, 60, 62, 63, 64, 65, 66, 68, 69, 70, 71, 74, 75, 76, 78, 79, 81, 82, 85, 87, 92, 96, 98, 103, 104, 106, 107, 110, 111, 113, 115, 126, 127, 128, 129, 132, 133, 134, 135, 137, 138, 142, 143, 145, 148, 149] -/
def hc_law14_CtrlHears_b1 : HC :=
 (.seq (.cond (Xand (Xb .lss (Xv 6) (Xlen (Xv 1))) (Xk .leq (Xv 6) 200)) [16]
  .skip
  (.exit 0))
 (.seq (.block 1 (.reg 0 [Xset [(5, (Xb .add (Xv 5) (.o (.mn [(.t 0), (.c (.int .i64 5000))]) [(Xls (Xf 3 (Xx 4 (Xv 1) (Xv 6))))])))]] []))
 (.reg 0 [Xset [(6, (Xk .add (Xv 6) 1))]] [])))
def hc_law14_CtrlHears_l1 : HC := .loop [0, 4, 7, 8, 9, 10, 11, 12, 13, 14, 15, 16, 17, 18, 19, 20, 21, 22, 23, 24, 25, 26, 27, 28, 29, 30, 31, 32, 33, 34, 35, 36, 37, 38, 39, 40, 41, 42, 43, 44, 45, 46, 47, 48, 49, 50, 51, 52, 53, 54, 55, 56, 57, 58, 59, 60, 61, 62] hc_law14_CtrlHears_b1
def hc_law14_CtrlHears_b2 : HC :=
 (.seq (.cond (Xb .lss (Xv 26) (Xv 25)) [27]
  .skip
  (.exit 4))
 (.seq (.block 5 (.seq (.reg 1 [Xcall [] (some 28) f_ctrl_Ctrl_Fetch [(Xv 7)] [(.t 0)],
   Xeff [(29, (Xe 0 (Xv 28))), (30, (Xe 1 (Xv 28)))] (some 12) 0 (.alloc [(.int .i64 0), (.int .i64 0), (.int .i64 0), (.str [])]) [],
   Xeff [] none 1 (.store 4 (.t 0) (.t 1)) [(Xv 12), (Xv 29)],
   Xset [(13, (Xv 30))]] [28, 29, 30])
 (.seq (.reg 0 [Xset [(31, (Xk .eql (Xv 13) 0))]] [13])
 (.cond (Xv 31) [31]
  (.reg 2 [Xeff [(32, (Xv 9))] (some 33) 0 (.bslice 4 [(.t 0)]) [(Xln 4 (Xv 12))],
    Xeff [] (some 34) 1 (.app 4 40 (.t 0) (.t 1)) [(Xv 32), (Xv 33)],
    Xset [(9, (Xv 34))]] [12, 32, 33, 34])
  .skip))))
 (.reg 0 [Xset [(26, (Xk .add (Xv 26) 1))]] [])))
def hc_law14_CtrlHears_l2 : HC := .loop [0, 1, 4, 5, 6, 12, 13, 14, 15, 16, 17, 18, 19, 23, 24, 27, 28, 29, 30, 31, 32, 33, 34, 35, 36, 37, 38, 39, 40, 41, 42, 43, 44, 45, 46, 47, 48, 49, 50, 51, 52, 53, 54, 55, 56, 57, 58, 59, 60, 61, 62] hc_law14_CtrlHears_b2
def hc_law14_CtrlHears_b3 : HC :=
 (.seq (.cond (Xb .lss (Xv 22) (Xv 21)) [23]
  .skip
  (.exit 2))
 (.seq (.block 3 (.seq (.reg 1 [Xeff [(24, (Xln 4 (Xx 4 (Xv 20) (Xv 22))))] (some 11) 0 (.alloc [(.int .i64 0), (.int .i64 0), (.int .i64 0), (.str [])]) [],
   Xeff [] none 1 (.store 4 (.t 0) (.t 1)) [(Xv 11), (Xv 24)]] [24])
 (.seq (.seq (.reg 0 [Xset [(25, (Xv 2)), (26, (Xi 0))]] [])
 (.block 4 hc_law14_CtrlHears_l2))
 (.seq (.seq (.reg 0 [Xcall [] (some 35) f_ref02_Key [(Xln 4 (Xv 11))] [(.t 0)],
   ⟨[(36, (Xk .geq (Xv 35) 0)), (37, (.g (Xk .geq (Xv 35) 0) true (Xk .eql (Xlen (Xf 7 (Xv 3))) 0)))], [], (some ⟨(some 38), (some ((.g (Xk .geq (Xv 35) 0) true (Xk .eql (Xlen (Xf 7 (Xv 3))) 0)), false)), 0, .call (.c (.fn f_ref05_Any [] [])) [(.t 0), (.c (.bool false)), (.t 1)], [(Xf 7 (Xv 3)), (Xln 4 (Xv 11))], []⟩)⟩,
   Xset [(39, (Xand (Xv 36) (Xor (Xv 37) (Xv 38))))]] [35, 36, 37, 38])
 (.cond (Xv 39) [39]
  (.reg 0 [Xset [(10, (Xk .add (Xv 10) 1))]] [])
  .skip))
 (.seq (.reg 0 [Xcall [] (some 40) f_ctrl_Ctrl_Hear [(Xv 7), (Xln 4 (Xv 11))] [(.t 0), (.t 1)]] [])
 (.cond (Xv 40) [40]
  (.reg 2 [Xeff [(41, (Xv 8))] (some 42) 0 (.bslice 4 [(.t 0)]) [(Xln 4 (Xv 11))],
    Xeff [] (some 43) 1 (.app 4 40 (.t 0) (.t 1)) [(Xv 41), (Xv 42)],
    Xset [(8, (Xv 43))]] [11, 41, 42, 43])
  .skip))))))
 (.reg 0 [Xset [(22, (Xk .add (Xv 22) 1))]] [])))
def hc_law14_CtrlHears_l3 : HC := .loop [0, 1, 4, 5, 6, 11, 12, 13, 14, 15, 16, 17, 18, 19, 23, 24, 25, 26, 27, 28, 29, 30, 31, 32, 33, 34, 35, 36, 37, 38, 39, 40, 41, 42, 43, 44, 45, 46, 47, 48, 49, 50, 51, 52, 53, 54, 55, 56, 57, 58, 59, 60, 61, 62] hc_law14_CtrlHears_b3
def hc_law14_CtrlHears_b4 : HC :=
 (.seq (.cond (Xb .lss (Xv 50) (Xv 49)) [51]
  .skip
  (.exit 6))
 (.seq (.block 7 (.seq (.reg 1 [Xcall [] (some 52) f_ctrl_Ctrl_Fetch [(Xv 7)] [(.t 0)],
   Xeff [(53, (Xe 0 (Xv 52))), (54, (Xe 1 (Xv 52)))] (some 15) 0 (.alloc [(.int .i64 0), (.int .i64 0), (.int .i64 0), (.str [])]) [],
   Xeff [] none 1 (.store 4 (.t 0) (.t 1)) [(Xv 15), (Xv 53)],
   Xset []] [52, 53, 54])
 (.reg 2 [Xeff [(55, (Xv 9))] (some 56) 0 (.bslice 4 [(.t 0)]) [(Xln 4 (Xv 15))],
   Xeff [] (some 57) 1 (.app 4 40 (.t 0) (.t 1)) [(Xv 55), (Xv 56)],
   Xset [(9, (Xv 57))]] [15, 55, 56, 57])))
 (.reg 0 [Xset [(50, (Xk .add (Xv 50) 1))]] [])))
def hc_law14_CtrlHears_l4 : HC := .loop [0, 1, 2, 3, 4, 5, 6, 10, 11, 12, 13, 14, 15, 16, 17, 18, 19, 20, 21, 22, 23, 24, 25, 26, 27, 28, 29, 30, 31, 32, 33, 34, 35, 36, 37, 38, 39, 40, 41, 42, 43, 44, 45, 46, 47, 48, 51, 52, 53, 54, 55, 56, 57, 58, 59, 60, 61, 62] hc_law14_CtrlHears_b4
def hc_law14_CtrlHears : HC :=
 (.seq (.reg 1 [Xeff [] (some 3) 0 (.box (.t 0)) [(Xv 0)],
   Xset [(4, (Xc (.bool false)))]] [0, 4])
 (.seq (.reg 0 [Xset [(5, (Xi 0))]] [])
 (.seq (.seq (.reg 0 [Xset [(6, (Xi 0))]] [])
 (.block 0 hc_law14_CtrlHears_l1))
 (.seq (.seq (.reg 0 [Xset [(17, (Xor (Xor (Xor (Xor (Xk .gtr (Xlen (Xv 1)) 200) (Xk .gtr (Xv 5) 5000)) (Xk .gtr (Xlen (Xf 7 (Xv 3))) 50)) (Xk .lss (Xv 2) 0)) (Xk .gtr (Xv 2) 3)))]] [5])
 (.cond (Xv 17) [17]
  (.seq (.reg 0 [Xcall [] (some 18) f_law14_alive [] [],
    Xset [(4, (Xv 18))]] [18])
  .ret)
  .skip))
 (.seq (.reg 0 [Xcall [] (some 19) f_ctrl_New [(Xln 8 (Xv 3))] [(.t 0)],
   Xset [(7, (Xv 19))]] [19])
 (.seq (.reg 0 [Xset [(8, (Xc .nils)), (9, (Xc .nils))]] [])
 (.seq (.reg 0 [Xset [(10, (Xi 0))]] [])
 (.seq (.seq (.reg 0 [Xset [(20, (Xv 1)), (21, (Xlen (Xv 1))), (22, (Xi 0))]] [1])
 (.block 2 hc_law14_CtrlHears_l3))
 (.seq (.reg 0 [Xcall [] (some 44) f_ctrl_Ctrl_Kept [(Xv 7)] [(.t 0)],
   Xset [(14, (Xv 44))]] [44])
 (.seq (.seq (.reg 0 [Xcall [(45, (Xv 10)), (46, (Xlen (Xv 8)))] (some 47) f_ctrl_Ctrl_Lost [(Xv 7)] [(.t 0)],
   Xset [(48, (Xor (Xb .neq (Xv 45) (Xb .add (Xv 46) (Xv 47))) (Xb .neq (Xv 14) (Xb .sub (Xlen (Xv 8)) (Xlen (Xv 9))))))]] [10, 45, 46, 47])
 (.cond (Xv 48) [48]
  (.seq (.reg 0 [Xset [(4, (Xc (.bool false)))]] [])
  .ret)
  .skip))
 (.seq (.seq (.reg 0 [Xset [(49, (Xv 14)), (50, (Xi 0))]] [14])
 (.block 6 hc_law14_CtrlHears_l4))
 (.seq (.reg 0 [Xcall [] (some 58) f_ref03_Same [(Xv 8), (Xv 9)] [(.t 0), (.t 1)],
   ⟨[(59, (Xv 58))], [], (some ⟨(some 60), (some ((Xv 58), true)), 0, .call (.c (.fn f_ctrl_Ctrl_Kept [] [])) [(.t 0)], [(Xv 7)], []⟩)⟩,
   ⟨[(61, (Xand (Xv 59) (Xk .eql (Xv 60) 0)))], [], (some ⟨(some 62), (some ((Xand (Xv 59) (Xk .eql (Xv 60) 0)), true)), 0, .call (.c (.fn f_law14_alive [] [])) [], [], []⟩)⟩,
   Xset [(4, (Xand (Xv 61) (Xv 62)))]] [7, 8, 9, 58, 59, 60, 61, 62])
 .ret))))))))))))
theorem ok_law14_CtrlHears : HFn Try.prog f_law14_CtrlHears [0, 1, 2, 3, 6, 7, 8, 9, 10, 11, 12, 14, 15, 16, 17, 18, 27, 59, 60, 62, 63, 64, 65, 66, 68, 69, 70, 71, 74, 75, 76, 78, 79, 81, 82, 85, 87, 92, 96, 98, 103, 104, 106, 107, 110, 111, 113, 115, 126, 127, 128, 129, 132, 133, 134, 135, 137, 138, 142, 143, 145, 148, 149] hc_law14_CtrlHears [.t 4] := hfn_opt (hs := [[0, 6], [], [], [0, 6, 9, 10, 11, 12, 14, 15, 16, 17, 18, 27, 59, 60, 62, 63, 64, 65, 66, 68, 69, 70, 71, 74, 75, 76, 78, 79, 81, 82, 85, 87, 92, 96, 98, 103, 104, 106, 107, 110, 111, 113, 115, 126, 127, 128, 129, 132, 133, 134, 135, 137, 138, 142, 143, 145, 148, 149], [], [27], [], [], [7], [59], [60], [62], [], [], [1], [0, 1, 6, 7, 8, 14, 15, 16, 17, 18, 27, 59, 60, 62, 66, 68, 69, 70, 71, 74, 75, 76, 78, 79, 81, 82, 85, 87, 92, 96, 98, 103, 104, 106, 107, 110, 111, 113, 115, 126, 127, 128, 129, 132, 133, 134, 135, 137, 138, 142, 143, 145, 148, 149], [], [66], [68], [], [0, 1, 6, 7, 8, 15, 16, 17, 18, 27, 59, 60, 62, 66, 68, 71, 74, 75, 76, 78, 79, 81, 82, 85, 87, 92, 96, 98, 103, 104, 106, 107, 110, 111, 113, 115, 126, 127, 128, 129, 132, 133, 134, 135, 137, 138, 142, 143, 145, 148, 149], [], [71], [74, 75, 76], [16], [78], [15, 79, 81, 82], [], [85, 87, 92, 96], [98], [], [], [103], [14, 104, 106, 107], [], [110], [12, 111, 113, 115], [126], [], [17], [0, 1, 2, 3, 6, 7, 8, 12, 14, 15, 16, 17, 18, 27, 59, 60, 62, 63, 64, 65, 66, 68, 69, 70, 71, 74, 75, 76, 78, 79, 81, 82, 85, 87, 92, 96, 98, 103, 104, 106, 107, 110, 111, 113, 115, 126, 129, 132, 133, 134, 135, 137, 138, 142, 143, 145, 148, 149], [], [129], [132, 133, 134], [18, 135, 137, 138], [], [9, 10, 11, 142, 143, 145, 148, 149]]) fol Try.func3 (by kernel_rfl)

/-- signalbox/signalboxlaw14.alive [0, 1, 2, 3, 5, 8, 11, 17, 19, 22, 24, 27, 29, 32, 34] -/
def hc_law14_alive : HC :=
 (.seq (.reg 0 [Xset [(0, (Xc (.bool false)))]] [0])
 (.seq (.reg 0 [Xcall [] (some 4) f_ctrl_New [(.o (.build [(.int .i64 0), (.int .i64 0), (.int .i64 0), (.int .i64 0), (.int .i64 0), (.int .i64 0), (.int .i64 0), .nils] [(0, 1, (.c (.int .i64 1))), (1, 1, (.c (.int .i64 1)))]) [])] [(.t 0)],
   Xset [(1, (Xv 4))]] [4])
 (.seq (.reg 0 [Xcall [] (some 5) f_ctrl_Ctrl_Hear [(Xv 1), (.o (.build [(.int .i64 0), (.int .i64 0), (.int .i64 0), (.str [])] [(0, 1, (.c (.int .i64 1)))]) [])] [(.t 0), (.t 1)],
   Xcall [] (some 6) f_ctrl_Ctrl_Hear [(Xv 1), (.o (.build [(.int .i64 0), (.int .i64 0), (.int .i64 0), (.str [])] [(0, 1, (.c (.int .i64 2)))]) [])] [(.t 0), (.t 1)],
   Xset [(2, (Xv 5)), (3, (Xv 6))]] [5, 6])
 (.seq (.reg 0 [⟨[(7, (Xand (Xv 2) (Xnot (Xv 3))))], [], (some ⟨(some 8), (some ((Xand (Xv 2) (Xnot (Xv 3))), true)), 0, .call (.c (.fn f_ctrl_Ctrl_Asks [] [])) [(.t 0)], [(Xv 1)], []⟩)⟩,
   ⟨[(9, (Xand (Xv 7) (Xk .eql (Xv 8) 6)))], [], (some ⟨(some 10), (some ((Xand (Xv 7) (Xk .eql (Xv 8) 6)), true)), 0, .call (.c (.fn f_ctrl_Ctrl_Kept [] [])) [(.t 0)], [(Xv 1)], []⟩)⟩,
   ⟨[(11, (Xand (Xv 9) (Xk .eql (Xv 10) 1)))], [], (some ⟨(some 12), (some ((Xand (Xv 9) (Xk .eql (Xv 10) 1)), true)), 0, .call (.c (.fn f_ctrl_Ctrl_Lost [] [])) [(.t 0)], [(Xv 1)], []⟩)⟩,
   ⟨[(13, (Xand (Xv 11) (Xk .eql (Xv 12) 1)))], [], (some ⟨(some 14), (some ((Xand (Xv 11) (Xk .eql (Xv 12) 1)), true)), 0, .call (.c (.fn f_ctrl_Ctrl_Free [] [])) [(.t 0)], [(Xv 1)], []⟩)⟩,
   Xset [(0, (Xand (Xv 13) (Xk .eql (Xv 14) 1)))]] [1, 2, 3, 7, 8, 9, 10, 11, 12, 13, 14])
 .ret))))
theorem ok_law14_alive : HFn Try.prog f_law14_alive [0, 1, 2, 3, 5, 8, 11, 17, 19, 22, 24, 27, 29, 32, 34] hc_law14_alive [.t 0] := hfn_opt (hs := [[0], [5], [8, 11], [1, 2, 3, 17, 19, 22, 24, 27, 29, 32, 34]]) fol Try.func10 (by kernel_rfl)

/-- signalbox/ctrl.New [0, 1, 2, 5, 6, 7, 8, 9, 10, 11, 12, 14] -/
def hc_ctrl_New : HC :=
 (.seq (.reg 1 [Xeff [] (some 1) 0 (.box (.t 0)) [(Xv 0)],
   Xset [(2, (Xc .nilp))]] [0, 2])
 (.seq (.reg 1 [⟨[(4, (Xa 1 (Xv 1))), (5, (Xf 1 (Xv 1))), (8, (Xa 7 (Xv 1))), (9, (Xf 7 (Xv 1)))], [], (some ⟨(some 3), none, 0, .call (.c (.fn f_box_New [] [])) [(.t 0)], [(Xf 0 (Xv 1))], [((Xl (Xv 8)), 9), ((Xl (Xv 4)), 5)]⟩)⟩,
   ⟨[], [], (some ⟨(some 6), none, 0, .call (.c (.fn f_ring_New_of_Frame [] [])) [(.t 0)], [(Xv 5)], [((Xl (Xv 8)), 9)]⟩)⟩,
   Xcall [(7, (.o (.build [.nilp, .nilp] [(0, 1, (.t 0)), (1, 1, (.t 1))]) [(Xv 3), (Xv 6)]))] (some 10) f_slices_Clone_of_Filter [(Xv 9)] [(.t 0)],
   Xeff [] (some 11) 0 (.box (.t 0)) [(.o (.build [.nilp, .nilp, .nils, (.int .i64 0)] [(0, 2, (.t 0)), (2, 1, (.t 1))]) [(Xv 7), (Xv 10)])],
   Xset [(2, (Xv 11))]] [1, 3, 4, 5, 6, 7, 8, 9, 10, 11])
 .ret))
theorem ok_ctrl_New : HFn Try.prog f_ctrl_New [0, 1, 2, 5, 6, 7, 8, 9, 10, 11, 12, 14] hc_ctrl_New [.t 2] := hfn_opt (hs := [[0, 2], [0, 3, 7, 1, 4, 8, 2, 5, 6, 9, 10, 11, 12], [0, 1, 3, 0, 8, 31, 63, 0, 128, 447, 1023, 2047, 4095], [1, 5, 6, 7, 8, 9, 10, 11, 12, 14]]) fol Try.func11 (by kernel_rfl)

/-- (*signalbox/ctrl.Ctrl).Fetch [0, 2, 3, 5, 12, 14] -/
def hc_ctrl_Ctrl_Fetch : HC :=
 (.seq (.reg 1 [Xeff [] (some 1) 0 (.alloc [(.int .i64 0), (.int .i64 0), (.int .i64 0), (.str [])]) [],
   Xset [(2, (Xi 0))]] [2])
 (.seq (.cond (Xnil (Xv 0)) [3]
  (.seq (.reg 0 [Xeff [] none 0 (.store 4 (.t 0) (.t 1)) [(Xv 1), (.o (.build [(.int .i64 0), (.int .i64 0), (.int .i64 0), (.str [])] []) [])],
    Xset [(2, (Xi 1))]] [])
  .ret)
  .skip)
 (.seq (.reg 0 [Xcall [] (some 4) f_ring_Ring_of_Frame_Take [(Xf 1 (Xa 0 (Xn (Xv 0))))] [(.t 0)],
   Xeff [(5, (Xe 1 (Xv 4)))] none 0 (.store 4 (.t 0) (.t 1)) [(Xv 1), (Xe 0 (Xv 4))],
   Xset [(2, (Xv 5))]] [0, 4, 5])
 .ret)))
theorem ok_ctrl_Ctrl_Fetch : HFn Try.prog f_ctrl_Ctrl_Fetch [0, 2, 3, 5, 12, 14] hc_ctrl_Ctrl_Fetch [.cell 1 (some 4), .t 2] := hfn_opt (hs := [[3], [], [5], [], [0, 12, 14]]) fol Try.func12 (by kernel_rfl)

/-- signalbox/signalboxref05.Any [0, 1, 2, 5, 6, 7, 8, 12, 20, 23] -/
def hc_ref05_Any_b1 : HC :=
 (.seq (.cond (Xb .lss (Xv 6) (Xlen (Xv 0))) [7]
  .skip
  (.exit 0))
 (.seq (.block 1 (.seq (.reg 0 [Xcall [] (some 8) f_ref05_Match [(Xln 3 (Xx 3 (Xv 0) (Xv 6))), (Xln 4 (Xv 3))] [(.t 0), (.t 1)]] [])
 (.cond (Xv 8) [8]
  (.reg 0 [Xset [(5, (Xk .add (Xv 5) 1))]] [])
  .skip)))
 (.reg 0 [Xset [(6, (Xk .add (Xv 6) 1))]] [])))
def hc_ref05_Any_l1 : HC := .loop [2, 4, 7, 8, 9] hc_ref05_Any_b1
def hc_ref05_Any : HC :=
 (.seq (.reg 1 [Xeff [] (some 3) 0 (.box (.t 0)) [(Xv 2)],
   Xset [(4, (Xc (.bool false)))]] [2, 4])
 (.seq (.reg 0 [Xset [(5, (Xi 0))]] [])
 (.seq (.seq (.reg 0 [Xset [(6, (Xi 0))]] [])
 (.block 0 hc_ref05_Any_l1))
 (.seq (.seq (.reg 0 [Xset [(9, (Xv 1))]] [1])
 (.cond (Xv 9) [9]
  (.seq (.reg 0 [Xset [(4, (Xand (Xk .gtr (Xv 5) 0) (Xb .eql (Xv 5) (Xlen (Xv 0)))))]] [0, 5])
  .ret)
  .skip))
 (.seq (.reg 0 [Xset [(4, (Xk .gtr (Xv 5) 0))]] [5])
 .ret)))))
theorem ok_ref05_Any : HFn Try.prog f_ref05_Any [0, 1, 2, 5, 6, 7, 8, 12, 20, 23] hc_ref05_Any [.t 4] := hfn_opt (hs := [[2, 6], [], [], [2, 6, 12, 20, 23], [], [12], [0, 1, 2, 3, 4, 5], [0, 0, 3, 7, 0, 31], [], [20], [], [], [1], [23], [0, 7], [7]]) fol Try.func14 (by kernel_rfl)

/-- (*signalbox/ctrl.Ctrl).Hear [0, 1, 3, 4, 5, 8, 11, 13, 20, 21] -/
def hc_ctrl_Ctrl_Hear : HC :=
 (.seq (.reg 1 [Xeff [] (some 2) 0 (.box (.t 0)) [(Xv 1)],
   Xset [(3, (Xc (.bool false)))]] [1, 3])
 (.seq (.seq (.reg 0 [⟨[(5, (Xnil (Xv 0)))], [], (some ⟨(some 6), (some ((Xnil (Xv 0)), false)), 0, .call (.c (.fn f_ctrl_Ctrl_lets [] [])) [(.t 0), (.t 1)], [(Xv 0), (Xln 4 (Xv 2))], []⟩)⟩,
   Xset [(7, (Xor (Xv 5) (Xnot (Xv 6))))]] [5, 6])
 (.cond (Xv 7) [7]
  (.seq (.reg 0 [Xset [(3, (Xc (.bool false)))]] [])
  .ret)
  .skip))
 (.seq (.reg 0 [Xcall [] (some 8) f_ring_Ring_of_Frame_Put [(Xf 1 (Xa 0 (Xn (Xv 0)))), (Xln 4 (Xv 2))] [(.t 0), (.t 1)],
   Xset [(4, (Xv 8))]] [2, 8])
 (.seq (.cond (Xv 4) [9]
  (.reg 0 [Xeff [] none 0 (.store 1 (.t 0) (.t 1)) [(Xa 3 (Xn (Xv 0))), (Xk .or (Xf 3 (Xn (Xv 0))) 2)]] [0])
  (.reg 0 [Xeff [] none 0 (.store 1 (.t 0) (.t 1)) [(Xa 3 (Xn (Xv 0))), (Xk .or (Xf 3 (Xn (Xv 0))) 4)]] [0]))
 (.seq (.reg 0 [Xset [(3, (Xv 4))]] [4])
 .ret)))))
theorem ok_ctrl_Ctrl_Hear : HFn Try.prog f_ctrl_Ctrl_Hear [0, 1, 3, 4, 5, 8, 11, 13, 20, 21] hc_ctrl_Ctrl_Hear [.t 3] := hfn_opt (hs := [[1, 4], [8, 11], [13], [], [0, 1, 2, 3, 4, 5, 6, 7], [0, 1, 3, 7, 15, 0, 63, 127], [3, 20], [], [21], [0], [0], [5]]) fol Try.func15 (by kernel_rfl)

/-- (*signalbox/ctrl.Ctrl).Kept [0, 2, 4, 10] -/
def hc_ctrl_Ctrl_Kept : HC :=
 (.seq (.reg 0 [Xset [(1, (Xi 0))]] [1])
 (.seq (.cond (Xnil (Xv 0)) [2]
  (.seq (.reg 0 [Xset [(1, (Xi 0))]] [])
  .ret)
  .skip)
 (.seq (.reg 0 [Xcall [] (some 3) f_ring_Ring_of_Frame_Len [(Xf 1 (Xa 0 (Xn (Xv 0))))] [(.t 0)],
   Xset [(1, (Xv 3))]] [0, 3])
 .ret)))
theorem ok_ctrl_Ctrl_Kept : HFn Try.prog f_ctrl_Ctrl_Kept [0, 2, 4, 10] hc_ctrl_Ctrl_Kept [.t 1] := hfn_opt (hs := [[2], [], [4], [], [0, 10]]) fol Try.func16 (by kernel_rfl)

/-- (*signalbox/ctrl.Ctrl).Lost [0, 2, 4, 10] -/
def hc_ctrl_Ctrl_Lost : HC :=
 (.seq (.reg 0 [Xset [(1, (Xi 0))]] [1])
 (.seq (.cond (Xnil (Xv 0)) [2]
  (.seq (.reg 0 [Xset [(1, (Xi 0))]] [])
  .ret)
  .skip)
 (.seq (.reg 0 [Xcall [] (some 3) f_ring_Ring_of_Frame_Lost [(Xf 1 (Xa 0 (Xn (Xv 0))))] [(.t 0)],
   Xset [(1, (Xv 3))]] [0, 3])
 .ret)))
theorem ok_ctrl_Ctrl_Lost : HFn Try.prog f_ctrl_Ctrl_Lost [0, 2, 4, 10] hc_ctrl_Ctrl_Lost [.t 1] := hfn_opt (hs := [[2], [], [4], [], [0, 10]]) fol Try.func17 (by kernel_rfl)

/-- signalbox/signalboxref03.Same [0, 1, 4, 5, 10, 14, 25] -/
def hc_ref03_Same_b1 : HC :=
 (.seq (.cond (Xb .lss (Xv 3) (Xlen (Xv 0))) [5]
  .skip
  (.exit 0))
 (.seq (.block 1 (.cond (.o (.eqv true (.struct [.int, .int, .int, .str]) (.t 0) (.t 1)) [(Xln 4 (Xx 4 (Xv 0) (Xv 3))), (Xln 4 (Xx 4 (Xv 1) (Xv 3)))]) [6]
  (.seq (.reg 0 [Xset [(2, (Xc (.bool false)))]] [])
  .ret)
  .skip))
 (.reg 0 [Xset [(3, (Xk .add (Xv 3) 1))]] [])))
def hc_ref03_Same_l1 : HC := .loop [2, 4, 5, 6] hc_ref03_Same_b1
def hc_ref03_Same : HC :=
 (.seq (.reg 0 [Xset [(2, (Xc (.bool false)))]] [2])
 (.seq (.cond (Xb .neq (Xlen (Xv 0)) (Xlen (Xv 1))) [4]
  (.seq (.reg 0 [Xset [(2, (Xc (.bool false)))]] [])
  .ret)
  .skip)
 (.seq (.seq (.reg 0 [Xset [(3, (Xi 0))]] [])
 (.block 0 hc_ref03_Same_l1))
 (.seq (.reg 0 [Xset [(2, (Xc (.bool true)))]] [])
 .ret))))
theorem ok_ref03_Same : HFn Try.prog f_ref03_Same [0, 1, 4, 5, 10, 14, 25] hc_ref03_Same [.t 2] := hfn_opt (hs := [[4], [], [10], [], [], [4, 10, 14, 25], [], [14], [0, 1, 2, 4, 5, 6, 3, 7, 8], [0, 0, 3, 7, 0, 0, 48, 112, 255], [], [25], [], [], []]) fol Try.func18 (by kernel_rfl)

/-- (*signalbox/ctrl.Ctrl).Asks [0, 2, 4] -/
def hc_ctrl_Ctrl_Asks : HC :=
 (.seq (.reg 0 [Xset [(1, (Xi 0))]] [1])
 (.seq (.cond (Xnil (Xv 0)) [2]
  (.seq (.reg 0 [Xset [(1, (Xi 0))]] [])
  .ret)
  .skip)
 (.seq (.reg 0 [Xset [(1, (Xf 3 (Xn (Xv 0))))]] [0])
 .ret)))
theorem ok_ctrl_Ctrl_Asks : HFn Try.prog f_ctrl_Ctrl_Asks [0, 2, 4] hc_ctrl_Ctrl_Asks [.t 1] := hfn_opt (hs := [[2], [], [4], [], [0]]) fol Try.func34 (by kernel_rfl)

/-- (*signalbox/ctrl.Ctrl).Free [0, 2, 4, 10] -/
def hc_ctrl_Ctrl_Free : HC :=
 (.seq (.reg 0 [Xset [(1, (Xi 0))]] [1])
 (.seq (.cond (Xnil (Xv 0)) [2]
  (.seq (.reg 0 [Xset [(1, (Xi 0))]] [])
  .ret)
  .skip)
 (.seq (.reg 0 [Xcall [] (some 3) f_box_Boxes_Free [(Xf 0 (Xa 0 (Xn (Xv 0))))] [(.t 0)],
   Xset [(1, (Xv 3))]] [0, 3])
 .ret)))
theorem ok_ctrl_Ctrl_Free : HFn Try.prog f_ctrl_Ctrl_Free [0, 2, 4, 10] hc_ctrl_Ctrl_Free [.t 1] := hfn_opt (hs := [[2], [], [4], [], [0, 10]]) fol Try.func35 (by kernel_rfl)

/-- signalbox/box.New [0, 2, 6, 8] -/
def hc_box_New : HC :=
 (.seq (.reg 0 [Xset [(1, (Xc .nilp))]] [1])
 (.seq (.reg 2 [Xeff [] (some 2) 0 (.mksl 9 80 [(.int .i64 0), (.int .i64 0), (.int .i64 0), (.int .i64 0), (.str []), (.int .i64 0), (.int .i64 0), (.bool false), (.int .i64 0)] (.t 0) (.t 0)) [(.o (.mn [(.t 0), (.c (.int .i64 1000))]) [(.o (.mx [(.t 0), (.c (.int .i64 1))]) [(Xv 0)])])],
   Xeff [] (some 3) 1 (.box (.t 0)) [(.o (.build [.nils, .nils, (.int .i64 0)] [(0, 1, (.t 0))]) [(Xv 2)])],
   Xset [(1, (Xv 3))]] [0, 2, 3])
 .ret))
theorem ok_box_New : HFn Try.prog f_box_New [0, 2, 6, 8] hc_box_New [.t 1] := hfn_opt (hs := [[2], [0, 6, 8]]) fol Try.func52 (by kernel_rfl)

/-- signalbox/ring.New[signalbox/api.Frame] [0, 2, 6, 8] -/
def hc_ring_New_of_Frame : HC :=
 (.seq (.reg 0 [Xset [(1, (Xc .nilp))]] [1])
 (.seq (.reg 2 [Xeff [] (some 2) 0 (.mksl 4 40 [(.int .i64 0), (.int .i64 0), (.int .i64 0), (.str [])] (.t 0) (.t 0)) [(.o (.mn [(.t 0), (.c (.int .i64 1000))]) [(.o (.mx [(.t 0), (.c (.int .i64 1))]) [(Xv 0)])])],
   Xeff [] (some 3) 1 (.box (.t 0)) [(.o (.build [.nils, (.int .i64 0), (.int .i64 0), (.int .i64 0)] [(0, 1, (.t 0))]) [(Xv 2)])],
   Xset [(1, (Xv 3))]] [0, 2, 3])
 .ret))
theorem ok_ring_New_of_Frame : HFn Try.prog f_ring_New_of_Frame [0, 2, 6, 8] hc_ring_New_of_Frame [.t 1] := hfn_opt (hs := [[2], [0, 6, 8]]) fol Try.func53 (by kernel_rfl)

/-- slices.Clone[[]signalbox/api.Filter,signalbox/api.Filter] [0, 2, 4, 5, 7] -/
def hc_slices_Clone_of_Filter : HC :=
 (.seq (.reg 0 [Xset [(1, (Xc .nils))]] [1])
 (.seq (.cond (.o (.eqv false .slice (.t 0) (.c .nils)) [(Xv 0)]) [2]
  (.seq (.reg 0 [Xset [(1, (Xc .nils))]] [])
  .ret)
  .skip)
 (.seq (.reg 2 [Xeff [] (some 3) 0 (.bslice 3 []) [],
   Xeff [] (some 4) 1 (.app 3 12 (.t 0) (.t 1)) [(Xv 3), (Xv 0)],
   Xset [(1, (Xv 4))]] [0, 3, 4])
 .ret)))
theorem ok_slices_Clone_of_Filter : HFn Try.prog f_slices_Clone_of_Filter [0, 2, 4, 5, 7] hc_slices_Clone_of_Filter [.t 1] := hfn_opt (hs := [[2], [], [4], [], [0, 5, 7]]) fol Try.func54 (by kernel_rfl)

/-- (*signalbox/ring.Ring[signalbox/api.Frame]).Take [0, 2, 3, 4, 5, 8, 9, 10, 12, 13, 15, 26] -/
def hc_ring_Ring_of_Frame_Take : HC :=
 (.seq (.reg 1 [Xeff [] (some 1) 0 (.alloc [(.int .i64 0), (.int .i64 0), (.int .i64 0), (.str [])]) [],
   Xset [(2, (Xi 0))]] [2])
 (.seq (.reg 1 [Xcall [] (some 5) f_ring_Ring_of_Frame_Peek [(Xv 0)] [(.t 0)],
   Xeff [(6, (Xe 0 (Xv 5))), (7, (Xe 1 (Xv 5)))] (some 3) 0 (.alloc [(.int .i64 0), (.int .i64 0), (.int .i64 0), (.str [])]) [],
   Xeff [] none 1 (.store 4 (.t 0) (.t 1)) [(Xv 3), (Xv 6)],
   Xset [(4, (Xv 7))]] [5, 6, 7])
 (.seq (.cond (Xk .eql (Xv 4) 0) [8]
  (.seq (.reg 0 [Xcall [(9, (Xv 0))] (some 10) f_ring_Ring_of_Frame_at [(Xv 0)] [(.t 0), (.c (.int .i64 1))],
    Xeff [] none 0 (.store 1 (.t 0) (.t 1)) [(Xa 1 (Xn (Xv 9))), (Xv 10)]] [9, 10])
  (.reg 0 [Xeff [] none 0 (.store 1 (.t 0) (.t 1)) [(Xa 2 (Xn (Xv 0))), (Xk .sub (Xf 2 (Xn (Xv 0))) 1)]] [0]))
  .skip)
 (.seq (.reg 0 [Xeff [(11, (Xv 4))] none 0 (.store 4 (.t 0) (.t 1)) [(Xv 1), (Xln 4 (Xv 3))],
   Xset [(2, (Xv 11))]] [3, 4, 11])
 .ret))))
theorem ok_ring_Ring_of_Frame_Take : HFn Try.prog f_ring_Ring_of_Frame_Take [0, 2, 3, 4, 5, 8, 9, 10, 12, 13, 15, 26] hc_ring_Ring_of_Frame_Take [.cell 1 (some 4), .t 2] := hfn_opt (hs := [[3], [8, 9, 10], [], [12], [13, 15], [0], [4, 5, 26]]) fol Try.func55 (by kernel_rfl)

/-- signalbox/signalboxref05.Match [0, 1, 2, 3, 4, 6, 7, 9, 12, 13, 15, 16] -/
def hc_ref05_Match : HC :=
 (.seq (.reg 2 [Xeff [] (some 2) 0 (.box (.t 0)) [(Xv 0)],
   Xeff [] (some 3) 1 (.box (.t 0)) [(Xv 1)],
   Xset [(4, (Xc (.bool false)))]] [0, 1, 4])
 (.seq (.reg 0 [Xcall [] (some 5) f_ref02_Right [(Xln 4 (Xv 3))] [(.t 0)],
   ⟨[(6, (Xv 5))], [], (some ⟨(some 7), (some ((Xv 5), true)), 0, .call (.c (.fn f_ref02_Has [] [])) [(.t 0), (.c (.int .i64 4))], [(Xln 4 (Xv 3))], []⟩)⟩,
   ⟨[(8, (Xand (Xv 6) (Xnot (Xv 7)))), (9, (.g (Xand (Xv 6) (Xnot (Xv 7))) true (Xln 3 (Xv 2))))], [], (some ⟨(some 10), (some ((Xand (Xv 6) (Xnot (Xv 7))), true)), 0, .call (.c (.fn f_ref02_Word [] [])) [(.t 0)], [(Xln 4 (Xv 3))], [((.g (Xv 8) true (Xln 3 (Xv 2))), 9)]⟩)⟩,
   ⟨[], [], (some ⟨(some 11), (some ((Xv 8), true)), 0, .call (.c (.fn f_ref05_Hit [] [])) [(.t 0), (.t 1)], [(Xv 9), (Xv 10)], []⟩)⟩,
   Xset [(4, (Xand (Xv 8) (Xv 11)))]] [2, 3, 5, 6, 7, 8, 9, 10, 11])
 .ret))
theorem ok_ref05_Match : HFn Try.prog f_ref05_Match [0, 1, 2, 3, 4, 6, 7, 9, 12, 13, 15, 16] hc_ref05_Match [.t 4] := hfn_opt (hs := [[0, 1, 4], [0, 1, 2, 3, 4, 5, 6, 7, 8, 9, 10, 11, 12, 13], [0, 1, 3, 7, 15, 31, 63, 127, 255, 255, 767, 2047, 4095, 8191], [2, 3, 6, 7, 9, 12, 13, 15, 16]]) fol Try.func59 (by kernel_rfl)

/-- (*signalbox/ctrl.Ctrl).lets [0, 1, 3, 4, 6, 7, 14, 20] -/
def hc_ctrl_Ctrl_lets : HC :=
 (.seq (.reg 1 [Xeff [] (some 2) 0 (.box (.t 0)) [(Xv 1)],
   Xset [(3, (Xc (.bool false)))]] [1, 3])
 (.seq (.seq (.reg 0 [Xcall [] (some 4) f_frame_Key [(Xln 4 (Xv 2))] [(.t 0)],
   Xset [(5, (Xk .lss (Xv 4) 0))]] [4])
 (.cond (Xv 5) [5]
  (.seq (.reg 0 [Xset [(3, (Xc (.bool false)))]] [])
  .ret)
  .skip))
 (.seq (.reg 0 [⟨[(6, (Xk .eql (Xlen (Xf 2 (Xn (Xv 0)))) 0))], [], (some ⟨(some 7), (some ((Xk .eql (Xlen (Xf 2 (Xn (Xv 0)))) 0), false)), 0, .call (.c (.fn f_slices_ContainsFunc_of_Filter [] [])) [(.t 0), (.t 1)], [(Xf 2 (Xn (Xv 0))), (.o (.mkfn f_ctrl_Ctrl_lets_1 [] [(.t 0)]) [(Xv 2)])], []⟩)⟩,
   Xset [(3, (Xor (Xv 6) (Xv 7)))]] [0, 2, 6, 7])
 .ret)))
theorem ok_ctrl_Ctrl_lets : HFn Try.prog f_ctrl_Ctrl_lets [0, 1, 3, 4, 6, 7, 14, 20] hc_ctrl_Ctrl_lets [.t 3] := hfn_opt (hs := [[1, 4], [6], [7], [], [0, 3, 14, 20]]) fol Try.func60 (by kernel_rfl)

/-- (*signalbox/ring.Ring[signalbox/api.Frame]).Put [0, 1, 3, 4, 5, 8, 28, 29, 35, 36] -/
def hc_ring_Ring_of_Frame_Put : HC :=
 (.seq (.reg 1 [Xeff [] (some 2) 0 (.box (.t 0)) [(Xv 1)],
   Xset [(3, (Xc (.bool false)))]] [1, 3])
 (.seq (.block 0 (.cond (Xnil (Xv 0)) [4]
  (.seq (.reg 0 [Xset [(3, (Xc (.bool false)))]] [])
  .ret)
  (.cond (Xb .eql (Xf 2 (Xn (Xv 0))) (Xlen (Xf 0 (Xn (Xv 0))))) [5]
   (.seq (.reg 0 [Xeff [] none 0 (.store 1 (.t 0) (.t 1)) [(Xa 3 (Xn (Xv 0))), (Xk .add (Xf 3 (Xn (Xv 0))) 1)]] [0])
   (.seq (.reg 0 [Xset [(3, (Xc (.bool false)))]] [])
   .ret))
   .skip)))
 (.seq (.reg 0 [⟨[(6, (Xa 0 (Xn (Xv 0)))), (7, (Xf 0 (Xn (Xv 0)))), (9, (Xln 4 (Xv 2)))], [], (some ⟨(some 8), none, 0, .call (.c (.fn f_ring_Ring_of_Frame_at [] [])) [(.t 0), (.t 1)], [(Xv 0), (Xf 2 (Xn (Xv 0)))], [((Xln 4 (Xv 2)), 9), ((Xl (Xv 6)), 7)]⟩)⟩,
   Xeff [] none 0 (.store 4 (.t 0) (.t 1)) [(Xx 4 (Xv 7) (Xv 8)), (Xv 9)]] [2, 6, 7, 8, 9])
 (.seq (.reg 0 [Xeff [] none 0 (.store 1 (.t 0) (.t 1)) [(Xa 2 (Xn (Xv 0))), (Xk .add (Xf 2 (Xn (Xv 0))) 1)]] [0])
 (.seq (.reg 0 [Xset [(3, (Xc (.bool true)))]] [])
 .ret)))))
theorem ok_ring_Ring_of_Frame_Put : HFn Try.prog f_ring_Ring_of_Frame_Put [0, 1, 3, 4, 5, 8, 28, 29, 35, 36] hc_ring_Ring_of_Frame_Put [.t 3] := hfn_opt (hs := [[1, 4], [], [5], [], [0, 1, 2, 4, 5, 6, 3, 7, 8, 9, 10], [0, 1, 3, 7, 0, 16, 48, 112, 240, 511, 1023], [], [8], [0], [], [0, 1, 2, 4, 5, 6, 7, 3, 8, 10, 9, 11, 12], [0, 1, 3, 7, 0, 0, 32, 96, 224, 496, 0, 2047, 4095], [3, 28, 29, 35, 36], [0], []]) fol Try.func61 (by kernel_rfl)

/-- (*signalbox/ring.Ring[signalbox/api.Frame]).Len [0, 2, 4] -/
def hc_ring_Ring_of_Frame_Len : HC :=
 (.seq (.reg 0 [Xset [(1, (Xi 0))]] [1])
 (.seq (.cond (Xnil (Xv 0)) [2]
  (.seq (.reg 0 [Xset [(1, (Xi 0))]] [])
  .ret)
  .skip)
 (.seq (.reg 0 [Xset [(1, (Xf 2 (Xn (Xv 0))))]] [0])
 .ret)))
theorem ok_ring_Ring_of_Frame_Len : HFn Try.prog f_ring_Ring_of_Frame_Len [0, 2, 4] hc_ring_Ring_of_Frame_Len [.t 1] := hfn_opt (hs := [[2], [], [4], [], [0]]) fol Try.func62 (by kernel_rfl)

/-- (*signalbox/ring.Ring[signalbox/api.Frame]).Lost [0, 2, 4] -/
def hc_ring_Ring_of_Frame_Lost : HC :=
 (.seq (.reg 0 [Xset [(1, (Xi 0))]] [1])
 (.seq (.cond (Xnil (Xv 0)) [2]
  (.seq (.reg 0 [Xset [(1, (Xi 0))]] [])
  .ret)
  .skip)
 (.seq (.reg 0 [Xset [(1, (Xf 3 (Xn (Xv 0))))]] [0])
 .ret)))
theorem ok_ring_Ring_of_Frame_Lost : HFn Try.prog f_ring_Ring_of_Frame_Lost [0, 2, 4] hc_ring_Ring_of_Frame_Lost [.t 1] := hfn_opt (hs := [[2], [], [4], [], [0]]) fol Try.func63 (by kernel_rfl)

/-- (*signalbox/box.Boxes).Free [0, 2, 3, 5, 7, 8, 9, 10, 14] -/
def hc_box_Boxes_Free_b1 : HC :=
 (.seq (.cond (Xb .lss (Xv 6) (Xv 5)) [7]
  .skip
  (.exit 0))
 (.seq (.block 1 (.seq (.reg 0 [Xset [(3, (Xl (Xx 1 (Xv 4) (Xv 6))))]] [])
 (.seq (.reg 0 [Xset [(8, (Xk .eql (Xv 3) 0))]] [3])
 (.cond (Xv 8) [8]
  (.reg 0 [Xset [(2, (Xk .add (Xv 2) 1))]] [])
  .skip))))
 (.reg 0 [Xset [(6, (Xk .add (Xv 6) 1))]] [])))
def hc_box_Boxes_Free_l1 : HC := .loop [0, 1, 3, 7, 8] hc_box_Boxes_Free_b1
def hc_box_Boxes_Free : HC :=
 (.seq (.reg 0 [Xset [(1, (Xi 0))]] [1])
 (.seq (.reg 0 [Xset [(2, (Xi 0))]] [])
 (.seq (.seq (.reg 0 [Xcall [] (some 4) f_box_Boxes_States [(Xv 0)] [(.t 0)],
   Xset [(5, (Xlen (Xv 4))), (6, (Xi 0))]] [0])
 (.block 0 hc_box_Boxes_Free_l1))
 (.seq (.reg 0 [Xset [(1, (Xv 2))]] [2])
 .ret))))
theorem ok_box_Boxes_Free : HFn Try.prog f_box_Boxes_Free [0, 2, 3, 5, 7, 8, 9, 10, 14] hc_box_Boxes_Free [.t 1] := hfn_opt (hs := [[2], [], [0], [0, 2, 5, 10, 14], [], [10], [], [5], [14], [], [], [3]]) fol Try.func101 (by kernel_rfl)

/-- (*signalbox/box.Boxes).States [0, 2, 3, 5, 7, 12, 13, 14, 15, 17, 18, 21, 22] -/
def hc_box_Boxes_States_b1 : HC :=
 (.seq (.cond (Xb .lss (Xv 7) (Xv 6)) [8]
  .skip
  (.exit 0))
 (.seq (.block 1 (.seq (.reg 1 [Xeff [(9, (Xln 9 (Xx 9 (Xv 5) (Xv 7))))] (some 3) 0 (.alloc [(.int .i64 0), (.int .i64 0), (.int .i64 0), (.int .i64 0), (.str []), (.int .i64 0), (.int .i64 0), (.bool false), (.int .i64 0)]) [],
   Xeff [] none 1 (.store 9 (.t 0) (.t 1)) [(Xv 3), (Xv 9)]] [9])
 (.reg 2 [Xeff [(10, (Xv 2))] (some 11) 0 (.bslice 1 [(.t 0)]) [(Xf 0 (Xv 3))],
   Xeff [] (some 12) 1 (.app 1 8 (.t 0) (.t 1)) [(Xv 10), (Xv 11)],
   Xset [(2, (Xv 12))]] [3, 10, 11, 12])))
 (.reg 0 [Xset [(7, (Xk .add (Xv 7) 1))]] [])))
def hc_box_Boxes_States_l1 : HC := .loop [0, 1, 3, 4, 8, 9, 10, 11, 12] hc_box_Boxes_States_b1
def hc_box_Boxes_States : HC :=
 (.seq (.reg 0 [Xset [(1, (Xc .nils))]] [1])
 (.seq (.reg 0 [Xset [(2, (Xc .nils))]] [])
 (.seq (.cond (Xnil (Xv 0)) [4]
  (.seq (.reg 0 [Xset [(1, (Xv 2))]] [2])
  .ret)
  .skip)
 (.seq (.seq (.reg 0 [Xset [(5, (Xf 0 (Xn (Xv 0)))), (6, (Xlen (Xf 0 (Xn (Xv 0))))), (7, (Xi 0))]] [0])
 (.block 0 hc_box_Boxes_States_l1))
 (.seq (.reg 0 [Xset [(1, (Xv 2))]] [2])
 .ret)))))
theorem ok_box_Boxes_States : HFn Try.prog f_box_Boxes_States [0, 2, 3, 5, 7, 12, 13, 14, 15, 17, 18, 21, 22] hc_box_Boxes_States [.t 1] := hfn_opt (hs := [[2], [], [], [7], [3], [0], [0, 2, 5, 7, 15, 17, 18, 21, 22], [], [15], [17], [5, 18, 21, 22], [], [3]]) fol Try.func102 (by kernel_rfl)

/-- (*signalbox/ring.Ring[signalbox/api.Frame]).Peek [0, 2, 3, 4, 5, 9] -/
def hc_ring_Ring_of_Frame_Peek : HC :=
 (.seq (.reg 1 [Xeff [] (some 1) 0 (.alloc [(.int .i64 0), (.int .i64 0), (.int .i64 0), (.str [])]) [],
   Xset [(2, (Xi 0))]] [2])
 (.seq (.reg 1 [Xeff [] (some 3) 0 (.alloc [(.int .i64 0), (.int .i64 0), (.int .i64 0), (.str [])]) []] [])
 (.seq (.block 0 (.cond (Xnil (Xv 0)) [4]
  (.seq (.reg 0 [Xeff [] none 0 (.store 4 (.t 0) (.t 1)) [(Xv 1), (Xln 4 (Xv 3))],
    Xset [(2, (Xi 1))]] [3])
  .ret)
  (.cond (Xk .eql (Xf 2 (Xn (Xv 0))) 0) [5]
   (.seq (.reg 0 [Xeff [] none 0 (.store 4 (.t 0) (.t 1)) [(Xv 1), (Xln 4 (Xv 3))],
     Xset [(2, (Xi 6))]] [3])
   .ret)
   .skip)))
 (.seq (.reg 0 [Xeff [] none 0 (.store 4 (.t 0) (.t 1)) [(Xv 1), (Xln 4 (Xx 4 (Xf 0 (Xn (Xv 0))) (Xf 1 (Xn (Xv 0)))))],
   Xset [(2, (Xi 0))]] [0])
 .ret))))
theorem ok_ring_Ring_of_Frame_Peek : HFn Try.prog f_ring_Ring_of_Frame_Peek [0, 2, 3, 4, 5, 9] hc_ring_Ring_of_Frame_Peek [.cell 1 (some 4), .t 2] := hfn_opt (hs := [[3], [], [], [5], [4], [], [9], [4], [0, 1, 2, 4, 5, 6, 3, 7, 8, 9, 10, 11], [0, 1, 3, 7, 0, 16, 48, 112, 255, 511, 1023, 2047], [0]]) fol Try.func120 (by kernel_rfl)

/-- (*signalbox/ring.Ring[signalbox/api.Frame]).at [0, 1, 4] -/
def hc_ring_Ring_of_Frame_at : HC :=
 (.seq (.reg 0 [Xset [(2, (Xi 0))]] [2])
 (.seq (.reg 0 [Xset [(2, (Xb .rem (Xb .add (Xf 1 (Xn (Xv 0))) (Xv 1)) (Xlen (Xf 0 (Xn (Xv 0))))))]] [0, 1])
 .ret))
theorem ok_ring_Ring_of_Frame_at : HFn Try.prog f_ring_Ring_of_Frame_at [0, 1, 4] hc_ring_Ring_of_Frame_at [.t 2] := hfn_opt (hs := [[4], [0, 1, 2, 4, 6, 7, 8, 3, 5, 9, 10, 11, 12], [0, 1, 3, 7, 0, 31, 0, 64, 192, 448, 960, 2047, 4095], [0, 1]]) fol Try.func121 (by kernel_rfl)

/-- signalbox/signalboxref05.Hit [0, 1, 2, 4, 5, 6, 8, 14, 15, 19, 22, 24] -/
def hc_ref05_Hit_b1 : HC :=
 (.seq (.cond (Xk .lss (Xv 5) 32) [6]
  .skip
  (.exit 0))
 (.seq (.block 1 (.seq (.reg 0 [Xcall [] (some 7) f_ref05_bit [(Xf 1 (Xv 2)), (Xv 5)] [(.t 0), (.t 1)],
   ⟨[(8, (Xv 7))], [], (some ⟨(some 9), (some ((Xv 7), true)), 0, .call (.c (.fn f_ref05_bit [] [])) [(.t 0), (.t 1)], [(Xf 0 (Xv 2)), (Xv 5)], []⟩)⟩,
   ⟨[], [], (some ⟨(some 10), (some ((Xv 8), true)), 0, .call (.c (.fn f_ref05_bit [] [])) [(.t 0), (.t 1)], [(Xv 1), (Xv 5)], []⟩)⟩,
   Xset [(11, (Xand (Xv 8) (.o (.eqv true .bool (.t 0) (.t 1)) [(Xv 9), (Xv 10)])))]] [7, 8, 9, 10])
 (.cond (Xv 11) [11]
  (.reg 0 [Xset [(4, (Xc (.bool false)))]] [])
  .skip)))
 (.reg 0 [Xset [(5, (Xk .add (Xv 5) 1))]] [])))
def hc_ref05_Hit_l1 : HC := .loop [0, 3, 6, 7, 8, 9, 10, 11] hc_ref05_Hit_b1
def hc_ref05_Hit : HC :=
 (.seq (.reg 1 [Xeff [] (some 2) 0 (.box (.t 0)) [(Xv 0)],
   Xset [(3, (Xc (.bool false)))]] [0, 3])
 (.seq (.reg 0 [Xset [(4, (Xc (.bool true)))]] [])
 (.seq (.seq (.reg 0 [Xset [(5, (Xi 0))]] [])
 (.block 0 hc_ref05_Hit_l1))
 (.seq (.reg 0 [Xset [(3, (.o (.eqv true .bool (.t 0) (.t 1)) [(Xv 4), (Xf 2 (Xv 2))]))]] [2, 4])
 .ret))))
theorem ok_ref05_Hit : HFn Try.prog f_ref05_Hit [0, 1, 2, 4, 5, 6, 8, 14, 15, 19, 22, 24] hc_ref05_Hit [.t 3] := hfn_opt (hs := [[0, 4], [], [], [0, 4, 8, 14, 15, 19, 22, 24], [], [8], [14, 15, 19, 22], [24], [], [], [2, 5]]) fol Try.func124 (by kernel_rfl)

/-- signalbox/signalboxref02.Word [0, 1, 2, 3, 5, 6, 11, 15, 19] -/
def hc_ref02_Word : HC :=
 (.seq (.reg 1 [Xeff [] (some 1) 0 (.box (.t 0)) [(Xv 0)],
   Xset [(2, (Xc (.int .u32 0)))]] [0, 2])
 (.seq (.seq (.reg 0 [Xcall [] (some 4) f_ref02_Right [(Xln 4 (Xv 1))] [(.t 0)],
   Xset [(5, (Xnot (Xv 4)))]] [4])
 (.cond (Xv 5) [5]
  (.seq (.reg 0 [Xset [(2, (Xc (.int .u32 0)))]] [])
  .ret)
  .skip))
 (.seq (.reg 0 [Xset [(3, (Xcv .u32 (Xf 0 (Xv 1))))]] [])
 (.seq (.seq (.reg 0 [Xcall [] (some 6) f_ref02_Has [(Xln 4 (Xv 1))] [(.t 0), (.c (.int .i64 1))]] [])
 (.cond (Xv 6) [6]
  (.reg 0 [Xset [(3, (.o (.bin .add (.t 0) (.c (.int .u32 2147483648))) [(Xv 3)]))]] [])
  .skip))
 (.seq (.seq (.reg 0 [Xcall [] (some 7) f_ref02_Has [(Xln 4 (Xv 1))] [(.t 0), (.c (.int .i64 2))]] [])
 (.cond (Xv 7) [7]
  (.reg 0 [Xset [(3, (.o (.bin .add (.t 0) (.c (.int .u32 1073741824))) [(Xv 3)]))]] [])
  .skip))
 (.seq (.seq (.reg 0 [Xcall [] (some 8) f_ref02_Has [(Xln 4 (Xv 1))] [(.t 0), (.c (.int .i64 4))]] [1])
 (.cond (Xv 8) [8]
  (.reg 0 [Xset [(3, (.o (.bin .add (.t 0) (.c (.int .u32 536870912))) [(Xv 3)]))]] [])
  .skip))
 (.seq (.reg 0 [Xset [(2, (Xv 3))]] [3])
 .ret)))))))
theorem ok_ref02_Word : HFn Try.prog f_ref02_Word [0, 1, 2, 3, 5, 6, 11, 15, 19] hc_ref02_Word [.t 2] := hfn_opt (hs := [[0, 2], [5], [6], [], [], [], [11], [], [], [15], [], [1], [19], [], [3]]) fol Try.func125 (by kernel_rfl)

/-- slices.ContainsFunc[[]signalbox/api.Filter,signalbox/api.Filter] [0, 1, 4, 7] -/
def hc_slices_ContainsFunc_of_Filter : HC :=
 (.seq (.reg 0 [Xset [(2, (Xc (.bool false)))]] [2])
 (.seq (.reg 0 [Xcall [] (some 3) f_slices_IndexFunc_of_Filter [(Xv 0), (Xv 1)] [(.t 0), (.t 1)],
   Xset [(2, (Xk .geq (Xv 3) 0))]] [0, 1, 3])
 .ret))
theorem ok_slices_ContainsFunc_of_Filter : HFn Try.prog f_slices_ContainsFunc_of_Filter [0, 1, 4, 7] hc_slices_ContainsFunc_of_Filter [.t 2] := hfn_opt (hs := [[4], [0, 1, 7]]) fol Try.func127 (by kernel_rfl)

/-- (*signalbox/ctrl.Ctrl).lets$1 [0, 1, 2, 3, 6] -/
def hc_ctrl_Ctrl_lets_1 : HC :=
 (.seq (.reg 1 [Xeff [] (some 2) 0 (.box (.t 0)) [(Xv 0)],
   Xset [(3, (Xc (.bool false)))]] [0, 3])
 (.seq (.reg 0 [Xcall [] (some 4) f_match_Match [(Xln 3 (Xv 2)), (Xln 4 (Xv 1))] [(.t 0), (.t 1)],
   Xset [(3, (Xv 4))]] [1, 2, 4])
 .ret))
theorem ok_ctrl_Ctrl_lets_1 : HFn Try.prog f_ctrl_Ctrl_lets_1 [0, 1, 2, 3, 6] hc_ctrl_Ctrl_lets_1 [.t 3] := hfn_opt (hs := [[0, 3], [1, 2, 6]]) fol Try.func128 (by kernel_rfl)

/-- signalbox/match.Match [0, 1, 2, 3, 4, 6, 14, 15, 17, 18] -/
def hc_match_Match : HC :=
 (.seq (.reg 2 [Xeff [] (some 2) 0 (.box (.t 0)) [(Xv 0)],
   Xeff [] (some 3) 1 (.box (.t 0)) [(Xv 1)],
   Xset [(4, (Xc (.bool false)))]] [0, 1, 4])
 (.seq (.reg 0 [Xcall [] (some 5) f_frame_Right [(Xln 4 (Xv 3))] [(.t 0)],
   ⟨[(6, (Xand (Xk .eql (Xv 5) 0) (Xk .eql (Xk .and (Xf 1 (Xv 3)) 4) 0))), (7, (.g (Xand (Xk .eql (Xv 5) 0) (Xk .eql (Xk .and (Xf 1 (Xv 3)) 4) 0)) true (Xln 3 (Xv 2))))], [], (some ⟨(some 8), (some ((Xand (Xk .eql (Xv 5) 0) (Xk .eql (Xk .and (Xf 1 (Xv 3)) 4) 0)), true)), 0, .call (.c (.fn f_frame_Word [] [])) [(.t 0)], [(Xln 4 (Xv 3))], [((.g (Xv 6) true (Xln 3 (Xv 2))), 7)]⟩)⟩,
   ⟨[], [], (some ⟨(some 9), (some ((Xv 6), true)), 0, .call (.c (.fn f_match_Hit [] [])) [(.t 0), (.t 1)], [(Xv 7), (Xv 8)], []⟩)⟩,
   Xset [(4, (Xand (Xv 6) (Xv 9)))]] [2, 3, 5, 6, 7, 8, 9])
 .ret))
theorem ok_match_Match : HFn Try.prog f_match_Match [0, 1, 2, 3, 4, 6, 14, 15, 17, 18] hc_match_Match [.t 4] := hfn_opt (hs := [[0, 1, 4], [0, 1, 2, 3, 4, 5, 6, 7, 8, 9, 10, 11, 12, 13, 14, 15], [0, 1, 3, 7, 15, 31, 63, 127, 255, 511, 1023, 1023, 3071, 8191, 16383, 32767], [2, 3, 6, 14, 15, 17, 18]]) fol Try.func129 (by kernel_rfl)

/-- signalbox/signalboxref05.bit [0, 1, 4, 5, 8] -/
def hc_ref05_bit_b1 : HC :=
 (.seq (.cond (Xb .lss (Xv 3) (Xv 1)) [4]
  .skip
  (.exit 0))
 (.seq (.block 1 (.reg 0 [Xset [(0, (.o (.bin .quo (.t 0) (.c (.int .u32 2))) [(Xv 0)]))]] []))
 (.reg 0 [Xset [(3, (Xk .add (Xv 3) 1))]] [])))
def hc_ref05_bit_l1 : HC := .loop [2, 4] hc_ref05_bit_b1
def hc_ref05_bit : HC :=
 (.seq (.reg 0 [Xset [(2, (Xc (.bool false)))]] [2])
 (.seq (.seq (.reg 0 [Xset [(3, (Xi 0))]] [])
 (.block 0 hc_ref05_bit_l1))
 (.seq (.reg 0 [Xset [(2, (.o (.bin .eql (.t 0) (.c (.int .u32 1))) [(.o (.bin .rem (.t 0) (.c (.int .u32 2))) [(Xv 0)])]))]] [0])
 .ret)))
theorem ok_ref05_bit : HFn Try.prog f_ref05_bit [0, 1, 4, 5, 8] hc_ref05_bit [.t 2] := hfn_opt (hs := [[4], [], [4, 8], [], [8], [], [], [0]]) fol Try.func155 (by kernel_rfl)

/-- slices.IndexFunc[[]signalbox/api.Filter,signalbox/api.Filter] [0, 1, 4, 5, 7, 8, 9, 16] -/
def hc_slices_IndexFunc_of_Filter_b1 : HC :=
 (.seq (.cond (Xb .lss (Xv 5) (Xv 4)) [6]
  .skip
  (.exit 0))
 (.seq (.block 1 (.seq (.reg 0 [Xset [(3, (Xv 5))]] [])
 (.seq (.reg 0 [Xeff [] (some 7) 0 (.call (.t 0) [(.t 1)]) [(Xv 1), (Xln 3 (Xx 3 (Xv 0) (Xv 3)))]] [])
 (.cond (Xv 7) [7]
  (.seq (.reg 0 [Xset [(2, (Xv 3))]] [3])
  .ret)
  .skip))))
 (.reg 0 [Xset [(5, (Xk .add (Xv 5) 1))]] [])))
def hc_slices_IndexFunc_of_Filter_l1 : HC := .loop [2, 3, 6, 7] hc_slices_IndexFunc_of_Filter_b1
def hc_slices_IndexFunc_of_Filter : HC :=
 (.seq (.reg 0 [Xset [(2, (Xi 0))]] [2])
 (.seq (.seq (.reg 0 [Xset [(4, (Xlen (Xv 0))), (5, (Xi 0))]] [])
 (.block 0 hc_slices_IndexFunc_of_Filter_l1))
 (.seq (.reg 0 [Xset [(2, (Xi (-1)))]] [])
 .ret)))
theorem ok_slices_IndexFunc_of_Filter : HFn Try.prog f_slices_IndexFunc_of_Filter [0, 1, 4, 5, 7, 8, 9, 16] hc_slices_IndexFunc_of_Filter [.t 2] := hfn_opt (hs := [[4], [], [4, 5, 9, 16], [], [9], [], [], [16], [5], [], []]) fol Try.func159 (by kernel_rfl)

/-- signalbox/match.Hit [0, 1, 2, 4] -/
def hc_match_Hit : HC :=
 (.seq (.reg 1 [Xeff [] (some 2) 0 (.box (.t 0)) [(Xv 0)],
   Xset [(3, (Xc (.bool false)))]] [0, 3])
 (.seq (.reg 0 [Xset [(3, (.o (.eqv true .bool (.t 0) (.t 1)) [(.o (.bin .eql (.t 0) (.c (.int .u32 0))) [(Xb .and (Xb .xor (Xv 1) (Xf 0 (Xv 2))) (Xf 1 (Xv 2)))]), (Xf 2 (Xv 2))]))]] [1, 2])
 .ret))
theorem ok_match_Hit : HFn Try.prog f_match_Hit [0, 1, 2, 4] hc_match_Hit [.t 3] := hfn_opt (hs := [[0, 4], [1, 2]]) fol Try.func160 (by kernel_rfl)

/-- signalbox/frame.Word [0, 1, 2, 3, 5, 6, 11, 15, 19] -/
def hc_frame_Word : HC :=
 (.seq (.reg 1 [Xeff [] (some 1) 0 (.box (.t 0)) [(Xv 0)],
   Xset [(2, (Xc (.int .u32 0)))]] [0, 2])
 (.seq (.seq (.reg 0 [Xcall [] (some 4) f_frame_Right [(Xln 4 (Xv 1))] [(.t 0)],
   Xset [(5, (Xk .neq (Xv 4) 0))]] [4])
 (.cond (Xv 5) [5]
  (.seq (.reg 0 [Xset [(2, (Xc (.int .u32 0)))]] [])
  .ret)
  .skip))
 (.seq (.reg 0 [Xset [(3, (Xcv .u32 (Xf 0 (Xv 1))))]] [])
 (.seq (.seq (.reg 0 [Xcall [] (some 6) f_frame_has [(Xln 4 (Xv 1))] [(.t 0), (.c (.int .i64 1))]] [])
 (.cond (Xv 6) [6]
  (.reg 0 [Xset [(3, (.o (.bin .or (.t 0) (.c (.int .u32 2147483648))) [(Xv 3)]))]] [])
  .skip))
 (.seq (.seq (.reg 0 [Xcall [] (some 7) f_frame_has [(Xln 4 (Xv 1))] [(.t 0), (.c (.int .i64 2))]] [])
 (.cond (Xv 7) [7]
  (.reg 0 [Xset [(3, (.o (.bin .or (.t 0) (.c (.int .u32 1073741824))) [(Xv 3)]))]] [])
  .skip))
 (.seq (.seq (.reg 0 [Xcall [] (some 8) f_frame_has [(Xln 4 (Xv 1))] [(.t 0), (.c (.int .i64 4))]] [1])
 (.cond (Xv 8) [8]
  (.reg 0 [Xset [(3, (.o (.bin .or (.t 0) (.c (.int .u32 536870912))) [(Xv 3)]))]] [])
  .skip))
 (.seq (.reg 0 [Xset [(2, (Xv 3))]] [3])
 .ret)))))))
theorem ok_frame_Word : HFn Try.prog f_frame_Word [0, 1, 2, 3, 5, 6, 11, 15, 19] hc_frame_Word [.t 2] := hfn_opt (hs := [[0, 2], [5], [6], [], [], [], [11], [], [], [15], [], [1], [19], [], [3]]) fol Try.func161 (by kernel_rfl)


def tab0_QId : TabH := [(f_law14_CtrlHears, [0, 1, 2, 3, 6, 7, 8, 9, 10, 11, 12, 14, 15, 16, 17, 18, 27, 59, 60, 62, 63, 64, 65, 66, 68, 69, 70, 71, 74, 75, 76, 78, 79, 81, 82, 85, 87, 92, 96, 98, 103, 104, 106, 107, 110, 111, 113, 115, 126, 127, 128, 129, 132, 133, 134, 135, 137, 138, 142, 143, 145, 148, 149], hc_law14_CtrlHears, [.t 4]),
  (f_law14_alive, [0, 1, 2, 3, 5, 8, 11, 17, 19, 22, 24, 27, 29, 32, 34], hc_law14_alive, [.t 0]),
  (f_ctrl_New, [0, 1, 2, 5, 6, 7, 8, 9, 10, 11, 12, 14], hc_ctrl_New, [.t 2]),
  (f_ctrl_Ctrl_Fetch, [0, 2, 3, 5, 12, 14], hc_ctrl_Ctrl_Fetch, [.cell 1 (some 4), .t 2]),
  (f_ref05_Any, [0, 1, 2, 5, 6, 7, 8, 12, 20, 23], hc_ref05_Any, [.t 4]),
  (f_ctrl_Ctrl_Hear, [0, 1, 3, 4, 5, 8, 11, 13, 20, 21], hc_ctrl_Ctrl_Hear, [.t 3]),
  (f_ctrl_Ctrl_Kept, [0, 2, 4, 10], hc_ctrl_Ctrl_Kept, [.t 1]),
  (f_ctrl_Ctrl_Lost, [0, 2, 4, 10], hc_ctrl_Ctrl_Lost, [.t 1]),
  (f_ref03_Same, [0, 1, 4, 5, 10, 14, 25], hc_ref03_Same, [.t 2]),
  (f_ctrl_Ctrl_Asks, [0, 2, 4], hc_ctrl_Ctrl_Asks, [.t 1]),
  (f_ctrl_Ctrl_Free, [0, 2, 4, 10], hc_ctrl_Ctrl_Free, [.t 1]),
  (f_box_New, [0, 2, 6, 8], hc_box_New, [.t 1]),
  (f_ring_New_of_Frame, [0, 2, 6, 8], hc_ring_New_of_Frame, [.t 1]),
  (f_slices_Clone_of_Filter, [0, 2, 4, 5, 7], hc_slices_Clone_of_Filter, [.t 1]),
  (f_ring_Ring_of_Frame_Take, [0, 2, 3, 4, 5, 8, 9, 10, 12, 13, 15, 26], hc_ring_Ring_of_Frame_Take, [.cell 1 (some 4), .t 2]),
  (f_ref05_Match, [0, 1, 2, 3, 4, 6, 7, 9, 12, 13, 15, 16], hc_ref05_Match, [.t 4]),
  (f_ctrl_Ctrl_lets, [0, 1, 3, 4, 6, 7, 14, 20], hc_ctrl_Ctrl_lets, [.t 3]),
  (f_ring_Ring_of_Frame_Put, [0, 1, 3, 4, 5, 8, 28, 29, 35, 36], hc_ring_Ring_of_Frame_Put, [.t 3]),
  (f_ring_Ring_of_Frame_Len, [0, 2, 4], hc_ring_Ring_of_Frame_Len, [.t 1]),
  (f_ring_Ring_of_Frame_Lost, [0, 2, 4], hc_ring_Ring_of_Frame_Lost, [.t 1]),
  (f_box_Boxes_Free, [0, 2, 3, 5, 7, 8, 9, 10, 14], hc_box_Boxes_Free, [.t 1]),
  (f_box_Boxes_States, [0, 2, 3, 5, 7, 12, 13, 14, 15, 17, 18, 21, 22], hc_box_Boxes_States, [.t 1]),
  (f_ring_Ring_of_Frame_Peek, [0, 2, 3, 4, 5, 9], hc_ring_Ring_of_Frame_Peek, [.cell 1 (some 4), .t 2]),
  (f_ring_Ring_of_Frame_at, [0, 1, 4], hc_ring_Ring_of_Frame_at, [.t 2]),
  (f_ref05_Hit, [0, 1, 2, 4, 5, 6, 8, 14, 15, 19, 22, 24], hc_ref05_Hit, [.t 3]),
  (f_ref02_Word, [0, 1, 2, 3, 5, 6, 11, 15, 19], hc_ref02_Word, [.t 2]),
  (f_slices_ContainsFunc_of_Filter, [0, 1, 4, 7], hc_slices_ContainsFunc_of_Filter, [.t 2]),
  (f_ctrl_Ctrl_lets_1, [0, 1, 2, 3, 6], hc_ctrl_Ctrl_lets_1, [.t 3]),
  (f_match_Match, [0, 1, 2, 3, 4, 6, 14, 15, 17, 18], hc_match_Match, [.t 4]),
  (f_ref05_bit, [0, 1, 4, 5, 8], hc_ref05_bit, [.t 2]),
  (f_slices_IndexFunc_of_Filter, [0, 1, 4, 5, 7, 8, 9, 16], hc_slices_IndexFunc_of_Filter, [.t 2]),
  (f_match_Hit, [0, 1, 2, 4], hc_match_Hit, [.t 3]),
  (f_frame_Word, [0, 1, 2, 3, 5, 6, 11, 15, 19], hc_frame_Word, [.t 2])]
def tab_QId : TabH := tab0_QId ++ tab_QIa
theorem tabOk0_QId : TabH.OK Try.prog tab0_QId := TabH.ok_cons ok_law14_CtrlHears (TabH.ok_cons ok_law14_alive (TabH.ok_cons ok_ctrl_New (TabH.ok_cons ok_ctrl_Ctrl_Fetch (TabH.ok_cons ok_ref05_Any (TabH.ok_cons ok_ctrl_Ctrl_Hear (TabH.ok_cons ok_ctrl_Ctrl_Kept (TabH.ok_cons ok_ctrl_Ctrl_Lost (TabH.ok_cons ok_ref03_Same (TabH.ok_cons ok_ctrl_Ctrl_Asks (TabH.ok_cons ok_ctrl_Ctrl_Free (TabH.ok_cons ok_box_New (TabH.ok_cons ok_ring_New_of_Frame (TabH.ok_cons ok_slices_Clone_of_Filter (TabH.ok_cons ok_ring_Ring_of_Frame_Take (TabH.ok_cons ok_ref05_Match (TabH.ok_cons ok_ctrl_Ctrl_lets (TabH.ok_cons ok_ring_Ring_of_Frame_Put (TabH.ok_cons ok_ring_Ring_of_Frame_Len (TabH.ok_cons ok_ring_Ring_of_Frame_Lost (TabH.ok_cons ok_box_Boxes_Free (TabH.ok_cons ok_box_Boxes_States (TabH.ok_cons ok_ring_Ring_of_Frame_Peek (TabH.ok_cons ok_ring_Ring_of_Frame_at (TabH.ok_cons ok_ref05_Hit (TabH.ok_cons ok_ref02_Word (TabH.ok_cons ok_slices_ContainsFunc_of_Filter (TabH.ok_cons ok_ctrl_Ctrl_lets_1 (TabH.ok_cons ok_match_Match (TabH.ok_cons ok_ref05_bit (TabH.ok_cons ok_slices_IndexFunc_of_Filter (TabH.ok_cons ok_match_Hit (TabH.ok_cons ok_frame_Word (TabH.ok_nil)))))))))))))))))))))))))))))))))
theorem tabOk_QId : TabH.OK Try.prog tab_QId := TabH.ok_app (tabOk0_QId) tabOk_QIa
end Go.Proofs.Ytapoilcpollmpaa
end
