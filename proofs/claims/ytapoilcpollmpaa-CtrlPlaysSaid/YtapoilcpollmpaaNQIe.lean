/- QIe, put together. Conditions: none. -/
import Derived.Test.YtapoilcpollmpaaNP0
import Derived.Test.YtapoilcpollmpaaNQIa
import Derived.Test.YtapoilcpollmpaaNQId
/- What the program's functions do, in compact code, as printed by MkHC.lean. -/
section
namespace Go.Proofs.Ytapoilcpollmpaa
open Go.SB
set_option maxRecDepth 100000
abbrev f_law14_CtrlPlays : Nat := 6
abbrev f_law14_CtrlBits : Nat := 7
abbrev f_ref09_Ints : Nat := 27
abbrev f_law14_few : Nat := 31
abbrev f_ref14_New : Nat := 32
abbrev f_law14_do : Nat := 33
abbrev f_ref13_Boxes_Free : Nat := 36
abbrev f_ctrl_Ctrl_States : Nat := 37
abbrev f_ctrl_Ctrl_Off : Nat := 38
abbrev f_ctrl_Ctrl_Clear : Nat := 39
abbrev f_ctrl_Ctrl_Load : Nat := 40
abbrev f_ctrl_Ctrl_Offer : Nat := 41
abbrev f_ctrl_Ctrl_Ended : Nat := 42
abbrev f_ctrl_Ctrl_Won : Nat := 43
abbrev f_ctrl_Ctrl_Abort : Nat := 44
abbrev f_ref13_New : Nat := 90
abbrev f_ref14_Room : Nat := 91
abbrev f_ref13_Boxes_Put : Nat := 92
abbrev f_ref14_Ctrl_Offer : Nat := 93
abbrev f_ref14_Ctrl_Won : Nat := 94
abbrev f_ref14_Ctrl_Hear : Nat := 95
abbrev f_ref14_Ctrl_Set : Nat := 96
abbrev f_ref14_Ctrl_Clear : Nat := 97
abbrev f_ref13_Boxes_Take : Nat := 98
abbrev f_ref14_Ctrl_Fetch : Nat := 99
abbrev f_ref14_Ctrl_Abort : Nat := 100
abbrev f_box_Boxes_Put : Nat := 103
abbrev f_box_Boxes_Best : Nat := 104
abbrev f_box_Boxes_Take : Nat := 105
abbrev f_box_Boxes_Sent : Nat := 106
abbrev f_box_Boxes_Abort : Nat := 107
abbrev f_ref13_Boxes_Best : Nat := 142
abbrev f_ref13_Boxes_End : Nat := 143
abbrev f_slices_IndexFunc_of_cell : Nat := 144
abbrev f_box_Boxes_Put_1 : Nat := 145
abbrev f_box_Boxes_Best_1 : Nat := 146
abbrev f_slices_Clone_of_int : Nat := 147
abbrev f_box_Boxes_ends : Nat := 148

/-- signalbox/signalboxlaw14.CtrlPlays [0, 1, 2, 4, 5, 6, 8, 11, 12, 13, 15, 16, 17, 18, 19, 20, 21, 23, 27, 29, 31, 34, 35, 38, 40, 43, 44, 45, 48, 50, 53, 54, 57, 59, 62, 63, 64, 66, 69, 72, 73, 75, 76, 77, 78, 79] -/
def hc_law14_CtrlPlays_b1 : HC :=
 (.seq (.cond (Xb .lss (Xv 15) (Xv 14)) [16]
  .skip
  (.exit 0))
 (.seq (.block 1 (.seq (.reg 1 [Xeff [(17, (Xln 9 (Xx 9 (Xv 13) (Xv 15))))] (some 6) 0 (.alloc [(.int .i64 0), (.int .i64 0), (.int .i64 0), (.int .i64 0), (.int .i64 0), (.str []), (.int .i64 0), (.int .i64 0), (.bool false)]) [],
   Xeff [] none 1 (.store 9 (.t 0) (.t 1)) [(Xv 6), (Xv 17)]] [17])
 (.seq (.reg 0 [Xcall [] (some 18) f_law14_do [(Xv 4), (Xv 5), (Xln 9 (Xv 6))] [(.t 0), (.t 1), (.t 2)],
   ⟨[(19, (Xnot (Xv 18))), (21, (.g (Xnot (Xv 18)) false (Xa 5 (Xn (Xv 5))))), (22, (.g (Xnot (Xv 18)) false (Xf 5 (Xn (Xv 5)))))], [], (some ⟨(some 20), (some ((Xnot (Xv 18)), false)), 0, .call (.c (.fn f_ctrl_Ctrl_Asks [] [])) [(.t 0)], [(Xv 4)], [((.g (Xv 19) false (Xl (Xv 21))), 22)]⟩)⟩,
   ⟨[(23, (Xor (Xv 19) (Xb .neq (Xv 20) (Xv 22)))), (25, (.g (Xor (Xv 19) (Xb .neq (Xv 20) (Xv 22))) false (Xa 1 (Xn (Xv 5))))), (26, (.g (Xor (Xv 19) (Xb .neq (Xv 20) (Xv 22))) false (Xf 1 (Xn (Xv 5))))), (27, (.g (Xor (Xv 19) (Xb .neq (Xv 20) (Xv 22))) false (Xlen (Xf 1 (Xn (Xv 5))))))], [], (some ⟨(some 24), (some ((Xor (Xv 19) (Xb .neq (Xv 20) (Xv 22))), false)), 0, .call (.c (.fn f_ctrl_Ctrl_Kept [] [])) [(.t 0)], [(Xv 4)], [((.g (Xv 23) false (Xl (Xv 25))), 26)]⟩)⟩,
   ⟨[(28, (Xor (Xv 23) (Xb .neq (Xv 24) (Xv 27)))), (30, (.g (Xor (Xv 23) (Xb .neq (Xv 24) (Xv 27))) false (Xa 4 (Xn (Xv 5))))), (31, (.g (Xor (Xv 23) (Xb .neq (Xv 24) (Xv 27))) false (Xf 4 (Xn (Xv 5)))))], [], (some ⟨(some 29), (some ((Xor (Xv 23) (Xb .neq (Xv 24) (Xv 27))), false)), 0, .call (.c (.fn f_ctrl_Ctrl_Lost [] [])) [(.t 0)], [(Xv 4)], [((.g (Xv 28) false (Xl (Xv 30))), 31)]⟩)⟩,
   ⟨[(32, (Xor (Xv 28) (Xb .neq (Xv 29) (Xv 31)))), (34, (.g (Xor (Xv 28) (Xb .neq (Xv 29) (Xv 31))) false (Xa 0 (Xn (Xv 5))))), (35, (.g (Xor (Xv 28) (Xb .neq (Xv 29) (Xv 31))) false (Xf 0 (Xn (Xv 5)))))], [], (some ⟨(some 33), (some ((Xor (Xv 28) (Xb .neq (Xv 29) (Xv 31))), false)), 0, .call (.c (.fn f_ctrl_Ctrl_Free [] [])) [(.t 0)], [(Xv 4)], [((.g (Xv 32) false (Xl (Xv 34))), 35)]⟩)⟩,
   ⟨[], [], (some ⟨(some 36), (some ((Xv 32), false)), 0, .call (.c (.fn f_ref13_Boxes_Free [] [])) [(.t 0)], [(Xv 35)], []⟩)⟩,
   Xset [(37, (Xor (Xv 32) (Xb .neq (Xv 33) (Xv 36))))]] [6, 18, 19, 20, 21, 22, 23, 24, 25, 26, 27, 28, 29, 30, 31, 32, 33, 34, 35, 36])
 (.cond (Xv 37) [37]
  (.seq (.reg 0 [Xset [(3, (Xc (.bool false)))]] [])
  .ret)
  .skip))))
 (.reg 0 [Xset [(15, (Xk .add (Xv 15) 1))]] [])))
def hc_law14_CtrlPlays_l1 : HC := .loop [0, 1, 2, 3, 6, 7, 8, 9, 10, 11, 12, 16, 17, 18, 19, 20, 21, 22, 23, 24, 25, 26, 27, 28, 29, 30, 31, 32, 33, 34, 35, 36, 37, 38, 39, 40, 41, 42, 43, 44, 45] hc_law14_CtrlPlays_b1
def hc_law14_CtrlPlays : HC :=
 (.seq (.reg 1 [Xeff [] (some 2) 0 (.box (.t 0)) [(Xv 0)],
   Xset [(3, (Xc (.bool false)))]] [0, 3])
 (.seq (.seq (.reg 0 [Xcall [] (some 7) f_law14_few [(Xln 8 (Xv 2)), (Xv 1)] [(.t 0), (.t 1)],
   Xset [(8, (Xnot (Xv 7)))]] [7])
 (.cond (Xv 8) [8]
  (.seq (.reg 0 [Xcall [] (some 9) f_law14_alive [] [],
    Xset [(3, (Xv 9))]] [9])
  .ret)
  .skip))
 (.seq (.reg 0 [⟨[(11, (Xln 8 (Xv 2)))], [], (some ⟨(some 10), none, 0, .call (.c (.fn f_ctrl_New [] [])) [(.t 0)], [(Xln 8 (Xv 2))], [((Xln 8 (Xv 2)), 11)]⟩)⟩,
   Xcall [] (some 12) f_ref14_New [(Xv 11)] [(.t 0)],
   Xset [(4, (Xv 10)), (5, (Xv 12))]] [2, 10, 11, 12])
 (.seq (.seq (.reg 0 [Xset [(13, (Xv 1)), (14, (Xlen (Xv 1))), (15, (Xi 0))]] [1])
 (.block 0 hc_law14_CtrlPlays_l1))
 (.seq (.reg 0 [⟨[(39, (Xa 0 (Xn (Xv 5)))), (40, (Xf 0 (Xn (Xv 5)))), (41, (Xa 0 (Xn (Xf 0 (Xn (Xv 5)))))), (42, (Xf 0 (Xn (Xf 0 (Xn (Xv 5))))))], [], (some ⟨(some 38), none, 0, .call (.c (.fn f_ctrl_Ctrl_States [] [])) [(.t 0)], [(Xv 4)], [((Xl (Xv 41)), 42), ((Xl (Xv 39)), 40)]⟩)⟩,
   Xcall [] (some 43) f_ref09_Ints [(Xv 38), (Xv 42)] [(.t 0), (.t 1)],
   ⟨[(44, (Xv 43))], [], (some ⟨(some 45), (some ((Xv 43), true)), 0, .call (.c (.fn f_law14_alive [] [])) [], [], []⟩)⟩,
   Xset [(3, (Xand (Xv 44) (Xv 45)))]] [4, 5, 38, 39, 40, 41, 42, 43, 44, 45])
 .ret)))))
theorem ok_law14_CtrlPlays : HFn Try.prog f_law14_CtrlPlays [0, 1, 2, 4, 5, 6, 8, 11, 12, 13, 15, 16, 17, 18, 19, 20, 21, 23, 27, 29, 31, 34, 35, 38, 40, 43, 44, 45, 48, 50, 53, 54, 57, 59, 62, 63, 64, 66, 69, 72, 73, 75, 76, 77, 78, 79] hc_law14_CtrlPlays [.t 3] := hfn_opt (hs := [[0, 4], [11], [12], [13], [0, 2, 1, 3, 4, 5], [0, 1, 0, 7, 15, 31], [2, 15, 16, 17], [1], [0, 1, 2, 4, 8, 11, 12, 13, 15, 16, 17, 21, 23, 27, 29, 31, 34, 35, 38, 40, 43, 44, 45, 48, 50, 53, 54, 57, 59, 62, 63, 64, 66, 69, 72, 73, 75, 76, 77, 78, 79], [], [21], [23], [0, 1, 2, 3, 4, 5, 6, 8, 9, 10, 11, 7, 12, 13, 14, 15, 17, 18, 19, 20, 21, 16, 22, 23, 24, 25, 27, 28, 29, 30, 26, 31, 32, 33, 34, 36, 37, 38, 39, 35, 40, 41, 42], [0, 0, 0, 7, 15, 31, 63, 127, 63, 319, 831, 1855, 4095, 8191, 16383, 32767, 65535, 32767, 163839, 425983, 950271, 1998847, 4194303, 8388607, 16777215, 33554431, 67108863, 33554431, 167772159, 436207615, 973078527, 2147483647, 4294967295, 8589934591, 17179869183, 34359738367, 17179869183, 85899345919, 223338299391, 498216206335, 1099511627775, 2199023255551, 4398046511103], [8, 27, 29, 31, 34, 35, 38, 40, 43, 44, 45, 48, 50, 53, 54, 57, 59, 62, 63, 64], [66], [], [], [0, 2, 3, 4, 5, 6, 7, 8, 1, 9, 10, 11, 12, 13], [0, 1, 0, 4, 12, 28, 60, 124, 252, 511, 1023, 2047, 4095, 8191], [5, 6, 69, 72, 73, 75, 76, 77, 78, 79]]) fol Try.func6 (by kernel_rfl)

/-- signalbox/signalboxlaw14.CtrlBits [0, 1, 2, 4, 5, 6, 8, 9, 10, 11, 14, 15, 16, 18, 19, 20, 21, 22, 23, 24, 26, 28, 34, 38, 66, 68] -/
def hc_law14_CtrlBits_b1 : HC :=
 (.seq (.cond (Xb .lss (Xv 18) (Xv 17)) [19]
  .skip
  (.exit 0))
 (.seq (.block 1 (.seq (.reg 1 [Xeff [(20, (Xln 9 (Xx 9 (Xv 16) (Xv 18))))] (some 6) 0 (.alloc [(.int .i64 0), (.int .i64 0), (.int .i64 0), (.int .i64 0), (.int .i64 0), (.str []), (.int .i64 0), (.int .i64 0), (.bool false)]) [],
   Xeff [] none 1 (.store 9 (.t 0) (.t 1)) [(Xv 6), (Xv 20)]] [20])
 (.seq (.reg 0 [Xcall [] (some 21) f_ctrl_Ctrl_Asks [(Xv 4)] [(.t 0)],
   Xset [(7, (Xv 21))]] [21])
 (.seq (.reg 0 [Xcall [] none f_law14_do [(Xv 4), (Xv 5), (Xln 9 (Xv 6))] [(.t 0), (.t 1), (.t 2)]] [])
 (.seq (.reg 0 [Xcall [] (some 22) f_ctrl_Ctrl_Asks [(Xv 4)] [(.t 0)],
   Xset [(8, (Xv 22))]] [22])
 (.seq (.reg 0 [Xset [(9, (Xv 7))]] [])
 (.seq (.cond (Xk .eql (Xf 0 (Xv 6)) 5) [23]
  (.reg 0 [Xset [(9, (Xb .andNot (Xv 7) (Xf 1 (Xv 6))))]] [7])
  .skip)
 (.seq (.reg 0 [Xset [(24, (Xor (Xor (Xor (Xk .neq (Xb .andNot (Xv 9) (Xv 8)) 0) (Xand (Xk .eql (Xf 0 (Xv 6)) 5) (Xk .neq (Xb .and (Xv 8) (Xf 1 (Xv 6))) 0))) (Xk .lss (Xv 8) 0)) (Xk .gtr (Xv 8) 15)))]] [6, 8, 9])
 (.cond (Xv 24) [24]
  (.seq (.reg 0 [Xset [(3, (Xc (.bool false)))]] [])
  .ret)
  .skip)))))))))
 (.reg 0 [Xset [(18, (Xk .add (Xv 18) 1))]] [])))
def hc_law14_CtrlBits_l1 : HC := .loop [0, 1, 2, 3, 6, 7, 8, 9, 10, 11, 12, 13, 14, 15, 19, 20, 21, 22, 23, 24, 25] hc_law14_CtrlBits_b1
def hc_law14_CtrlBits : HC :=
 (.seq (.reg 1 [Xeff [] (some 2) 0 (.box (.t 0)) [(Xv 0)],
   Xset [(3, (Xc (.bool false)))]] [0, 3])
 (.seq (.seq (.reg 0 [Xcall [] (some 10) f_law14_few [(Xln 8 (Xv 2)), (Xv 1)] [(.t 0), (.t 1)],
   Xset [(11, (Xnot (Xv 10)))]] [10])
 (.cond (Xv 11) [11]
  (.seq (.reg 0 [Xcall [] (some 12) f_law14_alive [] [],
    Xset [(3, (Xv 12))]] [12])
  .ret)
  .skip))
 (.seq (.reg 0 [⟨[(14, (Xln 8 (Xv 2)))], [], (some ⟨(some 13), none, 0, .call (.c (.fn f_ctrl_New [] [])) [(.t 0)], [(Xln 8 (Xv 2))], [((Xln 8 (Xv 2)), 14)]⟩)⟩,
   Xcall [] (some 15) f_ref14_New [(Xv 14)] [(.t 0)],
   Xset [(4, (Xv 13)), (5, (Xv 15))]] [2, 13, 14, 15])
 (.seq (.seq (.reg 0 [Xset [(16, (Xv 1)), (17, (Xlen (Xv 1))), (18, (Xi 0))]] [1])
 (.block 0 hc_law14_CtrlBits_l1))
 (.seq (.reg 0 [Xcall [] (some 25) f_law14_alive [] [],
   Xset [(3, (Xv 25))]] [25])
 .ret)))))
theorem ok_law14_CtrlBits : HFn Try.prog f_law14_CtrlBits [0, 1, 2, 4, 5, 6, 8, 9, 10, 11, 14, 15, 16, 18, 19, 20, 21, 22, 23, 24, 26, 28, 34, 38, 66, 68] hc_law14_CtrlBits [.t 3] := hfn_opt (hs := [[0, 4], [14], [15], [16], [0, 2, 1, 3, 4, 5], [0, 1, 0, 7, 15, 31], [2, 18, 19, 20], [1], [0, 1, 2, 4, 8, 9, 10, 11, 14, 15, 16, 18, 19, 20, 24, 26, 28, 34, 38, 66, 68], [], [24], [26], [28], [], [34], [], [], [38], [9], [8, 10, 11], [66], [], [], [68]]) fol Try.func7 (by kernel_rfl)

/-- signalbox/signalboxref09.Ints [0, 1, 4, 5, 10, 14, 25] -/
def hc_ref09_Ints_b1 : HC :=
 (.seq (.cond (Xb .lss (Xv 3) (Xlen (Xv 0))) [5]
  .skip
  (.exit 0))
 (.seq (.block 1 (.cond (Xb .neq (Xl (Xx 1 (Xv 0) (Xv 3))) (Xl (Xx 1 (Xv 1) (Xv 3)))) [6]
  (.seq (.reg 0 [Xset [(2, (Xc (.bool false)))]] [])
  .ret)
  .skip))
 (.reg 0 [Xset [(3, (Xk .add (Xv 3) 1))]] [])))
def hc_ref09_Ints_l1 : HC := .loop [2, 4, 5, 6] hc_ref09_Ints_b1
def hc_ref09_Ints : HC :=
 (.seq (.reg 0 [Xset [(2, (Xc (.bool false)))]] [2])
 (.seq (.cond (Xb .neq (Xlen (Xv 0)) (Xlen (Xv 1))) [4]
  (.seq (.reg 0 [Xset [(2, (Xc (.bool false)))]] [])
  .ret)
  .skip)
 (.seq (.seq (.reg 0 [Xset [(3, (Xi 0))]] [])
 (.block 0 hc_ref09_Ints_l1))
 (.seq (.reg 0 [Xset [(2, (Xc (.bool true)))]] [])
 .ret))))
theorem ok_ref09_Ints : HFn Try.prog f_ref09_Ints [0, 1, 4, 5, 10, 14, 25] hc_ref09_Ints [.t 2] := hfn_opt (hs := [[4], [], [10], [], [], [4, 10, 14, 25], [], [14], [0, 1, 2, 4, 5, 6, 3, 7, 8], [0, 0, 3, 7, 0, 0, 48, 112, 255], [], [25], [], [], []]) fol Try.func27 (by kernel_rfl)

/-- signalbox/signalboxlaw14.few [0, 1, 2, 4, 5, 6, 14] -/
def hc_law14_few_b1 : HC :=
 (.seq (.cond (Xand (Xb .lss (Xv 5) (Xlen (Xv 1))) (Xk .leq (Xv 5) 300)) [6]
  .skip
  (.exit 0))
 (.seq (.block 1 (.reg 0 [Xset [(4, (Xb .add (Xv 4) (.o (.mn [(.t 0), (.c (.int .i64 5000))]) [(Xls (Xf 3 (Xa 0 (Xa 2 (Xx 9 (Xv 1) (Xv 5))))))])))]] []))
 (.reg 0 [Xset [(5, (Xk .add (Xv 5) 1))]] [])))
def hc_law14_few_l1 : HC := .loop [0, 3, 6] hc_law14_few_b1
def hc_law14_few : HC :=
 (.seq (.reg 1 [Xeff [] (some 2) 0 (.box (.t 0)) [(Xv 0)],
   Xset [(3, (Xc (.bool false)))]] [0, 3])
 (.seq (.reg 0 [Xset [(4, (Xi 0))]] [])
 (.seq (.seq (.reg 0 [Xset [(5, (Xi 0))]] [])
 (.block 0 hc_law14_few_l1))
 (.seq (.reg 0 [Xset [(3, (Xand (Xand (Xk .leq (Xlen (Xv 1)) 300) (Xk .leq (Xv 4) 6000)) (Xk .leq (Xlen (Xf 7 (Xv 2))) 50)))]] [1, 2, 4])
 .ret))))
theorem ok_law14_few : HFn Try.prog f_law14_few [0, 1, 2, 4, 5, 6, 14] hc_law14_few [.t 3] := hfn_opt (hs := [[0, 4], [], [], [0, 4, 14], [], [14], [], [], [1, 2, 5]]) fol Try.func31 (by kernel_rfl)

/-- signalbox/signalboxref14.New [0, 1, 2, 5, 6, 7, 8, 9, 10, 12] -/
def hc_ref14_New : HC :=
 (.seq (.reg 1 [Xeff [] (some 1) 0 (.box (.t 0)) [(Xv 0)],
   Xset [(2, (Xc .nilp))]] [0, 2])
 (.seq (.reg 1 [⟨[(4, (Xa 1 (Xv 1))), (5, (Xf 1 (Xv 1))), (7, (Xa 7 (Xv 1))), (8, (Xf 7 (Xv 1)))], [], (some ⟨(some 3), none, 0, .call (.c (.fn f_ref13_New [] [])) [(.t 0)], [(Xf 0 (Xv 1))], [((Xl (Xv 7)), 8), ((Xl (Xv 4)), 5)]⟩)⟩,
   ⟨[], [], (some ⟨(some 6), none, 0, .call (.c (.fn f_ref14_Room [] [])) [(.t 0)], [(Xv 5)], [((Xl (Xv 7)), 8)]⟩)⟩,
   Xeff [] (some 9) 0 (.box (.t 0)) [(.o (.build [.nilp, .nils, (.int .i64 0), .nils, (.int .i64 0), (.int .i64 0)] [(0, 1, (.t 0)), (2, 1, (.t 1)), (3, 1, (.t 2))]) [(Xv 3), (Xv 6), (Xv 8)])],
   Xset [(2, (Xv 9))]] [1, 3, 4, 5, 6, 7, 8, 9])
 .ret))
theorem ok_ref14_New : HFn Try.prog f_ref14_New [0, 1, 2, 5, 6, 7, 8, 9, 10, 12] hc_ref14_New [.t 2] := hfn_opt (hs := [[0, 2], [0, 3, 6, 1, 4, 7, 2, 5, 8, 9, 10], [0, 1, 3, 0, 8, 31, 0, 64, 255, 511, 1023], [1, 5, 6, 7, 8, 9, 10, 12]]) fol Try.func32 (by kernel_rfl)

/-- signalbox/signalboxlaw14.do [0, 1, 2, 5, 6, 7, 8, 9, 10, 11, 12, 13, 14, 15, 16, 17, 18, 19, 20, 21, 22, 23, 25, 26, 32, 42, 53, 57, 58, 59, 62, 63, 64, 73, 76, 78, 80, 86, 87, 89, 90, 91, 93, 99, 109, 113, 114, 115, 121, 122, 123, 124, 152, 156, 157, 158, 161, 162, 163, 180, 183, 185] -/
def hc_law14_do : HC :=
 (.seq (.reg 1 [Xeff [] (some 3) 0 (.box (.t 0)) [(Xv 2)],
   Xset [(4, (Xc (.bool false)))]] [2, 4])
 (.seq (.seq (.reg 0 [Xset [(22, (Xf 0 (Xv 3)))]] [])
 (.block 0 (.cond (Xk .eql (Xv 22) 0) [23]
  (.seq (.reg 0 [Xcall [] (some 24) f_ctrl_Ctrl_Load [(Xv 0), (Xln 7 (Xa 2 (Xv 3)))] [(.t 0), (.t 1)],
    Xset [(5, (Xe 0 (Xv 24))), (6, (Xe 1 (Xv 24)))]] [0, 24])
  (.seq (.reg 0 [Xcall [] (some 25) f_ref13_Boxes_Put [(Xf 0 (Xn (Xv 1))), (Xln 7 (Xa 2 (Xv 3)))] [(.t 0), (.t 1)],
    Xset [(7, (Xe 0 (Xv 25))), (8, (Xe 1 (Xv 25)))]] [1, 3, 25])
  (.seq (.reg 0 [Xset [(4, (Xand (Xb .eql (Xv 5) (Xv 7)) (Xb .eql (Xv 6) (Xv 8))))]] [5, 6, 7, 8])
  .ret)))
  (.cond (Xk .eql (Xv 22) 1) [26]
   (.seq (.reg 1 [Xcall [] (some 27) f_ctrl_Ctrl_Offer [(Xv 0)] [(.t 0)],
     Xeff [(28, (Xe 0 (Xv 27))), (29, (Xe 1 (Xv 27)))] (some 9) 0 (.alloc [(.int .i64 0), (.int .i64 0), (.int .i64 0), (.str [])]) [],
     Xeff [] none 1 (.store 4 (.t 0) (.t 1)) [(Xv 9), (Xv 28)],
     Xset [(10, (Xv 29))]] [0, 27, 28, 29])
   (.seq (.reg 1 [Xcall [] (some 30) f_ref14_Ctrl_Offer [(Xv 1)] [(.t 0)],
     Xeff [(31, (Xe 0 (Xv 30))), (32, (Xe 1 (Xv 30)))] (some 11) 0 (.alloc [(.int .i64 0), (.int .i64 0), (.int .i64 0), (.str [])]) [],
     Xeff [] none 1 (.store 4 (.t 0) (.t 1)) [(Xv 11), (Xv 31)],
     Xset [(12, (Xv 32))]] [1, 30, 31, 32])
   (.seq (.reg 0 [Xset [(4, (Xand (.o (.eqv false (.struct [.int, .int, .int, .str]) (.t 0) (.t 1)) [(Xln 4 (Xv 9)), (Xln 4 (Xv 11))]) (.o (.eqv false .bool (.t 0) (.t 1)) [(Xv 10), (Xv 12)])))]] [9, 10, 11, 12])
   .ret)))
   (.cond (Xk .eql (Xv 22) 2) [33]
    (.seq (.reg 0 [Xcall [] (some 34) f_ctrl_Ctrl_Won [(Xv 0)] [(.t 0)],
      Xcall [] (some 35) f_ref14_Ctrl_Won [(Xv 1)] [(.t 0)],
      Xset [(4, (.o (.eqv false .bool (.t 0) (.t 1)) [(Xv 34), (Xv 35)]))]] [0, 1, 34, 35])
    .ret)
    (.cond (Xk .eql (Xv 22) 3) [36]
     (.seq (.reg 0 [⟨[(38, (Xv 1)), (39, (Xa 0 (Xa 2 (Xv 3)))), (40, (Xln 4 (Xa 0 (Xa 2 (Xv 3)))))], [], (some ⟨(some 37), none, 0, .call (.c (.fn f_ctrl_Ctrl_Hear [] [])) [(.t 0), (.t 1)], [(Xv 0), (Xln 4 (Xa 0 (Xa 2 (Xv 3))))], [((Xln 4 (Xv 39)), 40)]⟩)⟩,
       Xcall [] (some 41) f_ref14_Ctrl_Hear [(Xv 38), (Xv 40)] [(.t 0), (.t 1)],
       Xset [(4, (.o (.eqv false .bool (.t 0) (.t 1)) [(Xv 37), (Xv 41)]))]] [0, 1, 3, 37, 38, 39, 40, 41])
     .ret)
     (.cond (Xk .eql (Xv 22) 4) [42]
      (.seq (.reg 0 [Xcall [] none f_ctrl_Ctrl_Off [(Xv 0)] [(.t 0)]] [0])
      (.reg 0 [Xcall [] none f_ref14_Ctrl_Set [(Xv 1)] [(.t 0), (.c (.int .i64 8))]] [1]))
      (.cond (Xk .eql (Xv 22) 5) [43]
       (.seq (.reg 0 [Xcall [] none f_ctrl_Ctrl_Clear [(Xv 0), (Xf 1 (Xv 3))] [(.t 0), (.t 1)]] [0])
       (.reg 0 [Xcall [] none f_ref14_Ctrl_Clear [(Xv 1), (Xf 1 (Xv 3))] [(.t 0), (.t 1)]] [1, 3]))
       (.cond (Xk .eql (Xv 22) 6) [44]
        (.seq (.reg 1 [Xcall [] (some 45) f_ctrl_Ctrl_Ended [(Xv 0)] [(.t 0)],
          Xeff [(46, (Xe 0 (Xv 45))), (47, (Xe 1 (Xv 45)))] (some 13) 0 (.alloc [(.int .i64 0), (.int .i64 0), (.int .i64 0), (.int .i64 0), (.str []), (.int .i64 0), (.int .i64 0), (.bool false), (.bool false)]) [],
          Xeff [] none 1 (.store 9 (.t 0) (.t 1)) [(Xv 13), (Xv 46)],
          Xset [(14, (Xv 47))]] [0, 45, 46, 47])
        (.seq (.reg 1 [Xcall [] (some 48) f_ref13_Boxes_Take [(Xf 0 (Xn (Xv 1)))] [(.t 0)],
          Xeff [(49, (Xe 0 (Xv 48))), (50, (Xe 1 (Xv 48))), (51, (Xe 2 (Xv 48)))] (some 16) 0 (.alloc [(.int .i64 0), (.int .i64 0), (.int .i64 0), (.str []), (.int .i64 0), (.int .i64 0), (.bool false)]) [],
          Xeff [(15, (Xv 49))] none 1 (.store 7 (.t 0) (.t 1)) [(Xv 16), (Xv 50)],
          Xset [(17, (Xv 51))]] [1, 48, 49, 50, 51])
        (.seq (.reg 0 [Xset [(4, (Xor (Xand (Xand (Xk .lss (Xv 15) 0) (Xk .eql (Xv 14) 6)) (.o (.eqv false (.struct [.int, .int, .int, .int, .str, .int, .int, .bool, .bool]) (.t 0) (.t 1)) [(Xln 9 (Xv 13)), (.o (.build [(.int .i64 0), (.int .i64 0), (.int .i64 0), (.int .i64 0), (.str []), (.int .i64 0), (.int .i64 0), (.bool false), (.bool false)] []) [])])) (Xand (Xand (Xk .geq (Xv 15) 0) (Xk .eql (Xv 14) 0)) (.o (.eqv false (.struct [.int, .int, .int, .int, .str, .int, .int, .bool, .bool]) (.t 0) (.t 1)) [(Xln 9 (Xv 13)), (.o (.build [(.int .i64 0), (.int .i64 0), (.int .i64 0), (.int .i64 0), (.str []), (.int .i64 0), (.int .i64 0), (.bool false), (.bool false)] [(0, 1, (.t 0)), (1, 7, (.t 1)), (8, 1, (.t 2))]) [(Xv 15), (Xln 7 (Xv 16)), (Xv 17)])]))))]] [13, 14, 15, 16, 17])
        .ret)))
        (.cond (Xk .eql (Xv 22) 7) [52]
         (.seq (.reg 1 [Xcall [] (some 53) f_ctrl_Ctrl_Fetch [(Xv 0)] [(.t 0)],
           Xeff [(54, (Xe 0 (Xv 53))), (55, (Xe 1 (Xv 53)))] (some 18) 0 (.alloc [(.int .i64 0), (.int .i64 0), (.int .i64 0), (.str [])]) [],
           Xeff [] none 1 (.store 4 (.t 0) (.t 1)) [(Xv 18), (Xv 54)],
           Xset [(19, (Xv 55))]] [0, 53, 54, 55])
         (.seq (.reg 1 [Xcall [] (some 56) f_ref14_Ctrl_Fetch [(Xv 1)] [(.t 0)],
           Xeff [(57, (Xe 0 (Xv 56))), (58, (Xe 1 (Xv 56)))] (some 20) 0 (.alloc [(.int .i64 0), (.int .i64 0), (.int .i64 0), (.str [])]) [],
           Xeff [] none 1 (.store 4 (.t 0) (.t 1)) [(Xv 20), (Xv 57)],
           Xset [(21, (Xv 58))]] [1, 56, 57, 58])
         (.seq (.reg 0 [Xset [(4, (Xand (Xand (.o (.eqv false (.struct [.int, .int, .int, .str]) (.t 0) (.t 1)) [(Xln 4 (Xv 18)), (Xln 4 (Xv 20))]) (.o (.eqv false .bool (.t 0) (.t 1)) [(Xk .eql (Xv 19) 0), (Xv 21)])) (Xor (Xv 21) (Xk .eql (Xv 19) 6))))]] [18, 19, 20, 21])
         .ret)))
         (.seq (.reg 0 [Xset [(59, (Xk .eql (Xv 22) 8))]] [22])
         (.cond (Xv 59) [59]
          (.seq (.reg 0 [Xcall [] (some 60) f_ctrl_Ctrl_Abort [(Xv 0)] [(.t 0)],
            Xcall [] (some 61) f_ref14_Ctrl_Abort [(Xv 1)] [(.t 0)],
            Xset [(4, (Xb .eql (Xv 60) (Xv 61)))]] [0, 1, 60, 61])
          .ret)
          .skip))))))))))))
 (.seq (.reg 0 [Xset [(4, (Xc (.bool true)))]] [])
 .ret)))
theorem ok_law14_do : HFn Try.prog f_law14_do [0, 1, 2, 5, 6, 7, 8, 9, 10, 11, 12, 13, 14, 15, 16, 17, 18, 19, 20, 21, 22, 23, 25, 26, 32, 42, 53, 57, 58, 59, 62, 63, 64, 73, 76, 78, 80, 86, 87, 89, 90, 91, 93, 99, 109, 113, 114, 115, 121, 122, 123, 124, 152, 156, 157, 158, 161, 162, 163, 180, 183, 185] hc_law14_do [.t 4] := hfn_opt (hs := [[2, 6], [], [], [26], [0, 32], [0, 1, 2, 4, 3, 5, 6, 7, 8, 9, 10, 11], [0, 1, 3, 7, 0, 16, 63, 127, 255, 255, 511, 2047], [1, 5, 42], [7, 8, 9, 10], [], [53], [0, 57, 58, 59], [1, 62, 63, 64], [11, 12, 13, 14], [], [73], [0, 1, 76, 78], [], [80], [0, 1, 2, 5, 6, 7, 3, 8, 4, 9, 10, 11], [0, 0, 2, 6, 15, 0, 0, 64, 192, 511, 1023, 2047], [0, 1, 5, 86, 87, 89, 90, 91], [], [93], [0], [1], [], [99], [0], [1, 5], [], [109], [0, 113, 114, 115], [1, 121, 122, 123, 124], [15, 16, 17, 18, 19], [], [152], [0, 156, 157, 158], [1, 161, 162, 163], [20, 21, 22, 23], [25], [180], [0, 1, 183, 185], []]) fol Try.func33 (by kernel_rfl)

/-- (*signalbox/signalboxref13.Boxes).Free [0, 2, 3, 4, 11, 21] -/
def hc_ref13_Boxes_Free_b1 : HC :=
 (.seq (.cond (Xb .lss (Xv 3) (Xlen (Xf 0 (Xn (Xv 0))))) [4]
  .skip
  (.exit 0))
 (.seq (.block 1 (.cond (Xk .eql (Xl (Xx 1 (Xf 0 (Xn (Xv 0))) (Xv 3))) 0) [5]
  (.reg 0 [Xset [(2, (Xk .add (Xv 2) 1))]] [])
  .skip))
 (.reg 0 [Xset [(3, (Xk .add (Xv 3) 1))]] [])))
def hc_ref13_Boxes_Free_l1 : HC := .loop [1, 4, 5] hc_ref13_Boxes_Free_b1
def hc_ref13_Boxes_Free : HC :=
 (.seq (.reg 0 [Xset [(1, (Xi 0))]] [1])
 (.seq (.reg 0 [Xset [(2, (Xi 0))]] [])
 (.seq (.seq (.reg 0 [Xset [(3, (Xi 0))]] [])
 (.block 0 hc_ref13_Boxes_Free_l1))
 (.seq (.reg 0 [Xset [(1, (Xv 2))]] [2])
 .ret))))
theorem ok_ref13_Boxes_Free : HFn Try.prog f_ref13_Boxes_Free [0, 2, 3, 4, 11, 21] hc_ref13_Boxes_Free [.t 1] := hfn_opt (hs := [[2], [], [], [2, 11, 21], [], [11], [], [21], [], [], [3]]) fol Try.func36 (by kernel_rfl)

/-- (*signalbox/ctrl.Ctrl).States [0, 2, 4, 10] -/
def hc_ctrl_Ctrl_States : HC :=
 (.seq (.reg 0 [Xset [(1, (Xc .nils))]] [1])
 (.seq (.cond (Xnil (Xv 0)) [2]
  (.seq (.reg 0 [Xset [(1, (Xc .nils))]] [])
  .ret)
  .skip)
 (.seq (.reg 0 [Xcall [] (some 3) f_box_Boxes_States [(Xf 0 (Xa 0 (Xn (Xv 0))))] [(.t 0)],
   Xset [(1, (Xv 3))]] [0, 3])
 .ret)))
theorem ok_ctrl_Ctrl_States : HFn Try.prog f_ctrl_Ctrl_States [0, 2, 4, 10] hc_ctrl_Ctrl_States [.t 1] := hfn_opt (hs := [[2], [], [4], [], [0, 10]]) fol Try.func37 (by kernel_rfl)

/-- (*signalbox/ctrl.Ctrl).Off [0, 3] -/
def hc_ctrl_Ctrl_Off : HC :=
 (.cond (.o (.eqv true .ptr (.t 0) (.c .nilp)) [(Xv 0)]) [1]
  (.reg 0 [Xeff [] none 0 (.store 1 (.t 0) (.t 1)) [(Xa 3 (Xn (Xv 0))), (Xk .or (Xf 3 (Xn (Xv 0))) 8)]] [0])
  .skip)
theorem ok_ctrl_Ctrl_Off : HFn Try.prog f_ctrl_Ctrl_Off [0, 3] hc_ctrl_Ctrl_Off [] := hfn_opt (hs := [[], [3], [0]]) fol Try.func38 (by kernel_rfl)

/-- (*signalbox/ctrl.Ctrl).Clear [0, 1, 5] -/
def hc_ctrl_Ctrl_Clear : HC :=
 (.cond (.o (.eqv true .ptr (.t 0) (.c .nilp)) [(Xv 0)]) [2]
  (.reg 0 [Xeff [] none 0 (.store 1 (.t 0) (.t 1)) [(Xa 3 (Xn (Xv 0))), (Xb .andNot (Xf 3 (Xn (Xv 0))) (Xv 1))]] [0, 1])
  .skip)
theorem ok_ctrl_Ctrl_Clear : HFn Try.prog f_ctrl_Ctrl_Clear [0, 1, 5] hc_ctrl_Ctrl_Clear [] := hfn_opt (hs := [[], [5], [0, 1]]) fol Try.func39 (by kernel_rfl)

/-- (*signalbox/ctrl.Ctrl).Load [0, 1, 3, 4, 5, 7, 14] -/
def hc_ctrl_Ctrl_Load : HC :=
 (.seq (.reg 1 [Xeff [] (some 2) 0 (.box (.t 0)) [(Xv 1)],
   Xset [(3, (Xi 0)), (4, (Xi 0))]] [1, 3, 4])
 (.seq (.cond (Xnil (Xv 0)) [5]
  (.seq (.reg 0 [Xset [(3, (Xi 0)), (4, (Xi 1))]] [])
  .ret)
  .skip)
 (.seq (.reg 0 [Xcall [] (some 6) f_box_Boxes_Put [(Xf 0 (Xa 0 (Xn (Xv 0)))), (Xln 7 (Xv 2))] [(.t 0), (.t 1)],
   Xset [(3, (Xe 0 (Xv 6))), (4, (Xe 1 (Xv 6)))]] [0, 2, 6])
 .ret)))
theorem ok_ctrl_Ctrl_Load : HFn Try.prog f_ctrl_Ctrl_Load [0, 1, 3, 4, 5, 7, 14] hc_ctrl_Ctrl_Load [.t 3, .t 4] := hfn_opt (hs := [[1, 4, 5], [], [7], [], [0, 1, 2, 3, 4, 5, 6, 7, 8, 9, 10], [0, 1, 3, 7, 15, 0, 63, 127, 127, 511, 1023], [0, 3, 14]]) fol Try.func40 (by kernel_rfl)

/-- (*signalbox/ctrl.Ctrl).Offer [0, 2, 3, 5, 6, 8, 16, 17, 18, 19, 22] -/
def hc_ctrl_Ctrl_Offer : HC :=
 (.seq (.reg 1 [Xeff [] (some 1) 0 (.alloc [(.int .i64 0), (.int .i64 0), (.int .i64 0), (.str [])]) [],
   Xset [(2, (Xc (.bool false)))]] [2])
 (.seq (.cond (Xnil (Xv 0)) [5]
  (.seq (.reg 0 [Xeff [] none 0 (.store 4 (.t 0) (.t 1)) [(Xv 1), (.o (.build [(.int .i64 0), (.int .i64 0), (.int .i64 0), (.str [])] []) [])],
    Xset [(2, (Xc (.bool false)))]] [])
  .ret)
  .skip)
 (.seq (.reg 1 [Xcall [] (some 6) f_box_Boxes_Best [(Xf 0 (Xa 0 (Xn (Xv 0))))] [(.t 0)],
   Xeff [(7, (Xe 0 (Xv 6))), (8, (Xe 1 (Xv 6))), (9, (Xe 2 (Xv 6)))] (some 3) 0 (.alloc [(.int .i64 0), (.int .i64 0), (.int .i64 0), (.str []), (.int .i64 0), (.int .i64 0), (.bool false)]) [],
   Xeff [] none 1 (.store 7 (.t 0) (.t 1)) [(Xv 3), (Xv 8)],
   Xset [(4, (Xv 9))]] [0, 6, 7, 8, 9])
 (.seq (.reg 0 [Xeff [(10, (Xv 4))] none 0 (.store 4 (.t 0) (.t 1)) [(Xv 1), (Xln 4 (Xa 0 (Xv 3)))],
   Xset [(2, (Xv 10))]] [3, 4, 10])
 .ret))))
theorem ok_ctrl_Ctrl_Offer : HFn Try.prog f_ctrl_Ctrl_Offer [0, 2, 3, 5, 6, 8, 16, 17, 18, 19, 22] hc_ctrl_Ctrl_Offer [.cell 1 (some 4), .t 2] := hfn_opt (hs := [[3], [], [8], [], [0, 16, 17, 18, 19], [5, 6, 22]]) fol Try.func41 (by kernel_rfl)

/-- (*signalbox/ctrl.Ctrl).Ended [0, 2, 3, 5, 12, 14] -/
def hc_ctrl_Ctrl_Ended : HC :=
 (.seq (.reg 1 [Xeff [] (some 1) 0 (.alloc [(.int .i64 0), (.int .i64 0), (.int .i64 0), (.int .i64 0), (.str []), (.int .i64 0), (.int .i64 0), (.bool false), (.bool false)]) [],
   Xset [(2, (Xi 0))]] [2])
 (.seq (.cond (Xnil (Xv 0)) [3]
  (.seq (.reg 0 [Xeff [] none 0 (.store 9 (.t 0) (.t 1)) [(Xv 1), (.o (.build [(.int .i64 0), (.int .i64 0), (.int .i64 0), (.int .i64 0), (.str []), (.int .i64 0), (.int .i64 0), (.bool false), (.bool false)] []) [])],
    Xset [(2, (Xi 1))]] [])
  .ret)
  .skip)
 (.seq (.reg 0 [Xcall [] (some 4) f_box_Boxes_Take [(Xf 0 (Xa 0 (Xn (Xv 0))))] [(.t 0)],
   Xeff [(5, (Xe 1 (Xv 4)))] none 0 (.store 9 (.t 0) (.t 1)) [(Xv 1), (Xe 0 (Xv 4))],
   Xset [(2, (Xv 5))]] [0, 4, 5])
 .ret)))
theorem ok_ctrl_Ctrl_Ended : HFn Try.prog f_ctrl_Ctrl_Ended [0, 2, 3, 5, 12, 14] hc_ctrl_Ctrl_Ended [.cell 1 (some 9), .t 2] := hfn_opt (hs := [[3], [], [5], [], [0, 12, 14]]) fol Try.func42 (by kernel_rfl)

/-- (*signalbox/ctrl.Ctrl).Won [0, 2, 3, 4, 5, 7, 14, 15, 16, 17, 18] -/
def hc_ctrl_Ctrl_Won : HC :=
 (.seq (.reg 0 [Xset [(1, (Xc (.bool false)))]] [1])
 (.seq (.cond (Xnil (Xv 0)) [5]
  (.seq (.reg 0 [Xset [(1, (Xc (.bool false)))]] [])
  .ret)
  .skip)
 (.seq (.reg 1 [Xcall [] (some 6) f_box_Boxes_Best [(Xf 0 (Xa 0 (Xn (Xv 0))))] [(.t 0)],
   Xeff [(7, (Xe 0 (Xv 6))), (8, (Xe 1 (Xv 6))), (9, (Xe 2 (Xv 6)))] (some 3) 0 (.alloc [(.int .i64 0), (.int .i64 0), (.int .i64 0), (.str []), (.int .i64 0), (.int .i64 0), (.bool false)]) [],
   Xeff [(2, (Xv 7))] none 1 (.store 7 (.t 0) (.t 1)) [(Xv 3), (Xv 8)],
   Xset [(4, (Xv 9))]] [3, 6, 7, 8, 9])
 (.seq (.cond (Xv 4) [10]
  (.seq (.reg 0 [Xcall [] none f_box_Boxes_Sent [(Xf 0 (Xa 0 (Xn (Xv 0)))), (Xv 2)] [(.t 0), (.t 1)]] [2])
  (.reg 0 [Xeff [] none 0 (.store 1 (.t 0) (.t 1)) [(Xa 3 (Xn (Xv 0))), (Xk .or (Xf 3 (Xn (Xv 0))) 1)]] [0]))
  .skip)
 (.seq (.reg 0 [Xset [(1, (Xv 4))]] [4])
 .ret)))))
theorem ok_ctrl_Ctrl_Won : HFn Try.prog f_ctrl_Ctrl_Won [0, 2, 3, 4, 5, 7, 14, 15, 16, 17, 18] hc_ctrl_Ctrl_Won [.t 1] := hfn_opt (hs := [[2], [], [7], [], [4, 14, 15, 16, 17], [], [18], [3], [0], [5]]) fol Try.func43 (by kernel_rfl)

/-- (*signalbox/ctrl.Ctrl).Abort [0, 2, 3, 4, 5, 7, 9, 10, 11, 12, 17, 29] -/
def hc_ctrl_Ctrl_Abort_b1 : HC :=
 (.seq (.cond (Xb .lss (Xv 8) (Xv 7)) [9]
  .skip
  (.exit 0))
 (.seq (.block 1 (.seq (.reg 0 [Xset [(3, (Xv 8)), (4, (Xl (Xx 1 (Xv 6) (Xv 8))))]] [])
 (.seq (.reg 0 [Xset [(10, (Xk .eql (Xv 4) 1))]] [4])
 (.cond (Xv 10) [10]
  (.seq (.reg 0 [Xcall [] none f_box_Boxes_Abort [(Xf 0 (Xa 0 (Xn (Xv 0)))), (Xv 3)] [(.t 0), (.t 1)]] [3])
  (.reg 0 [Xset [(2, (Xk .add (Xv 2) 1))]] []))
  .skip))))
 (.reg 0 [Xset [(8, (Xk .add (Xv 8) 1))]] [])))
def hc_ctrl_Ctrl_Abort_l1 : HC := .loop [1, 3, 4, 5, 9, 10, 11] hc_ctrl_Ctrl_Abort_b1
def hc_ctrl_Ctrl_Abort : HC :=
 (.seq (.reg 0 [Xset [(1, (Xi 0))]] [1])
 (.seq (.cond (Xnil (Xv 0)) [5]
  (.seq (.reg 0 [Xset [(1, (Xi 0))]] [])
  .ret)
  .skip)
 (.seq (.reg 0 [Xset [(2, (Xi 0))]] [])
 (.seq (.seq (.reg 0 [Xcall [] (some 6) f_ctrl_Ctrl_States [(Xv 0)] [(.t 0)],
   Xset [(7, (Xlen (Xv 6))), (8, (Xi 0))]] [])
 (.block 0 hc_ctrl_Ctrl_Abort_l1))
 (.seq (.cond (Xk .gtr (Xv 2) 0) [11]
  (.reg 0 [Xeff [] none 0 (.store 1 (.t 0) (.t 1)) [(Xa 3 (Xn (Xv 0))), (Xk .or (Xf 3 (Xn (Xv 0))) 1)]] [0])
  .skip)
 (.seq (.reg 0 [Xset [(1, (Xv 2))]] [2])
 .ret))))))
theorem ok_ctrl_Ctrl_Abort : HFn Try.prog f_ctrl_Ctrl_Abort [0, 2, 3, 4, 5, 7, 9, 10, 11, 12, 17, 29] hc_ctrl_Ctrl_Abort [.t 1] := hfn_opt (hs := [[2], [], [7], [], [], [], [2, 4, 5, 7, 12, 17, 29], [], [12], [], [5], [17], [4], [], [], [], [29], [0], [3]]) fol Try.func44 (by kernel_rfl)

/-- signalbox/signalboxref13.New [0, 2, 4, 6, 8, 9, 10, 12] -/
def hc_ref13_New : HC :=
 (.seq (.reg 0 [Xset [(1, (Xc .nilp))]] [1])
 (.seq (.cond (Xk .lss (Xv 0) 1) [2]
  (.reg 0 [Xset [(0, (Xi 1))]] [])
  .skip)
 (.seq (.cond (Xk .gtr (Xv 0) 1000) [3]
  (.reg 0 [Xset [(0, (Xi 1000))]] [])
  .skip)
 (.seq (.reg 3 [Xeff [(5, (Xv 0))] (some 4) 0 (.mksl 1 8 [(.int .i64 0)] (.t 0) (.t 0)) [(Xv 0)],
   Xeff [] (some 6) 1 (.mksl 7 64 [(.int .i64 0), (.int .i64 0), (.int .i64 0), (.str []), (.int .i64 0), (.int .i64 0), (.bool false)] (.t 0) (.t 0)) [(Xv 5)],
   Xeff [] (some 7) 2 (.box (.t 0)) [(.o (.build [.nils, .nils, .nils, .nils] [(0, 1, (.t 0)), (1, 1, (.t 1))]) [(Xv 4), (Xv 6)])],
   Xset [(1, (Xv 7))]] [0, 4, 5, 6, 7])
 .ret))))
theorem ok_ref13_New : HFn Try.prog f_ref13_New [0, 2, 4, 6, 8, 9, 10, 12] hc_ref13_New [.t 1] := hfn_opt (hs := [[2], [], [4], [], [], [6], [], [0, 2, 1, 3, 4, 5, 6], [0, 1, 0, 4, 15, 31, 63], [0, 8, 9, 10, 12]]) fol Try.func90 (by kernel_rfl)

/-- signalbox/signalboxref14.Room [0, 2, 4, 6] -/
def hc_ref14_Room : HC :=
 (.seq (.reg 0 [Xset [(1, (Xi 0))]] [1])
 (.seq (.cond (Xk .lss (Xv 0) 1) [2]
  (.seq (.reg 0 [Xset [(1, (Xi 1))]] [])
  .ret)
  .skip)
 (.seq (.cond (Xk .gtr (Xv 0) 1000) [3]
  (.seq (.reg 0 [Xset [(1, (Xi 1000))]] [])
  .ret)
  .skip)
 (.seq (.reg 0 [Xset [(1, (Xv 0))]] [0])
 .ret))))
theorem ok_ref14_Room : HFn Try.prog f_ref14_Room [0, 2, 4, 6] hc_ref14_Room [.t 1] := hfn_opt (hs := [[2], [], [4], [], [], [6], [], [0]]) fol Try.func91 (by kernel_rfl)

/-- (*signalbox/signalboxref13.Boxes).Put [0, 1, 3, 4, 5, 6, 9, 10, 17, 27, 41, 45, 47, 48] -/
def hc_ref13_Boxes_Put_b1 : HC :=
 (.seq (.cond (Xb .lss (Xv 5) (Xlen (Xf 0 (Xn (Xv 0))))) [8]
  .skip
  (.exit 0))
 (.seq (.block 1 (.cond (Xk .eql (Xl (Xx 1 (Xf 0 (Xn (Xv 0))) (Xv 5))) 0) [9]
  (.seq (.reg 0 [Xeff [] none 0 (.store 1 (.t 0) (.c (.int .i64 1))) [(Xx 1 (Xf 0 (Xn (Xv 0))) (Xv 5))]] [])
  (.seq (.reg 0 [Xeff [] none 0 (.store 7 (.t 0) (.t 1)) [(Xx 7 (Xf 1 (Xn (Xv 0))) (Xv 5)), (Xln 7 (Xv 2))]] [2])
  (.seq (.reg 2 [Xeff [(10, (Xv 0)), (11, (Xf 2 (Xn (Xv 0))))] (some 12) 0 (.bslice 1 [(.t 0)]) [(Xv 5)],
    Xeff [] (some 13) 1 (.app 1 8 (.t 0) (.t 1)) [(Xv 11), (Xv 12)],
    Xeff [] none 2 (.store 1 (.t 0) (.t 1)) [(Xa 2 (Xn (Xv 10))), (Xv 13)]] [0, 10, 11, 12, 13])
  (.seq (.reg 0 [Xset [(3, (Xv 5)), (4, (Xi 0))]] [5])
  .ret))))
  .skip))
 (.reg 0 [Xset [(5, (Xk .add (Xv 5) 1))]] [])))
def hc_ref13_Boxes_Put_l1 : HC := .loop [1, 3, 4, 6, 7, 8, 9, 10, 11, 12, 13] hc_ref13_Boxes_Put_b1
def hc_ref13_Boxes_Put : HC :=
 (.seq (.reg 1 [Xeff [] (some 2) 0 (.box (.t 0)) [(Xv 1)],
   Xset [(3, (Xi 0)), (4, (Xi 0))]] [1, 3, 4])
 (.seq (.seq (.reg 0 [Xcall [] (some 6) f_ref02_Key [(Xln 4 (Xa 0 (Xv 2)))] [(.t 0)],
   Xset [(7, (Xk .lss (Xv 6) 0))]] [6])
 (.cond (Xv 7) [7]
  (.seq (.reg 0 [Xset [(3, (Xi 0)), (4, (Xi 4))]] [])
  .ret)
  .skip))
 (.seq (.seq (.reg 0 [Xset [(5, (Xi 0))]] [])
 (.block 0 hc_ref13_Boxes_Put_l1))
 (.seq (.reg 0 [Xset [(3, (Xi 0)), (4, (Xi 5))]] [])
 .ret))))
theorem ok_ref13_Boxes_Put : HFn Try.prog f_ref13_Boxes_Put [0, 1, 3, 4, 5, 6, 9, 10, 17, 27, 41, 45, 47, 48] hc_ref13_Boxes_Put [.t 3, .t 4] := hfn_opt (hs := [[1, 4, 5], [9], [10], [], [], [1, 4, 5, 9, 10, 17, 27, 41, 45, 47, 48], [], [17], [], [27], [], [0, 1, 2, 4, 3, 5, 6, 7], [0, 1, 3, 7, 0, 0, 63, 127], [3], [0, 41, 45, 47, 48], [6], [], []]) fol Try.func92 (by kernel_rfl)

/-- (*signalbox/signalboxref14.Ctrl).Offer [0, 2, 3, 4, 9, 11] -/
def hc_ref14_Ctrl_Offer : HC :=
 (.seq (.reg 1 [Xeff [] (some 1) 0 (.alloc [(.int .i64 0), (.int .i64 0), (.int .i64 0), (.str [])]) [],
   Xset [(2, (Xc (.bool false)))]] [2])
 (.seq (.reg 0 [Xcall [] (some 4) f_ref13_Boxes_Best [(Xf 0 (Xn (Xv 0)))] [(.t 0)],
   Xset [(3, (Xv 4))]] [4])
 (.seq (.cond (Xk .lss (Xv 3) 0) [5]
  (.seq (.reg 0 [Xeff [] none 0 (.store 4 (.t 0) (.t 1)) [(Xv 1), (.o (.build [(.int .i64 0), (.int .i64 0), (.int .i64 0), (.str [])] []) [])],
    Xset [(2, (Xc (.bool false)))]] [])
  .ret)
  .skip)
 (.seq (.reg 0 [Xeff [] none 0 (.store 4 (.t 0) (.t 1)) [(Xv 1), (Xln 4 (Xa 0 (Xx 7 (Xf 1 (Xn (Xf 0 (Xn (Xv 0))))) (Xv 3))))],
   Xset [(2, (Xc (.bool true)))]] [0, 3])
 .ret))))
theorem ok_ref14_Ctrl_Offer : HFn Try.prog f_ref14_Ctrl_Offer [0, 2, 3, 4, 9, 11] hc_ref14_Ctrl_Offer [.cell 1 (some 4), .t 2] := hfn_opt (hs := [[3], [9], [], [11], [], [0, 4]]) fol Try.func93 (by kernel_rfl)

/-- (*signalbox/signalboxref14.Ctrl).Won [0, 2, 3, 8, 10] -/
def hc_ref14_Ctrl_Won : HC :=
 (.seq (.reg 0 [Xset [(1, (Xc (.bool false)))]] [1])
 (.seq (.reg 0 [Xcall [] (some 3) f_ref13_Boxes_Best [(Xf 0 (Xn (Xv 0)))] [(.t 0)],
   Xset [(2, (Xv 3))]] [3])
 (.seq (.cond (Xk .lss (Xv 2) 0) [4]
  (.seq (.reg 0 [Xset [(1, (Xc (.bool false)))]] [])
  .ret)
  .skip)
 (.seq (.reg 0 [Xcall [] none f_ref13_Boxes_End [(Xf 0 (Xn (Xv 0))), (Xv 2)] [(.t 0), (.t 1), (.c (.int .i64 2))]] [2])
 (.seq (.reg 0 [Xcall [] none f_ref14_Ctrl_Set [(Xv 0)] [(.t 0), (.c (.int .i64 1))]] [0])
 (.seq (.reg 0 [Xset [(1, (Xc (.bool true)))]] [])
 .ret))))))
theorem ok_ref14_Ctrl_Won : HFn Try.prog f_ref14_Ctrl_Won [0, 2, 3, 8, 10] hc_ref14_Ctrl_Won [.t 1] := hfn_opt (hs := [[2], [8], [], [10], [], [3], [0], []]) fol Try.func94 (by kernel_rfl)

/-- (*signalbox/signalboxref14.Ctrl).Hear [0, 1, 3, 4, 5, 7, 9, 16, 22, 25, 35, 46, 51, 52, 53, 55, 56] -/
def hc_ref14_Ctrl_Hear : HC :=
 (.seq (.reg 1 [Xeff [] (some 2) 0 (.box (.t 0)) [(Xv 1)],
   Xset [(3, (Xc (.bool false)))]] [1, 3])
 (.seq (.seq (.reg 0 [Xcall [] (some 5) f_ref02_Key [(Xln 4 (Xv 2))] [(.t 0)],
   ⟨[(6, (Xk .lss (Xv 5) 0)), (7, (.g (Xk .lss (Xv 5) 0) false (Xk .gtr (Xlen (Xf 3 (Xn (Xv 0)))) 0)))], [], (some ⟨(some 8), (some ((.g (Xk .lss (Xv 5) 0) false (Xk .gtr (Xlen (Xf 3 (Xn (Xv 0)))) 0)), true)), 0, .call (.c (.fn f_ref05_Any [] [])) [(.t 0), (.c (.bool false)), (.t 1)], [(Xf 3 (Xn (Xv 0))), (Xln 4 (Xv 2))], []⟩)⟩,
   ⟨[(9, (Xor (Xv 6) (Xand (Xv 7) (Xnot (Xv 8)))))], [(.g (Xv 7) true (Xnot (Xv 8)))], none⟩] [5, 6, 7, 8])
 (.cond (Xv 9) [9]
  (.seq (.reg 0 [Xset [(3, (Xc (.bool false)))]] [])
  .ret)
  .skip))
 (.seq (.cond (Xb .eql (Xlen (Xf 1 (Xn (Xv 0)))) (Xf 2 (Xn (Xv 0)))) [10]
  (.seq (.reg 0 [Xeff [] none 0 (.store 1 (.t 0) (.t 1)) [(Xa 4 (Xn (Xv 0))), (Xk .add (Xf 4 (Xn (Xv 0))) 1)]] [])
  (.seq (.reg 0 [Xcall [] none f_ref14_Ctrl_Set [(Xv 0)] [(.t 0), (.c (.int .i64 4))]] [0])
  (.seq (.reg 0 [Xset [(3, (Xc (.bool false)))]] [])
  .ret)))
  .skip)
 (.seq (.reg 2 [Xeff [] (some 11) 0 (.bslice 4 []) [],
   Xeff [] (some 12) 1 (.app 4 40 (.t 0) (.t 1)) [(Xv 11), (Xf 1 (Xn (Xv 0)))],
   Xset [(4, (Xv 12))]] [11, 12])
 (.seq (.reg 2 [Xeff [(13, (Xv 0)), (14, (Xv 4))] (some 15) 0 (.bslice 4 [(.t 0)]) [(Xln 4 (Xv 2))],
   Xeff [] (some 16) 1 (.app 4 40 (.t 0) (.t 1)) [(Xv 14), (Xv 15)],
   Xeff [] none 2 (.store 1 (.t 0) (.t 1)) [(Xa 1 (Xn (Xv 13))), (Xv 16)]] [2, 4, 13, 14, 15, 16])
 (.seq (.reg 0 [Xcall [] none f_ref14_Ctrl_Set [(Xv 0)] [(.t 0), (.c (.int .i64 2))]] [0])
 (.seq (.reg 0 [Xset [(3, (Xc (.bool true)))]] [])
 .ret)))))))
theorem ok_ref14_Ctrl_Hear : HFn Try.prog f_ref14_Ctrl_Hear [0, 1, 3, 4, 5, 7, 9, 16, 22, 25, 35, 46, 51, 52, 53, 55, 56] hc_ref14_Ctrl_Hear [.t 3] := hfn_opt (hs := [[1, 4], [0, 1, 2, 3, 4, 5, 6, 7, 8, 9, 10, 11, 12, 13, 14, 15, 16, 17, 18, 19], [0, 1, 3, 7, 15, 31, 63, 127, 255, 511, 1023, 2047, 4095, 8191, 16383, 2047, 65535, 131071, 262143, 524287], [7, 9, 16, 22], [25], [], [0, 1, 2, 5, 6, 7, 3, 4, 8, 9], [0, 1, 3, 7, 15, 0, 32, 96, 224, 511], [], [35], [], [0], [], [46, 51], [3, 5, 52, 53, 55, 56], [0], []]) fol Try.func95 (by kernel_rfl)

/-- (*signalbox/signalboxref14.Ctrl).Set [0, 1, 11] -/
def hc_ref14_Ctrl_Set : HC :=
 (.cond (Xk .eql (Xk .rem (Xb .quo (Xf 5 (Xn (Xv 0))) (Xv 1)) 2) 0) [2]
  (.reg 0 [Xeff [] none 0 (.store 1 (.t 0) (.t 1)) [(Xa 5 (Xn (Xv 0))), (Xb .add (Xf 5 (Xn (Xv 0))) (Xv 1))]] [0, 1])
  .skip)
theorem ok_ref14_Ctrl_Set : HFn Try.prog f_ref14_Ctrl_Set [0, 1, 11] hc_ref14_Ctrl_Set [] := hfn_opt (hs := [[], [11], [0, 1]]) fol Try.func96 (by kernel_rfl)

/-- (*signalbox/signalboxref14.Ctrl).Clear [0, 1, 4, 6, 22] -/
def hc_ref14_Ctrl_Clear_b1 : HC :=
 (.seq (.cond (Xk .leq (Xv 2) 8) [3]
  .skip
  (.exit 0))
 (.seq (.block 1 (.cond (Xand (Xk .neq (Xb .and (Xv 1) (Xv 2)) 0) (Xk .eql (Xk .rem (Xb .quo (Xf 5 (Xn (Xv 0))) (Xv 2)) 2) 1)) [4]
  (.reg 0 [Xeff [] none 0 (.store 1 (.t 0) (.t 1)) [(Xa 5 (Xn (Xv 0))), (Xb .sub (Xf 5 (Xn (Xv 0))) (Xv 2))]] [])
  .skip))
 (.reg 0 [Xset [(2, (.o (.bin .mul (.c (.int .i64 2)) (.t 0)) [(Xv 2)]))]] [])))
def hc_ref14_Ctrl_Clear_l1 : HC := .loop [3, 4] hc_ref14_Ctrl_Clear_b1
def hc_ref14_Ctrl_Clear : HC :=
 (.seq (.reg 0 [Xset [(2, (Xi 1))]] [])
 (.block 0 hc_ref14_Ctrl_Clear_l1))
theorem ok_ref14_Ctrl_Clear : HFn Try.prog f_ref14_Ctrl_Clear [0, 1, 4, 6, 22] hc_ref14_Ctrl_Clear [] := hfn_opt (hs := [[], [6, 22], [], [6], [], [22], [], []]) fol Try.func97 (by kernel_rfl)

/-- (*signalbox/signalboxref13.Boxes).Take [0, 2, 3, 4, 5, 6, 7, 13, 35, 38, 39, 41, 42, 43, 59] -/
def hc_ref13_Boxes_Take : HC :=
 (.seq (.reg 1 [Xeff [(1, (Xi 0))] (some 2) 0 (.alloc [(.int .i64 0), (.int .i64 0), (.int .i64 0), (.str []), (.int .i64 0), (.int .i64 0), (.bool false)]) [],
   Xset [(3, (Xc (.bool false)))]] [1, 3])
 (.seq (.cond (Xk .eql (Xlen (Xf 3 (Xn (Xv 0)))) 0) [7]
  (.seq (.reg 0 [Xeff [(1, (Xi (-1)))] none 0 (.store 7 (.t 0) (.t 1)) [(Xv 2), (.o (.build [(.int .i64 0), (.int .i64 0), (.int .i64 0), (.str []), (.int .i64 0), (.int .i64 0), (.bool false)] []) [])],
    Xset [(3, (Xc (.bool false)))]] [])
  .ret)
  .skip)
 (.seq (.reg 0 [Xset [(4, (Xl (.o (.iaddr 1 (.t 0) (.c (.int .i64 0))) [(Xf 3 (Xn (Xv 0)))])))]] [])
 (.seq (.reg 0 [Xeff [] none 0 (.store 1 (.t 0) (.t 1)) [(Xa 3 (Xn (Xv 0))), (.o (.slc 1 (.t 0) (some (.c (.int .i64 1))) none none) [(Xf 3 (Xn (Xv 0)))])]] [])
 (.seq (.reg 1 [Xeff [(8, (Xln 7 (Xx 7 (Xf 1 (Xn (Xv 0))) (Xv 4)))), (9, (Xa 0 (Xn (Xv 0)))), (10, (Xf 0 (Xn (Xv 0)))), (11, (Xx 1 (Xf 0 (Xn (Xv 0))) (Xv 4))), (12, (Xl (Xx 1 (Xf 0 (Xn (Xv 0))) (Xv 4)))), (13, (Xk .eql (Xl (Xx 1 (Xf 0 (Xn (Xv 0))) (Xv 4))) 2))] (some 5) 0 (.alloc [(.int .i64 0), (.int .i64 0), (.int .i64 0), (.str []), (.int .i64 0), (.int .i64 0), (.bool false)]) [],
   ⟨[], [], (some ⟨none, none, 1, .store 7 (.t 0) (.t 1), [(Xv 5), (Xv 8)], [((Xl (Xv 11)), 12), ((Xl (Xv 9)), 10)]⟩)⟩,
   Xset [(6, (Xv 13))]] [8, 9, 10, 11, 12, 13])
 (.seq (.reg 0 [Xeff [] none 0 (.store 1 (.t 0) (.c (.int .i64 0))) [(Xx 1 (Xf 0 (Xn (Xv 0))) (Xv 4))]] [])
 (.seq (.reg 0 [Xeff [] none 0 (.store 7 (.t 0) (.t 1)) [(Xx 7 (Xf 1 (Xn (Xv 0))) (Xv 4)), (.o (.build [(.int .i64 0), (.int .i64 0), (.int .i64 0), (.str []), (.int .i64 0), (.int .i64 0), (.bool false)] []) [])]] [0])
 (.seq (.reg 0 [Xeff [(1, (Xv 4)), (14, (Xv 6))] none 0 (.store 7 (.t 0) (.t 1)) [(Xv 2), (Xln 7 (Xv 5))],
   Xset [(3, (Xv 14))]] [4, 5, 6, 14])
 .ret))))))))
theorem ok_ref13_Boxes_Take : HFn Try.prog f_ref13_Boxes_Take [0, 2, 3, 4, 5, 6, 7, 13, 35, 38, 39, 41, 42, 43, 59] hc_ref13_Boxes_Take [.t 1, .cell 2 (some 7), .t 3] := hfn_opt (hs := [[2, 4], [], [13], [], [], [], [0, 1, 2, 4, 7, 8, 9, 11, 3, 5, 6, 10, 12, 13, 14, 15, 16, 17], [0, 1, 3, 7, 0, 31, 63, 0, 128, 384, 896, 0, 3968, 8064, 16256, 0, 32895, 131071], [35, 38, 39, 41, 42, 43], [], [0], [0, 2, 3, 1, 4, 5], [0, 0, 0, 1, 11, 31], [5, 6, 7, 59]]) fol Try.func98 (by kernel_rfl)

/-- (*signalbox/signalboxref14.Ctrl).Fetch [0, 2, 3, 4, 10, 17] -/
def hc_ref14_Ctrl_Fetch : HC :=
 (.seq (.reg 1 [Xeff [] (some 1) 0 (.alloc [(.int .i64 0), (.int .i64 0), (.int .i64 0), (.str [])]) [],
   Xset [(2, (Xc (.bool false)))]] [2])
 (.seq (.cond (Xk .eql (Xlen (Xf 1 (Xn (Xv 0)))) 0) [4]
  (.seq (.reg 0 [Xeff [] none 0 (.store 4 (.t 0) (.t 1)) [(Xv 1), (.o (.build [(.int .i64 0), (.int .i64 0), (.int .i64 0), (.str [])] []) [])],
    Xset [(2, (Xc (.bool false)))]] [])
  .ret)
  .skip)
 (.seq (.reg 1 [Xeff [(5, (Xln 4 (.o (.iaddr 4 (.t 0) (.c (.int .i64 0))) [(Xf 1 (Xn (Xv 0)))])))] (some 3) 0 (.alloc [(.int .i64 0), (.int .i64 0), (.int .i64 0), (.str [])]) [],
   Xeff [] none 1 (.store 4 (.t 0) (.t 1)) [(Xv 3), (Xv 5)]] [5])
 (.seq (.reg 0 [Xeff [] none 0 (.store 1 (.t 0) (.t 1)) [(Xa 1 (Xn (Xv 0))), (.o (.slc 4 (.t 0) (some (.c (.int .i64 1))) none none) [(Xf 1 (Xn (Xv 0)))])]] [0])
 (.seq (.reg 0 [Xeff [] none 0 (.store 4 (.t 0) (.t 1)) [(Xv 1), (Xln 4 (Xv 3))],
   Xset [(2, (Xc (.bool true)))]] [3])
 .ret)))))
theorem ok_ref14_Ctrl_Fetch : HFn Try.prog f_ref14_Ctrl_Fetch [0, 2, 3, 4, 10, 17] hc_ref14_Ctrl_Fetch [.cell 1 (some 4), .t 2] := hfn_opt (hs := [[3], [], [10], [], [17], [0], [4]]) fol Try.func99 (by kernel_rfl)

/-- (*signalbox/signalboxref14.Ctrl).Abort [0, 2, 3, 4, 14, 22, 23, 27] -/
def hc_ref14_Ctrl_Abort_b1 : HC :=
 (.seq (.cond (Xb .lss (Xv 3) (Xlen (Xf 0 (Xn (Xf 0 (Xn (Xv 0))))))) [4]
  .skip
  (.exit 0))
 (.seq (.block 1 (.seq (.reg 0 [Xcall [] (some 5) f_ref13_Boxes_End [(Xf 0 (Xn (Xv 0))), (Xv 3)] [(.t 0), (.t 1), (.c (.int .i64 3))],
   Xset [(6, (Xk .eql (Xv 5) 0))]] [5])
 (.cond (Xv 6) [6]
  (.reg 0 [Xset [(2, (Xk .add (Xv 2) 1))]] [])
  .skip)))
 (.reg 0 [Xset [(3, (Xk .add (Xv 3) 1))]] [])))
def hc_ref14_Ctrl_Abort_l1 : HC := .loop [1, 4, 5, 6, 7] hc_ref14_Ctrl_Abort_b1
def hc_ref14_Ctrl_Abort : HC :=
 (.seq (.reg 0 [Xset [(1, (Xi 0))]] [1])
 (.seq (.reg 0 [Xset [(2, (Xi 0))]] [])
 (.seq (.seq (.reg 0 [Xset [(3, (Xi 0))]] [])
 (.block 0 hc_ref14_Ctrl_Abort_l1))
 (.seq (.cond (Xk .gtr (Xv 2) 0) [7]
  (.reg 0 [Xcall [] none f_ref14_Ctrl_Set [(Xv 0)] [(.t 0), (.c (.int .i64 1))]] [0])
  .skip)
 (.seq (.reg 0 [Xset [(1, (Xv 2))]] [2])
 .ret)))))
theorem ok_ref14_Ctrl_Abort : HFn Try.prog f_ref14_Ctrl_Abort [0, 2, 3, 4, 14, 22, 23, 27] hc_ref14_Ctrl_Abort [.t 1] := hfn_opt (hs := [[2], [], [], [2, 14, 22, 23, 27], [], [14], [22], [23], [], [], [], [27], [0], [3]]) fol Try.func100 (by kernel_rfl)

/-- (*signalbox/box.Boxes).Put [0, 1, 3, 4, 5, 6, 7, 10, 13, 19, 21] -/
def hc_box_Boxes_Put : HC :=
 (.seq (.reg 1 [Xeff [] (some 2) 0 (.box (.t 0)) [(Xv 1)],
   Xset [(3, (Xi 0)), (4, (Xi 0))]] [1, 3, 4])
 (.seq (.block 0 (.cond (Xnil (Xv 0)) [6]
  (.seq (.reg 0 [Xset [(3, (Xi 0)), (4, (Xi 1))]] [])
  .ret)
  (.seq (.reg 0 [Xcall [] (some 8) f_frame_Key [(Xln 4 (Xa 0 (Xv 2)))] [(.t 0)],
    Xset [(7, (Xk .lss (Xv 8) 0))]] [8])
  (.cond (Xv 7) [7]
   (.seq (.reg 0 [Xset [(3, (Xi 0)), (4, (Xi 4))]] [])
   .ret)
   .skip))))
 (.seq (.reg 0 [Xcall [] (some 9) f_slices_IndexFunc_of_cell [(Xf 0 (Xn (Xv 0)))] [(.t 0), (.c (.fn f_box_Boxes_Put_1 [] []))],
   Xset [(5, (Xv 9))]] [9])
 (.seq (.cond (Xk .lss (Xv 5) 0) [10]
  (.seq (.reg 0 [Xset [(3, (Xi 0)), (4, (Xi 5))]] [])
  .ret)
  .skip)
 (.seq (.reg 0 [Xeff [] none 0 (.store 9 (.t 0) (.t 1)) [(Xx 9 (Xf 0 (Xn (Xv 0))) (Xv 5)), (.o (.build [(.int .i64 0), (.int .i64 0), (.int .i64 0), (.int .i64 0), (.str []), (.int .i64 0), (.int .i64 0), (.bool false), (.int .i64 0)] [(0, 1, (.c (.int .i64 1))), (1, 7, (.t 0)), (8, 1, (.t 1))]) [(Xln 7 (Xv 2)), (Xf 2 (Xn (Xv 0)))])]] [2])
 (.seq (.reg 0 [Xeff [] none 0 (.store 1 (.t 0) (.t 1)) [(Xa 2 (Xn (Xv 0))), (Xk .add (Xf 2 (Xn (Xv 0))) 1)]] [0])
 (.seq (.reg 0 [Xset [(3, (Xv 5)), (4, (Xi 0))]] [5])
 .ret)))))))
theorem ok_box_Boxes_Put : HFn Try.prog f_box_Boxes_Put [0, 1, 3, 4, 5, 6, 7, 10, 13, 19, 21] hc_box_Boxes_Put [.t 3, .t 4] := hfn_opt (hs := [[1, 4, 5], [], [7], [], [13], [10], [], [19], [], [21], [], [0, 1, 2, 4, 6, 7, 8, 3, 5, 9, 10, 11, 12], [0, 1, 3, 7, 0, 0, 0, 64, 192, 448, 992, 2047, 4095], [3], [0], [6]]) fol Try.func103 (by kernel_rfl)

/-- (*signalbox/box.Boxes).Best [0, 2, 3, 4, 5, 6, 7, 8, 10, 15, 16, 17, 18, 19, 21, 25, 28, 38, 40, 44] -/
def hc_box_Boxes_Best_b1 : HC :=
 (.seq (.cond (Xb .lss (Xv 11) (Xv 10)) [12]
  .skip
  (.exit 0))
 (.seq (.block 1 (.seq (.reg 1 [Xeff [(13, (Xv 11)), (14, (Xln 9 (Xx 9 (Xv 9) (Xv 11))))] (some 7) 0 (.alloc [(.int .i64 0), (.int .i64 0), (.int .i64 0), (.int .i64 0), (.str []), (.int .i64 0), (.int .i64 0), (.bool false), (.int .i64 0)]) [],
   Xeff [(6, (Xv 13))] none 1 (.store 9 (.t 0) (.t 1)) [(Xv 7), (Xv 14)]] [13, 14])
 (.seq (.reg 0 [⟨[(15, (Xk .eql (Xf 0 (Xv 7)) 1)), (16, (.g (Xk .eql (Xf 0 (Xv 7)) 1) true (Xk .lss (Xv 4) 0)))], [], (some ⟨(some 17), (some ((.g (Xk .eql (Xf 0 (Xv 7)) 1) true (Xk .lss (Xv 4) 0)), false)), 0, .call (.t 0) [(.t 1), (.t 2)], [(Xv 5), (Xln 9 (Xv 7)), (Xln 9 (Xx 9 (Xf 0 (Xn (Xv 0))) (Xv 4)))], []⟩)⟩,
   Xset [(18, (Xand (Xv 15) (Xor (Xv 16) (Xv 17))))]] [7, 15, 16, 17])
 (.cond (Xv 18) [18]
  (.reg 0 [Xset [(4, (Xv 6))]] [6])
  .skip))))
 (.reg 0 [Xset [(11, (Xk .add (Xv 11) 1))]] [])))
def hc_box_Boxes_Best_l1 : HC := .loop [1, 3, 6, 7, 8, 12, 13, 14, 15, 16, 17, 18, 19] hc_box_Boxes_Best_b1
def hc_box_Boxes_Best : HC :=
 (.seq (.reg 1 [Xeff [(1, (Xi 0))] (some 2) 0 (.alloc [(.int .i64 0), (.int .i64 0), (.int .i64 0), (.str []), (.int .i64 0), (.int .i64 0), (.bool false)]) [],
   Xset [(3, (Xc (.bool false)))]] [1, 3])
 (.seq (.cond (Xnil (Xv 0)) [8]
  (.seq (.reg 0 [Xeff [(1, (Xi 0))] none 0 (.store 7 (.t 0) (.t 1)) [(Xv 2), (.o (.build [(.int .i64 0), (.int .i64 0), (.int .i64 0), (.str []), (.int .i64 0), (.int .i64 0), (.bool false)] []) [])],
    Xset [(3, (Xc (.bool false)))]] [])
  .ret)
  .skip)
 (.seq (.reg 0 [Xset [(4, (Xi (-1)))]] [])
 (.seq (.reg 0 [Xset [(5, (Xc (.fn f_box_Boxes_Best_1 [] [])))]] [])
 (.seq (.seq (.reg 0 [Xset [(9, (Xf 0 (Xn (Xv 0)))), (10, (Xlen (Xf 0 (Xn (Xv 0))))), (11, (Xi 0))]] [])
 (.block 0 hc_box_Boxes_Best_l1))
 (.seq (.cond (Xk .lss (Xv 4) 0) [19]
  (.seq (.reg 0 [Xeff [(1, (Xi 0))] none 0 (.store 7 (.t 0) (.t 1)) [(Xv 2), (.o (.build [(.int .i64 0), (.int .i64 0), (.int .i64 0), (.str []), (.int .i64 0), (.int .i64 0), (.bool false)] []) [])],
    Xset [(3, (Xc (.bool false)))]] [])
  .ret)
  .skip)
 (.seq (.reg 0 [Xeff [(1, (Xv 4))] none 0 (.store 7 (.t 0) (.t 1)) [(Xv 2), (Xln 7 (Xa 1 (Xx 9 (Xf 0 (Xn (Xv 0))) (Xv 4))))],
   Xset [(3, (Xc (.bool true)))]] [0, 4])
 .ret)))))))
theorem ok_box_Boxes_Best : HFn Try.prog f_box_Boxes_Best [0, 2, 3, 4, 5, 6, 7, 8, 10, 15, 16, 17, 18, 19, 21, 25, 28, 38, 40, 44] hc_box_Boxes_Best [.t 1, .cell 2 (some 7), .t 3] := hfn_opt (hs := [[2, 4], [], [10], [], [], [], [], [2, 4, 7, 8, 10, 18, 19, 21, 25, 28, 38, 40, 44], [], [18], [19, 21], [0, 1, 2, 3, 4, 5, 6, 7, 9, 10, 11, 13, 8, 12, 14, 15, 16, 17, 18], [0, 1, 3, 7, 15, 31, 63, 127, 127, 127, 639, 1663, 3711, 127, 15999, 32383, 65535, 131071, 262143], [8, 25, 28, 38], [40], [7], [], [], [44], [], [0, 1, 2, 3, 5, 9, 4, 6, 7, 8, 10, 11], [0, 0, 2, 6, 14, 0, 62, 126, 254, 1, 1023, 2047], [0, 5]]) fol Try.func104 (by kernel_rfl)

/-- (*signalbox/box.Boxes).Take [0, 2, 3, 4, 5, 6, 10, 24, 30, 39] -/
def hc_box_Boxes_Take : HC :=
 (.seq (.reg 1 [Xeff [] (some 1) 0 (.alloc [(.int .i64 0), (.int .i64 0), (.int .i64 0), (.int .i64 0), (.str []), (.int .i64 0), (.int .i64 0), (.bool false), (.bool false)]) [],
   Xset [(2, (Xi 0))]] [2])
 (.seq (.block 0 (.cond (Xnil (Xv 0)) [5]
  (.seq (.reg 0 [Xeff [] none 0 (.store 9 (.t 0) (.t 1)) [(Xv 1), (.o (.build [(.int .i64 0), (.int .i64 0), (.int .i64 0), (.int .i64 0), (.str []), (.int .i64 0), (.int .i64 0), (.bool false), (.bool false)] []) [])],
    Xset [(2, (Xi 1))]] [])
  .ret)
  (.cond (Xk .eql (Xlen (Xf 1 (Xn (Xv 0)))) 0) [6]
   (.seq (.reg 0 [Xeff [] none 0 (.store 9 (.t 0) (.t 1)) [(Xv 1), (.o (.build [(.int .i64 0), (.int .i64 0), (.int .i64 0), (.int .i64 0), (.str []), (.int .i64 0), (.int .i64 0), (.bool false), (.bool false)] []) [])],
     Xset [(2, (Xi 6))]] [])
   .ret)
   .skip)))
 (.seq (.reg 0 [Xset [(3, (Xl (.o (.iaddr 1 (.t 0) (.c (.int .i64 0))) [(Xf 1 (Xn (Xv 0)))])))]] [])
 (.seq (.reg 0 [Xcall [(7, (Xv 0))] (some 8) f_slices_Clone_of_int [(.o (.slc 1 (.t 0) (some (.c (.int .i64 1))) none none) [(Xf 1 (Xn (Xv 0)))])] [(.t 0)],
   Xeff [] none 0 (.store 1 (.t 0) (.t 1)) [(Xa 1 (Xn (Xv 7))), (Xv 8)]] [7, 8])
 (.seq (.reg 1 [Xeff [(9, (Xln 9 (Xx 9 (Xf 0 (Xn (Xv 0))) (Xv 3))))] (some 4) 0 (.alloc [(.int .i64 0), (.int .i64 0), (.int .i64 0), (.int .i64 0), (.str []), (.int .i64 0), (.int .i64 0), (.bool false), (.int .i64 0)]) [],
   Xeff [] none 1 (.store 9 (.t 0) (.t 1)) [(Xv 4), (Xv 9)]] [9])
 (.seq (.reg 0 [Xeff [] none 0 (.store 9 (.t 0) (.t 1)) [(Xx 9 (Xf 0 (Xn (Xv 0))) (Xv 3)), (.o (.build [(.int .i64 0), (.int .i64 0), (.int .i64 0), (.int .i64 0), (.str []), (.int .i64 0), (.int .i64 0), (.bool false), (.int .i64 0)] []) [])]] [0])
 (.seq (.reg 0 [Xeff [] none 0 (.store 9 (.t 0) (.t 1)) [(Xv 1), (.o (.build [(.int .i64 0), (.int .i64 0), (.int .i64 0), (.int .i64 0), (.str []), (.int .i64 0), (.int .i64 0), (.bool false), (.bool false)] [(0, 1, (.t 0)), (1, 7, (.t 1)), (8, 1, (.t 2))]) [(Xv 3), (Xln 7 (Xa 1 (Xv 4))), (Xk .eql (Xf 0 (Xv 4)) 2)])],
   Xset [(2, (Xi 0))]] [3, 4])
 .ret)))))))
theorem ok_box_Boxes_Take : HFn Try.prog f_box_Boxes_Take [0, 2, 3, 4, 5, 6, 10, 24, 30, 39] hc_box_Boxes_Take [.cell 1 (some 9), .t 2] := hfn_opt (hs := [[3], [], [6], [], [], [10], [], [], [24, 30], [39], [0], [4, 5]]) fol Try.func105 (by kernel_rfl)

/-- (*signalbox/box.Boxes).Sent [0, 1, 4, 7] -/
def hc_box_Boxes_Sent : HC :=
 (.seq (.reg 0 [Xset [(2, (Xi 0))]] [2])
 (.seq (.reg 0 [Xcall [] (some 3) f_box_Boxes_ends [(Xv 0), (Xv 1)] [(.t 0), (.t 1), (.c (.int .i64 2))],
   Xset [(2, (Xv 3))]] [0, 1, 3])
 .ret))
theorem ok_box_Boxes_Sent : HFn Try.prog f_box_Boxes_Sent [0, 1, 4, 7] hc_box_Boxes_Sent [.t 2] := hfn_opt (hs := [[4], [0, 1, 7]]) fol Try.func106 (by kernel_rfl)

/-- (*signalbox/box.Boxes).Abort [0, 1, 4, 7] -/
def hc_box_Boxes_Abort : HC :=
 (.seq (.reg 0 [Xset [(2, (Xi 0))]] [2])
 (.seq (.reg 0 [Xcall [] (some 3) f_box_Boxes_ends [(Xv 0), (Xv 1)] [(.t 0), (.t 1), (.c (.int .i64 3))],
   Xset [(2, (Xv 3))]] [0, 1, 3])
 .ret))
theorem ok_box_Boxes_Abort : HFn Try.prog f_box_Boxes_Abort [0, 1, 4, 7] hc_box_Boxes_Abort [.t 2] := hfn_opt (hs := [[4], [0, 1, 7]]) fol Try.func107 (by kernel_rfl)

/-- (*signalbox/signalboxref13.Boxes).Best [0, 2, 3, 4, 5, 12, 24, 33, 36, 37, 40, 41, 42, 44] -/
def hc_ref13_Boxes_Best_b1 : HC :=
 (.seq (.cond (Xb .lss (Xv 3) (Xlen (Xf 2 (Xn (Xv 0))))) [5]
  .skip
  (.exit 0))
 (.seq (.block 1 (.seq (.reg 0 [Xset [(4, (Xl (Xx 1 (Xf 2 (Xn (Xv 0))) (Xv 3))))]] [])
 (.seq (.reg 0 [⟨[(6, (Xk .lss (Xv 2) 0)), (8, (.g (Xk .lss (Xv 2) 0) false (Xa 1 (Xn (Xv 0))))), (9, (.g (Xk .lss (Xv 2) 0) false (Xf 1 (Xn (Xv 0))))), (10, (.g (Xk .lss (Xv 2) 0) false (Xa 0 (Xx 7 (Xf 1 (Xn (Xv 0))) (Xv 2))))), (11, (.g (Xk .lss (Xv 2) 0) false (Xln 4 (Xa 0 (Xx 7 (Xf 1 (Xn (Xv 0))) (Xv 2))))))], [], (some ⟨(some 7), (some ((Xk .lss (Xv 2) 0), false)), 0, .call (.c (.fn f_ref02_Key [] [])) [(.t 0)], [(Xln 4 (Xa 0 (Xx 7 (Xf 1 (Xn (Xv 0))) (Xv 4))))], [((.g (Xv 6) false (Xln 4 (Xv 10))), 11), ((.g (Xv 6) false (Xl (Xv 8))), 9)]⟩)⟩,
   ⟨[], [], (some ⟨(some 12), (some ((Xv 6), false)), 0, .call (.c (.fn f_ref02_Key [] [])) [(.t 0)], [(Xv 11)], []⟩)⟩,
   Xset [(13, (Xor (Xv 6) (Xb .lss (Xv 7) (Xv 12))))]] [6, 7, 8, 9, 10, 11, 12])
 (.cond (Xv 13) [13]
  (.reg 0 [Xset [(2, (Xv 4))]] [4])
  .skip))))
 (.reg 0 [Xset [(3, (Xk .add (Xv 3) 1))]] [])))
def hc_ref13_Boxes_Best_l1 : HC := .loop [1, 4, 5, 6, 7, 8, 9, 10, 11, 12, 13] hc_ref13_Boxes_Best_b1
def hc_ref13_Boxes_Best : HC :=
 (.seq (.reg 0 [Xset [(1, (Xi 0))]] [1])
 (.seq (.reg 0 [Xset [(2, (Xi (-1)))]] [])
 (.seq (.seq (.reg 0 [Xset [(3, (Xi 0))]] [])
 (.block 0 hc_ref13_Boxes_Best_l1))
 (.seq (.reg 0 [Xset [(1, (Xv 2))]] [2])
 .ret))))
theorem ok_ref13_Boxes_Best : HFn Try.prog f_ref13_Boxes_Best [0, 2, 3, 4, 5, 12, 24, 33, 36, 37, 40, 41, 42, 44] hc_ref13_Boxes_Best [.t 1] := hfn_opt (hs := [[2], [], [], [2, 5, 12, 24, 33, 36, 37, 40, 41, 42, 44], [], [12], [], [0, 1, 2, 3, 4, 5, 7, 12, 13, 14, 16, 6, 8, 9, 10, 15, 17, 18, 19, 11, 20, 21, 22], [0, 1, 3, 7, 15, 31, 63, 7, 255, 511, 1023, 2047, 7, 4103, 12295, 28679, 7, 126983, 258055, 520199, 1048575, 2097151, 4194303], [24, 33, 36, 37, 40, 41, 42], [44], [5], [], [3]]) fol Try.func142 (by kernel_rfl)

/-- (*signalbox/signalboxref13.Boxes).End [0, 1, 2, 6, 7, 8, 29, 43, 54, 55, 63, 64, 69, 73, 75, 76] -/
def hc_ref13_Boxes_End_b1 : HC :=
 (.seq (.cond (Xb .lss (Xv 5) (Xlen (Xf 2 (Xn (Xv 0))))) [7]
  .skip
  (.exit 0))
 (.seq (.block 1 (.cond (Xb .neq (Xl (Xx 1 (Xf 2 (Xn (Xv 0))) (Xv 5))) (Xv 1)) [8]
  (.reg 2 [Xeff [(9, (Xv 4))] (some 10) 0 (.bslice 1 [(.t 0)]) [(Xl (Xx 1 (Xf 2 (Xn (Xv 0))) (Xv 5)))],
    Xeff [] (some 11) 1 (.app 1 8 (.t 0) (.t 1)) [(Xv 9), (Xv 10)],
    Xset [(4, (Xv 11))]] [9, 10, 11])
  .skip))
 (.reg 0 [Xset [(5, (Xk .add (Xv 5) 1))]] [])))
def hc_ref13_Boxes_End_l1 : HC := .loop [2, 3, 6, 7, 8, 9, 10, 11, 12, 13, 14, 15] hc_ref13_Boxes_End_b1
def hc_ref13_Boxes_End : HC :=
 (.seq (.reg 0 [Xset [(3, (Xi 0))]] [3])
 (.seq (.cond (Xor (Xor (Xk .lss (Xv 1) 0) (Xb .geq (Xv 1) (Xlen (Xf 0 (Xn (Xv 0)))))) (Xk .neq (Xl (Xx 1 (Xf 0 (Xn (Xv 0))) (Xv 1))) 1)) [6]
  (.seq (.reg 0 [Xset [(3, (Xi 2))]] [])
  .ret)
  .skip)
 (.seq (.reg 0 [Xeff [] none 0 (.store 1 (.t 0) (.t 1)) [(Xx 1 (Xf 0 (Xn (Xv 0))) (Xv 1)), (Xv 2)]] [2])
 (.seq (.reg 0 [Xset [(4, (Xc .nils))]] [])
 (.seq (.seq (.reg 0 [Xset [(5, (Xi 0))]] [])
 (.block 0 hc_ref13_Boxes_End_l1))
 (.seq (.reg 0 [Xeff [] none 0 (.store 1 (.t 0) (.t 1)) [(Xa 2 (Xn (Xv 0))), (Xv 4)]] [4])
 (.seq (.reg 2 [Xeff [(12, (Xv 0)), (13, (Xf 3 (Xn (Xv 0))))] (some 14) 0 (.bslice 1 [(.t 0)]) [(Xv 1)],
   Xeff [] (some 15) 1 (.app 1 8 (.t 0) (.t 1)) [(Xv 13), (Xv 14)],
   Xeff [] none 2 (.store 1 (.t 0) (.t 1)) [(Xa 3 (Xn (Xv 12))), (Xv 15)]] [0, 1, 12, 13, 14, 15])
 (.seq (.reg 0 [Xset [(3, (Xi 0))]] [])
 .ret))))))))
theorem ok_ref13_Boxes_End : HFn Try.prog f_ref13_Boxes_End [0, 1, 2, 6, 7, 8, 29, 43, 54, 55, 63, 64, 69, 73, 75, 76] hc_ref13_Boxes_End [.t 3] := hfn_opt (hs := [[6], [], [29], [], [2], [], [], [2, 6, 29, 43, 54, 55, 63, 64, 69, 73, 75, 76], [], [43], [], [54], [55, 63, 64], [], [7], [0, 1, 69, 73, 75, 76], []]) fol Try.func143 (by kernel_rfl)

/-- slices.IndexFunc[[]signalbox/box.cell,signalbox/box.cell] [0, 1, 4, 5, 7, 8, 9, 16] -/
def hc_slices_IndexFunc_of_cell_b1 : HC :=
 (.seq (.cond (Xb .lss (Xv 5) (Xv 4)) [6]
  .skip
  (.exit 0))
 (.seq (.block 1 (.seq (.reg 0 [Xset [(3, (Xv 5))]] [])
 (.seq (.reg 0 [Xeff [] (some 7) 0 (.call (.t 0) [(.t 1)]) [(Xv 1), (Xln 9 (Xx 9 (Xv 0) (Xv 3)))]] [])
 (.cond (Xv 7) [7]
  (.seq (.reg 0 [Xset [(2, (Xv 3))]] [3])
  .ret)
  .skip))))
 (.reg 0 [Xset [(5, (Xk .add (Xv 5) 1))]] [])))
def hc_slices_IndexFunc_of_cell_l1 : HC := .loop [2, 3, 6, 7] hc_slices_IndexFunc_of_cell_b1
def hc_slices_IndexFunc_of_cell : HC :=
 (.seq (.reg 0 [Xset [(2, (Xi 0))]] [2])
 (.seq (.seq (.reg 0 [Xset [(4, (Xlen (Xv 0))), (5, (Xi 0))]] [])
 (.block 0 hc_slices_IndexFunc_of_cell_l1))
 (.seq (.reg 0 [Xset [(2, (Xi (-1)))]] [])
 .ret)))
theorem ok_slices_IndexFunc_of_cell : HFn Try.prog f_slices_IndexFunc_of_cell [0, 1, 4, 5, 7, 8, 9, 16] hc_slices_IndexFunc_of_cell [.t 2] := hfn_opt (hs := [[4], [], [4, 5, 9, 16], [], [9], [], [], [16], [5], [], []]) fol Try.func144 (by kernel_rfl)

/-- (*signalbox/box.Boxes).Put$1 [0, 1, 2] -/
def hc_box_Boxes_Put_1 : HC :=
 (.seq (.reg 1 [Xeff [] (some 1) 0 (.box (.t 0)) [(Xv 0)],
   Xset [(2, (Xc (.bool false)))]] [0, 2])
 (.seq (.reg 0 [Xset [(2, (Xk .eql (Xf 0 (Xv 1)) 0))]] [1])
 .ret))
theorem ok_box_Boxes_Put_1 : HFn Try.prog f_box_Boxes_Put_1 [0, 1, 2] hc_box_Boxes_Put_1 [.t 2] := hfn_opt (hs := [[0, 2], [1]]) fol Try.func145 (by kernel_rfl)

/-- (*signalbox/box.Boxes).Best$1 [0, 1, 2, 3, 4, 5, 6, 10, 12, 13, 14] -/
def hc_box_Boxes_Best_1 : HC :=
 (.seq (.reg 2 [Xeff [] (some 2) 0 (.box (.t 0)) [(Xv 0)],
   Xeff [] (some 3) 1 (.box (.t 0)) [(Xv 1)],
   Xset [(4, (Xc (.bool false)))]] [0, 1, 4])
 (.seq (.reg 0 [⟨[(8, (Xa 0 (Xa 1 (Xv 3)))), (9, (Xln 4 (Xa 0 (Xa 1 (Xv 3)))))], [], (some ⟨(some 7), none, 0, .call (.c (.fn f_frame_Key [] [])) [(.t 0)], [(Xln 4 (Xa 0 (Xa 1 (Xv 2))))], [((Xln 4 (Xv 8)), 9)]⟩)⟩,
   Xcall [] (some 10) f_frame_Key [(Xv 9)] [(.t 0)],
   Xset [(5, (Xv 7)), (6, (Xv 10))]] [7, 8, 9, 10])
 (.seq (.reg 0 [Xset [(4, (Xor (Xb .lss (Xv 5) (Xv 6)) (Xand (Xb .eql (Xv 5) (Xv 6)) (Xb .lss (Xf 8 (Xv 2)) (Xf 8 (Xv 3))))))]] [2, 3, 5, 6])
 .ret)))
theorem ok_box_Boxes_Best_1 : HFn Try.prog f_box_Boxes_Best_1 [0, 1, 2, 3, 4, 5, 6, 10, 12, 13, 14] hc_box_Boxes_Best_1 [.t 4] := hfn_opt (hs := [[0, 1, 4], [0, 1, 4, 5, 2, 6, 3, 7, 8, 9], [0, 1, 3, 7, 0, 16, 48, 127, 255, 511], [10, 12, 13, 14], [2, 3, 5, 6]]) fol Try.func146 (by kernel_rfl)

/-- slices.Clone[[]int,int] [0, 2, 4, 5, 7] -/
def hc_slices_Clone_of_int : HC :=
 (.seq (.reg 0 [Xset [(1, (Xc .nils))]] [1])
 (.seq (.cond (.o (.eqv false .slice (.t 0) (.c .nils)) [(Xv 0)]) [2]
  (.seq (.reg 0 [Xset [(1, (Xc .nils))]] [])
  .ret)
  .skip)
 (.seq (.reg 2 [Xeff [] (some 3) 0 (.bslice 1 []) [],
   Xeff [] (some 4) 1 (.app 1 8 (.t 0) (.t 1)) [(Xv 3), (Xv 0)],
   Xset [(1, (Xv 4))]] [0, 3, 4])
 .ret)))
theorem ok_slices_Clone_of_int : HFn Try.prog f_slices_Clone_of_int [0, 2, 4, 5, 7] hc_slices_Clone_of_int [.t 1] := hfn_opt (hs := [[2], [], [4], [], [0, 5, 7]]) fol Try.func147 (by kernel_rfl)

/-- (*signalbox/box.Boxes).ends [0, 1, 2, 6, 7, 10, 22, 40, 44, 46, 47] -/
def hc_box_Boxes_ends : HC :=
 (.seq (.reg 0 [Xset [(3, (Xi 0))]] [3])
 (.seq (.block 0 (.seq (.block 3 (.block 2 (.seq (.block 1 (.seq (.seq (.cond (Xnil (Xv 0)) [4]
  (.exit 1)
  .skip)
 (.seq (.cond (Xor (Xk .lss (Xv 1) 0) (Xb .geq (Xv 1) (Xlen (Xf 0 (Xn (Xv 0)))))) [5]
  (.exit 2)
  .skip)
 (.cond (Xk .neq (Xf 0 (Xx 9 (Xf 0 (Xn (Xv 0))) (Xv 1))) 1) [6]
  (.exit 3)
  .skip)))
 (.exit 0)))
 (.seq (.seq (.reg 0 [Xset [(3, (Xi 1))]] [])
 .ret)
 (.exit 0)))))
 (.seq (.seq (.reg 0 [Xset [(3, (Xi 2))]] [])
 .ret)
 (.exit 0))))
 (.seq (.reg 0 [Xeff [] none 0 (.store 1 (.t 0) (.t 1)) [(Xa 0 (Xx 9 (Xf 0 (Xn (Xv 0))) (Xv 1))), (Xv 2)]] [2])
 (.seq (.reg 2 [Xeff [(7, (Xv 0)), (8, (Xf 1 (Xn (Xv 0))))] (some 9) 0 (.bslice 1 [(.t 0)]) [(Xv 1)],
   Xeff [] (some 10) 1 (.app 1 8 (.t 0) (.t 1)) [(Xv 8), (Xv 9)],
   Xeff [] none 2 (.store 1 (.t 0) (.t 1)) [(Xa 1 (Xn (Xv 7))), (Xv 10)]] [0, 1, 7, 8, 9, 10])
 (.seq (.reg 0 [Xset [(3, (Xi 0))]] [])
 .ret)))))
theorem ok_box_Boxes_ends : HFn Try.prog f_box_Boxes_ends [0, 1, 2, 6, 7, 10, 22, 40, 44, 46, 47] hc_box_Boxes_ends [.t 3] := hfn_opt (hs := [[6], [], [7], [], [10], [], [22], [], [], [2], [0, 1, 40, 44, 46, 47], []]) fol Try.func148 (by kernel_rfl)


def tab0_QIe : TabH := [(f_law14_CtrlPlays, [0, 1, 2, 4, 5, 6, 8, 11, 12, 13, 15, 16, 17, 18, 19, 20, 21, 23, 27, 29, 31, 34, 35, 38, 40, 43, 44, 45, 48, 50, 53, 54, 57, 59, 62, 63, 64, 66, 69, 72, 73, 75, 76, 77, 78, 79], hc_law14_CtrlPlays, [.t 3]),
  (f_law14_CtrlBits, [0, 1, 2, 4, 5, 6, 8, 9, 10, 11, 14, 15, 16, 18, 19, 20, 21, 22, 23, 24, 26, 28, 34, 38, 66, 68], hc_law14_CtrlBits, [.t 3]),
  (f_ref09_Ints, [0, 1, 4, 5, 10, 14, 25], hc_ref09_Ints, [.t 2]),
  (f_law14_few, [0, 1, 2, 4, 5, 6, 14], hc_law14_few, [.t 3]),
  (f_ref14_New, [0, 1, 2, 5, 6, 7, 8, 9, 10, 12], hc_ref14_New, [.t 2]),
  (f_law14_do, [0, 1, 2, 5, 6, 7, 8, 9, 10, 11, 12, 13, 14, 15, 16, 17, 18, 19, 20, 21, 22, 23, 25, 26, 32, 42, 53, 57, 58, 59, 62, 63, 64, 73, 76, 78, 80, 86, 87, 89, 90, 91, 93, 99, 109, 113, 114, 115, 121, 122, 123, 124, 152, 156, 157, 158, 161, 162, 163, 180, 183, 185], hc_law14_do, [.t 4]),
  (f_ref13_Boxes_Free, [0, 2, 3, 4, 11, 21], hc_ref13_Boxes_Free, [.t 1]),
  (f_ctrl_Ctrl_States, [0, 2, 4, 10], hc_ctrl_Ctrl_States, [.t 1]),
  (f_ctrl_Ctrl_Off, [0, 3], hc_ctrl_Ctrl_Off, []),
  (f_ctrl_Ctrl_Clear, [0, 1, 5], hc_ctrl_Ctrl_Clear, []),
  (f_ctrl_Ctrl_Load, [0, 1, 3, 4, 5, 7, 14], hc_ctrl_Ctrl_Load, [.t 3, .t 4]),
  (f_ctrl_Ctrl_Offer, [0, 2, 3, 5, 6, 8, 16, 17, 18, 19, 22], hc_ctrl_Ctrl_Offer, [.cell 1 (some 4), .t 2]),
  (f_ctrl_Ctrl_Ended, [0, 2, 3, 5, 12, 14], hc_ctrl_Ctrl_Ended, [.cell 1 (some 9), .t 2]),
  (f_ctrl_Ctrl_Won, [0, 2, 3, 4, 5, 7, 14, 15, 16, 17, 18], hc_ctrl_Ctrl_Won, [.t 1]),
  (f_ctrl_Ctrl_Abort, [0, 2, 3, 4, 5, 7, 9, 10, 11, 12, 17, 29], hc_ctrl_Ctrl_Abort, [.t 1]),
  (f_ref13_New, [0, 2, 4, 6, 8, 9, 10, 12], hc_ref13_New, [.t 1]),
  (f_ref14_Room, [0, 2, 4, 6], hc_ref14_Room, [.t 1]),
  (f_ref13_Boxes_Put, [0, 1, 3, 4, 5, 6, 9, 10, 17, 27, 41, 45, 47, 48], hc_ref13_Boxes_Put, [.t 3, .t 4]),
  (f_ref14_Ctrl_Offer, [0, 2, 3, 4, 9, 11], hc_ref14_Ctrl_Offer, [.cell 1 (some 4), .t 2]),
  (f_ref14_Ctrl_Won, [0, 2, 3, 8, 10], hc_ref14_Ctrl_Won, [.t 1]),
  (f_ref14_Ctrl_Hear, [0, 1, 3, 4, 5, 7, 9, 16, 22, 25, 35, 46, 51, 52, 53, 55, 56], hc_ref14_Ctrl_Hear, [.t 3]),
  (f_ref14_Ctrl_Set, [0, 1, 11], hc_ref14_Ctrl_Set, []),
  (f_ref14_Ctrl_Clear, [0, 1, 4, 6, 22], hc_ref14_Ctrl_Clear, []),
  (f_ref13_Boxes_Take, [0, 2, 3, 4, 5, 6, 7, 13, 35, 38, 39, 41, 42, 43, 59], hc_ref13_Boxes_Take, [.t 1, .cell 2 (some 7), .t 3]),
  (f_ref14_Ctrl_Fetch, [0, 2, 3, 4, 10, 17], hc_ref14_Ctrl_Fetch, [.cell 1 (some 4), .t 2]),
  (f_ref14_Ctrl_Abort, [0, 2, 3, 4, 14, 22, 23, 27], hc_ref14_Ctrl_Abort, [.t 1]),
  (f_box_Boxes_Put, [0, 1, 3, 4, 5, 6, 7, 10, 13, 19, 21], hc_box_Boxes_Put, [.t 3, .t 4]),
  (f_box_Boxes_Best, [0, 2, 3, 4, 5, 6, 7, 8, 10, 15, 16, 17, 18, 19, 21, 25, 28, 38, 40, 44], hc_box_Boxes_Best, [.t 1, .cell 2 (some 7), .t 3]),
  (f_box_Boxes_Take, [0, 2, 3, 4, 5, 6, 10, 24, 30, 39], hc_box_Boxes_Take, [.cell 1 (some 9), .t 2]),
  (f_box_Boxes_Sent, [0, 1, 4, 7], hc_box_Boxes_Sent, [.t 2]),
  (f_box_Boxes_Abort, [0, 1, 4, 7], hc_box_Boxes_Abort, [.t 2]),
  (f_ref13_Boxes_Best, [0, 2, 3, 4, 5, 12, 24, 33, 36, 37, 40, 41, 42, 44], hc_ref13_Boxes_Best, [.t 1]),
  (f_ref13_Boxes_End, [0, 1, 2, 6, 7, 8, 29, 43, 54, 55, 63, 64, 69, 73, 75, 76], hc_ref13_Boxes_End, [.t 3]),
  (f_slices_IndexFunc_of_cell, [0, 1, 4, 5, 7, 8, 9, 16], hc_slices_IndexFunc_of_cell, [.t 2]),
  (f_box_Boxes_Put_1, [0, 1, 2], hc_box_Boxes_Put_1, [.t 2]),
  (f_box_Boxes_Best_1, [0, 1, 2, 3, 4, 5, 6, 10, 12, 13, 14], hc_box_Boxes_Best_1, [.t 4]),
  (f_slices_Clone_of_int, [0, 2, 4, 5, 7], hc_slices_Clone_of_int, [.t 1]),
  (f_box_Boxes_ends, [0, 1, 2, 6, 7, 10, 22, 40, 44, 46, 47], hc_box_Boxes_ends, [.t 3])]
def tab_QIe : TabH := tab0_QIe ++ tab_QIa ++ tab_QId
theorem tabOk0_QIe : TabH.OK Try.prog tab0_QIe := TabH.ok_cons ok_law14_CtrlPlays (TabH.ok_cons ok_law14_CtrlBits (TabH.ok_cons ok_ref09_Ints (TabH.ok_cons ok_law14_few (TabH.ok_cons ok_ref14_New (TabH.ok_cons ok_law14_do (TabH.ok_cons ok_ref13_Boxes_Free (TabH.ok_cons ok_ctrl_Ctrl_States (TabH.ok_cons ok_ctrl_Ctrl_Off (TabH.ok_cons ok_ctrl_Ctrl_Clear (TabH.ok_cons ok_ctrl_Ctrl_Load (TabH.ok_cons ok_ctrl_Ctrl_Offer (TabH.ok_cons ok_ctrl_Ctrl_Ended (TabH.ok_cons ok_ctrl_Ctrl_Won (TabH.ok_cons ok_ctrl_Ctrl_Abort (TabH.ok_cons ok_ref13_New (TabH.ok_cons ok_ref14_Room (TabH.ok_cons ok_ref13_Boxes_Put (TabH.ok_cons ok_ref14_Ctrl_Offer (TabH.ok_cons ok_ref14_Ctrl_Won (TabH.ok_cons ok_ref14_Ctrl_Hear (TabH.ok_cons ok_ref14_Ctrl_Set (TabH.ok_cons ok_ref14_Ctrl_Clear (TabH.ok_cons ok_ref13_Boxes_Take (TabH.ok_cons ok_ref14_Ctrl_Fetch (TabH.ok_cons ok_ref14_Ctrl_Abort (TabH.ok_cons ok_box_Boxes_Put (TabH.ok_cons ok_box_Boxes_Best (TabH.ok_cons ok_box_Boxes_Take (TabH.ok_cons ok_box_Boxes_Sent (TabH.ok_cons ok_box_Boxes_Abort (TabH.ok_cons ok_ref13_Boxes_Best (TabH.ok_cons ok_ref13_Boxes_End (TabH.ok_cons ok_slices_IndexFunc_of_cell (TabH.ok_cons ok_box_Boxes_Put_1 (TabH.ok_cons ok_box_Boxes_Best_1 (TabH.ok_cons ok_slices_Clone_of_int (TabH.ok_cons ok_box_Boxes_ends (TabH.ok_nil))))))))))))))))))))))))))))))))))))))
theorem tabOk_QIe : TabH.OK Try.prog tab_QIe := TabH.ok_app (TabH.ok_app (tabOk0_QIe) tabOk_QIa) tabOk_QId
end Go.Proofs.Ytapoilcpollmpaa
end
