/- QIc, put together. Conditions: none. -/
import Derived.Test.YtkkccabchhnebaaNP0
import Derived.Test.YtkkccabchhnebaaNQIa
/- What the program's functions do, in compact code, as printed by MkHC.lean. -/
section
namespace Go.Proofs.Ytkkccabchhnebaa
open Go.SB
set_option maxRecDepth 100000
abbrev f_law22_CycRight : Nat := 6
abbrev f_ref09_Ints : Nat := 17
abbrev f_ref22_Small : Nat := 23
abbrev f_law22_alive : Nat := 24
abbrev f_cyc_New : Nat := 25
abbrev f_ref22_Right : Nat := 26
abbrev f_cyc_Right : Nat := 27
abbrev f_cyc_Cyc_Job : Nat := 28
abbrev f_ref03_Same : Nat := 29
abbrev f_cyc_Times : Nat := 30
abbrev f_ref22_Times : Nat := 31
abbrev f_cyc_Cyc_Due : Nat := 33
abbrev f_cyc_Cyc_Tick : Nat := 34
abbrev f_law22_job : Nat := 50
abbrev f_cyc_count : Nat := 51
abbrev f_slices_Clone_of_Frame : Nat := 52
abbrev f_cyc_turns : Nat := 53
abbrev f_cyc_Cyc_plan : Nat := 54
abbrev f_ref22_count : Nat := 55
abbrev f_slices_ContainsFunc_of_Frame : Nat := 56
abbrev f_cyc_Right_1 : Nat := 57
abbrev f_ref22_At : Nat := 58
abbrev f_cyc_turns_1 : Nat := 64
abbrev f_slices_IndexFunc_of_Frame : Nat := 65
abbrev f_ref22_far : Nat := 66

/-- signalbox/signalboxlaw22.CycRight [0, 1, 2, 3, 6, 7, 8, 9, 10, 12, 13, 14, 18, 22, 28, 30, 31, 32, 45, 47, 49, 54, 97, 101, 102, 103, 104, 105, 106, 107, 108] -/
def hc_law22_CycRight : HC :=
 (.seq (.reg 1 [Xeff [] (some 3) 0 (.box (.t 0)) [(Xv 0)],
   Xset [(4, (Xc (.bool false)))]] [0, 4])
 (.seq (.seq (.reg 0 [Xcall [] (some 9) f_ref22_Small [(Xln 7 (Xv 3))] [(.t 0)],
   Xset [(10, (Xnot (Xv 9)))]] [9])
 (.cond (Xv 10) [10]
  (.seq (.reg 0 [Xcall [] (some 11) f_law22_alive [] [],
    Xset [(4, (Xv 11))]] [11])
  .ret)
  .skip))
 (.seq (.reg 0 [Xcall [] (some 12) f_cyc_New [(Xln 7 (Xv 3)), (Xv 1)] [(.t 0), (.t 1)],
   Xset [(5, (Xe 0 (Xv 12))), (6, (Xe 1 (Xv 12)))]] [12])
 (.seq (.reg 0 [Xcall [] (some 13) f_ref22_Right [(Xln 7 (Xv 3))] [(.t 0)],
   Xset [(7, (Xv 13))]] [13])
 (.seq (.cond (Xor (Xk .lss (Xv 1) 0) (Xk .gtr (Xv 1) 1099511627776)) [14]
  (.reg 0 [Xset [(7, (Xi 2))]] [])
  .skip)
 (.seq (.seq (.reg 0 [⟨[(16, (Xln 7 (Xv 3)))], [], (some ⟨(some 15), none, 0, .call (.c (.fn f_cyc_Right [] [])) [(.t 0)], [(Xln 7 (Xv 3))], [((Xln 7 (Xv 3)), 16)]⟩)⟩,
   Xcall [] (some 17) f_ref22_Right [(Xv 16)] [(.t 0)],
   Xset [(18, (Xor (Xor (Xb .neq (Xv 15) (Xv 17)) (Xb .neq (Xv 6) (Xv 7))) (.o (.eqv true .bool (.t 0) (.t 1)) [(Xnil (Xv 5)), (Xk .neq (Xv 7) 0)])))]] [6, 7, 15, 16, 17])
 (.cond (Xv 18) [18]
  (.seq (.reg 0 [Xset [(4, (Xc (.bool false)))]] [])
  .ret)
  .skip))
 (.seq (.cond (.o (.eqv true .ptr (.t 0) (.c .nilp)) [(Xv 5)]) [19]
  (.seq (.reg 1 [Xcall [] (some 20) f_cyc_Cyc_Job [(Xv 5)] [(.t 0)],
    Xeff [] (some 8) 0 (.alloc [(.int .i64 0), (.int .i64 0), (.int .i64 0), (.int .i64 0), .nils, (.bool false), (.bool false)]) [],
    Xeff [] none 1 (.store 7 (.t 0) (.t 1)) [(Xv 8), (Xv 20)]] [5, 20])
  (.seq (.reg 0 [Xcall [] (some 21) f_ref03_Same [(Xf 4 (Xv 8)), (Xf 4 (Xv 3))] [(.t 0), (.t 1)],
    Xset [(22, (Xor (Xor (Xor (Xor (Xor (Xor (Xnot (Xv 21)) (Xb .neq (Xf 1 (Xv 8)) (Xf 1 (Xv 3)))) (Xb .neq (Xf 2 (Xv 8)) (Xf 2 (Xv 3)))) (Xb .neq (Xf 3 (Xv 8)) (Xf 3 (Xv 3)))) (.o (.eqv true .bool (.t 0) (.t 1)) [(Xf 5 (Xv 8)), (Xf 5 (Xv 3))])) (.o (.eqv true .bool (.t 0) (.t 1)) [(Xf 6 (Xv 8)), (Xf 6 (Xv 3))])) (Xb .neq (Xf 0 (Xv 8)) (Xf 0 (Xv 3)))))]] [8, 21])
  (.cond (Xv 22) [22]
   (.seq (.reg 0 [Xset [(4, (Xc (.bool false)))]] [])
   .ret)
   .skip)))
  .skip)
 (.seq (.reg 0 [⟨[(24, (Xln 7 (Xv 3))), (25, (Xv 1)), (26, (Xv 2))], [], (some ⟨(some 23), none, 0, .call (.c (.fn f_cyc_Times [] [])) [(.t 0), (.t 1), (.t 2)], [(Xln 7 (Xv 3)), (Xv 1), (Xv 2)], [((Xln 7 (Xv 3)), 24)]⟩)⟩,
   Xcall [] (some 27) f_ref22_Times [(Xv 24), (Xv 25), (Xv 26)] [(.t 0), (.t 1), (.t 2)],
   Xcall [] (some 28) f_ref09_Ints [(Xv 23), (Xv 27)] [(.t 0), (.t 1)],
   ⟨[(29, (Xv 28))], [], (some ⟨(some 30), (some ((Xv 28), true)), 0, .call (.c (.fn f_law22_alive [] [])) [], [], []⟩)⟩,
   Xset [(4, (Xand (Xv 29) (Xv 30)))]] [1, 2, 3, 23, 24, 25, 26, 27, 28, 29, 30])
 .ret))))))))
theorem ok_law22_CycRight : HFn Try.prog f_law22_CycRight [0, 1, 2, 3, 6, 7, 8, 9, 10, 12, 13, 14, 18, 22, 28, 30, 31, 32, 45, 47, 49, 54, 97, 101, 102, 103, 104, 105, 106, 107, 108] hc_law22_CycRight [.t 4] := hfn_opt (hs := [[0, 6], [12], [13], [14], [18], [22], [], [28], [], [0, 2, 1, 3, 4, 5, 6, 7, 8, 9, 10, 11, 12, 13, 14, 15, 16], [0, 1, 0, 7, 15, 31, 63, 63, 255, 511, 1023, 2047, 4095, 2047, 10239, 32767, 65535], [8, 9, 30, 31, 32], [45], [], [], [47], [7, 49], [10, 54], [97], [], [1, 2, 5, 6, 0, 4, 3, 7, 8, 9, 10, 11, 12], [0, 0, 0, 7, 0, 0, 0, 127, 255, 511, 1023, 2047, 4095], [1, 2, 3, 101, 102, 103, 104, 105, 106, 107, 108]]) fol Try.func6 (by kernel_rfl)

/-- signalbox/signalboxref09.Ints [0, 1, 4, 5, 10, 14, 25] -/
def hc_ref09_Ints_b1 : HC :=
 (.seq (.cond (Xb .lss (Xv 3) (Xlen (Xv 0))) [5]
  .skip
  (.exit 0))
 (.seq (.block 1 (.cond (Xb .neq (Xl (Xx 1 (Xv 0) (Xv 3))) (Xl (Xx 1 (Xv 1) (Xv 3)))) [6]
  (.seq (.reg 0 [Xset [(2, (Xc (.bool false)))]] [])
  .ret)
  .skip))
 (.reg 0 [Xset [(3, (Xk .add (Xv 3) 1))]] [])))
def hc_ref09_Ints_l1 : HC := .loop [2, 4, 5, 6] hc_ref09_Ints_b1
def hc_ref09_Ints : HC :=
 (.seq (.reg 0 [Xset [(2, (Xc (.bool false)))]] [2])
 (.seq (.cond (Xb .neq (Xlen (Xv 0)) (Xlen (Xv 1))) [4]
  (.seq (.reg 0 [Xset [(2, (Xc (.bool false)))]] [])
  .ret)
  .skip)
 (.seq (.seq (.reg 0 [Xset [(3, (Xi 0))]] [])
 (.block 0 hc_ref09_Ints_l1))
 (.seq (.reg 0 [Xset [(2, (Xc (.bool true)))]] [])
 .ret))))
theorem ok_ref09_Ints : HFn Try.prog f_ref09_Ints [0, 1, 4, 5, 10, 14, 25] hc_ref09_Ints [.t 2] := hfn_opt (hs := [[4], [], [10], [], [], [4, 10, 14, 25], [], [14], [0, 1, 2, 4, 5, 6, 3, 7, 8], [0, 0, 3, 7, 0, 0, 48, 112, 255], [], [25], [], [], []]) fol Try.func17 (by kernel_rfl)

/-- signalbox/signalboxref22.Small [0, 1, 2, 3, 4, 13] -/
def hc_ref22_Small_b1 : HC :=
 (.seq (.cond (Xand (Xb .lss (Xv 4) (Xlen (Xf 4 (Xv 1)))) (Xk .leq (Xv 4) 300)) [5]
  .skip
  (.exit 0))
 (.seq (.block 1 (.reg 0 [Xset [(3, (Xb .add (Xv 3) (.o (.mn [(.t 0), (.c (.int .i64 5000))]) [(Xls (Xf 3 (Xx 4 (Xf 4 (Xv 1)) (Xv 4))))])))]] []))
 (.reg 0 [Xset [(4, (Xk .add (Xv 4) 1))]] [])))
def hc_ref22_Small_l1 : HC := .loop [0, 2, 5] hc_ref22_Small_b1
def hc_ref22_Small : HC :=
 (.seq (.reg 1 [Xeff [] (some 1) 0 (.box (.t 0)) [(Xv 0)],
   Xset [(2, (Xc (.bool false)))]] [0, 2])
 (.seq (.reg 0 [Xset [(3, (Xi 0))]] [])
 (.seq (.seq (.reg 0 [Xset [(4, (Xi 0))]] [])
 (.block 0 hc_ref22_Small_l1))
 (.seq (.reg 0 [Xset [(2, (Xand (Xand (Xk .leq (Xlen (Xf 4 (Xv 1))) 300) (Xk .leq (Xv 3) 4000)) (Xk .leq (Xf 1 (Xv 1)) 200)))]] [1, 3])
 .ret))))
theorem ok_ref22_Small : HFn Try.prog f_ref22_Small [0, 1, 2, 3, 4, 13] hc_ref22_Small [.t 2] := hfn_opt (hs := [[0, 2], [], [], [0, 2, 13], [], [13], [], [], [1, 3]]) fol Try.func23 (by kernel_rfl)

/-- signalbox/signalboxlaw22.alive [0, 1, 2, 3, 4, 6, 7, 11, 13, 41, 42, 43, 44, 45] -/
def hc_law22_alive : HC :=
 (.seq (.reg 0 [Xset [(0, (Xc (.bool false)))]] [0])
 (.seq (.reg 0 [Xcall [] (some 5) f_law22_job [] [(.c (.int .i64 2)), (.c (.int .i64 3)), (.c (.int .i64 10))],
   Xcall [] (some 6) f_cyc_New [(Xv 5)] [(.t 0), (.c (.int .i64 0))],
   Xset [(1, (Xe 0 (Xv 6))), (2, (Xe 1 (Xv 6)))]] [5, 6])
 (.seq (.reg 2 [Xcall [] (some 7) f_cyc_Cyc_Tick [(Xv 1)] [(.t 0), (.c (.int .i64 3))],
   Xcall [] (some 8) f_cyc_Cyc_Tick [(Xv 1)] [(.t 0), (.c (.int .i64 6))],
   Xeff [] (some 3) 0 (.alloc [(.int .i64 0), (.int .i64 0), (.int .i64 0), (.str []), (.bool false), (.bool false)]) [],
   Xeff [] (some 4) 1 (.alloc [(.int .i64 0), (.int .i64 0), (.int .i64 0), (.str []), (.bool false), (.bool false)]) [],
   Xeff [] none 2 (.store 6 (.t 0) (.t 1)) [(Xv 3), (Xv 7)],
   Xeff [] none 2 (.store 6 (.t 0) (.t 1)) [(Xv 4), (Xv 8)]] [1, 7, 8])
 (.seq (.reg 1 [⟨[(9, (Xand (Xand (Xand (Xand (Xand (Xk .eql (Xv 2) 0) (Xf 4 (Xv 3))) (Xk .eql (Xf 0 (Xa 0 (Xv 3))) 1)) (Xnot (Xf 5 (Xv 3)))) (Xk .eql (Xf 0 (Xa 0 (Xv 4))) 2)) (Xf 5 (Xv 4))))], [], (some ⟨(some 10), (some ((Xand (Xand (Xand (Xand (Xand (Xk .eql (Xv 2) 0) (Xf 4 (Xv 3))) (Xk .eql (Xf 0 (Xa 0 (Xv 3))) 1)) (Xnot (Xf 5 (Xv 3)))) (Xk .eql (Xf 0 (Xa 0 (Xv 4))) 2)) (Xf 5 (Xv 4))), true)), 0, .call (.c (.fn f_law22_job [] [])) [(.c (.int .i64 2)), (.c (.int .i64 3)), (.c (.int .i64 10))], [], []⟩)⟩,
   ⟨[], [], (some ⟨(some 11), (some ((Xv 9), true)), 0, .call (.c (.fn f_cyc_Times [] [])) [(.t 0), (.c (.int .i64 0)), (.c (.int .i64 26))], [(Xv 10)], []⟩)⟩,
   ⟨[], [], (some ⟨(some 12), (some ((Xv 9), true)), 0, .bslice 1 [(.c (.int .i64 3)), (.c (.int .i64 6)), (.c (.int .i64 16)), (.c (.int .i64 26))], [], []⟩)⟩,
   ⟨[], [], (some ⟨(some 13), (some ((Xv 9), true)), 1, .call (.c (.fn f_ref09_Ints [] [])) [(.t 0), (.t 1)], [(Xv 11), (Xv 12)], []⟩)⟩,
   Xset [(0, (Xand (Xv 9) (Xv 13)))]] [2, 3, 4, 9, 10, 11, 12, 13])
 .ret))))
theorem ok_law22_alive : HFn Try.prog f_law22_alive [0, 1, 2, 3, 4, 6, 7, 11, 13, 41, 42, 43, 44, 45] hc_law22_alive [.t 0] := hfn_opt (hs := [[0], [6, 7], [1, 11, 13], [2, 3, 4, 41, 42, 43, 44, 45]]) fol Try.func24 (by kernel_rfl)

/-- signalbox/cyc.New [0, 1, 2, 4, 5, 6, 7, 9, 10, 12, 14, 18, 20, 23, 25, 28] -/
def hc_cyc_New : HC :=
 (.seq (.reg 1 [Xeff [] (some 2) 0 (.box (.t 0)) [(Xv 0)],
   Xset [(3, (Xc .nilp)), (4, (Xi 0))]] [0, 3, 4])
 (.seq (.seq (.reg 0 [Xcall [] (some 7) f_cyc_count [(Xv 1)] [(.t 0)],
   Xset [(8, (Xnot (Xv 7)))]] [7])
 (.cond (Xv 8) [8]
  (.seq (.reg 0 [Xset [(3, (Xc .nilp)), (4, (Xi 2))]] [])
  .ret)
  .skip))
 (.seq (.seq (.reg 0 [Xcall [] (some 9) f_cyc_Right [(Xln 7 (Xv 2))] [(.t 0)],
   Xset [(5, (Xv 9))]] [9])
 (.cond (Xk .neq (Xv 5) 0) [10]
  (.seq (.reg 0 [Xset [(3, (Xc .nilp)), (4, (Xv 5))]] [5])
  .ret)
  .skip))
 (.seq (.reg 0 [Xcall [] (some 11) f_slices_Clone_of_Frame [(Xf 4 (Xv 2))] [(.t 0)],
   Xeff [] none 0 (.store 1 (.t 0) (.t 1)) [(Xa 4 (Xv 2)), (Xv 11)]] [11])
 (.seq (.reg 1 [⟨[(12, (Xln 7 (Xv 2)))], [], (some ⟨(some 13), none, 0, .call (.c (.fn f_cyc_turns [] [])) [(.t 0)], [(Xf 4 (Xv 2))], [((Xln 7 (Xv 2)), 12)]⟩)⟩,
   Xeff [] (some 14) 0 (.box (.t 0)) [(.o (.build [(.int .i64 0), (.int .i64 0), (.int .i64 0), (.int .i64 0), .nils, (.bool false), (.bool false), .nilf, (.bool false), (.int .i64 0), (.int .i64 0), (.bool false)] [(0, 7, (.t 0)), (7, 1, (.t 1))]) [(Xv 12), (Xv 13)])],
   Xset [(6, (Xv 14))]] [12, 13, 14])
 (.seq (.cond (Xk .gtr (Xf 2 (Xv 2)) 0) [15]
  (.reg 0 [Xeff [] none 0 (.store 1 (.t 0) (.t 1)) [(Xa 9 (Xn (Xv 6))), (Xf 1 (Xv 2))]] [2])
  .skip)
 (.seq (.reg 0 [Xcall [] none f_cyc_Cyc_plan [(Xv 6), (Xv 1)] [(.t 0), (.t 1)]] [1])
 (.seq (.reg 0 [Xset [(3, (Xv 6)), (4, (Xi 0))]] [6])
 .ret))))))))
theorem ok_cyc_New : HFn Try.prog f_cyc_New [0, 1, 2, 4, 5, 6, 7, 9, 10, 12, 14, 18, 20, 23, 25, 28] hc_cyc_New [.t 3, .t 4] := hfn_opt (hs := [[0, 4, 5], [9], [10], [], [12], [], [14], [6], [18], [1, 0, 2, 3, 4, 5, 6], [0, 0, 2, 6, 15, 31, 63], [20, 23, 25], [], [28], [2], [1], [7]]) fol Try.func25 (by kernel_rfl)

/-- signalbox/signalboxref22.Right [0, 1, 2, 3, 7, 12, 15, 18, 21, 24, 27, 29, 34, 42, 43] -/
def hc_ref22_Right_b1 : HC :=
 (.seq (.cond (Xb .lss (Xv 3) (Xlen (Xf 4 (Xv 1)))) [12]
  .skip
  (.exit 0))
 (.seq (.block 1 (.seq (.reg 0 [Xcall [] (some 13) f_ref02_Key [(Xln 4 (Xx 4 (Xf 4 (Xv 1)) (Xv 3)))] [(.t 0)],
   Xset [(14, (Xk .lss (Xv 13) 0))]] [13])
 (.cond (Xv 14) [14]
  (.seq (.reg 0 [Xset [(2, (Xi 4))]] [])
  .ret)
  .skip)))
 (.reg 0 [Xset [(3, (Xk .add (Xv 3) 1))]] [])))
def hc_ref22_Right_l1 : HC := .loop [0, 2, 4, 5, 6, 7, 8, 9, 10, 11, 12, 13, 14] hc_ref22_Right_b1
def hc_ref22_Right : HC :=
 (.seq (.reg 1 [Xeff [] (some 1) 0 (.box (.t 0)) [(Xv 0)],
   Xset [(2, (Xi 0))]] [0, 2])
 (.seq (.cond (Xk .gtr (Xlen (Xf 4 (Xv 1))) 256) [4]
  (.seq (.reg 0 [Xset [(2, (Xi 9))]] [])
  .ret)
  .skip)
 (.seq (.seq (.reg 0 [⟨[(5, (Xk .eql (Xlen (Xf 4 (Xv 1))) 0))], [], (some ⟨(some 6), (some ((Xk .eql (Xlen (Xf 4 (Xv 1))) 0), false)), 0, .call (.c (.fn f_ref22_count [] [])) [(.t 0)], [(Xf 1 (Xv 1))], []⟩)⟩,
   ⟨[(7, (Xor (Xv 5) (Xnot (Xv 6))))], [], (some ⟨(some 8), (some ((Xor (Xv 5) (Xnot (Xv 6))), false)), 0, .call (.c (.fn f_ref22_count [] [])) [(.t 0)], [(Xf 2 (Xv 1))], []⟩)⟩,
   ⟨[(9, (Xor (Xv 7) (Xnot (Xv 8))))], [], (some ⟨(some 10), (some ((Xor (Xv 7) (Xnot (Xv 8))), false)), 0, .call (.c (.fn f_ref22_count [] [])) [(.t 0)], [(Xf 3 (Xv 1))], []⟩)⟩,
   Xset [(11, (Xor (Xv 9) (Xnot (Xv 10))))]] [5, 6, 7, 8, 9, 10])
 (.cond (Xv 11) [11]
  (.seq (.reg 0 [Xset [(2, (Xi 2))]] [])
  .ret)
  .skip))
 (.seq (.seq (.reg 0 [Xset [(3, (Xi 0))]] [])
 (.block 0 hc_ref22_Right_l1))
 (.seq (.reg 0 [Xset [(2, (Xi 0))]] [])
 .ret)))))
theorem ok_ref22_Right : HFn Try.prog f_ref22_Right [0, 1, 2, 3, 7, 12, 15, 18, 21, 24, 27, 29, 34, 42, 43] hc_ref22_Right [.t 2] := hfn_opt (hs := [[0, 2], [], [7], [], [12, 15, 18, 21, 24, 27], [29], [], [], [0, 2, 7, 12, 15, 18, 21, 24, 27, 29, 34, 42, 43], [], [34], [42], [43], [], [], []]) fol Try.func26 (by kernel_rfl)

/-- signalbox/cyc.Right [0, 1, 2, 3, 8, 13, 16, 18, 21, 24, 27, 30, 33] -/
def hc_cyc_Right : HC :=
 (.seq (.reg 1 [Xeff [] (some 1) 0 (.box (.t 0)) [(Xv 0)],
   Xset [(2, (Xi 0))]] [0, 2])
 (.seq (.block 0 (.seq (.block 4 (.seq (.block 3 (.block 2 (.seq (.block 1 (.seq (.seq (.cond (Xk .gtr (Xlen (Xf 4 (Xv 1))) 256) [3]
  (.exit 1)
  .skip)
 (.seq (.cond (Xk .eql (Xlen (Xf 4 (Xv 1))) 0) [4]
  (.exit 2)
  .skip)
 (.seq (.seq (.reg 0 [Xcall [] (some 6) f_cyc_count [(Xf 1 (Xv 1))] [(.t 0)],
   ⟨[(7, (Xnot (Xv 6)))], [], (some ⟨(some 8), (some ((Xnot (Xv 6)), false)), 0, .call (.c (.fn f_cyc_count [] [])) [(.t 0)], [(Xf 2 (Xv 1))], []⟩)⟩,
   ⟨[(9, (Xor (Xv 7) (Xnot (Xv 8))))], [], (some ⟨(some 10), (some ((Xor (Xv 7) (Xnot (Xv 8))), false)), 0, .call (.c (.fn f_cyc_count [] [])) [(.t 0)], [(Xf 3 (Xv 1))], []⟩)⟩,
   Xset [(5, (Xor (Xv 9) (Xnot (Xv 10))))]] [6, 7, 8, 9, 10])
 (.cond (Xv 5) [5]
  (.exit 3)
  .skip))
 (.seq (.reg 0 [Xcall [] (some 12) f_slices_ContainsFunc_of_Frame [(Xf 4 (Xv 1))] [(.t 0), (.c (.fn f_cyc_Right_1 [] []))],
   Xset [(11, (Xv 12))]] [1, 12])
 (.cond (Xv 11) [11]
  (.exit 4)
  .skip)))))
 (.exit 0)))
 (.seq (.seq (.reg 0 [Xset [(2, (Xi 9))]] [])
 .ret)
 (.exit 0)))))
 (.seq (.seq (.reg 0 [Xset [(2, (Xi 2))]] [])
 .ret)
 (.exit 0))))
 (.seq (.seq (.reg 0 [Xset [(2, (Xi 4))]] [])
 .ret)
 (.exit 0))))
 (.seq (.reg 0 [Xset [(2, (Xi 0))]] [])
 .ret)))
theorem ok_cyc_Right : HFn Try.prog f_cyc_Right [0, 1, 2, 3, 8, 13, 16, 18, 21, 24, 27, 30, 33] hc_cyc_Right [.t 2] := hfn_opt (hs := [[0, 2], [], [3], [], [8], [16, 18, 21, 24, 27], [13], [1, 33], [30], [], [], [], []]) fol Try.func27 (by kernel_rfl)

/-- (*signalbox/cyc.Cyc).Job [0, 2, 3, 5, 10, 13] -/
def hc_cyc_Cyc_Job : HC :=
 (.seq (.reg 1 [Xeff [] (some 1) 0 (.alloc [(.int .i64 0), (.int .i64 0), (.int .i64 0), (.int .i64 0), .nils, (.bool false), (.bool false)]) []] [])
 (.seq (.cond (Xnil (Xv 0)) [3]
  (.seq (.reg 0 [Xeff [] none 0 (.store 7 (.t 0) (.t 1)) [(Xv 1), (.o (.build [(.int .i64 0), (.int .i64 0), (.int .i64 0), (.int .i64 0), .nils, (.bool false), (.bool false)] []) [])]] [])
  .ret)
  .skip)
 (.seq (.reg 1 [Xeff [(4, (Xln 7 (Xa 0 (Xn (Xv 0)))))] (some 2) 0 (.alloc [(.int .i64 0), (.int .i64 0), (.int .i64 0), (.int .i64 0), .nils, (.bool false), (.bool false)]) [],
   Xeff [] none 1 (.store 7 (.t 0) (.t 1)) [(Xv 2), (Xv 4)]] [0, 4])
 (.seq (.reg 0 [Xcall [] (some 5) f_slices_Clone_of_Frame [(Xf 4 (Xv 2))] [(.t 0)],
   Xeff [] none 0 (.store 1 (.t 0) (.t 1)) [(Xa 4 (Xv 2)), (Xv 5)]] [5])
 (.seq (.reg 0 [Xeff [] none 0 (.store 7 (.t 0) (.t 1)) [(Xv 1), (Xln 7 (Xv 2))]] [2])
 .ret)))))
theorem ok_cyc_Cyc_Job : HFn Try.prog f_cyc_Cyc_Job [0, 2, 3, 5, 10, 13] hc_cyc_Cyc_Job [.cell 1 (some 7)] := hfn_opt (hs := [[], [], [5], [], [0, 10], [13], [3]]) fol Try.func28 (by kernel_rfl)

/-- signalbox/signalboxref03.Same [0, 1, 4, 5, 10, 14, 25] -/
def hc_ref03_Same_b1 : HC :=
 (.seq (.cond (Xb .lss (Xv 3) (Xlen (Xv 0))) [5]
  .skip
  (.exit 0))
 (.seq (.block 1 (.cond (.o (.eqv true (.struct [.int, .int, .int, .str]) (.t 0) (.t 1)) [(Xln 4 (Xx 4 (Xv 0) (Xv 3))), (Xln 4 (Xx 4 (Xv 1) (Xv 3)))]) [6]
  (.seq (.reg 0 [Xset [(2, (Xc (.bool false)))]] [])
  .ret)
  .skip))
 (.reg 0 [Xset [(3, (Xk .add (Xv 3) 1))]] [])))
def hc_ref03_Same_l1 : HC := .loop [2, 4, 5, 6] hc_ref03_Same_b1
def hc_ref03_Same : HC :=
 (.seq (.reg 0 [Xset [(2, (Xc (.bool false)))]] [2])
 (.seq (.cond (Xb .neq (Xlen (Xv 0)) (Xlen (Xv 1))) [4]
  (.seq (.reg 0 [Xset [(2, (Xc (.bool false)))]] [])
  .ret)
  .skip)
 (.seq (.seq (.reg 0 [Xset [(3, (Xi 0))]] [])
 (.block 0 hc_ref03_Same_l1))
 (.seq (.reg 0 [Xset [(2, (Xc (.bool true)))]] [])
 .ret))))
theorem ok_ref03_Same : HFn Try.prog f_ref03_Same [0, 1, 4, 5, 10, 14, 25] hc_ref03_Same [.t 2] := hfn_opt (hs := [[4], [], [10], [], [], [4, 10, 14, 25], [], [14], [0, 1, 2, 4, 5, 6, 3, 7, 8], [0, 0, 3, 7, 0, 0, 48, 112, 255], [], [25], [], [], []]) fol Try.func29 (by kernel_rfl)

/-- signalbox/cyc.Times [0, 1, 2, 3, 6, 7, 8, 9, 10, 11, 15, 19, 23, 37, 39, 41, 42] -/
def hc_cyc_Times_s0 : HC :=
 (.seq (.reg 0 [Xcall [] (some 12) f_cyc_Cyc_Due [(Xv 6)] [(.t 0)],
   Xset [(8, (Xe 0 (Xv 12))), (9, (Xe 1 (Xv 12)))]] [12])
 (.seq (.seq (.reg 0 [Xset [(13, (Xor (Xor (Xnot (Xv 9)) (Xb .gtr (Xv 8) (Xv 2))) (Xk .eql (Xlen (Xv 5)) 1000)))]] [9])
 (.cond (Xv 13) [13]
  (.seq (.reg 0 [Xset [(4, (Xv 5))]] [5])
  .ret)
  .skip))
 (.seq (.reg 2 [Xeff [(14, (Xv 5))] (some 15) 0 (.bslice 1 [(.t 0)]) [(Xv 8)],
   Xeff [] (some 16) 1 (.app 1 8 (.t 0) (.t 1)) [(Xv 14), (Xv 15)],
   Xset [(5, (Xv 16))]] [14, 15, 16])
 (.seq (.reg 0 [Xcall [] none f_cyc_Cyc_Tick [(Xv 6), (Xv 8)] [(.t 0), (.t 1)]] [8])
 (.goto 0)))))
def hc_cyc_Times : HC :=
 (.seq (.reg 1 [Xeff [] (some 3) 0 (.box (.t 0)) [(Xv 0)],
   Xset [(4, (Xc .nils))]] [0, 4])
 (.scope 0 [0, 1, 3, 4, 7, 8, 9, 10, 11, 12, 13, 14, 15, 16]
  (.seq (.reg 0 [Xset [(5, (Xc .nils))]] [])
  (.seq (.reg 0 [Xcall [] (some 10) f_cyc_New [(Xln 7 (Xv 3)), (Xv 1)] [(.t 0), (.t 1)],
    Xset [(6, (Xe 0 (Xv 10))), (7, (Xe 1 (Xv 10)))]] [1, 3, 10])
  (.seq (.seq (.reg 0 [Xset [(11, (Xk .neq (Xv 7) 0))]] [7])
  (.cond (Xv 11) [11]
   (.seq (.reg 0 [Xset [(4, (Xv 5))]] [5])
   .ret)
   .skip))
  (.seq (.label 0) hc_cyc_Times_s0))))
  (.seq .skip hc_cyc_Times_s0)))
theorem ok_cyc_Times : HFn Try.prog f_cyc_Times [0, 1, 2, 3, 6, 7, 8, 9, 10, 11, 15, 19, 23, 37, 39, 41, 42] hc_cyc_Times [.t 4] := hfn_opt (hs := [[0, 6], [0], [0, 1, 3, 6, 9, 10, 11, 15, 19, 23, 37, 39, 41, 42], [], [1, 3, 15], [9], [19], [7], [23], [11], [37], [7], [39, 41, 42], [10]]) fol Try.func30 (by kernel_rfl)

/-- signalbox/signalboxref22.Times [0, 1, 2, 3, 6, 7, 8, 9, 11, 13, 15, 17, 20, 26, 33, 35, 37, 38] -/
def hc_ref22_Times_b1 : HC :=
 (.seq (.cond (Xk .leq (Xv 6) 1000) [12]
  .skip
  (.exit 0))
 (.seq (.block 1 (.seq (.reg 0 [Xcall [] (some 13) f_ref22_At [(Xln 7 (Xv 3)), (Xv 1), (Xv 6)] [(.t 0), (.t 1), (.t 2)],
   Xset [(7, (Xv 13))]] [13])
 (.seq (.cond (Xor (Xk .lss (Xv 7) 0) (Xb .gtr (Xv 7) (Xv 2))) [14]
  (.seq (.reg 0 [Xset [(4, (Xv 5))]] [5])
  .ret)
  .skip)
 (.reg 2 [Xeff [(15, (Xv 5))] (some 16) 0 (.bslice 1 [(.t 0)]) [(Xv 7)],
   Xeff [] (some 17) 1 (.app 1 8 (.t 0) (.t 1)) [(Xv 15), (Xv 16)],
   Xset [(5, (Xv 17))]] [7, 15, 16, 17]))))
 (.reg 0 [Xset [(6, (Xk .add (Xv 6) 1))]] [])))
def hc_ref22_Times_l1 : HC := .loop [0, 4, 7, 8, 9, 10, 11, 12, 13, 14, 15, 16, 17] hc_ref22_Times_b1
def hc_ref22_Times : HC :=
 (.seq (.reg 1 [Xeff [] (some 3) 0 (.box (.t 0)) [(Xv 0)],
   Xset [(4, (Xc .nils))]] [0, 4])
 (.seq (.reg 0 [Xset [(5, (Xc .nils))]] [])
 (.seq (.seq (.reg 0 [Xcall [] (some 8) f_ref22_Right [(Xln 7 (Xv 3))] [(.t 0)],
   ⟨[(9, (Xk .neq (Xv 8) 0))], [], (some ⟨(some 10), (some ((Xk .neq (Xv 8) 0), false)), 0, .call (.c (.fn f_ref22_count [] [])) [(.t 0)], [(Xv 1)], []⟩)⟩,
   Xset [(11, (Xor (Xv 9) (Xnot (Xv 10))))]] [8, 9, 10])
 (.cond (Xv 11) [11]
  (.seq (.reg 0 [Xset [(4, (Xv 5))]] [5])
  .ret)
  .skip))
 (.seq (.seq (.reg 0 [Xset [(6, (Xi 1))]] [])
 (.block 0 hc_ref22_Times_l1))
 (.seq (.reg 0 [Xset [(4, (Xv 5))]] [5])
 .ret)))))
theorem ok_ref22_Times : HFn Try.prog f_ref22_Times [0, 1, 2, 3, 6, 7, 8, 9, 11, 13, 15, 17, 20, 26, 33, 35, 37, 38] hc_ref22_Times [.t 4] := hfn_opt (hs := [[0, 6], [], [11, 13, 15], [17], [7], [], [0, 6, 9, 11, 13, 15, 17, 20, 26, 33, 35, 37, 38], [], [20], [26], [], [33], [7], [9, 35, 37, 38], [], [7]]) fol Try.func31 (by kernel_rfl)

/-- (*signalbox/cyc.Cyc).Due [0, 2, 3, 12] -/
def hc_cyc_Cyc_Due : HC :=
 (.seq (.reg 0 [Xset [(1, (Xi 0)), (2, (Xc (.bool false)))]] [1, 2])
 (.seq (.cond (Xor (Xnil (Xv 0)) (Xnot (Xf 11 (Xn (Xv 0))))) [3]
  (.seq (.reg 0 [Xset [(1, (Xi 0)), (2, (Xc (.bool false)))]] [])
  .ret)
  .skip)
 (.seq (.reg 0 [Xset [(1, (Xf 10 (Xn (Xv 0)))), (2, (Xc (.bool true)))]] [0])
 .ret)))
theorem ok_cyc_Cyc_Due : HFn Try.prog f_cyc_Cyc_Due [0, 2, 3, 12] hc_cyc_Cyc_Due [.t 1, .t 2] := hfn_opt (hs := [[2, 3], [], [12], [], [0]]) fol Try.func33 (by kernel_rfl)

/-- (*signalbox/cyc.Cyc).Tick [0, 1, 4, 5, 22, 28, 56] -/
def hc_cyc_Cyc_Tick : HC :=
 (.seq (.reg 1 [Xeff [] (some 2) 0 (.alloc [(.int .i64 0), (.int .i64 0), (.int .i64 0), (.str []), (.bool false), (.bool false)]) []] [])
 (.seq (.cond (Xor (Xor (Xnil (Xv 0)) (Xnot (Xf 11 (Xn (Xv 0))))) (Xb .lss (Xv 1) (Xf 10 (Xn (Xv 0))))) [4]
  (.seq (.reg 0 [Xeff [] none 0 (.store 6 (.t 0) (.t 1)) [(Xv 2), (.o (.build [(.int .i64 0), (.int .i64 0), (.int .i64 0), (.str []), (.bool false), (.bool false)] []) [])]] [])
  .ret)
  .skip)
 (.seq (.reg 0 [Xset [(3, (Xc (.bool false)))]] [])
 (.seq (.cond (Xk .gtr (Xf 9 (Xn (Xv 0))) 0) [5]
  (.seq (.reg 0 [Xeff [] none 0 (.store 1 (.t 0) (.t 1)) [(Xa 9 (Xn (Xv 0))), (Xk .sub (Xf 9 (Xn (Xv 0))) 1)]] [])
  (.reg 0 [Xset [(3, (Xand (Xk .eql (Xf 9 (Xn (Xv 0))) 0) (Xf 6 (Xa 0 (Xn (Xv 0))))))]] []))
  .skip)
 (.seq (.reg 0 [Xcall [] none f_cyc_Cyc_plan [(Xv 0), (.o (.mn [(.t 0), (.c (.int .i64 2305843009213693952))]) [(Xv 1)])] [(.t 0), (.t 1)]] [1])
 (.seq (.reg 0 [Xeff [] (some 6) 0 (.call (.t 0) []) [(Xf 7 (Xn (Xv 0)))],
   Xeff [] none 0 (.store 6 (.t 0) (.t 1)) [(Xv 2), (.o (.build [(.int .i64 0), (.int .i64 0), (.int .i64 0), (.str []), (.bool false), (.bool false)] [(0, 4, (.t 0)), (4, 1, (.c (.bool true))), (5, 1, (.t 1))]) [(Xv 6), (Xv 3)])]] [0, 3, 6])
 .ret))))))
theorem ok_cyc_Cyc_Tick : HFn Try.prog f_cyc_Cyc_Tick [0, 1, 4, 5, 22, 28, 56] hc_cyc_Cyc_Tick [.cell 2 (some 6)] := hfn_opt (hs := [[], [], [22], [], [], [], [28], [], [], [1], [0, 5, 56]]) fol Try.func34 (by kernel_rfl)

/-- signalbox/signalboxlaw22.job [0, 1, 2, 6, 7, 8, 9, 12] -/
def hc_law22_job : HC :=
 (.seq (.reg 1 [Xeff [] (some 3) 0 (.alloc [(.int .i64 0), (.int .i64 0), (.int .i64 0), (.int .i64 0), .nils, (.bool false), (.bool false)]) []] [])
 (.seq (.reg 1 [Xeff [(4, (Xv 0)), (5, (Xv 1)), (6, (Xv 2))] (some 7) 0 (.bslice 4 [(.t 0), (.t 1)]) [(.o (.build [(.int .i64 0), (.int .i64 0), (.int .i64 0), (.str [])] [(0, 1, (.c (.int .i64 1)))]) []), (.o (.build [(.int .i64 0), (.int .i64 0), (.int .i64 0), (.str [])] [(0, 1, (.c (.int .i64 2)))]) [])],
   Xeff [] none 1 (.store 7 (.t 0) (.t 1)) [(Xv 3), (.o (.build [(.int .i64 0), (.int .i64 0), (.int .i64 0), (.int .i64 0), .nils, (.bool false), (.bool false)] [(1, 1, (.t 0)), (2, 1, (.t 1)), (3, 1, (.t 2)), (4, 1, (.t 3)), (6, 1, (.c (.bool true)))]) [(Xv 4), (Xv 5), (Xv 6), (Xv 7)])]] [0, 1, 2, 4, 5, 6, 7])
 .ret))
theorem ok_law22_job : HFn Try.prog f_law22_job [0, 1, 2, 6, 7, 8, 9, 12] hc_law22_job [.cell 3 (some 7)] := hfn_opt (hs := [[], [0, 1, 2, 7, 8, 9, 12]]) fol Try.func50 (by kernel_rfl)

/-- signalbox/cyc.count [0, 2] -/
def hc_cyc_count : HC :=
 (.seq (.reg 0 [Xset [(1, (Xc (.bool false)))]] [1])
 (.seq (.reg 0 [Xset [(1, (Xand (Xk .geq (Xv 0) 0) (Xk .leq (Xv 0) 1099511627776)))]] [0])
 .ret))
theorem ok_cyc_count : HFn Try.prog f_cyc_count [0, 2] hc_cyc_count [.t 1] := hfn_opt (hs := [[2], [0]]) fol Try.func51 (by kernel_rfl)

/-- slices.Clone[[]signalbox/api.Frame,signalbox/api.Frame] [0, 2, 4, 5, 7] -/
def hc_slices_Clone_of_Frame : HC :=
 (.seq (.reg 0 [Xset [(1, (Xc .nils))]] [1])
 (.seq (.cond (.o (.eqv false .slice (.t 0) (.c .nils)) [(Xv 0)]) [2]
  (.seq (.reg 0 [Xset [(1, (Xc .nils))]] [])
  .ret)
  .skip)
 (.seq (.reg 2 [Xeff [] (some 3) 0 (.bslice 4 []) [],
   Xeff [] (some 4) 1 (.app 4 40 (.t 0) (.t 1)) [(Xv 3), (Xv 0)],
   Xset [(1, (Xv 4))]] [0, 3, 4])
 .ret)))
theorem ok_slices_Clone_of_Frame : HFn Try.prog f_slices_Clone_of_Frame [0, 2, 4, 5, 7] hc_slices_Clone_of_Frame [.t 1] := hfn_opt (hs := [[2], [], [4], [], [0, 5, 7]]) fol Try.func52 (by kernel_rfl)

/-- signalbox/cyc.turns [0, 1, 2, 3] -/
def hc_cyc_turns : HC :=
 (.seq (.reg 1 [Xeff [] (some 1) 0 (.box (.t 0)) [(Xv 0)],
   Xset [(2, (Xc .nilf))]] [0, 2])
 (.seq (.reg 1 [Xeff [] (some 3) 0 (.alloc [(.int .i64 0)]) [],
   Xeff [] none 1 (.store 1 (.t 0) (.c (.int .i64 0))) [(Xv 3)]] [])
 (.seq (.reg 0 [Xset [(2, (.o (.mkfn f_cyc_turns_1 [] [(.t 0), (.t 1)]) [(Xv 1), (Xv 3)]))]] [1, 3])
 .ret)))
theorem ok_cyc_turns : HFn Try.prog f_cyc_turns [0, 1, 2, 3] hc_cyc_turns [.t 2] := hfn_opt (hs := [[0, 2], [], [1, 3]]) fol Try.func53 (by kernel_rfl)

/-- (*signalbox/cyc.Cyc).plan [0, 1, 4, 14, 21, 26] -/
def hc_cyc_Cyc_plan : HC :=
 (.seq (.reg 0 [Xset [(2, (Xf 3 (Xa 0 (Xn (Xv 0)))))]] [])
 (.seq (.cond (Xk .gtr (Xf 9 (Xn (Xv 0))) 0) [3]
  (.reg 0 [Xset [(2, (Xf 2 (Xa 0 (Xn (Xv 0)))))]] [])
  .skip)
 (.reg 0 [Xeff [(4, (Xv 0)), (5, (Xk .gtr (Xv 2) 0))] none 0 (.store 1 (.t 0) (.t 1)) [(Xa 10 (Xn (Xv 0))), (Xb .add (Xv 1) (Xv 2))],
   Xeff [] none 0 (.store 1 (.t 0) (.t 1)) [(Xa 11 (Xn (Xv 4))), (Xv 5)]] [0, 1, 2, 4, 5])))
theorem ok_cyc_Cyc_plan : HFn Try.prog f_cyc_Cyc_plan [0, 1, 4, 14, 21, 26] hc_cyc_Cyc_plan [] := hfn_opt (hs := [[], [], [14], [], [0, 1, 4, 21, 26]]) fol Try.func54 (by kernel_rfl)

/-- signalbox/signalboxref22.count [0, 2] -/
def hc_ref22_count : HC :=
 (.seq (.reg 0 [Xset [(1, (Xc (.bool false)))]] [1])
 (.seq (.reg 0 [Xset [(1, (Xand (Xk .geq (Xv 0) 0) (Xk .leq (Xv 0) 1099511627776)))]] [0])
 .ret))
theorem ok_ref22_count : HFn Try.prog f_ref22_count [0, 2] hc_ref22_count [.t 1] := hfn_opt (hs := [[2], [0]]) fol Try.func55 (by kernel_rfl)

/-- slices.ContainsFunc[[]signalbox/api.Frame,signalbox/api.Frame] [0, 1, 4, 7] -/
def hc_slices_ContainsFunc_of_Frame : HC :=
 (.seq (.reg 0 [Xset [(2, (Xc (.bool false)))]] [2])
 (.seq (.reg 0 [Xcall [] (some 3) f_slices_IndexFunc_of_Frame [(Xv 0), (Xv 1)] [(.t 0), (.t 1)],
   Xset [(2, (Xk .geq (Xv 3) 0))]] [0, 1, 3])
 .ret))
theorem ok_slices_ContainsFunc_of_Frame : HFn Try.prog f_slices_ContainsFunc_of_Frame [0, 1, 4, 7] hc_slices_ContainsFunc_of_Frame [.t 2] := hfn_opt (hs := [[4], [0, 1, 7]]) fol Try.func56 (by kernel_rfl)

/-- signalbox/cyc.Right$1 [0, 1, 2, 4] -/
def hc_cyc_Right_1 : HC :=
 (.seq (.reg 1 [Xeff [] (some 1) 0 (.box (.t 0)) [(Xv 0)],
   Xset [(2, (Xc (.bool false)))]] [0, 2])
 (.seq (.reg 0 [Xcall [] (some 3) f_frame_Key [(Xln 4 (Xv 1))] [(.t 0)],
   Xset [(2, (Xk .lss (Xv 3) 0))]] [1, 3])
 .ret))
theorem ok_cyc_Right_1 : HFn Try.prog f_cyc_Right_1 [0, 1, 2, 4] hc_cyc_Right_1 [.t 2] := hfn_opt (hs := [[0, 2], [1, 4]]) fol Try.func57 (by kernel_rfl)

/-- signalbox/signalboxref22.At [0, 1, 2, 3, 6, 7, 8, 11, 16, 21, 26, 28, 36, 43] -/
def hc_ref22_At : HC :=
 (.seq (.reg 1 [Xeff [] (some 3) 0 (.box (.t 0)) [(Xv 0)],
   Xset [(4, (Xi 0))]] [0, 4])
 (.seq (.reg 0 [Xset [(5, (Xi 0))]] [])
 (.seq (.cond (Xk .gtr (Xf 2 (Xv 3)) 0) [7]
  (.reg 0 [Xset [(5, (Xf 1 (Xv 3)))]] [])
  .skip)
 (.seq (.cond (Xb .leq (Xv 2) (Xv 5)) [8]
  (.seq (.reg 0 [Xcall [] (some 9) f_ref22_far [(Xv 1), (Xf 2 (Xv 3)), (Xv 2)] [(.t 0), (.t 1), (.t 2)],
    Xset [(4, (Xv 9))]] [1, 2, 3, 9])
  .ret)
  .skip)
 (.seq (.reg 0 [Xcall [] (some 10) f_ref22_far [(Xv 1), (Xf 2 (Xv 3)), (Xv 5)] [(.t 0), (.t 1), (.t 2)],
   Xset [(6, (Xv 10))]] [10])
 (.seq (.cond (Xk .eql (Xv 5) 0) [11]
  (.reg 0 [Xset [(6, (Xv 1))]] [1])
  .skip)
 (.seq (.cond (Xor (Xk .eql (Xf 3 (Xv 3)) 0) (Xk .lss (Xv 6) 0)) [12]
  (.seq (.reg 0 [Xset [(4, (Xi (-1)))]] [])
  .ret)
  .skip)
 (.seq (.reg 0 [Xcall [] (some 13) f_ref22_far [(Xv 6), (Xf 3 (Xv 3)), (Xb .sub (Xv 2) (Xv 5))] [(.t 0), (.t 1), (.t 2)],
   Xset [(4, (Xv 13))]] [2, 3, 5, 6, 13])
 .ret))))))))
theorem ok_ref22_At : HFn Try.prog f_ref22_At [0, 1, 2, 3, 6, 7, 8, 11, 16, 21, 26, 28, 36, 43] hc_ref22_At [.t 4] := hfn_opt (hs := [[0, 6], [], [], [11], [], [], [16], [1, 2, 3, 21], [26], [], [28], [1], [], [36], [], [2, 3, 7, 8, 43]]) fol Try.func58 (by kernel_rfl)

/-- signalbox/cyc.turns$1 [0, 1, 2, 3, 7] -/
def hc_cyc_turns_1 : HC :=
 (.seq (.reg 1 [Xeff [] (some 2) 0 (.alloc [(.int .i64 0), (.int .i64 0), (.int .i64 0), (.str [])]) []] [])
 (.seq (.reg 1 [Xeff [(4, (Xln 4 (Xx 4 (Xl (Xv 0)) (Xl (Xv 1)))))] (some 3) 0 (.alloc [(.int .i64 0), (.int .i64 0), (.int .i64 0), (.str [])]) [],
   Xeff [] none 1 (.store 4 (.t 0) (.t 1)) [(Xv 3), (Xv 4)]] [4])
 (.seq (.reg 0 [Xeff [] none 0 (.store 1 (.t 0) (.t 1)) [(Xv 1), (Xb .rem (Xk .add (Xl (Xv 1)) 1) (Xlen (Xl (Xv 0))))]] [0, 1])
 (.seq (.reg 0 [Xeff [] none 0 (.store 4 (.t 0) (.t 1)) [(Xv 2), (Xln 4 (Xv 3))]] [3])
 .ret))))
theorem ok_cyc_turns_1 : HFn Try.prog f_cyc_turns_1 [0, 1, 2, 3, 7] hc_cyc_turns_1 [.cell 2 (some 4)] := hfn_opt (hs := [[], [7], [0, 1], [3]]) fol Try.func64 (by kernel_rfl)

/-- slices.IndexFunc[[]signalbox/api.Frame,signalbox/api.Frame] [0, 1, 4, 5, 7, 8, 9, 16] -/
def hc_slices_IndexFunc_of_Frame_b1 : HC :=
 (.seq (.cond (Xb .lss (Xv 5) (Xv 4)) [6]
  .skip
  (.exit 0))
 (.seq (.block 1 (.seq (.reg 0 [Xset [(3, (Xv 5))]] [])
 (.seq (.reg 0 [Xeff [] (some 7) 0 (.call (.t 0) [(.t 1)]) [(Xv 1), (Xln 4 (Xx 4 (Xv 0) (Xv 3)))]] [])
 (.cond (Xv 7) [7]
  (.seq (.reg 0 [Xset [(2, (Xv 3))]] [3])
  .ret)
  .skip))))
 (.reg 0 [Xset [(5, (Xk .add (Xv 5) 1))]] [])))
def hc_slices_IndexFunc_of_Frame_l1 : HC := .loop [2, 3, 6, 7] hc_slices_IndexFunc_of_Frame_b1
def hc_slices_IndexFunc_of_Frame : HC :=
 (.seq (.reg 0 [Xset [(2, (Xi 0))]] [2])
 (.seq (.seq (.reg 0 [Xset [(4, (Xlen (Xv 0))), (5, (Xi 0))]] [])
 (.block 0 hc_slices_IndexFunc_of_Frame_l1))
 (.seq (.reg 0 [Xset [(2, (Xi (-1)))]] [])
 .ret)))
theorem ok_slices_IndexFunc_of_Frame : HFn Try.prog f_slices_IndexFunc_of_Frame [0, 1, 4, 5, 7, 8, 9, 16] hc_slices_IndexFunc_of_Frame [.t 2] := hfn_opt (hs := [[4], [], [4, 5, 9, 16], [], [9], [], [], [16], [5], [], []]) fol Try.func65 (by kernel_rfl)

/-- signalbox/signalboxref22.far [0, 1, 2, 6, 7, 8, 12, 23] -/
def hc_ref22_far_b1 : HC :=
 (.seq (.cond (Xb .lss (Xv 5) (Xv 2)) [6]
  .skip
  (.exit 0))
 (.seq (.block 1 (.seq (.reg 0 [Xset [(4, (Xb .add (Xv 4) (Xv 1)))]] [])
 (.cond (Xor (Xk .gtr (Xv 4) 2305843009213693952) (Xk .gtr (Xv 5) 3000)) [7]
  (.seq (.reg 0 [Xset [(3, (Xi (-1)))]] [])
  .ret)
  .skip)))
 (.reg 0 [Xset [(5, (Xk .add (Xv 5) 1))]] [])))
def hc_ref22_far_l1 : HC := .loop [0, 3, 6, 7] hc_ref22_far_b1
def hc_ref22_far : HC :=
 (.seq (.reg 0 [Xset [(3, (Xi 0))]] [3])
 (.seq (.reg 0 [Xset [(4, (Xv 0))]] [0])
 (.seq (.seq (.reg 0 [Xset [(5, (Xi 0))]] [])
 (.block 0 hc_ref22_far_l1))
 (.seq (.reg 0 [Xset [(3, (Xv 4))]] [4])
 .ret))))
theorem ok_ref22_far : HFn Try.prog f_ref22_far [0, 1, 2, 6, 7, 8, 12, 23] hc_ref22_far [.t 3] := hfn_opt (hs := [[6], [0], [], [0, 6, 12, 23], [], [12], [], [], [23], [], [], [7]]) fol Try.func66 (by kernel_rfl)


def tab0_QIc : TabH := [(f_law22_CycRight, [0, 1, 2, 3, 6, 7, 8, 9, 10, 12, 13, 14, 18, 22, 28, 30, 31, 32, 45, 47, 49, 54, 97, 101, 102, 103, 104, 105, 106, 107, 108], hc_law22_CycRight, [.t 4]),
  (f_ref09_Ints, [0, 1, 4, 5, 10, 14, 25], hc_ref09_Ints, [.t 2]),
  (f_ref22_Small, [0, 1, 2, 3, 4, 13], hc_ref22_Small, [.t 2]),
  (f_law22_alive, [0, 1, 2, 3, 4, 6, 7, 11, 13, 41, 42, 43, 44, 45], hc_law22_alive, [.t 0]),
  (f_cyc_New, [0, 1, 2, 4, 5, 6, 7, 9, 10, 12, 14, 18, 20, 23, 25, 28], hc_cyc_New, [.t 3, .t 4]),
  (f_ref22_Right, [0, 1, 2, 3, 7, 12, 15, 18, 21, 24, 27, 29, 34, 42, 43], hc_ref22_Right, [.t 2]),
  (f_cyc_Right, [0, 1, 2, 3, 8, 13, 16, 18, 21, 24, 27, 30, 33], hc_cyc_Right, [.t 2]),
  (f_cyc_Cyc_Job, [0, 2, 3, 5, 10, 13], hc_cyc_Cyc_Job, [.cell 1 (some 7)]),
  (f_ref03_Same, [0, 1, 4, 5, 10, 14, 25], hc_ref03_Same, [.t 2]),
  (f_cyc_Times, [0, 1, 2, 3, 6, 7, 8, 9, 10, 11, 15, 19, 23, 37, 39, 41, 42], hc_cyc_Times, [.t 4]),
  (f_ref22_Times, [0, 1, 2, 3, 6, 7, 8, 9, 11, 13, 15, 17, 20, 26, 33, 35, 37, 38], hc_ref22_Times, [.t 4]),
  (f_cyc_Cyc_Due, [0, 2, 3, 12], hc_cyc_Cyc_Due, [.t 1, .t 2]),
  (f_cyc_Cyc_Tick, [0, 1, 4, 5, 22, 28, 56], hc_cyc_Cyc_Tick, [.cell 2 (some 6)]),
  (f_law22_job, [0, 1, 2, 6, 7, 8, 9, 12], hc_law22_job, [.cell 3 (some 7)]),
  (f_cyc_count, [0, 2], hc_cyc_count, [.t 1]),
  (f_slices_Clone_of_Frame, [0, 2, 4, 5, 7], hc_slices_Clone_of_Frame, [.t 1]),
  (f_cyc_turns, [0, 1, 2, 3], hc_cyc_turns, [.t 2]),
  (f_cyc_Cyc_plan, [0, 1, 4, 14, 21, 26], hc_cyc_Cyc_plan, []),
  (f_ref22_count, [0, 2], hc_ref22_count, [.t 1]),
  (f_slices_ContainsFunc_of_Frame, [0, 1, 4, 7], hc_slices_ContainsFunc_of_Frame, [.t 2]),
  (f_cyc_Right_1, [0, 1, 2, 4], hc_cyc_Right_1, [.t 2]),
  (f_ref22_At, [0, 1, 2, 3, 6, 7, 8, 11, 16, 21, 26, 28, 36, 43], hc_ref22_At, [.t 4]),
  (f_cyc_turns_1, [0, 1, 2, 3, 7], hc_cyc_turns_1, [.cell 2 (some 4)]),
  (f_slices_IndexFunc_of_Frame, [0, 1, 4, 5, 7, 8, 9, 16], hc_slices_IndexFunc_of_Frame, [.t 2]),
  (f_ref22_far, [0, 1, 2, 6, 7, 8, 12, 23], hc_ref22_far, [.t 3])]
def tab_QIc : TabH := tab0_QIc ++ tab_QIa
theorem tabOk0_QIc : TabH.OK Try.prog tab0_QIc := TabH.ok_cons ok_law22_CycRight (TabH.ok_cons ok_ref09_Ints (TabH.ok_cons ok_ref22_Small (TabH.ok_cons ok_law22_alive (TabH.ok_cons ok_cyc_New (TabH.ok_cons ok_ref22_Right (TabH.ok_cons ok_cyc_Right (TabH.ok_cons ok_cyc_Cyc_Job (TabH.ok_cons ok_ref03_Same (TabH.ok_cons ok_cyc_Times (TabH.ok_cons ok_ref22_Times (TabH.ok_cons ok_cyc_Cyc_Due (TabH.ok_cons ok_cyc_Cyc_Tick (TabH.ok_cons ok_law22_job (TabH.ok_cons ok_cyc_count (TabH.ok_cons ok_slices_Clone_of_Frame (TabH.ok_cons ok_cyc_turns (TabH.ok_cons ok_cyc_Cyc_plan (TabH.ok_cons ok_ref22_count (TabH.ok_cons ok_slices_ContainsFunc_of_Frame (TabH.ok_cons ok_cyc_Right_1 (TabH.ok_cons ok_ref22_At (TabH.ok_cons ok_cyc_turns_1 (TabH.ok_cons ok_slices_IndexFunc_of_Frame (TabH.ok_cons ok_ref22_far (TabH.ok_nil)))))))))))))))))))))))))
theorem tabOk_QIc : TabH.OK Try.prog tab_QIc := TabH.ok_app (tabOk0_QIc) tabOk_QIa
end Go.Proofs.Ytkkccabchhnebaa
end
