/- QIf, put together. Conditions: none. -/
import Derived.Test.YtapoilcpollmpaaNP0
import Derived.Test.YtapoilcpollmpaaNQIa
/- What the program's functions do, in compact code, as printed by MkHC.lean. -/
section
namespace Go.Proofs.Ytapoilcpollmpaa
open Go.SB
set_option maxRecDepth 100000
abbrev f_law24_BcmTimes : Nat := 4
abbrev f_law24_BcmFull : Nat := 5
abbrev f_ref22_Small : Nat := 19
abbrev f_law24_alive : Nat := 20
abbrev f_bcm_New : Nat := 21
abbrev f_bcm_Jobs_Tx : Nat := 22
abbrev f_ref22_Right : Nat := 23
abbrev f_ref22_Times : Nat := 24
abbrev f_bcm_Jobs_Tick : Nat := 25
abbrev f_bcm_Jobs_TxStop : Nat := 26
abbrev f_ref09_Ints : Nat := 27
abbrev f_bcm_Jobs_Rx : Nat := 28
abbrev f_bcm_Jobs_Len : Nat := 29
abbrev f_bcm_Jobs_Drop : Nat := 30
abbrev f_bcm_Jobs_Note : Nat := 47
abbrev f_bcm_right : Nat := 64
abbrev f_cyc_New : Nat := 65
abbrev f_slices_DeleteFunc_of_sender : Nat := 66
abbrev f_slices_Clone_of_sender : Nat := 67
abbrev f_bcm_Jobs_Tx_1 : Nat := 68
abbrev f_bcm_sender_is : Nat := 69
abbrev f_bcm_count_of_sender : Nat := 70
abbrev f_bcm_Jobs_Tx_2 : Nat := 71
abbrev f_cyc_Cyc_Begin : Nat := 72
abbrev f_ref22_count : Nat := 73
abbrev f_ref22_At : Nat := 74
abbrev f_cyc_Cyc_Tick : Nat := 75
abbrev f_bcm_Jobs_tell : Nat := 76
abbrev f_watch_Watch_Tick : Nat := 77
abbrev f_bcm_Jobs_TxStop_1 : Nat := 78
abbrev f_watch_New : Nat := 79
abbrev f_slices_DeleteFunc_of_watcher : Nat := 80
abbrev f_slices_Clone_of_watcher : Nat := 81
abbrev f_bcm_Jobs_Rx_1 : Nat := 82
abbrev f_bcm_watcher_is : Nat := 83
abbrev f_bcm_count_of_watcher : Nat := 84
abbrev f_bcm_Jobs_Rx_2 : Nat := 85
abbrev f_bcm_Jobs_Len_1 : Nat := 86
abbrev f_bcm_Jobs_Len_2 : Nat := 87
abbrev f_bcm_Jobs_Drop_1 : Nat := 88
abbrev f_bcm_Jobs_Drop_2 : Nat := 89
abbrev f_slices_IndexFunc_of_sender : Nat := 108
abbrev f_slices_IndexFunc_of_watcher : Nat := 111
abbrev f_bcm_Jobs_row : Nat := 114
abbrev f_ring_Ring_of_Note_Take : Nat := 115
abbrev f_cyc_count : Nat := 130
abbrev f_cyc_Right : Nat := 131
abbrev f_slices_Clone_of_Frame : Nat := 132
abbrev f_cyc_turns : Nat := 133
abbrev f_cyc_Cyc_plan : Nat := 134
abbrev f_ref22_far : Nat := 135
abbrev f_ring_New_of_Note : Nat := 136
abbrev f_ring_Ring_of_Note_Put : Nat := 137
abbrev f_watch_within : Nat := 138
abbrev f_watch_Watch_tell : Nat := 139
abbrev f_watch_Watch_note : Nat := 140
abbrev f_watch_Right : Nat := 141
abbrev f_ring_Ring_of_Note_Peek : Nat := 149
abbrev f_ring_Ring_of_Note_at : Nat := 150
abbrev f_slices_ContainsFunc_of_Frame : Nat := 162
abbrev f_cyc_Right_1 : Nat := 163
abbrev f_cyc_turns_1 : Nat := 164
abbrev f_watch_count : Nat := 165
abbrev f_slices_IndexFunc_of_Frame : Nat := 170

/-- signalbox/signalboxlaw24.BcmTimes [0, 1, 2, 3, 4, 5, 8, 9, 11, 12, 13, 15, 16, 18, 20, 22, 24, 46, 47, 48, 52, 56, 57, 59, 61, 62, 69, 70, 71, 72, 81, 82, 84, 85, 89, 94, 95, 96, 97, 99, 102, 103, 105, 106, 111, 115, 117, 120, 121, 122] -/
def hc_law24_BcmTimes_b1 : HC :=
 (.seq (.cond (Xb .lss (Xv 28) (Xv 27)) [29]
  .skip
  (.exit 0))
 (.seq (.block 1 (.seq (.reg 0 [Xset [(11, (Xl (Xx 1 (Xv 26) (Xv 28))))]] [])
 (.cond (Xor (Xb .leq (Xv 11) (Xv 3)) (Xk .lss (Xv 3) 1)) [30]
  (.reg 2 [Xeff [(31, (Xv 10))] (some 32) 0 (.bslice 1 [(.t 0)]) [(Xv 11)],
    Xeff [] (some 33) 1 (.app 1 8 (.t 0) (.t 1)) [(Xv 31), (Xv 32)],
    Xset [(10, (Xv 33))]] [11, 31, 32, 33])
  .skip)))
 (.reg 0 [Xset [(28, (Xk .add (Xv 28) 1))]] [])))
def hc_law24_BcmTimes_l1 : HC := .loop [0, 1, 5, 6, 8, 11, 12, 13, 14, 15, 16, 17, 18, 19, 20, 21, 22, 23, 24, 25, 29, 30, 31, 32, 33, 34, 35, 36, 37, 38, 39, 40, 41, 42, 43, 44, 45, 46, 47, 48, 49] hc_law24_BcmTimes_b1
def hc_law24_BcmTimes_b2 : HC :=
 (.seq (.cond (Xb .lss (Xv 37) (Xv 36)) [38]
  .skip
  (.exit 4))
 (.seq (.block 5 (.seq (.reg 1 [Xeff [(39, (Xln 5 (Xx 5 (Xv 35) (Xv 37))))] (some 13) 0 (.alloc [(.int .i64 0), (.int .i64 0), (.int .i64 0), (.int .i64 0), (.str [])]) [],
   Xeff [] none 1 (.store 5 (.t 0) (.t 1)) [(Xv 13), (Xv 39)]] [39])
 (.seq (.reg 0 [Xset [(40, (Xk .eql (Xf 0 (Xv 13)) 3))]] [13])
 (.cond (Xv 40) [40]
  (.reg 2 [Xeff [(41, (Xv 9))] (some 42) 0 (.bslice 1 [(.t 0)]) [(Xv 12)],
    Xeff [] (some 43) 1 (.app 1 8 (.t 0) (.t 1)) [(Xv 41), (Xv 42)],
    Xset [(9, (Xv 43))]] [41, 42, 43])
  .skip))))
 (.reg 0 [Xset [(37, (Xk .add (Xv 37) 1))]] [])))
def hc_law24_BcmTimes_l2 : HC := .loop [0, 1, 5, 6, 8, 11, 13, 14, 15, 16, 17, 18, 19, 20, 21, 22, 23, 24, 25, 26, 27, 28, 29, 30, 31, 32, 33, 34, 38, 39, 40, 41, 42, 43, 44, 45, 46, 47, 48, 49] hc_law24_BcmTimes_b2
def hc_law24_BcmTimes_b3 : HC :=
 (.seq (.cond (Xb .leq (Xv 12) (Xv 2)) [34]
  .skip
  (.exit 2))
 (.seq (.block 3 (.seq (.seq (.reg 0 [Xcall [] (some 35) f_bcm_Jobs_Tick [(Xv 7), (Xv 12)] [(.t 0), (.t 1)],
   Xset [(36, (Xlen (Xv 35))), (37, (Xi 0))]] [])
 (.block 4 hc_law24_BcmTimes_l2))
 (.seq (.reg 0 [⟨[(44, (Xb .eql (Xv 12) (Xv 3)))], [], (some ⟨(some 45), (some ((Xb .eql (Xv 12) (Xv 3)), true)), 0, .call (.c (.fn f_bcm_Jobs_TxStop [] [])) [(.t 0), (.c (.int .i64 3)), (.t 1)], [(Xv 7), (Xf 0 (Xv 4))], []⟩)⟩,
   Xset [(46, (Xand (Xv 44) (Xk .neq (Xv 45) 0)))]] [44, 45])
 (.cond (Xv 46) [46]
  (.seq (.reg 0 [Xset [(6, (Xc (.bool false)))]] [])
  .ret)
  .skip))))
 (.reg 0 [Xset [(12, (Xk .add (Xv 12) 1))]] [])))
def hc_law24_BcmTimes_l3 : HC := .loop [0, 1, 5, 6, 8, 11, 13, 14, 15, 16, 17, 18, 19, 20, 21, 22, 23, 24, 25, 26, 27, 28, 29, 30, 31, 32, 33, 34, 35, 36, 37, 38, 39, 40, 41, 42, 43, 44, 45, 46, 47, 48, 49] hc_law24_BcmTimes_b3
def hc_law24_BcmTimes : HC :=
 (.seq (.reg 2 [Xeff [] (some 4) 0 (.box (.t 0)) [(Xv 0)],
   Xeff [] (some 5) 1 (.box (.t 0)) [(Xv 1)],
   Xset [(6, (Xc (.bool false)))]] [0, 1, 6])
 (.seq (.seq (.reg 0 [Xcall [] (some 14) f_ref22_Small [(Xln 7 (Xv 4))] [(.t 0)],
   ⟨[(15, (Xnot (Xv 14)))], [], (some ⟨(some 16), (some ((Xnot (Xv 14)), false)), 0, .call (.c (.fn f_ref22_Small [] [])) [(.t 0)], [(Xln 7 (Xv 5))], []⟩)⟩,
   Xset [(17, (Xor (Xor (Xor (Xor (Xor (Xv 15) (Xnot (Xv 16))) (Xk .gtr (Xlen (Xf 4 (Xv 4))) 20)) (Xk .gtr (Xlen (Xf 4 (Xv 5))) 20)) (Xk .lss (Xv 2) 0)) (Xk .gtr (Xv 2) 200)))]] [14, 15, 16])
 (.cond (Xv 17) [17]
  (.seq (.reg 0 [Xcall [] (some 18) f_law24_alive [] [],
    Xset [(6, (Xv 18))]] [18])
  .ret)
  .skip))
 (.seq (.reg 0 [Xcall [] (some 19) f_bcm_New [] [(.c (.int .i64 1))],
   Xset [(7, (Xv 19))]] [19])
 (.seq (.seq (.reg 0 [Xcall [] (some 20) f_bcm_Jobs_Tx [(Xv 7), (Xln 7 (Xv 4))] [(.t 0), (.c (.int .i64 3)), (.t 1), (.c (.int .i64 0))],
   ⟨[(8, (Xe 1 (Xv 20)))], [(Xe 0 (Xv 20))], none⟩] [20])
 (.cond (Xk .neq (Xv 8) 0) [21]
  (.seq (.reg 0 [Xcall [(22, (Xv 8))] (some 23) f_ref22_Right [(Xln 7 (Xv 4))] [(.t 0)],
    ⟨[(24, (Xb .eql (Xv 22) (Xv 23)))], [], (some ⟨(some 25), (some ((Xb .eql (Xv 22) (Xv 23)), true)), 0, .call (.c (.fn f_law24_alive [] [])) [], [], []⟩)⟩,
    Xset [(6, (Xand (Xv 24) (Xv 25)))]] [4, 8, 22, 23, 24, 25])
  .ret)
  .skip))
 (.seq (.reg 0 [Xcall [] none f_bcm_Jobs_Tx [(Xv 7), (Xln 7 (Xv 5))] [(.t 0), (.c (.int .i64 1)), (.t 1), (.c (.int .i64 0))]] [5])
 (.seq (.reg 0 [Xset [(9, (Xc .nils)), (10, (Xc .nils))]] [])
 (.seq (.seq (.reg 0 [Xcall [] (some 26) f_ref22_Times [(Xln 7 (Xv 4)), (Xv 2)] [(.t 0), (.c (.int .i64 0)), (.t 1)],
   Xset [(27, (Xlen (Xv 26))), (28, (Xi 0))]] [])
 (.block 0 hc_law24_BcmTimes_l1))
 (.seq (.seq (.reg 0 [Xset [(12, (Xi 1))]] [])
 (.block 2 hc_law24_BcmTimes_l3))
 (.seq (.reg 0 [Xcall [] (some 47) f_ref09_Ints [(Xv 9), (Xv 10)] [(.t 0), (.t 1)],
   ⟨[(48, (Xv 47))], [], (some ⟨(some 49), (some ((Xv 47), true)), 0, .call (.c (.fn f_law24_alive [] [])) [], [], []⟩)⟩,
   Xset [(6, (Xand (Xv 48) (Xv 49)))]] [9, 10, 47, 48, 49])
 .ret)))))))))
theorem ok_law24_BcmTimes : HFn Try.prog f_law24_BcmTimes [0, 1, 2, 3, 4, 5, 8, 9, 11, 12, 13, 15, 16, 18, 20, 22, 24, 46, 47, 48, 52, 56, 57, 59, 61, 62, 69, 70, 71, 72, 81, 82, 84, 85, 89, 94, 95, 96, 97, 99, 102, 103, 105, 106, 111, 115, 117, 120, 121, 122] hc_law24_BcmTimes [.t 6] := hfn_opt (hs := [[0, 1, 8], [20, 22, 24], [46], [47], [48], [52], [], [56], [4, 11, 57, 59, 61, 62], [5], [], [], [0, 1, 5, 8, 11, 15, 16, 18, 20, 22, 24, 46, 47, 48, 52, 56, 57, 59, 61, 62, 72, 81, 82, 84, 85, 89, 94, 95, 96, 97, 99, 102, 103, 105, 106, 111, 115, 117, 120, 121, 122], [], [72], [], [], [81], [15, 82, 84, 85], [], [], [0, 1, 5, 8, 11, 15, 18, 20, 22, 24, 46, 47, 48, 52, 56, 57, 59, 61, 62, 69, 70, 71, 72, 81, 82, 84, 85, 89, 94, 95, 96, 97, 99, 102, 103, 105, 106, 111, 115, 117, 120, 121, 122], [], [89], [], [0, 1, 5, 8, 11, 15, 18, 20, 22, 24, 46, 47, 48, 52, 56, 57, 59, 61, 62, 69, 70, 71, 72, 81, 82, 84, 85, 89, 97, 99, 102, 103, 105, 106, 111, 115, 117, 120, 121, 122], [], [97], [99], [18], [102], [103, 105, 106], [], [111, 115], [117], [], [], [12, 13, 120, 121, 122]]) fol Try.func4 (by kernel_rfl)

/-- signalbox/signalboxlaw24.BcmFull [0, 1, 4, 5, 6, 7, 9, 11, 13, 14, 15, 29, 30, 31, 33, 34, 35, 36, 44, 48, 55, 56, 62, 71, 78, 83, 98, 101, 104, 107, 110, 113, 116, 117] -/
def hc_law24_BcmFull_b1 : HC :=
 (.seq (.cond (Xk .lss (Xv 16) 100) [17]
  .skip
  (.exit 0))
 (.seq (.block 1 (.seq (.reg 0 [Xset [(5, (Xv 16))]] [])
 (.seq (.reg 0 [Xeff [] none 0 (.store 1 (.t 0) (.t 1)) [(Xa 0 (Xv 4)), (Xv 5)]] [])
 (.seq (.seq (.reg 0 [Xcall [] (some 18) f_bcm_Jobs_Tx [(Xv 3), (Xv 0), (Xln 7 (Xv 4))] [(.t 0), (.t 1), (.t 2), (.c (.int .i64 0))],
   ⟨[(6, (Xe 1 (Xv 18)))], [(Xe 0 (Xv 18))], none⟩] [18])
 (.seq (.reg 0 [Xset [(19, (Xk .neq (Xv 6) 0))]] [6])
 (.cond (Xv 19) [19]
  (.seq (.reg 0 [Xset [(2, (Xc (.bool false)))]] [])
  .ret)
  .skip)))
 (.seq (.reg 0 [Xcall [] (some 20) f_bcm_Jobs_Rx [(Xv 3), (Xv 0), (.o (.build [(.int .u32 0), (.int .u32 0), (.bool false), (.str []), (.int .i64 0), (.int .i64 0)] [(0, 3, (.t 0))]) [(.o (.build [(.int .u32 0), (.int .u32 0), (.bool false)] [(0, 1, (.t 0))]) [(Xcv .u32 (Xv 5))])])] [(.t 0), (.t 1), (.t 2), (.c (.int .i64 0))],
   Xset [(21, (Xk .neq (Xv 20) 0))]] [5, 20])
 (.cond (Xv 21) [21]
  (.seq (.reg 0 [Xset [(2, (Xc (.bool false)))]] [])
  .ret)
  .skip))))))
 (.reg 0 [Xset [(16, (Xk .add (Xv 16) 1))]] [])))
def hc_law24_BcmFull_l1 : HC := .loop [2, 5, 6, 7, 8, 9, 10, 11, 12, 13, 14, 15, 17, 18, 19, 20, 21, 22, 23, 24, 25, 26, 27, 28, 29, 30, 31, 32, 33] hc_law24_BcmFull_b1
def hc_law24_BcmFull : HC :=
 (.seq (.reg 0 [Xset [(2, (Xc (.bool false)))]] [2])
 (.seq (.cond (Xor (Xor (Xk .lss (Xv 0) 0) (Xk .gtr (Xv 0) 99)) (Xand (Xk .geq (Xv 1) 0) (Xk .lss (Xv 1) 100))) [11]
  (.seq (.reg 0 [Xcall [] (some 12) f_law24_alive [] [],
    Xset [(2, (Xv 12))]] [12])
  .ret)
  .skip)
 (.seq (.reg 0 [Xcall [] (some 13) f_bcm_New [] [(.c (.int .i64 1))],
   Xset [(3, (Xv 13))]] [13])
 (.seq (.reg 2 [Xeff [] (some 14) 0 (.bslice 4 [(.t 0)]) [(.o (.build [(.int .i64 0), (.int .i64 0), (.int .i64 0), (.str [])] [(0, 1, (.c (.int .i64 1)))]) [])],
   Xeff [(15, (.o (.build [(.int .i64 0), (.int .i64 0), (.int .i64 0), (.int .i64 0), .nils, (.bool false), (.bool false)] [(4, 1, (.t 0))]) [(Xv 14)]))] (some 4) 1 (.alloc [(.int .i64 0), (.int .i64 0), (.int .i64 0), (.int .i64 0), .nils, (.bool false), (.bool false)]) [],
   Xeff [] none 2 (.store 7 (.t 0) (.t 1)) [(Xv 4), (Xv 15)]] [14, 15])
 (.seq (.seq (.reg 0 [Xset [(16, (Xi 0))]] [])
 (.block 0 hc_law24_BcmFull_l1))
 (.seq (.reg 0 [Xcall [] (some 22) f_bcm_Jobs_Tx [(Xv 3), (Xv 0), (Xln 7 (Xv 4))] [(.t 0), (.t 1), (.t 2), (.c (.int .i64 0))],
   ⟨[(7, (Xe 1 (Xv 22)))], [(Xe 0 (Xv 22))], none⟩] [22])
 (.seq (.reg 0 [Xeff [] none 0 (.store 1 (.t 0) (.t 1)) [(Xa 0 (Xv 4)), (Xv 1)]] [1])
 (.seq (.reg 0 [Xcall [] (some 23) f_bcm_Jobs_Tx [(Xv 3), (Xv 0), (Xln 7 (Xv 4))] [(.t 0), (.t 1), (.t 2), (.c (.int .i64 0))],
   ⟨[(8, (Xe 1 (Xv 23)))], [(Xe 0 (Xv 23))], none⟩] [4, 23])
 (.seq (.reg 0 [Xcall [] (some 24) f_bcm_Jobs_Rx [(Xv 3), (Xv 0), (.o (.build [(.int .u32 0), (.int .u32 0), (.bool false), (.str []), (.int .i64 0), (.int .i64 0)] [(0, 3, (.t 0))]) [(.o (.build [(.int .u32 0), (.int .u32 0), (.bool false)] [(0, 1, (.c (.int .u32 100)))]) [])])] [(.t 0), (.t 1), (.t 2), (.c (.int .i64 0))],
   Xset [(9, (Xv 24))]] [24])
 (.seq (.reg 0 [Xcall [] (some 25) f_bcm_Jobs_Rx [(Xv 3), (Xv 0), (.o (.build [(.int .u32 0), (.int .u32 0), (.bool false), (.str []), (.int .i64 0), (.int .i64 0)] [(0, 3, (.t 0))]) [(.o (.build [(.int .u32 0), (.int .u32 0), (.bool false)] [(0, 1, (.c (.int .u32 99)))]) [])])] [(.t 0), (.t 1), (.t 2), (.c (.int .i64 0))],
   Xset [(10, (Xv 25))]] [25])
 (.seq (.reg 0 [⟨[(26, (Xand (Xand (Xand (Xk .eql (Xv 7) 0) (Xk .eql (Xv 8) 9)) (Xk .eql (Xv 9) 9)) (Xk .eql (Xv 10) 0)))], [], (some ⟨(some 27), (some ((Xand (Xand (Xand (Xk .eql (Xv 7) 0) (Xk .eql (Xv 8) 9)) (Xk .eql (Xv 9) 9)) (Xk .eql (Xv 10) 0)), true)), 0, .call (.c (.fn f_bcm_Jobs_Len [] [])) [(.t 0), (.t 1)], [(Xv 3), (Xv 0)], []⟩)⟩,
   ⟨[(28, (Xand (Xv 26) (Xk .eql (Xv 27) 200)))], [], (some ⟨(some 29), (some ((Xand (Xv 26) (Xk .eql (Xv 27) 200)), true)), 0, .call (.c (.fn f_bcm_Jobs_Drop [] [])) [(.t 0), (.t 1)], [(Xv 3), (Xv 0)], []⟩)⟩,
   ⟨[(30, (Xand (Xv 28) (Xk .eql (Xv 29) 200)))], [], (some ⟨(some 31), (some ((Xand (Xv 28) (Xk .eql (Xv 29) 200)), true)), 0, .call (.c (.fn f_bcm_Jobs_Len [] [])) [(.t 0), (.t 1)], [(Xv 3), (Xv 0)], []⟩)⟩,
   ⟨[(32, (Xand (Xv 30) (Xk .eql (Xv 31) 0)))], [], (some ⟨(some 33), (some ((Xand (Xv 30) (Xk .eql (Xv 31) 0)), true)), 0, .call (.c (.fn f_law24_alive [] [])) [], [], []⟩)⟩,
   Xset [(2, (Xand (Xv 32) (Xv 33)))]] [0, 3, 7, 8, 9, 10, 26, 27, 28, 29, 30, 31, 32, 33])
 .ret)))))))))))
theorem ok_law24_BcmFull : HFn Try.prog f_law24_BcmFull [0, 1, 4, 5, 6, 7, 9, 11, 13, 14, 15, 29, 30, 31, 33, 34, 35, 36, 44, 48, 55, 56, 62, 71, 78, 83, 98, 101, 104, 107, 110, 113, 116, 117] hc_law24_BcmFull [.t 2] := hfn_opt (hs := [[4], [], [29], [30], [31], [33, 34], [], [4, 7, 9, 11, 13, 14, 15, 29, 30, 31, 33, 34, 36, 44, 48, 55, 56, 62, 71, 78, 83, 98, 101, 104, 107, 110, 113, 116, 117], [], [36], [], [], [44], [9], [48], [], [7, 55], [56], [], [], [62], [1], [6, 71], [78], [83], [0, 5, 11, 13, 14, 15, 98, 101, 104, 107, 110, 113, 116, 117]]) fol Try.func5 (by kernel_rfl)

/-- signalbox/signalboxref22.Small [0, 1, 2, 3, 4, 13] -/
def hc_ref22_Small_b1 : HC :=
 (.seq (.cond (Xand (Xb .lss (Xv 4) (Xlen (Xf 4 (Xv 1)))) (Xk .leq (Xv 4) 300)) [5]
  .skip
  (.exit 0))
 (.seq (.block 1 (.reg 0 [Xset [(3, (Xb .add (Xv 3) (.o (.mn [(.t 0), (.c (.int .i64 5000))]) [(Xls (Xf 3 (Xx 4 (Xf 4 (Xv 1)) (Xv 4))))])))]] []))
 (.reg 0 [Xset [(4, (Xk .add (Xv 4) 1))]] [])))
def hc_ref22_Small_l1 : HC := .loop [0, 2, 5] hc_ref22_Small_b1
def hc_ref22_Small : HC :=
 (.seq (.reg 1 [Xeff [] (some 1) 0 (.box (.t 0)) [(Xv 0)],
   Xset [(2, (Xc (.bool false)))]] [0, 2])
 (.seq (.reg 0 [Xset [(3, (Xi 0))]] [])
 (.seq (.seq (.reg 0 [Xset [(4, (Xi 0))]] [])
 (.block 0 hc_ref22_Small_l1))
 (.seq (.reg 0 [Xset [(2, (Xand (Xand (Xk .leq (Xlen (Xf 4 (Xv 1))) 300) (Xk .leq (Xv 3) 4000)) (Xk .leq (Xf 1 (Xv 1)) 200)))]] [1, 3])
 .ret))))
theorem ok_ref22_Small : HFn Try.prog f_ref22_Small [0, 1, 2, 3, 4, 13] hc_ref22_Small [.t 2] := hfn_opt (hs := [[0, 2], [], [], [0, 2, 13], [], [13], [], [], [1, 3]]) fol Try.func19 (by kernel_rfl)

/-- signalbox/signalboxlaw24.alive [0, 1, 3, 4, 5, 6, 7, 8, 10, 12, 14, 18, 20, 23, 24, 25] -/
def hc_law24_alive : HC :=
 (.seq (.reg 0 [Xset [(0, (Xc (.bool false)))]] [0])
 (.seq (.reg 0 [Xcall [] (some 7) f_bcm_New [] [(.c (.int .i64 4))],
   Xset [(1, (Xv 7))]] [7])
 (.seq (.reg 1 [Xeff [(8, (Xv 1))] (some 9) 0 (.bslice 4 [(.t 0)]) [(.o (.build [(.int .i64 0), (.int .i64 0), (.int .i64 0), (.str [])] [(0, 1, (.c (.int .i64 3)))]) [])],
   Xeff [] (some 10) 1 (.call (.c (.fn f_bcm_Jobs_Tx [] [])) [(.t 0), (.c (.int .i64 0)), (.t 1), (.c (.int .i64 0))]) [(Xv 8), (.o (.build [(.int .i64 0), (.int .i64 0), (.int .i64 0), (.int .i64 0), .nils, (.bool false), (.bool false)] [(0, 1, (.c (.int .i64 7))), (1, 1, (.c (.int .i64 1))), (2, 1, (.c (.int .i64 2))), (6, 1, (.c (.bool true))), (4, 1, (.t 0))]) [(Xv 9)])],
   ⟨[(2, (Xe 1 (Xv 10)))], [(Xe 0 (Xv 10))], none⟩] [8, 9, 10])
 (.seq (.reg 0 [Xcall [] (some 11) f_bcm_Jobs_Tick [(Xv 1)] [(.t 0), (.c (.int .i64 1))],
   Xcall [] (some 12) f_bcm_Jobs_Tick [(Xv 1)] [(.t 0), (.c (.int .i64 2))],
   Xset [(3, (Xv 11)), (4, (Xv 12))]] [11, 12])
 (.seq (.reg 1 [Xcall [] (some 13) f_bcm_Jobs_Note [(Xv 1)] [(.t 0), (.c (.int .i64 0))],
   Xeff [(14, (Xe 0 (Xv 13))), (15, (Xe 1 (Xv 13)))] (some 5) 0 (.alloc [(.int .i64 0), (.int .i64 0), (.int .i64 0), (.int .i64 0), (.int .i64 0), (.str []), (.int .i64 0)]) [],
   Xeff [] none 1 (.store 7 (.t 0) (.t 1)) [(Xv 5), (Xv 14)],
   Xset [(6, (Xv 15))]] [1, 13, 14, 15])
 (.seq (.reg 0 [Xset [(0, (Xand (Xand (Xand (Xand (Xand (Xand (Xand (Xk .eql (Xv 2) 0) (Xk .eql (Xlen (Xv 3)) 0)) (Xk .eql (Xlen (Xv 4)) 1)) (Xk .eql (Xf 0 (Xa 1 (.o (.iaddr 5 (.t 0) (.c (.int .i64 0))) [(Xv 4)]))) 3)) (Xk .eql (Xv 6) 0)) (Xk .eql (Xf 0 (Xv 5)) 3)) (Xk .eql (Xf 1 (Xv 5)) 7)) (Xk .eql (Xf 6 (Xv 5)) 2)))]] [2, 3, 4, 5, 6])
 .ret))))))
theorem ok_law24_alive : HFn Try.prog f_law24_alive [0, 1, 3, 4, 5, 6, 7, 8, 10, 12, 14, 18, 20, 23, 24, 25] hc_law24_alive [.t 0] := hfn_opt (hs := [[0], [8], [10, 12, 14], [18, 20], [1, 23, 24, 25], [3, 4, 5, 6, 7]]) fol Try.func20 (by kernel_rfl)

/-- signalbox/bcm.New [0, 2, 3, 6] -/
def hc_bcm_New : HC :=
 (.seq (.reg 0 [Xset [(1, (Xc .nilp))]] [1])
 (.seq (.reg 2 [Xeff [] (some 2) 0 (.mkmap) [],
   Xeff [] (some 3) 1 (.box (.t 0)) [(.o (.build [.nils, .nils, .nilm, (.int .i64 0)] [(2, 1, (.t 0)), (3, 1, (.t 1))]) [(Xv 2), (Xv 0)])],
   Xset [(1, (Xv 3))]] [0, 2, 3])
 .ret))
theorem ok_bcm_New : HFn Try.prog f_bcm_New [0, 2, 3, 6] hc_bcm_New [.t 1] := hfn_opt (hs := [[2], [0, 3, 6]]) fol Try.func21 (by kernel_rfl)

/-- (*signalbox/bcm.Jobs).Tx [0, 1, 2, 3, 5, 6, 8, 9, 10, 11, 12, 13, 14, 15, 18, 20, 25, 29, 35, 37, 40, 41, 42, 43, 49, 50, 55, 56, 57, 58, 62] -/
def hc_bcm_Jobs_Tx : HC :=
 (.seq (.reg 2 [Xeff [] (some 4) 0 (.box (.t 0)) [(Xv 1)],
   Xeff [] (some 5) 1 (.box (.t 0)) [(Xv 2)],
   Xset [(6, (Xc .nils)), (7, (Xi 0))]] [1, 2, 6, 7])
 (.seq (.block 0 (.cond (Xnil (Xv 0)) [13]
  (.seq (.reg 0 [Xset [(6, (Xc .nils)), (7, (Xi 1))]] [])
  .ret)
  (.seq (.reg 0 [Xcall [] (some 15) f_bcm_right [(Xl (Xv 4))] [(.t 0)],
    Xset [(14, (Xnot (Xv 15)))]] [15])
  (.cond (Xv 14) [14]
   (.seq (.reg 0 [Xset [(6, (Xc .nils)), (7, (Xi 2))]] [])
   .ret)
   .skip))))
 (.seq (.reg 0 [Xcall [] (some 16) f_cyc_New [(Xln 7 (Xv 5)), (Xv 3)] [(.t 0), (.t 1)],
   Xset [(8, (Xe 0 (Xv 16))), (9, (Xe 1 (Xv 16)))]] [3, 16])
 (.seq (.cond (Xk .neq (Xv 9) 0) [17]
  (.seq (.reg 0 [Xset [(6, (Xc .nils)), (7, (Xv 9))]] [9])
  .ret)
  .skip)
 (.seq (.reg 0 [Xcall [] (some 18) f_slices_Clone_of_sender [(Xf 0 (Xn (Xv 0)))] [(.t 0)],
   Xcall [] (some 19) f_slices_DeleteFunc_of_sender [(Xv 18), (.o (.mkfn f_bcm_Jobs_Tx_1 [] [(.t 0), (.t 1)]) [(Xv 4), (Xv 5)])] [(.t 0), (.t 1)],
   Xset [(10, (Xv 19))]] [18, 19])
 (.seq (.seq (.reg 0 [Xcall [] (some 20) f_bcm_count_of_sender [(Xv 10), (.o (.mkfn f_bcm_Jobs_Tx_2 [] [(.t 0)]) [(Xv 4)])] [(.t 0), (.t 1)],
   Xset [(21, (Xk .geq (Xv 20) 100))]] [20])
 (.cond (Xv 21) [21]
  (.seq (.reg 0 [Xset [(6, (Xc .nils)), (7, (Xi 9))]] [])
  .ret)
  .skip))
 (.seq (.reg 2 [Xeff [(22, (Xv 0)), (23, (Xv 10))] (some 24) 0 (.bslice 3 [(.t 0)]) [(.o (.build [(.int .i64 0), (.int .i64 0), .nilp] [(0, 1, (.t 0)), (1, 1, (.t 1)), (2, 1, (.t 2))]) [(Xl (Xv 4)), (Xf 0 (Xv 5)), (Xv 8)])],
   Xeff [] (some 25) 1 (.app 3 24 (.t 0) (.t 1)) [(Xv 23), (Xv 24)],
   Xeff [] none 2 (.store 1 (.t 0) (.t 1)) [(Xa 0 (Xn (Xv 22))), (Xv 25)]] [0, 5, 10, 22, 23, 24, 25])
 (.seq (.seq (.reg 1 [Xcall [] (some 26) f_cyc_Cyc_Begin [(Xv 8)] [(.t 0)],
   Xeff [(27, (Xe 0 (Xv 26))), (28, (Xe 1 (Xv 26)))] (some 11) 0 (.alloc [(.int .i64 0), (.int .i64 0), (.int .i64 0), (.str [])]) [],
   Xeff [] none 1 (.store 4 (.t 0) (.t 1)) [(Xv 11), (Xv 27)],
   Xset [(12, (Xv 28))]] [8, 26, 27, 28])
 (.seq (.reg 0 [Xset [(29, (Xv 12))]] [12])
 (.cond (Xv 29) [29]
  (.seq (.reg 1 [Xeff [] (some 30) 0 (.bslice 5 [(.t 0)]) [(.o (.build [(.int .i64 0), (.int .i64 0), (.int .i64 0), (.int .i64 0), (.str [])] [(0, 1, (.t 0)), (1, 4, (.t 1))]) [(Xl (Xv 4)), (Xln 4 (Xv 11))])],
    Xset [(6, (Xv 30)), (7, (Xi 0))]] [4, 11, 30])
  .ret)
  .skip)))
 (.seq (.reg 0 [Xset [(6, (Xc .nils)), (7, (Xi 0))]] [])
 .ret)))))))))
theorem ok_bcm_Jobs_Tx : HFn Try.prog f_bcm_Jobs_Tx [0, 1, 2, 3, 5, 6, 8, 9, 10, 11, 12, 13, 14, 15, 18, 20, 25, 29, 35, 37, 40, 41, 42, 43, 49, 50, 55, 56, 57, 58, 62] hc_bcm_Jobs_Tx [.t 6, .t 7] := hfn_opt (hs := [[1, 2, 8, 9], [], [15], [], [20], [18], [], [3, 25], [], [29], [11], [35, 37], [40], [41], [], [0, 6, 12, 42, 43, 49, 50], [10, 55, 56, 57], [14], [58], [5, 13, 62], []]) fol Try.func22 (by kernel_rfl)

/-- signalbox/signalboxref22.Right [0, 1, 2, 3, 7, 12, 15, 18, 21, 24, 27, 29, 34, 42, 43] -/
def hc_ref22_Right_b1 : HC :=
 (.seq (.cond (Xb .lss (Xv 3) (Xlen (Xf 4 (Xv 1)))) [12]
  .skip
  (.exit 0))
 (.seq (.block 1 (.seq (.reg 0 [Xcall [] (some 13) f_ref02_Key [(Xln 4 (Xx 4 (Xf 4 (Xv 1)) (Xv 3)))] [(.t 0)],
   Xset [(14, (Xk .lss (Xv 13) 0))]] [13])
 (.cond (Xv 14) [14]
  (.seq (.reg 0 [Xset [(2, (Xi 4))]] [])
  .ret)
  .skip)))
 (.reg 0 [Xset [(3, (Xk .add (Xv 3) 1))]] [])))
def hc_ref22_Right_l1 : HC := .loop [0, 2, 4, 5, 6, 7, 8, 9, 10, 11, 12, 13, 14] hc_ref22_Right_b1
def hc_ref22_Right : HC :=
 (.seq (.reg 1 [Xeff [] (some 1) 0 (.box (.t 0)) [(Xv 0)],
   Xset [(2, (Xi 0))]] [0, 2])
 (.seq (.cond (Xk .gtr (Xlen (Xf 4 (Xv 1))) 256) [4]
  (.seq (.reg 0 [Xset [(2, (Xi 9))]] [])
  .ret)
  .skip)
 (.seq (.seq (.reg 0 [⟨[(5, (Xk .eql (Xlen (Xf 4 (Xv 1))) 0))], [], (some ⟨(some 6), (some ((Xk .eql (Xlen (Xf 4 (Xv 1))) 0), false)), 0, .call (.c (.fn f_ref22_count [] [])) [(.t 0)], [(Xf 1 (Xv 1))], []⟩)⟩,
   ⟨[(7, (Xor (Xv 5) (Xnot (Xv 6))))], [], (some ⟨(some 8), (some ((Xor (Xv 5) (Xnot (Xv 6))), false)), 0, .call (.c (.fn f_ref22_count [] [])) [(.t 0)], [(Xf 2 (Xv 1))], []⟩)⟩,
   ⟨[(9, (Xor (Xv 7) (Xnot (Xv 8))))], [], (some ⟨(some 10), (some ((Xor (Xv 7) (Xnot (Xv 8))), false)), 0, .call (.c (.fn f_ref22_count [] [])) [(.t 0)], [(Xf 3 (Xv 1))], []⟩)⟩,
   Xset [(11, (Xor (Xv 9) (Xnot (Xv 10))))]] [5, 6, 7, 8, 9, 10])
 (.cond (Xv 11) [11]
  (.seq (.reg 0 [Xset [(2, (Xi 2))]] [])
  .ret)
  .skip))
 (.seq (.seq (.reg 0 [Xset [(3, (Xi 0))]] [])
 (.block 0 hc_ref22_Right_l1))
 (.seq (.reg 0 [Xset [(2, (Xi 0))]] [])
 .ret)))))
theorem ok_ref22_Right : HFn Try.prog f_ref22_Right [0, 1, 2, 3, 7, 12, 15, 18, 21, 24, 27, 29, 34, 42, 43] hc_ref22_Right [.t 2] := hfn_opt (hs := [[0, 2], [], [7], [], [12, 15, 18, 21, 24, 27], [29], [], [], [0, 2, 7, 12, 15, 18, 21, 24, 27, 29, 34, 42, 43], [], [34], [42], [43], [], [], []]) fol Try.func23 (by kernel_rfl)

/-- signalbox/signalboxref22.Times [0, 1, 2, 3, 6, 7, 8, 9, 11, 13, 15, 17, 20, 26, 33, 35, 37, 38] -/
def hc_ref22_Times_b1 : HC :=
 (.seq (.cond (Xk .leq (Xv 6) 1000) [12]
  .skip
  (.exit 0))
 (.seq (.block 1 (.seq (.reg 0 [Xcall [] (some 13) f_ref22_At [(Xln 7 (Xv 3)), (Xv 1), (Xv 6)] [(.t 0), (.t 1), (.t 2)],
   Xset [(7, (Xv 13))]] [13])
 (.seq (.cond (Xor (Xk .lss (Xv 7) 0) (Xb .gtr (Xv 7) (Xv 2))) [14]
  (.seq (.reg 0 [Xset [(4, (Xv 5))]] [5])
  .ret)
  .skip)
 (.reg 2 [Xeff [(15, (Xv 5))] (some 16) 0 (.bslice 1 [(.t 0)]) [(Xv 7)],
   Xeff [] (some 17) 1 (.app 1 8 (.t 0) (.t 1)) [(Xv 15), (Xv 16)],
   Xset [(5, (Xv 17))]] [7, 15, 16, 17]))))
 (.reg 0 [Xset [(6, (Xk .add (Xv 6) 1))]] [])))
def hc_ref22_Times_l1 : HC := .loop [0, 4, 7, 8, 9, 10, 11, 12, 13, 14, 15, 16, 17] hc_ref22_Times_b1
def hc_ref22_Times : HC :=
 (.seq (.reg 1 [Xeff [] (some 3) 0 (.box (.t 0)) [(Xv 0)],
   Xset [(4, (Xc .nils))]] [0, 4])
 (.seq (.reg 0 [Xset [(5, (Xc .nils))]] [])
 (.seq (.seq (.reg 0 [Xcall [] (some 8) f_ref22_Right [(Xln 7 (Xv 3))] [(.t 0)],
   ⟨[(9, (Xk .neq (Xv 8) 0))], [], (some ⟨(some 10), (some ((Xk .neq (Xv 8) 0), false)), 0, .call (.c (.fn f_ref22_count [] [])) [(.t 0)], [(Xv 1)], []⟩)⟩,
   Xset [(11, (Xor (Xv 9) (Xnot (Xv 10))))]] [8, 9, 10])
 (.cond (Xv 11) [11]
  (.seq (.reg 0 [Xset [(4, (Xv 5))]] [5])
  .ret)
  .skip))
 (.seq (.seq (.reg 0 [Xset [(6, (Xi 1))]] [])
 (.block 0 hc_ref22_Times_l1))
 (.seq (.reg 0 [Xset [(4, (Xv 5))]] [5])
 .ret)))))
theorem ok_ref22_Times : HFn Try.prog f_ref22_Times [0, 1, 2, 3, 6, 7, 8, 9, 11, 13, 15, 17, 20, 26, 33, 35, 37, 38] hc_ref22_Times [.t 4] := hfn_opt (hs := [[0, 6], [], [11, 13, 15], [17], [7], [], [0, 6, 9, 11, 13, 15, 17, 20, 26, 33, 35, 37, 38], [], [20], [26], [], [33], [7], [9, 35, 37, 38], [], [7]]) fol Try.func24 (by kernel_rfl)

/-- (*signalbox/bcm.Jobs).Tick [0, 1, 4, 5, 7, 8, 10, 12, 14, 19, 20, 21, 22, 24, 28, 30, 31, 37, 38, 40, 55, 56, 57, 58, 60, 64, 65, 66, 67, 69] -/
def hc_bcm_Jobs_Tick_b1 : HC :=
 (.seq (.cond (Xb .lss (Xv 11) (Xv 10)) [12]
  .skip
  (.exit 0))
 (.seq (.block 1 (.seq (.reg 1 [Xeff [(13, (Xln 3 (Xx 3 (Xv 9) (Xv 11))))] (some 4) 0 (.alloc [(.int .i64 0), (.int .i64 0), .nilp]) [],
   Xeff [] none 1 (.store 3 (.t 0) (.t 1)) [(Xv 4), (Xv 13)]] [13])
 (.seq (.reg 1 [Xcall [] (some 14) f_cyc_Cyc_Tick [(Xf 2 (Xv 4)), (Xv 1)] [(.t 0), (.t 1)],
   Xeff [] (some 5) 0 (.alloc [(.int .i64 0), (.int .i64 0), (.int .i64 0), (.str []), (.bool false), (.bool false)]) [],
   Xeff [] none 1 (.store 6 (.t 0) (.t 1)) [(Xv 5), (Xv 14)]] [14])
 (.seq (.cond (Xf 4 (Xv 5)) [15]
  (.reg 2 [Xeff [(16, (Xv 3))] (some 17) 0 (.bslice 5 [(.t 0)]) [(.o (.build [(.int .i64 0), (.int .i64 0), (.int .i64 0), (.int .i64 0), (.str [])] [(0, 1, (.t 0)), (1, 4, (.t 1))]) [(Xf 0 (Xv 4)), (Xln 4 (Xa 0 (Xv 5)))])],
    Xeff [] (some 18) 1 (.app 5 48 (.t 0) (.t 1)) [(Xv 16), (Xv 17)],
    Xset [(3, (Xv 18))]] [16, 17, 18])
  .skip)
 (.cond (Xf 5 (Xv 5)) [19]
  (.reg 0 [Xcall [] none f_bcm_Jobs_tell [(Xv 0), (Xf 0 (Xv 4)), (.o (.build [(.int .i64 0), (.int .i64 0), (.int .i64 0), (.int .i64 0), (.int .i64 0), (.str []), (.int .i64 0)] [(0, 1, (.c (.int .i64 3))), (1, 1, (.t 0)), (2, 4, (.t 1)), (6, 1, (.t 2))]) [(Xf 1 (Xv 4)), (Xln 4 (Xa 0 (Xv 5))), (Xv 1)])] [(.t 0), (.t 1), (.t 2)]] [4, 5])
  .skip)))))
 (.reg 0 [Xset [(11, (Xk .add (Xv 11) 1))]] [])))
def hc_bcm_Jobs_Tick_l1 : HC := .loop [2, 4, 5, 6, 7, 8, 12, 13, 14, 15, 16, 17, 18, 19, 20, 21, 22, 23, 24, 25, 26, 27, 28, 29] hc_bcm_Jobs_Tick_b1
def hc_bcm_Jobs_Tick_b2 : HC :=
 (.seq (.cond (Xb .lss (Xv 27) (Xv 26)) [28]
  .skip
  (.exit 4))
 (.seq (.block 5 (.seq (.reg 1 [Xeff [(29, (Xln 7 (Xx 7 (Xv 25) (Xv 27))))] (some 7) 0 (.alloc [(.int .i64 0), (.int .i64 0), (.int .i64 0), (.int .i64 0), (.int .i64 0), (.str []), (.int .i64 0)]) [],
   Xeff [] none 1 (.store 7 (.t 0) (.t 1)) [(Xv 7), (Xv 29)]] [29])
 (.reg 0 [Xcall [] none f_bcm_Jobs_tell [(Xv 0), (Xf 0 (Xv 6)), (Xln 7 (Xv 7))] [(.t 0), (.t 1), (.t 2)]] [7])))
 (.reg 0 [Xset [(27, (Xk .add (Xv 27) 1))]] [])))
def hc_bcm_Jobs_Tick_l2 : HC := .loop [2, 4, 5, 7, 8, 9, 10, 11, 12, 13, 14, 15, 16, 17, 18, 19, 23, 24, 28, 29] hc_bcm_Jobs_Tick_b2
def hc_bcm_Jobs_Tick_b3 : HC :=
 (.seq (.cond (Xb .lss (Xv 22) (Xv 21)) [23]
  .skip
  (.exit 2))
 (.seq (.block 3 (.seq (.reg 1 [Xeff [(24, (Xln 5 (Xx 5 (Xv 20) (Xv 22))))] (some 6) 0 (.alloc [(.int .i64 0), (.int .u32 0), (.int .u32 0), (.bool false), .nilp]) [],
   Xeff [] none 1 (.store 5 (.t 0) (.t 1)) [(Xv 6), (Xv 24)]] [24])
 (.seq (.reg 0 [Xcall [] (some 25) f_watch_Watch_Tick [(Xf 4 (Xv 6)), (Xv 1)] [(.t 0), (.t 1)],
   Xset [(26, (Xlen (Xv 25))), (27, (Xi 0))]] [])
 (.block 4 hc_bcm_Jobs_Tick_l2))))
 (.reg 0 [Xset [(22, (Xk .add (Xv 22) 1))]] [])))
def hc_bcm_Jobs_Tick_l3 : HC := .loop [2, 4, 5, 6, 7, 8, 9, 10, 11, 12, 13, 14, 15, 16, 17, 18, 19, 23, 24, 25, 26, 27, 28, 29] hc_bcm_Jobs_Tick_b3
def hc_bcm_Jobs_Tick : HC :=
 (.seq (.reg 0 [Xset [(2, (Xc .nils))]] [2])
 (.seq (.reg 0 [Xset [(3, (Xc .nils))]] [])
 (.seq (.cond (Xnil (Xv 0)) [8]
  (.seq (.reg 0 [Xset [(2, (Xv 3))]] [3])
  .ret)
  .skip)
 (.seq (.seq (.reg 0 [Xset [(9, (Xf 0 (Xn (Xv 0)))), (10, (Xlen (Xf 0 (Xn (Xv 0))))), (11, (Xi 0))]] [])
 (.block 0 hc_bcm_Jobs_Tick_l1))
 (.seq (.seq (.reg 0 [Xset [(20, (Xf 1 (Xn (Xv 0)))), (21, (Xlen (Xf 1 (Xn (Xv 0))))), (22, (Xi 0))]] [])
 (.block 2 hc_bcm_Jobs_Tick_l3))
 (.seq (.reg 0 [Xset [(2, (Xv 3))]] [3])
 .ret))))))
theorem ok_bcm_Jobs_Tick : HFn Try.prog f_bcm_Jobs_Tick [0, 1, 4, 5, 7, 8, 10, 12, 14, 19, 20, 21, 22, 24, 28, 30, 31, 37, 38, 40, 55, 56, 57, 58, 60, 64, 65, 66, 67, 69] hc_bcm_Jobs_Tick [.t 2] := hfn_opt (hs := [[4], [], [], [14], [5], [], [4, 7, 8, 10, 12, 14, 22, 24, 28, 30, 31, 37, 38, 40, 55, 56, 57, 58, 60, 64, 65, 66, 67, 69], [], [22], [24], [28], [], [30], [31, 37, 38], [], [40], [7, 8], [], [], [4, 7, 8, 10, 12, 14, 19, 20, 21, 22, 24, 28, 30, 31, 37, 38, 40, 58, 60, 64, 65, 66, 67, 69], [], [58], [60], [], [4, 7, 8, 12, 14, 19, 20, 21, 22, 24, 28, 30, 31, 37, 38, 40, 58, 60, 67, 69], [], [67], [69], [12], [], [], [5]]) fol Try.func25 (by kernel_rfl)

/-- (*signalbox/bcm.Jobs).TxStop [0, 1, 2, 4, 5, 6, 7, 9, 15, 21, 30] -/
def hc_bcm_Jobs_TxStop : HC :=
 (.seq (.reg 2 [Xeff [] (some 3) 0 (.box (.t 0)) [(Xv 1)],
   Xeff [] (some 4) 1 (.box (.t 0)) [(Xv 2)],
   Xset [(5, (Xi 0))]] [1, 2, 5])
 (.seq (.cond (Xnil (Xv 0)) [7]
  (.seq (.reg 0 [Xset [(5, (Xi 1))]] [])
  .ret)
  .skip)
 (.seq (.reg 0 [Xset [(6, (Xlen (Xf 0 (Xn (Xv 0)))))]] [])
 (.seq (.reg 0 [Xcall [(8, (Xv 0))] (some 9) f_slices_DeleteFunc_of_sender [(Xf 0 (Xn (Xv 0))), (.o (.mkfn f_bcm_Jobs_TxStop_1 [] [(.t 0), (.t 1)]) [(Xv 3), (Xv 4)])] [(.t 0), (.t 1)],
   Xeff [] none 0 (.store 1 (.t 0) (.t 1)) [(Xa 0 (Xn (Xv 8))), (Xv 9)]] [3, 4, 8, 9])
 (.seq (.seq (.reg 0 [Xset [(10, (Xb .eql (Xlen (Xf 0 (Xn (Xv 0)))) (Xv 6)))]] [0, 6])
 (.cond (Xv 10) [10]
  (.seq (.reg 0 [Xset [(5, (Xi 11))]] [])
  .ret)
  .skip))
 (.seq (.reg 0 [Xset [(5, (Xi 0))]] [])
 .ret))))))
theorem ok_bcm_Jobs_TxStop : HFn Try.prog f_bcm_Jobs_TxStop [0, 1, 2, 4, 5, 6, 7, 9, 15, 21, 30] hc_bcm_Jobs_TxStop [.t 5] := hfn_opt (hs := [[1, 2, 6], [], [9], [], [], [4, 5, 15, 21], [0, 7], [30], [], []]) fol Try.func26 (by kernel_rfl)

/-- signalbox/signalboxref09.Ints [0, 1, 4, 5, 10, 14, 25] -/
def hc_ref09_Ints_b1 : HC :=
 (.seq (.cond (Xb .lss (Xv 3) (Xlen (Xv 0))) [5]
  .skip
  (.exit 0))
 (.seq (.block 1 (.cond (Xb .neq (Xl (Xx 1 (Xv 0) (Xv 3))) (Xl (Xx 1 (Xv 1) (Xv 3)))) [6]
  (.seq (.reg 0 [Xset [(2, (Xc (.bool false)))]] [])
  .ret)
  .skip))
 (.reg 0 [Xset [(3, (Xk .add (Xv 3) 1))]] [])))
def hc_ref09_Ints_l1 : HC := .loop [2, 4, 5, 6] hc_ref09_Ints_b1
def hc_ref09_Ints : HC :=
 (.seq (.reg 0 [Xset [(2, (Xc (.bool false)))]] [2])
 (.seq (.cond (Xb .neq (Xlen (Xv 0)) (Xlen (Xv 1))) [4]
  (.seq (.reg 0 [Xset [(2, (Xc (.bool false)))]] [])
  .ret)
  .skip)
 (.seq (.seq (.reg 0 [Xset [(3, (Xi 0))]] [])
 (.block 0 hc_ref09_Ints_l1))
 (.seq (.reg 0 [Xset [(2, (Xc (.bool true)))]] [])
 .ret))))
theorem ok_ref09_Ints : HFn Try.prog f_ref09_Ints [0, 1, 4, 5, 10, 14, 25] hc_ref09_Ints [.t 2] := hfn_opt (hs := [[4], [], [10], [], [], [4, 10, 14, 25], [], [14], [0, 1, 2, 4, 5, 6, 3, 7, 8], [0, 0, 3, 7, 0, 0, 48, 112, 255], [], [25], [], [], []]) fol Try.func27 (by kernel_rfl)

/-- (*signalbox/bcm.Jobs).Rx [0, 1, 2, 3, 5, 6, 8, 9, 10, 11, 12, 15, 17, 22, 26, 32, 34, 37, 38, 39, 40, 46, 47] -/
def hc_bcm_Jobs_Rx : HC :=
 (.seq (.reg 2 [Xeff [] (some 4) 0 (.box (.t 0)) [(Xv 1)],
   Xeff [] (some 5) 1 (.box (.t 0)) [(Xv 2)],
   Xset [(6, (Xi 0))]] [1, 2, 6])
 (.seq (.block 0 (.cond (Xnil (Xv 0)) [10]
  (.seq (.reg 0 [Xset [(6, (Xi 1))]] [])
  .ret)
  (.seq (.reg 0 [Xcall [] (some 12) f_bcm_right [(Xl (Xv 4))] [(.t 0)],
    Xset [(11, (Xnot (Xv 12)))]] [12])
  (.cond (Xv 11) [11]
   (.seq (.reg 0 [Xset [(6, (Xi 2))]] [])
   .ret)
   .skip))))
 (.seq (.reg 0 [Xcall [] (some 13) f_watch_New [(Xln 6 (Xv 5)), (Xv 3)] [(.t 0), (.t 1)],
   Xset [(7, (Xe 0 (Xv 13))), (8, (Xe 1 (Xv 13)))]] [3, 13])
 (.seq (.cond (Xk .neq (Xv 8) 0) [14]
  (.seq (.reg 0 [Xset [(6, (Xv 8))]] [8])
  .ret)
  .skip)
 (.seq (.reg 0 [Xcall [] (some 15) f_slices_Clone_of_watcher [(Xf 1 (Xn (Xv 0)))] [(.t 0)],
   Xcall [] (some 16) f_slices_DeleteFunc_of_watcher [(Xv 15), (.o (.mkfn f_bcm_Jobs_Rx_1 [] [(.t 0), (.t 1)]) [(Xv 4), (Xv 5)])] [(.t 0), (.t 1)],
   Xset [(9, (Xv 16))]] [15, 16])
 (.seq (.seq (.reg 0 [Xcall [] (some 17) f_bcm_count_of_watcher [(Xv 9), (.o (.mkfn f_bcm_Jobs_Rx_2 [] [(.t 0)]) [(Xv 4)])] [(.t 0), (.t 1)],
   Xset [(18, (Xk .geq (Xv 17) 100))]] [17])
 (.cond (Xv 18) [18]
  (.seq (.reg 0 [Xset [(6, (Xi 9))]] [])
  .ret)
  .skip))
 (.seq (.reg 2 [Xeff [(19, (Xv 0)), (20, (Xv 9))] (some 21) 0 (.bslice 5 [(.t 0)]) [(.o (.build [(.int .i64 0), (.int .u32 0), (.int .u32 0), (.bool false), .nilp] [(0, 1, (.t 0)), (1, 3, (.t 1)), (4, 1, (.t 2))]) [(Xl (Xv 4)), (Xln 3 (Xa 0 (Xv 5))), (Xv 7)])],
   Xeff [] (some 22) 1 (.app 5 32 (.t 0) (.t 1)) [(Xv 20), (Xv 21)],
   Xeff [] none 2 (.store 1 (.t 0) (.t 1)) [(Xa 1 (Xn (Xv 19))), (Xv 22)]] [0, 4, 5, 7, 9, 19, 20, 21, 22])
 (.seq (.reg 0 [Xset [(6, (Xi 0))]] [])
 .ret))))))))
theorem ok_bcm_Jobs_Rx : HFn Try.prog f_bcm_Jobs_Rx [0, 1, 2, 3, 5, 6, 8, 9, 10, 11, 12, 15, 17, 22, 26, 32, 34, 37, 38, 39, 40, 46, 47] hc_bcm_Jobs_Rx [.t 6] := hfn_opt (hs := [[1, 2, 8], [], [12], [], [17], [15], [], [3, 22], [], [26], [10], [32, 34], [37], [38], [], [0, 5, 6, 9, 11, 39, 40, 46, 47], []]) fol Try.func28 (by kernel_rfl)

/-- (*signalbox/bcm.Jobs).Len [0, 1, 3, 4, 6, 12, 15, 16, 17, 18] -/
def hc_bcm_Jobs_Len : HC :=
 (.seq (.reg 1 [Xeff [] (some 2) 0 (.box (.t 0)) [(Xv 1)],
   Xset [(3, (Xi 0))]] [1, 3])
 (.seq (.cond (Xnil (Xv 0)) [4]
  (.seq (.reg 0 [Xset [(3, (Xi 0))]] [])
  .ret)
  .skip)
 (.seq (.reg 0 [⟨[(6, (Xa 1 (Xn (Xv 0)))), (7, (Xf 1 (Xn (Xv 0)))), (8, (.o (.mkfn f_bcm_Jobs_Len_2 [] [(.t 0)]) [(Xv 2)]))], [], (some ⟨(some 5), none, 0, .call (.c (.fn f_bcm_count_of_sender [] [])) [(.t 0), (.t 1)], [(Xf 0 (Xn (Xv 0))), (.o (.mkfn f_bcm_Jobs_Len_1 [] [(.t 0)]) [(Xv 2)])], [((Xl (Xv 6)), 7)]⟩)⟩,
   Xcall [] (some 9) f_bcm_count_of_watcher [(Xv 7), (Xv 8)] [(.t 0), (.t 1)],
   Xset [(3, (Xb .add (Xv 5) (Xv 9)))]] [0, 2, 5, 6, 7, 8, 9])
 .ret)))
theorem ok_bcm_Jobs_Len : HFn Try.prog f_bcm_Jobs_Len [0, 1, 3, 4, 6, 12, 15, 16, 17, 18] hc_bcm_Jobs_Len [.t 3] := hfn_opt (hs := [[1, 4], [], [6], [], [0, 1, 2, 4, 6, 7, 8, 10, 3, 9, 5, 11, 12, 13], [0, 1, 3, 7, 0, 31, 0, 64, 192, 448, 0, 2047, 4095, 8191], [0, 3, 12, 15, 16, 17, 18]]) fol Try.func29 (by kernel_rfl)

/-- (*signalbox/bcm.Jobs).Drop [0, 1, 3, 4, 5, 8, 10, 11, 17, 20, 26] -/
def hc_bcm_Jobs_Drop : HC :=
 (.seq (.reg 1 [Xeff [] (some 2) 0 (.box (.t 0)) [(Xv 1)],
   Xset [(3, (Xi 0))]] [1, 3])
 (.seq (.reg 0 [Xcall [] (some 5) f_bcm_Jobs_Len [(Xv 0), (Xl (Xv 2))] [(.t 0), (.t 1)],
   Xset [(4, (Xv 5))]] [5])
 (.seq (.cond (.o (.eqv true .ptr (.t 0) (.c .nilp)) [(Xv 0)]) [6]
  (.seq (.reg 0 [Xcall [(7, (Xv 0))] (some 8) f_slices_DeleteFunc_of_sender [(Xf 0 (Xn (Xv 0))), (.o (.mkfn f_bcm_Jobs_Drop_1 [] [(.t 0)]) [(Xv 2)])] [(.t 0), (.t 1)],
    Xeff [] none 0 (.store 1 (.t 0) (.t 1)) [(Xa 0 (Xn (Xv 7))), (Xv 8)]] [7, 8])
  (.seq (.reg 0 [Xcall [(9, (Xv 0))] (some 10) f_slices_DeleteFunc_of_watcher [(Xf 1 (Xn (Xv 0))), (.o (.mkfn f_bcm_Jobs_Drop_2 [] [(.t 0)]) [(Xv 2)])] [(.t 0), (.t 1)],
    Xeff [] none 0 (.store 1 (.t 0) (.t 1)) [(Xa 1 (Xn (Xv 9))), (Xv 10)]] [9, 10])
  (.reg 0 [Xeff [] none 0 (.del .int (.t 0) (.t 1)) [(Xf 2 (Xn (Xv 0))), (Xl (Xv 2))]] [0, 2])))
  .skip)
 (.seq (.reg 0 [Xset [(3, (Xv 4))]] [4])
 .ret))))
theorem ok_bcm_Jobs_Drop : HFn Try.prog f_bcm_Jobs_Drop [0, 1, 3, 4, 5, 8, 10, 11, 17, 20, 26] hc_bcm_Jobs_Drop [.t 3] := hfn_opt (hs := [[1, 4], [8], [], [10], [11, 17], [20, 26], [0, 1, 2, 3, 4, 5], [0, 1, 3, 7, 0, 31], [0, 3], [5]]) fol Try.func30 (by kernel_rfl)

/-- (*signalbox/bcm.Jobs).Note [0, 1, 4, 5, 6, 7, 9, 14, 15, 16, 17, 19, 21] -/
def hc_bcm_Jobs_Note : HC :=
 (.seq (.reg 1 [Xeff [] (some 2) 0 (.alloc [(.int .i64 0), (.int .i64 0), (.int .i64 0), (.int .i64 0), (.int .i64 0), (.str []), (.int .i64 0)]) [],
   Xset [(3, (Xi 0))]] [3])
 (.seq (.cond (Xnil (Xv 0)) [6]
  (.seq (.reg 0 [Xeff [] none 0 (.store 7 (.t 0) (.t 1)) [(Xv 2), (.o (.build [(.int .i64 0), (.int .i64 0), (.int .i64 0), (.int .i64 0), (.int .i64 0), (.str []), (.int .i64 0)] []) [])],
    Xset [(3, (Xi 1))]] [])
  .ret)
  .skip)
 (.seq (.reg 1 [Xcall [] (some 7) f_bcm_Jobs_row [(Xv 0), (Xv 1)] [(.t 0), (.t 1)],
   Xcall [] (some 8) f_ring_Ring_of_Note_Take [(Xv 7)] [(.t 0)],
   Xeff [(9, (Xe 0 (Xv 8))), (10, (Xe 1 (Xv 8)))] (some 4) 0 (.alloc [(.int .i64 0), (.int .i64 0), (.int .i64 0), (.int .i64 0), (.int .i64 0), (.str []), (.int .i64 0)]) [],
   Xeff [] none 1 (.store 7 (.t 0) (.t 1)) [(Xv 4), (Xv 9)],
   Xset [(5, (Xv 10))]] [0, 1, 7, 8, 9, 10])
 (.seq (.cond (Xk .eql (Xv 5) 1) [11]
  (.reg 0 [Xset [(5, (Xi 6))]] [])
  .skip)
 (.seq (.reg 0 [Xeff [(12, (Xv 5))] none 0 (.store 7 (.t 0) (.t 1)) [(Xv 2), (Xln 7 (Xv 4))],
   Xset [(3, (Xv 12))]] [4, 5, 12])
 .ret)))))
theorem ok_bcm_Jobs_Note : HFn Try.prog f_bcm_Jobs_Note [0, 1, 4, 5, 6, 7, 9, 14, 15, 16, 17, 19, 21] hc_bcm_Jobs_Note [.cell 2 (some 7), .t 3] := hfn_opt (hs := [[5], [], [9], [], [0, 1, 14, 15, 16, 17], [], [19], [], [6, 7, 21]]) fol Try.func47 (by kernel_rfl)

/-- signalbox/bcm.right [0, 2] -/
def hc_bcm_right : HC :=
 (.seq (.reg 0 [Xset [(1, (Xc (.bool false)))]] [1])
 (.seq (.reg 0 [Xset [(1, (Xand (Xk .geq (Xv 0) 0) (Xk .lss (Xv 0) 100)))]] [0])
 .ret))
theorem ok_bcm_right : HFn Try.prog f_bcm_right [0, 2] hc_bcm_right [.t 1] := hfn_opt (hs := [[2], [0]]) fol Try.func64 (by kernel_rfl)

/-- signalbox/cyc.New [0, 1, 2, 4, 5, 6, 7, 9, 10, 12, 14, 18, 20, 23, 25, 28] -/
def hc_cyc_New : HC :=
 (.seq (.reg 1 [Xeff [] (some 2) 0 (.box (.t 0)) [(Xv 0)],
   Xset [(3, (Xc .nilp)), (4, (Xi 0))]] [0, 3, 4])
 (.seq (.seq (.reg 0 [Xcall [] (some 7) f_cyc_count [(Xv 1)] [(.t 0)],
   Xset [(8, (Xnot (Xv 7)))]] [7])
 (.cond (Xv 8) [8]
  (.seq (.reg 0 [Xset [(3, (Xc .nilp)), (4, (Xi 2))]] [])
  .ret)
  .skip))
 (.seq (.seq (.reg 0 [Xcall [] (some 9) f_cyc_Right [(Xln 7 (Xv 2))] [(.t 0)],
   Xset [(5, (Xv 9))]] [9])
 (.cond (Xk .neq (Xv 5) 0) [10]
  (.seq (.reg 0 [Xset [(3, (Xc .nilp)), (4, (Xv 5))]] [5])
  .ret)
  .skip))
 (.seq (.reg 0 [Xcall [] (some 11) f_slices_Clone_of_Frame [(Xf 4 (Xv 2))] [(.t 0)],
   Xeff [] none 0 (.store 1 (.t 0) (.t 1)) [(Xa 4 (Xv 2)), (Xv 11)]] [11])
 (.seq (.reg 1 [⟨[(12, (Xln 7 (Xv 2)))], [], (some ⟨(some 13), none, 0, .call (.c (.fn f_cyc_turns [] [])) [(.t 0)], [(Xf 4 (Xv 2))], [((Xln 7 (Xv 2)), 12)]⟩)⟩,
   Xeff [] (some 14) 0 (.box (.t 0)) [(.o (.build [(.int .i64 0), (.int .i64 0), (.int .i64 0), (.int .i64 0), .nils, (.bool false), (.bool false), .nilf, (.bool false), (.int .i64 0), (.int .i64 0), (.bool false)] [(0, 7, (.t 0)), (7, 1, (.t 1))]) [(Xv 12), (Xv 13)])],
   Xset [(6, (Xv 14))]] [12, 13, 14])
 (.seq (.cond (Xk .gtr (Xf 2 (Xv 2)) 0) [15]
  (.reg 0 [Xeff [] none 0 (.store 1 (.t 0) (.t 1)) [(Xa 9 (Xn (Xv 6))), (Xf 1 (Xv 2))]] [2])
  .skip)
 (.seq (.reg 0 [Xcall [] none f_cyc_Cyc_plan [(Xv 6), (Xv 1)] [(.t 0), (.t 1)]] [1])
 (.seq (.reg 0 [Xset [(3, (Xv 6)), (4, (Xi 0))]] [6])
 .ret))))))))
theorem ok_cyc_New : HFn Try.prog f_cyc_New [0, 1, 2, 4, 5, 6, 7, 9, 10, 12, 14, 18, 20, 23, 25, 28] hc_cyc_New [.t 3, .t 4] := hfn_opt (hs := [[0, 4, 5], [9], [10], [], [12], [], [14], [6], [18], [1, 0, 2, 3, 4, 5, 6], [0, 0, 2, 6, 15, 31, 63], [20, 23, 25], [], [28], [2], [1], [7]]) fol Try.func65 (by kernel_rfl)

/-- slices.DeleteFunc[[]signalbox/bcm.sender,signalbox/bcm.sender] [0, 1, 4, 5, 6, 7, 10, 12, 19, 25, 28, 29] -/
def hc_slices_DeleteFunc_of_sender_b1 : HC :=
 (.seq (.cond (Xb .lss (Xv 4) (Xlen (Xv 0))) [8]
  .skip
  (.exit 0))
 (.seq (.block 1 (.seq (.reg 1 [Xeff [(9, (Xln 3 (Xx 3 (Xv 0) (Xv 4))))] (some 5) 0 (.alloc [(.int .i64 0), (.int .i64 0), .nilp]) [],
   Xeff [] none 1 (.store 3 (.t 0) (.t 1)) [(Xv 5), (Xv 9)]] [9])
 (.seq (.reg 0 [Xeff [] (some 10) 0 (.call (.t 0) [(.t 1)]) [(Xv 1), (Xln 3 (Xv 5))],
   Xset [(11, (Xnot (Xv 10)))]] [10])
 (.cond (Xv 11) [11]
  (.seq (.reg 0 [Xeff [] none 0 (.store 3 (.t 0) (.t 1)) [(Xx 3 (Xv 0) (Xv 3)), (Xln 3 (Xv 5))]] [5])
  (.reg 0 [Xset [(3, (Xk .add (Xv 3) 1))]] []))
  .skip))))
 (.reg 0 [Xset [(4, (Xk .add (Xv 4) 1))]] [])))
def hc_slices_DeleteFunc_of_sender_l1 : HC := .loop [2, 5, 6, 7, 8, 9, 10, 11] hc_slices_DeleteFunc_of_sender_b1
def hc_slices_DeleteFunc_of_sender : HC :=
 (.seq (.reg 0 [Xset [(2, (Xc .nils))]] [2])
 (.seq (.reg 0 [Xcall [] (some 6) f_slices_IndexFunc_of_sender [(Xv 0), (Xv 1)] [(.t 0), (.t 1)],
   Xset [(3, (Xv 6))]] [6])
 (.seq (.cond (Xk .eql (Xv 3) (-1)) [7]
  (.seq (.reg 0 [Xset [(2, (Xv 0))]] [0])
  .ret)
  .skip)
 (.seq (.seq (.reg 0 [Xset [(4, (Xk .add (Xv 3) 1))]] [])
 (.block 0 hc_slices_DeleteFunc_of_sender_l1))
 (.seq (.reg 0 [Xeff [] none 0 (.clrs 3 [(.int .i64 0), (.int .i64 0), .nilp] (.t 0)) [(.o (.slc 3 (.t 0) (some (.t 1)) none none) [(Xv 0), (Xv 3)])]] [])
 (.seq (.reg 0 [Xset [(2, (.o (.slc 3 (.t 0) none (some (.t 1)) none) [(Xv 0), (Xv 3)]))]] [0, 3])
 .ret))))))
theorem ok_slices_DeleteFunc_of_sender : HFn Try.prog f_slices_DeleteFunc_of_sender [0, 1, 4, 5, 6, 7, 10, 12, 19, 25, 28, 29] hc_slices_DeleteFunc_of_sender [.t 2] := hfn_opt (hs := [[4], [10], [], [12], [0], [], [4, 7, 10, 12, 19, 25, 28, 29], [], [19], [25], [28], [29], [7], [], [], [], [0, 5]]) fol Try.func66 (by kernel_rfl)

/-- slices.Clone[[]signalbox/bcm.sender,signalbox/bcm.sender] [0, 2, 4, 5, 7] -/
def hc_slices_Clone_of_sender : HC :=
 (.seq (.reg 0 [Xset [(1, (Xc .nils))]] [1])
 (.seq (.cond (.o (.eqv false .slice (.t 0) (.c .nils)) [(Xv 0)]) [2]
  (.seq (.reg 0 [Xset [(1, (Xc .nils))]] [])
  .ret)
  .skip)
 (.seq (.reg 2 [Xeff [] (some 3) 0 (.bslice 3 []) [],
   Xeff [] (some 4) 1 (.app 3 24 (.t 0) (.t 1)) [(Xv 3), (Xv 0)],
   Xset [(1, (Xv 4))]] [0, 3, 4])
 .ret)))
theorem ok_slices_Clone_of_sender : HFn Try.prog f_slices_Clone_of_sender [0, 2, 4, 5, 7] hc_slices_Clone_of_sender [.t 1] := hfn_opt (hs := [[2], [], [4], [], [0, 5, 7]]) fol Try.func67 (by kernel_rfl)

/-- (*signalbox/bcm.Jobs).Tx$1 [0, 1, 2, 3, 4, 9] -/
def hc_bcm_Jobs_Tx_1 : HC :=
 (.seq (.reg 1 [Xeff [] (some 3) 0 (.box (.t 0)) [(Xv 0)],
   Xset [(4, (Xc (.bool false)))]] [0, 4])
 (.seq (.reg 0 [Xcall [] (some 5) f_bcm_sender_is [(Xln 3 (Xv 3)), (Xl (Xv 1)), (Xf 0 (Xv 2))] [(.t 0), (.t 1), (.t 2)],
   Xset [(4, (Xv 5))]] [1, 2, 3, 5])
 .ret))
theorem ok_bcm_Jobs_Tx_1 : HFn Try.prog f_bcm_Jobs_Tx_1 [0, 1, 2, 3, 4, 9] hc_bcm_Jobs_Tx_1 [.t 4] := hfn_opt (hs := [[0, 4], [1, 2, 3, 9]]) fol Try.func68 (by kernel_rfl)

/-- (signalbox/bcm.sender).is [0, 1, 2, 3, 6] -/
def hc_bcm_sender_is : HC :=
 (.seq (.reg 1 [Xeff [] (some 3) 0 (.box (.t 0)) [(Xv 0)],
   Xset [(4, (Xc (.bool false)))]] [0, 4])
 (.seq (.reg 0 [Xset [(4, (Xand (Xb .eql (Xf 0 (Xv 3)) (Xv 1)) (Xb .eql (Xf 1 (Xv 3)) (Xv 2))))]] [1, 2, 3])
 .ret))
theorem ok_bcm_sender_is : HFn Try.prog f_bcm_sender_is [0, 1, 2, 3, 6] hc_bcm_sender_is [.t 4] := hfn_opt (hs := [[0, 6], [1, 2, 3]]) fol Try.func69 (by kernel_rfl)

/-- signalbox/bcm.count[signalbox/bcm.sender] [0, 1, 4, 5, 7, 8, 9, 10, 11, 13, 16] -/
def hc_bcm_count_of_sender_b1 : HC :=
 (.seq (.cond (Xb .lss (Xv 7) (Xv 6)) [8]
  .skip
  (.exit 0))
 (.seq (.block 1 (.seq (.reg 1 [Xeff [(9, (Xln 3 (Xx 3 (Xv 5) (Xv 7))))] (some 4) 0 (.alloc [(.int .i64 0), (.int .i64 0), .nilp]) [],
   Xeff [] none 1 (.store 3 (.t 0) (.t 1)) [(Xv 4), (Xv 9)]] [9])
 (.seq (.reg 0 [Xeff [] (some 10) 0 (.call (.t 0) [(.t 1)]) [(Xv 1), (Xln 3 (Xv 4))]] [4])
 (.cond (Xv 10) [10]
  (.reg 0 [Xset [(3, (Xk .add (Xv 3) 1))]] [])
  .skip))))
 (.reg 0 [Xset [(7, (Xk .add (Xv 7) 1))]] [])))
def hc_bcm_count_of_sender_l1 : HC := .loop [0, 2, 4, 8, 9, 10] hc_bcm_count_of_sender_b1
def hc_bcm_count_of_sender : HC :=
 (.seq (.reg 0 [Xset [(2, (Xi 0))]] [2])
 (.seq (.reg 0 [Xset [(3, (Xi 0))]] [])
 (.seq (.seq (.reg 0 [Xset [(5, (Xv 0)), (6, (Xlen (Xv 0))), (7, (Xi 0))]] [0])
 (.block 0 hc_bcm_count_of_sender_l1))
 (.seq (.reg 0 [Xset [(2, (Xv 3))]] [3])
 .ret))))
theorem ok_bcm_count_of_sender : HFn Try.prog f_bcm_count_of_sender [0, 1, 4, 5, 7, 8, 9, 10, 11, 13, 16] hc_bcm_count_of_sender [.t 2] := hfn_opt (hs := [[4], [], [0], [0, 4, 7, 11, 13, 16], [], [11], [13], [7], [16], [], [], [5]]) fol Try.func70 (by kernel_rfl)

/-- (*signalbox/bcm.Jobs).Tx$2 [0, 1, 2, 3] -/
def hc_bcm_Jobs_Tx_2 : HC :=
 (.seq (.reg 1 [Xeff [] (some 2) 0 (.box (.t 0)) [(Xv 0)],
   Xset [(3, (Xc (.bool false)))]] [0, 3])
 (.seq (.reg 0 [Xset [(3, (Xb .eql (Xf 0 (Xv 2)) (Xl (Xv 1))))]] [1, 2])
 .ret))
theorem ok_bcm_Jobs_Tx_2 : HFn Try.prog f_bcm_Jobs_Tx_2 [0, 1, 2, 3] hc_bcm_Jobs_Tx_2 [.t 3] := hfn_opt (hs := [[0, 3], [1, 2]]) fol Try.func71 (by kernel_rfl)

/-- (*signalbox/cyc.Cyc).Begin [0, 2, 3, 19, 28] -/
def hc_cyc_Cyc_Begin : HC :=
 (.seq (.reg 1 [Xeff [] (some 1) 0 (.alloc [(.int .i64 0), (.int .i64 0), (.int .i64 0), (.str [])]) [],
   Xset [(2, (Xc (.bool false)))]] [2])
 (.seq (.cond (Xor (Xor (Xnil (Xv 0)) (Xf 8 (Xn (Xv 0)))) (Xnot (Xf 5 (Xa 0 (Xn (Xv 0)))))) [3]
  (.seq (.reg 0 [Xeff [] none 0 (.store 4 (.t 0) (.t 1)) [(Xv 1), (.o (.build [(.int .i64 0), (.int .i64 0), (.int .i64 0), (.str [])] []) [])],
    Xset [(2, (Xc (.bool false)))]] [])
  .ret)
  .skip)
 (.seq (.reg 0 [Xeff [] none 0 (.store 1 (.t 0) (.c (.bool true))) [(Xa 8 (Xn (Xv 0)))]] [])
 (.seq (.reg 0 [Xeff [] (some 4) 0 (.call (.t 0) []) [(Xf 7 (Xn (Xv 0)))],
   Xeff [] none 0 (.store 4 (.t 0) (.t 1)) [(Xv 1), (Xv 4)],
   Xset [(2, (Xc (.bool true)))]] [0, 4])
 .ret))))
theorem ok_cyc_Cyc_Begin : HFn Try.prog f_cyc_Cyc_Begin [0, 2, 3, 19, 28] hc_cyc_Cyc_Begin [.cell 1 (some 4), .t 2] := hfn_opt (hs := [[3], [], [19], [], [], [0, 28]]) fol Try.func72 (by kernel_rfl)

/-- signalbox/signalboxref22.count [0, 2] -/
def hc_ref22_count : HC :=
 (.seq (.reg 0 [Xset [(1, (Xc (.bool false)))]] [1])
 (.seq (.reg 0 [Xset [(1, (Xand (Xk .geq (Xv 0) 0) (Xk .leq (Xv 0) 1099511627776)))]] [0])
 .ret))
theorem ok_ref22_count : HFn Try.prog f_ref22_count [0, 2] hc_ref22_count [.t 1] := hfn_opt (hs := [[2], [0]]) fol Try.func73 (by kernel_rfl)

/-- signalbox/signalboxref22.At [0, 1, 2, 3, 6, 7, 8, 11, 16, 21, 26, 28, 36, 43] -/
def hc_ref22_At : HC :=
 (.seq (.reg 1 [Xeff [] (some 3) 0 (.box (.t 0)) [(Xv 0)],
   Xset [(4, (Xi 0))]] [0, 4])
 (.seq (.reg 0 [Xset [(5, (Xi 0))]] [])
 (.seq (.cond (Xk .gtr (Xf 2 (Xv 3)) 0) [7]
  (.reg 0 [Xset [(5, (Xf 1 (Xv 3)))]] [])
  .skip)
 (.seq (.cond (Xb .leq (Xv 2) (Xv 5)) [8]
  (.seq (.reg 0 [Xcall [] (some 9) f_ref22_far [(Xv 1), (Xf 2 (Xv 3)), (Xv 2)] [(.t 0), (.t 1), (.t 2)],
    Xset [(4, (Xv 9))]] [1, 2, 3, 9])
  .ret)
  .skip)
 (.seq (.reg 0 [Xcall [] (some 10) f_ref22_far [(Xv 1), (Xf 2 (Xv 3)), (Xv 5)] [(.t 0), (.t 1), (.t 2)],
   Xset [(6, (Xv 10))]] [10])
 (.seq (.cond (Xk .eql (Xv 5) 0) [11]
  (.reg 0 [Xset [(6, (Xv 1))]] [1])
  .skip)
 (.seq (.cond (Xor (Xk .eql (Xf 3 (Xv 3)) 0) (Xk .lss (Xv 6) 0)) [12]
  (.seq (.reg 0 [Xset [(4, (Xi (-1)))]] [])
  .ret)
  .skip)
 (.seq (.reg 0 [Xcall [] (some 13) f_ref22_far [(Xv 6), (Xf 3 (Xv 3)), (Xb .sub (Xv 2) (Xv 5))] [(.t 0), (.t 1), (.t 2)],
   Xset [(4, (Xv 13))]] [2, 3, 5, 6, 13])
 .ret))))))))
theorem ok_ref22_At : HFn Try.prog f_ref22_At [0, 1, 2, 3, 6, 7, 8, 11, 16, 21, 26, 28, 36, 43] hc_ref22_At [.t 4] := hfn_opt (hs := [[0, 6], [], [], [11], [], [], [16], [1, 2, 3, 21], [26], [], [28], [1], [], [36], [], [2, 3, 7, 8, 43]]) fol Try.func74 (by kernel_rfl)

/-- (*signalbox/cyc.Cyc).Tick [0, 1, 4, 5, 22, 28, 56] -/
def hc_cyc_Cyc_Tick : HC :=
 (.seq (.reg 1 [Xeff [] (some 2) 0 (.alloc [(.int .i64 0), (.int .i64 0), (.int .i64 0), (.str []), (.bool false), (.bool false)]) []] [])
 (.seq (.cond (Xor (Xor (Xnil (Xv 0)) (Xnot (Xf 11 (Xn (Xv 0))))) (Xb .lss (Xv 1) (Xf 10 (Xn (Xv 0))))) [4]
  (.seq (.reg 0 [Xeff [] none 0 (.store 6 (.t 0) (.t 1)) [(Xv 2), (.o (.build [(.int .i64 0), (.int .i64 0), (.int .i64 0), (.str []), (.bool false), (.bool false)] []) [])]] [])
  .ret)
  .skip)
 (.seq (.reg 0 [Xset [(3, (Xc (.bool false)))]] [])
 (.seq (.cond (Xk .gtr (Xf 9 (Xn (Xv 0))) 0) [5]
  (.seq (.reg 0 [Xeff [] none 0 (.store 1 (.t 0) (.t 1)) [(Xa 9 (Xn (Xv 0))), (Xk .sub (Xf 9 (Xn (Xv 0))) 1)]] [])
  (.reg 0 [Xset [(3, (Xand (Xk .eql (Xf 9 (Xn (Xv 0))) 0) (Xf 6 (Xa 0 (Xn (Xv 0))))))]] []))
  .skip)
 (.seq (.reg 0 [Xcall [] none f_cyc_Cyc_plan [(Xv 0), (.o (.mn [(.t 0), (.c (.int .i64 2305843009213693952))]) [(Xv 1)])] [(.t 0), (.t 1)]] [1])
 (.seq (.reg 0 [Xeff [] (some 6) 0 (.call (.t 0) []) [(Xf 7 (Xn (Xv 0)))],
   Xeff [] none 0 (.store 6 (.t 0) (.t 1)) [(Xv 2), (.o (.build [(.int .i64 0), (.int .i64 0), (.int .i64 0), (.str []), (.bool false), (.bool false)] [(0, 4, (.t 0)), (4, 1, (.c (.bool true))), (5, 1, (.t 1))]) [(Xv 6), (Xv 3)])]] [0, 3, 6])
 .ret))))))
theorem ok_cyc_Cyc_Tick : HFn Try.prog f_cyc_Cyc_Tick [0, 1, 4, 5, 22, 28, 56] hc_cyc_Cyc_Tick [.cell 2 (some 6)] := hfn_opt (hs := [[], [], [22], [], [], [], [28], [], [], [1], [0, 5, 56]]) fol Try.func75 (by kernel_rfl)

/-- (*signalbox/bcm.Jobs).tell [0, 1, 2, 5, 6, 7, 18, 23] -/
def hc_bcm_Jobs_tell : HC :=
 (.seq (.reg 1 [Xeff [] (some 3) 0 (.box (.t 0)) [(Xv 2)]] [2])
 (.seq (.reg 0 [Xset [(4, (Xe 0 (.o (.lookup .int .nilp true (.t 0) (.t 1)) [(Xf 2 (Xn (Xv 0))), (Xv 1)]))), (5, (Xe 1 (.o (.lookup .int .nilp true (.t 0) (.t 1)) [(Xf 2 (Xn (Xv 0))), (Xv 1)])))]] [])
 (.seq (.seq (.reg 0 [Xset [(6, (Xnot (Xv 5)))]] [5])
 (.cond (Xv 6) [6]
  (.seq (.reg 0 [Xcall [] (some 7) f_ring_New_of_Note [(Xf 3 (Xn (Xv 0)))] [(.t 0)],
    Xset [(4, (Xv 7))]] [7])
  (.reg 0 [Xeff [] none 0 (.mset .int (.t 0) (.t 1) (.t 2)) [(Xf 2 (Xn (Xv 0))), (Xv 1), (Xv 4)]] [0, 1]))
  .skip))
 (.reg 0 [Xcall [] none f_ring_Ring_of_Note_Put [(Xv 4), (Xln 7 (Xv 3))] [(.t 0), (.t 1)]] [3, 4]))))
theorem ok_bcm_Jobs_tell : HFn Try.prog f_bcm_Jobs_tell [0, 1, 2, 5, 6, 7, 18, 23] hc_bcm_Jobs_tell [] := hfn_opt (hs := [[2], [], [7], [18], [23], [0, 1], [5, 6]]) fol Try.func76 (by kernel_rfl)

/-- (*signalbox/watch.Watch).Tick [0, 1, 4, 5, 6, 8, 11, 30, 31, 40, 41, 42, 66, 70, 74, 75, 76] -/
def hc_watch_Watch_Tick : HC :=
 (.seq (.reg 0 [Xset [(2, (Xc .nils))]] [2])
 (.seq (.reg 0 [Xset [(3, (Xc .nils))]] [])
 (.seq (.cond (Xnil (Xv 0)) [5]
  (.seq (.reg 0 [Xset [(2, (Xv 3))]] [3])
  .ret)
  .skip)
 (.seq (.reg 0 [Xcall [] (some 6) f_watch_within [(Xv 1)] [(.t 0)],
   Xset [(1, (Xv 6))]] [6])
 (.seq (.cond (Xand (.o (.eqv true .ptr (.t 0) (.c .nilp)) [(Xf 8 (Xn (Xv 0)))]) (Xb .geq (Xb .sub (Xv 1) (Xf 7 (Xn (Xv 0)))) (Xf 4 (Xa 0 (Xn (Xv 0)))))) [7]
  (.reg 2 [Xcall [(8, (Xv 3))] (some 9) f_watch_Watch_tell [(Xv 0), (Xv 1), (Xln 4 (Xn (Xf 8 (Xn (Xv 0)))))] [(.t 0), (.t 1), (.t 2)],
    Xeff [] (some 10) 0 (.bslice 7 [(.t 0)]) [(Xv 9)],
    Xeff [] (some 11) 1 (.app 7 64 (.t 0) (.t 1)) [(Xv 8), (Xv 10)],
    Xset [(3, (Xv 11))]] [8, 9, 10, 11])
  .skip)
 (.seq (.seq (.reg 0 [Xset [(4, (Xf 5 (Xa 0 (Xn (Xv 0)))))]] [])
 (.seq (.reg 0 [Xset [(12, (Xand (Xand (Xk .gtr (Xv 4) 0) (Xnot (Xf 10 (Xn (Xv 0))))) (Xb .geq (Xb .sub (Xv 1) (Xf 9 (Xn (Xv 0)))) (Xv 4))))]] [4])
 (.cond (Xv 12) [12]
  (.seq (.reg 0 [Xeff [] none 0 (.store 1 (.t 0) (.c (.bool true))) [(Xa 10 (Xn (Xv 0)))]] [])
  (.reg 2 [Xcall [(13, (Xv 3))] (some 14) f_watch_Watch_note [(Xv 0), (Xv 1), (.o (.build [(.int .i64 0), (.int .i64 0), (.int .i64 0), (.str [])] []) [])] [(.t 0), (.c (.int .i64 2)), (.t 1), (.t 2)],
    Xeff [] (some 15) 0 (.bslice 7 [(.t 0)]) [(Xv 14)],
    Xeff [] (some 16) 1 (.app 7 64 (.t 0) (.t 1)) [(Xv 13), (Xv 15)],
    Xset [(3, (Xv 16))]] [0, 1, 13, 14, 15, 16]))
  .skip)))
 (.seq (.reg 0 [Xset [(2, (Xv 3))]] [3])
 .ret)))))))
theorem ok_watch_Watch_Tick : HFn Try.prog f_watch_Watch_Tick [0, 1, 4, 5, 6, 8, 11, 30, 31, 40, 41, 42, 66, 70, 74, 75, 76] hc_watch_Watch_Tick [.t 2] := hfn_opt (hs := [[4], [], [], [8], [5], [11], [0, 1, 2, 3, 4, 5, 6, 7, 8, 9, 12, 13, 14, 15, 10, 11, 16, 17, 18], [0, 1, 3, 7, 15, 31, 63, 63, 191, 447, 959, 2047, 63, 4159, 12351, 28735, 61503, 131071, 262143], [], [30], [31, 40, 41, 42], [], [6], [66], [], [0, 1, 70, 74, 75, 76], [5]]) fol Try.func77 (by kernel_rfl)

/-- (*signalbox/bcm.Jobs).TxStop$1 [0, 1, 2, 3, 4, 8] -/
def hc_bcm_Jobs_TxStop_1 : HC :=
 (.seq (.reg 1 [Xeff [] (some 3) 0 (.box (.t 0)) [(Xv 0)],
   Xset [(4, (Xc (.bool false)))]] [0, 4])
 (.seq (.reg 0 [Xcall [] (some 5) f_bcm_sender_is [(Xln 3 (Xv 3)), (Xl (Xv 1)), (Xl (Xv 2))] [(.t 0), (.t 1), (.t 2)],
   Xset [(4, (Xv 5))]] [1, 2, 3, 5])
 .ret))
theorem ok_bcm_Jobs_TxStop_1 : HFn Try.prog f_bcm_Jobs_TxStop_1 [0, 1, 2, 3, 4, 8] hc_bcm_Jobs_TxStop_1 [.t 4] := hfn_opt (hs := [[0, 4], [1, 2, 3, 8]]) fol Try.func78 (by kernel_rfl)

/-- signalbox/watch.New [0, 1, 2, 4, 5, 6, 8, 10, 12, 14, 16] -/
def hc_watch_New : HC :=
 (.seq (.reg 1 [Xeff [] (some 2) 0 (.box (.t 0)) [(Xv 0)],
   Xset [(3, (Xc .nilp)), (4, (Xi 0))]] [0, 3, 4])
 (.seq (.seq (.reg 0 [Xcall [] (some 6) f_watch_Right [(Xln 6 (Xv 2))] [(.t 0)],
   Xset [(5, (Xv 6))]] [6])
 (.cond (Xk .neq (Xv 5) 0) [7]
  (.seq (.reg 0 [Xset [(3, (Xc .nilp)), (4, (Xv 5))]] [5])
  .ret)
  .skip))
 (.seq (.reg 1 [⟨[(8, (Xln 6 (Xv 2)))], [], (some ⟨(some 9), none, 0, .call (.c (.fn f_watch_within [] [])) [(.t 0)], [(Xv 1)], [((Xln 6 (Xv 2)), 8)]⟩)⟩,
   Xeff [] (some 10) 0 (.box (.t 0)) [(.o (.build [(.int .u32 0), (.int .u32 0), (.bool false), (.str []), (.int .i64 0), (.int .i64 0), .nilp, (.int .i64 0), .nilp, (.int .i64 0), (.bool false)] [(0, 6, (.t 0)), (9, 1, (.t 1))]) [(Xv 8), (Xv 9)])],
   Xset [(3, (Xv 10)), (4, (Xi 0))]] [1, 2, 8, 9, 10])
 .ret)))
theorem ok_watch_New : HFn Try.prog f_watch_New [0, 1, 2, 4, 5, 6, 8, 10, 12, 14, 16] hc_watch_New [.t 3, .t 4] := hfn_opt (hs := [[0, 4, 5], [8], [], [10], [6], [1, 0, 2, 3, 4, 5, 6], [0, 0, 2, 7, 15, 31, 63], [1, 2, 12, 14, 16]]) fol Try.func79 (by kernel_rfl)

/-- slices.DeleteFunc[[]signalbox/bcm.watcher,signalbox/bcm.watcher] [0, 1, 4, 5, 6, 7, 10, 12, 19, 25, 28, 29] -/
def hc_slices_DeleteFunc_of_watcher_b1 : HC :=
 (.seq (.cond (Xb .lss (Xv 4) (Xlen (Xv 0))) [8]
  .skip
  (.exit 0))
 (.seq (.block 1 (.seq (.reg 1 [Xeff [(9, (Xln 5 (Xx 5 (Xv 0) (Xv 4))))] (some 5) 0 (.alloc [(.int .i64 0), (.int .u32 0), (.int .u32 0), (.bool false), .nilp]) [],
   Xeff [] none 1 (.store 5 (.t 0) (.t 1)) [(Xv 5), (Xv 9)]] [9])
 (.seq (.reg 0 [Xeff [] (some 10) 0 (.call (.t 0) [(.t 1)]) [(Xv 1), (Xln 5 (Xv 5))],
   Xset [(11, (Xnot (Xv 10)))]] [10])
 (.cond (Xv 11) [11]
  (.seq (.reg 0 [Xeff [] none 0 (.store 5 (.t 0) (.t 1)) [(Xx 5 (Xv 0) (Xv 3)), (Xln 5 (Xv 5))]] [5])
  (.reg 0 [Xset [(3, (Xk .add (Xv 3) 1))]] []))
  .skip))))
 (.reg 0 [Xset [(4, (Xk .add (Xv 4) 1))]] [])))
def hc_slices_DeleteFunc_of_watcher_l1 : HC := .loop [2, 5, 6, 7, 8, 9, 10, 11] hc_slices_DeleteFunc_of_watcher_b1
def hc_slices_DeleteFunc_of_watcher : HC :=
 (.seq (.reg 0 [Xset [(2, (Xc .nils))]] [2])
 (.seq (.reg 0 [Xcall [] (some 6) f_slices_IndexFunc_of_watcher [(Xv 0), (Xv 1)] [(.t 0), (.t 1)],
   Xset [(3, (Xv 6))]] [6])
 (.seq (.cond (Xk .eql (Xv 3) (-1)) [7]
  (.seq (.reg 0 [Xset [(2, (Xv 0))]] [0])
  .ret)
  .skip)
 (.seq (.seq (.reg 0 [Xset [(4, (Xk .add (Xv 3) 1))]] [])
 (.block 0 hc_slices_DeleteFunc_of_watcher_l1))
 (.seq (.reg 0 [Xeff [] none 0 (.clrs 5 [(.int .i64 0), (.int .u32 0), (.int .u32 0), (.bool false), .nilp] (.t 0)) [(.o (.slc 5 (.t 0) (some (.t 1)) none none) [(Xv 0), (Xv 3)])]] [])
 (.seq (.reg 0 [Xset [(2, (.o (.slc 5 (.t 0) none (some (.t 1)) none) [(Xv 0), (Xv 3)]))]] [0, 3])
 .ret))))))
theorem ok_slices_DeleteFunc_of_watcher : HFn Try.prog f_slices_DeleteFunc_of_watcher [0, 1, 4, 5, 6, 7, 10, 12, 19, 25, 28, 29] hc_slices_DeleteFunc_of_watcher [.t 2] := hfn_opt (hs := [[4], [10], [], [12], [0], [], [4, 7, 10, 12, 19, 25, 28, 29], [], [19], [25], [28], [29], [7], [], [], [], [0, 5]]) fol Try.func80 (by kernel_rfl)

/-- slices.Clone[[]signalbox/bcm.watcher,signalbox/bcm.watcher] [0, 2, 4, 5, 7] -/
def hc_slices_Clone_of_watcher : HC :=
 (.seq (.reg 0 [Xset [(1, (Xc .nils))]] [1])
 (.seq (.cond (.o (.eqv false .slice (.t 0) (.c .nils)) [(Xv 0)]) [2]
  (.seq (.reg 0 [Xset [(1, (Xc .nils))]] [])
  .ret)
  .skip)
 (.seq (.reg 2 [Xeff [] (some 3) 0 (.bslice 5 []) [],
   Xeff [] (some 4) 1 (.app 5 32 (.t 0) (.t 1)) [(Xv 3), (Xv 0)],
   Xset [(1, (Xv 4))]] [0, 3, 4])
 .ret)))
theorem ok_slices_Clone_of_watcher : HFn Try.prog f_slices_Clone_of_watcher [0, 2, 4, 5, 7] hc_slices_Clone_of_watcher [.t 1] := hfn_opt (hs := [[2], [], [4], [], [0, 5, 7]]) fol Try.func81 (by kernel_rfl)

/-- (*signalbox/bcm.Jobs).Rx$1 [0, 1, 2, 3, 4, 9] -/
def hc_bcm_Jobs_Rx_1 : HC :=
 (.seq (.reg 1 [Xeff [] (some 3) 0 (.box (.t 0)) [(Xv 0)],
   Xset [(4, (Xc (.bool false)))]] [0, 4])
 (.seq (.reg 0 [Xcall [] (some 5) f_bcm_watcher_is [(Xln 5 (Xv 3)), (Xl (Xv 1)), (Xln 3 (Xa 0 (Xv 2)))] [(.t 0), (.t 1), (.t 2)],
   Xset [(4, (Xv 5))]] [1, 2, 3, 5])
 .ret))
theorem ok_bcm_Jobs_Rx_1 : HFn Try.prog f_bcm_Jobs_Rx_1 [0, 1, 2, 3, 4, 9] hc_bcm_Jobs_Rx_1 [.t 4] := hfn_opt (hs := [[0, 4], [1, 2, 3, 9]]) fol Try.func82 (by kernel_rfl)

/-- (signalbox/bcm.watcher).is [0, 1, 2, 3, 5, 6] -/
def hc_bcm_watcher_is : HC :=
 (.seq (.reg 2 [Xeff [] (some 3) 0 (.box (.t 0)) [(Xv 0)],
   Xeff [] (some 4) 1 (.box (.t 0)) [(Xv 2)],
   Xset [(5, (Xc (.bool false)))]] [0, 2, 5])
 (.seq (.reg 0 [Xset [(5, (Xand (Xb .eql (Xf 0 (Xv 3)) (Xv 1)) (.o (.eqv false (.struct [.int, .int, .bool]) (.t 0) (.t 1)) [(Xln 3 (Xa 1 (Xv 3))), (Xln 3 (Xv 4))])))]] [1, 3, 4])
 .ret))
theorem ok_bcm_watcher_is : HFn Try.prog f_bcm_watcher_is [0, 1, 2, 3, 5, 6] hc_bcm_watcher_is [.t 5] := hfn_opt (hs := [[0, 2, 6], [1, 3, 5]]) fol Try.func83 (by kernel_rfl)

/-- signalbox/bcm.count[signalbox/bcm.watcher] [0, 1, 4, 5, 7, 8, 9, 10, 11, 13, 16] -/
def hc_bcm_count_of_watcher_b1 : HC :=
 (.seq (.cond (Xb .lss (Xv 7) (Xv 6)) [8]
  .skip
  (.exit 0))
 (.seq (.block 1 (.seq (.reg 1 [Xeff [(9, (Xln 5 (Xx 5 (Xv 5) (Xv 7))))] (some 4) 0 (.alloc [(.int .i64 0), (.int .u32 0), (.int .u32 0), (.bool false), .nilp]) [],
   Xeff [] none 1 (.store 5 (.t 0) (.t 1)) [(Xv 4), (Xv 9)]] [9])
 (.seq (.reg 0 [Xeff [] (some 10) 0 (.call (.t 0) [(.t 1)]) [(Xv 1), (Xln 5 (Xv 4))]] [4])
 (.cond (Xv 10) [10]
  (.reg 0 [Xset [(3, (Xk .add (Xv 3) 1))]] [])
  .skip))))
 (.reg 0 [Xset [(7, (Xk .add (Xv 7) 1))]] [])))
def hc_bcm_count_of_watcher_l1 : HC := .loop [0, 2, 4, 8, 9, 10] hc_bcm_count_of_watcher_b1
def hc_bcm_count_of_watcher : HC :=
 (.seq (.reg 0 [Xset [(2, (Xi 0))]] [2])
 (.seq (.reg 0 [Xset [(3, (Xi 0))]] [])
 (.seq (.seq (.reg 0 [Xset [(5, (Xv 0)), (6, (Xlen (Xv 0))), (7, (Xi 0))]] [0])
 (.block 0 hc_bcm_count_of_watcher_l1))
 (.seq (.reg 0 [Xset [(2, (Xv 3))]] [3])
 .ret))))
theorem ok_bcm_count_of_watcher : HFn Try.prog f_bcm_count_of_watcher [0, 1, 4, 5, 7, 8, 9, 10, 11, 13, 16] hc_bcm_count_of_watcher [.t 2] := hfn_opt (hs := [[4], [], [0], [0, 4, 7, 11, 13, 16], [], [11], [13], [7], [16], [], [], [5]]) fol Try.func84 (by kernel_rfl)

/-- (*signalbox/bcm.Jobs).Rx$2 [0, 1, 2, 3] -/
def hc_bcm_Jobs_Rx_2 : HC :=
 (.seq (.reg 1 [Xeff [] (some 2) 0 (.box (.t 0)) [(Xv 0)],
   Xset [(3, (Xc (.bool false)))]] [0, 3])
 (.seq (.reg 0 [Xset [(3, (Xb .eql (Xf 0 (Xv 2)) (Xl (Xv 1))))]] [1, 2])
 .ret))
theorem ok_bcm_Jobs_Rx_2 : HFn Try.prog f_bcm_Jobs_Rx_2 [0, 1, 2, 3] hc_bcm_Jobs_Rx_2 [.t 3] := hfn_opt (hs := [[0, 3], [1, 2]]) fol Try.func85 (by kernel_rfl)

/-- (*signalbox/bcm.Jobs).Len$1 [0, 1, 2, 3] -/
def hc_bcm_Jobs_Len_1 : HC :=
 (.seq (.reg 1 [Xeff [] (some 2) 0 (.box (.t 0)) [(Xv 0)],
   Xset [(3, (Xc (.bool false)))]] [0, 3])
 (.seq (.reg 0 [Xset [(3, (Xb .eql (Xf 0 (Xv 2)) (Xl (Xv 1))))]] [1, 2])
 .ret))
theorem ok_bcm_Jobs_Len_1 : HFn Try.prog f_bcm_Jobs_Len_1 [0, 1, 2, 3] hc_bcm_Jobs_Len_1 [.t 3] := hfn_opt (hs := [[0, 3], [1, 2]]) fol Try.func86 (by kernel_rfl)

/-- (*signalbox/bcm.Jobs).Len$2 [0, 1, 2, 3] -/
def hc_bcm_Jobs_Len_2 : HC :=
 (.seq (.reg 1 [Xeff [] (some 2) 0 (.box (.t 0)) [(Xv 0)],
   Xset [(3, (Xc (.bool false)))]] [0, 3])
 (.seq (.reg 0 [Xset [(3, (Xb .eql (Xf 0 (Xv 2)) (Xl (Xv 1))))]] [1, 2])
 .ret))
theorem ok_bcm_Jobs_Len_2 : HFn Try.prog f_bcm_Jobs_Len_2 [0, 1, 2, 3] hc_bcm_Jobs_Len_2 [.t 3] := hfn_opt (hs := [[0, 3], [1, 2]]) fol Try.func87 (by kernel_rfl)

/-- (*signalbox/bcm.Jobs).Drop$1 [0, 1, 2, 3] -/
def hc_bcm_Jobs_Drop_1 : HC :=
 (.seq (.reg 1 [Xeff [] (some 2) 0 (.box (.t 0)) [(Xv 0)],
   Xset [(3, (Xc (.bool false)))]] [0, 3])
 (.seq (.reg 0 [Xset [(3, (Xb .eql (Xf 0 (Xv 2)) (Xl (Xv 1))))]] [1, 2])
 .ret))
theorem ok_bcm_Jobs_Drop_1 : HFn Try.prog f_bcm_Jobs_Drop_1 [0, 1, 2, 3] hc_bcm_Jobs_Drop_1 [.t 3] := hfn_opt (hs := [[0, 3], [1, 2]]) fol Try.func88 (by kernel_rfl)

/-- (*signalbox/bcm.Jobs).Drop$2 [0, 1, 2, 3] -/
def hc_bcm_Jobs_Drop_2 : HC :=
 (.seq (.reg 1 [Xeff [] (some 2) 0 (.box (.t 0)) [(Xv 0)],
   Xset [(3, (Xc (.bool false)))]] [0, 3])
 (.seq (.reg 0 [Xset [(3, (Xb .eql (Xf 0 (Xv 2)) (Xl (Xv 1))))]] [1, 2])
 .ret))
theorem ok_bcm_Jobs_Drop_2 : HFn Try.prog f_bcm_Jobs_Drop_2 [0, 1, 2, 3] hc_bcm_Jobs_Drop_2 [.t 3] := hfn_opt (hs := [[0, 3], [1, 2]]) fol Try.func89 (by kernel_rfl)

/-- slices.IndexFunc[[]signalbox/bcm.sender,signalbox/bcm.sender] [0, 1, 4, 5, 7, 8, 9, 16] -/
def hc_slices_IndexFunc_of_sender_b1 : HC :=
 (.seq (.cond (Xb .lss (Xv 5) (Xv 4)) [6]
  .skip
  (.exit 0))
 (.seq (.block 1 (.seq (.reg 0 [Xset [(3, (Xv 5))]] [])
 (.seq (.reg 0 [Xeff [] (some 7) 0 (.call (.t 0) [(.t 1)]) [(Xv 1), (Xln 3 (Xx 3 (Xv 0) (Xv 3)))]] [])
 (.cond (Xv 7) [7]
  (.seq (.reg 0 [Xset [(2, (Xv 3))]] [3])
  .ret)
  .skip))))
 (.reg 0 [Xset [(5, (Xk .add (Xv 5) 1))]] [])))
def hc_slices_IndexFunc_of_sender_l1 : HC := .loop [2, 3, 6, 7] hc_slices_IndexFunc_of_sender_b1
def hc_slices_IndexFunc_of_sender : HC :=
 (.seq (.reg 0 [Xset [(2, (Xi 0))]] [2])
 (.seq (.seq (.reg 0 [Xset [(4, (Xlen (Xv 0))), (5, (Xi 0))]] [])
 (.block 0 hc_slices_IndexFunc_of_sender_l1))
 (.seq (.reg 0 [Xset [(2, (Xi (-1)))]] [])
 .ret)))
theorem ok_slices_IndexFunc_of_sender : HFn Try.prog f_slices_IndexFunc_of_sender [0, 1, 4, 5, 7, 8, 9, 16] hc_slices_IndexFunc_of_sender [.t 2] := hfn_opt (hs := [[4], [], [4, 5, 9, 16], [], [9], [], [], [16], [5], [], []]) fol Try.func108 (by kernel_rfl)

/-- slices.IndexFunc[[]signalbox/bcm.watcher,signalbox/bcm.watcher] [0, 1, 4, 5, 7, 8, 9, 16] -/
def hc_slices_IndexFunc_of_watcher_b1 : HC :=
 (.seq (.cond (Xb .lss (Xv 5) (Xv 4)) [6]
  .skip
  (.exit 0))
 (.seq (.block 1 (.seq (.reg 0 [Xset [(3, (Xv 5))]] [])
 (.seq (.reg 0 [Xeff [] (some 7) 0 (.call (.t 0) [(.t 1)]) [(Xv 1), (Xln 5 (Xx 5 (Xv 0) (Xv 3)))]] [])
 (.cond (Xv 7) [7]
  (.seq (.reg 0 [Xset [(2, (Xv 3))]] [3])
  .ret)
  .skip))))
 (.reg 0 [Xset [(5, (Xk .add (Xv 5) 1))]] [])))
def hc_slices_IndexFunc_of_watcher_l1 : HC := .loop [2, 3, 6, 7] hc_slices_IndexFunc_of_watcher_b1
def hc_slices_IndexFunc_of_watcher : HC :=
 (.seq (.reg 0 [Xset [(2, (Xi 0))]] [2])
 (.seq (.seq (.reg 0 [Xset [(4, (Xlen (Xv 0))), (5, (Xi 0))]] [])
 (.block 0 hc_slices_IndexFunc_of_watcher_l1))
 (.seq (.reg 0 [Xset [(2, (Xi (-1)))]] [])
 .ret)))
theorem ok_slices_IndexFunc_of_watcher : HFn Try.prog f_slices_IndexFunc_of_watcher [0, 1, 4, 5, 7, 8, 9, 16] hc_slices_IndexFunc_of_watcher [.t 2] := hfn_opt (hs := [[4], [], [4, 5, 9, 16], [], [9], [], [], [16], [5], [], []]) fol Try.func111 (by kernel_rfl)

/-- (*signalbox/bcm.Jobs).row [0, 1, 4, 6] -/
def hc_bcm_Jobs_row : HC :=
 (.seq (.reg 0 [Xset [(2, (Xc .nilp))]] [2])
 (.seq (.cond (Xnil (Xv 0)) [3]
  (.seq (.reg 0 [Xset [(2, (Xc .nilp))]] [])
  .ret)
  .skip)
 (.seq (.reg 0 [Xset [(2, (.o (.lookup .int .nilp false (.t 0) (.t 1)) [(Xf 2 (Xn (Xv 0))), (Xv 1)]))]] [0, 1])
 .ret)))
theorem ok_bcm_Jobs_row : HFn Try.prog f_bcm_Jobs_row [0, 1, 4, 6] hc_bcm_Jobs_row [.t 2] := hfn_opt (hs := [[4], [], [6], [], [0, 1]]) fol Try.func114 (by kernel_rfl)

/-- (*signalbox/ring.Ring[signalbox/api.Note]).Take [0, 2, 3, 4, 5, 8, 9, 10, 12, 13, 15, 26] -/
def hc_ring_Ring_of_Note_Take : HC :=
 (.seq (.reg 1 [Xeff [] (some 1) 0 (.alloc [(.int .i64 0), (.int .i64 0), (.int .i64 0), (.int .i64 0), (.int .i64 0), (.str []), (.int .i64 0)]) [],
   Xset [(2, (Xi 0))]] [2])
 (.seq (.reg 1 [Xcall [] (some 5) f_ring_Ring_of_Note_Peek [(Xv 0)] [(.t 0)],
   Xeff [(6, (Xe 0 (Xv 5))), (7, (Xe 1 (Xv 5)))] (some 3) 0 (.alloc [(.int .i64 0), (.int .i64 0), (.int .i64 0), (.int .i64 0), (.int .i64 0), (.str []), (.int .i64 0)]) [],
   Xeff [] none 1 (.store 7 (.t 0) (.t 1)) [(Xv 3), (Xv 6)],
   Xset [(4, (Xv 7))]] [5, 6, 7])
 (.seq (.cond (Xk .eql (Xv 4) 0) [8]
  (.seq (.reg 0 [Xcall [(9, (Xv 0))] (some 10) f_ring_Ring_of_Note_at [(Xv 0)] [(.t 0), (.c (.int .i64 1))],
    Xeff [] none 0 (.store 1 (.t 0) (.t 1)) [(Xa 1 (Xn (Xv 9))), (Xv 10)]] [9, 10])
  (.reg 0 [Xeff [] none 0 (.store 1 (.t 0) (.t 1)) [(Xa 2 (Xn (Xv 0))), (Xk .sub (Xf 2 (Xn (Xv 0))) 1)]] [0]))
  .skip)
 (.seq (.reg 0 [Xeff [(11, (Xv 4))] none 0 (.store 7 (.t 0) (.t 1)) [(Xv 1), (Xln 7 (Xv 3))],
   Xset [(2, (Xv 11))]] [3, 4, 11])
 .ret))))
theorem ok_ring_Ring_of_Note_Take : HFn Try.prog f_ring_Ring_of_Note_Take [0, 2, 3, 4, 5, 8, 9, 10, 12, 13, 15, 26] hc_ring_Ring_of_Note_Take [.cell 1 (some 7), .t 2] := hfn_opt (hs := [[3], [8, 9, 10], [], [12], [13, 15], [0], [4, 5, 26]]) fol Try.func115 (by kernel_rfl)

/-- signalbox/cyc.count [0, 2] -/
def hc_cyc_count : HC :=
 (.seq (.reg 0 [Xset [(1, (Xc (.bool false)))]] [1])
 (.seq (.reg 0 [Xset [(1, (Xand (Xk .geq (Xv 0) 0) (Xk .leq (Xv 0) 1099511627776)))]] [0])
 .ret))
theorem ok_cyc_count : HFn Try.prog f_cyc_count [0, 2] hc_cyc_count [.t 1] := hfn_opt (hs := [[2], [0]]) fol Try.func130 (by kernel_rfl)

/-- signalbox/cyc.Right [0, 1, 2, 3, 8, 13, 16, 18, 21, 24, 27, 30, 33] -/
def hc_cyc_Right : HC :=
 (.seq (.reg 1 [Xeff [] (some 1) 0 (.box (.t 0)) [(Xv 0)],
   Xset [(2, (Xi 0))]] [0, 2])
 (.seq (.block 0 (.seq (.block 4 (.seq (.block 3 (.block 2 (.seq (.block 1 (.seq (.seq (.cond (Xk .gtr (Xlen (Xf 4 (Xv 1))) 256) [3]
  (.exit 1)
  .skip)
 (.seq (.cond (Xk .eql (Xlen (Xf 4 (Xv 1))) 0) [4]
  (.exit 2)
  .skip)
 (.seq (.seq (.reg 0 [Xcall [] (some 6) f_cyc_count [(Xf 1 (Xv 1))] [(.t 0)],
   ⟨[(7, (Xnot (Xv 6)))], [], (some ⟨(some 8), (some ((Xnot (Xv 6)), false)), 0, .call (.c (.fn f_cyc_count [] [])) [(.t 0)], [(Xf 2 (Xv 1))], []⟩)⟩,
   ⟨[(9, (Xor (Xv 7) (Xnot (Xv 8))))], [], (some ⟨(some 10), (some ((Xor (Xv 7) (Xnot (Xv 8))), false)), 0, .call (.c (.fn f_cyc_count [] [])) [(.t 0)], [(Xf 3 (Xv 1))], []⟩)⟩,
   Xset [(5, (Xor (Xv 9) (Xnot (Xv 10))))]] [6, 7, 8, 9, 10])
 (.cond (Xv 5) [5]
  (.exit 3)
  .skip))
 (.seq (.reg 0 [Xcall [] (some 12) f_slices_ContainsFunc_of_Frame [(Xf 4 (Xv 1))] [(.t 0), (.c (.fn f_cyc_Right_1 [] []))],
   Xset [(11, (Xv 12))]] [1, 12])
 (.cond (Xv 11) [11]
  (.exit 4)
  .skip)))))
 (.exit 0)))
 (.seq (.seq (.reg 0 [Xset [(2, (Xi 9))]] [])
 .ret)
 (.exit 0)))))
 (.seq (.seq (.reg 0 [Xset [(2, (Xi 2))]] [])
 .ret)
 (.exit 0))))
 (.seq (.seq (.reg 0 [Xset [(2, (Xi 4))]] [])
 .ret)
 (.exit 0))))
 (.seq (.reg 0 [Xset [(2, (Xi 0))]] [])
 .ret)))
theorem ok_cyc_Right : HFn Try.prog f_cyc_Right [0, 1, 2, 3, 8, 13, 16, 18, 21, 24, 27, 30, 33] hc_cyc_Right [.t 2] := hfn_opt (hs := [[0, 2], [], [3], [], [8], [16, 18, 21, 24, 27], [13], [1, 33], [30], [], [], [], []]) fol Try.func131 (by kernel_rfl)

/-- slices.Clone[[]signalbox/api.Frame,signalbox/api.Frame] [0, 2, 4, 5, 7] -/
def hc_slices_Clone_of_Frame : HC :=
 (.seq (.reg 0 [Xset [(1, (Xc .nils))]] [1])
 (.seq (.cond (.o (.eqv false .slice (.t 0) (.c .nils)) [(Xv 0)]) [2]
  (.seq (.reg 0 [Xset [(1, (Xc .nils))]] [])
  .ret)
  .skip)
 (.seq (.reg 2 [Xeff [] (some 3) 0 (.bslice 4 []) [],
   Xeff [] (some 4) 1 (.app 4 40 (.t 0) (.t 1)) [(Xv 3), (Xv 0)],
   Xset [(1, (Xv 4))]] [0, 3, 4])
 .ret)))
theorem ok_slices_Clone_of_Frame : HFn Try.prog f_slices_Clone_of_Frame [0, 2, 4, 5, 7] hc_slices_Clone_of_Frame [.t 1] := hfn_opt (hs := [[2], [], [4], [], [0, 5, 7]]) fol Try.func132 (by kernel_rfl)

/-- signalbox/cyc.turns [0, 1, 2, 3] -/
def hc_cyc_turns : HC :=
 (.seq (.reg 1 [Xeff [] (some 1) 0 (.box (.t 0)) [(Xv 0)],
   Xset [(2, (Xc .nilf))]] [0, 2])
 (.seq (.reg 1 [Xeff [] (some 3) 0 (.alloc [(.int .i64 0)]) [],
   Xeff [] none 1 (.store 1 (.t 0) (.c (.int .i64 0))) [(Xv 3)]] [])
 (.seq (.reg 0 [Xset [(2, (.o (.mkfn f_cyc_turns_1 [] [(.t 0), (.t 1)]) [(Xv 1), (Xv 3)]))]] [1, 3])
 .ret)))
theorem ok_cyc_turns : HFn Try.prog f_cyc_turns [0, 1, 2, 3] hc_cyc_turns [.t 2] := hfn_opt (hs := [[0, 2], [], [1, 3]]) fol Try.func133 (by kernel_rfl)

/-- (*signalbox/cyc.Cyc).plan [0, 1, 4, 14, 21, 26] -/
def hc_cyc_Cyc_plan : HC :=
 (.seq (.reg 0 [Xset [(2, (Xf 3 (Xa 0 (Xn (Xv 0)))))]] [])
 (.seq (.cond (Xk .gtr (Xf 9 (Xn (Xv 0))) 0) [3]
  (.reg 0 [Xset [(2, (Xf 2 (Xa 0 (Xn (Xv 0)))))]] [])
  .skip)
 (.reg 0 [Xeff [(4, (Xv 0)), (5, (Xk .gtr (Xv 2) 0))] none 0 (.store 1 (.t 0) (.t 1)) [(Xa 10 (Xn (Xv 0))), (Xb .add (Xv 1) (Xv 2))],
   Xeff [] none 0 (.store 1 (.t 0) (.t 1)) [(Xa 11 (Xn (Xv 4))), (Xv 5)]] [0, 1, 2, 4, 5])))
theorem ok_cyc_Cyc_plan : HFn Try.prog f_cyc_Cyc_plan [0, 1, 4, 14, 21, 26] hc_cyc_Cyc_plan [] := hfn_opt (hs := [[], [], [14], [], [0, 1, 4, 21, 26]]) fol Try.func134 (by kernel_rfl)

/-- signalbox/signalboxref22.far [0, 1, 2, 6, 7, 8, 12, 23] -/
def hc_ref22_far_b1 : HC :=
 (.seq (.cond (Xb .lss (Xv 5) (Xv 2)) [6]
  .skip
  (.exit 0))
 (.seq (.block 1 (.seq (.reg 0 [Xset [(4, (Xb .add (Xv 4) (Xv 1)))]] [])
 (.cond (Xor (Xk .gtr (Xv 4) 2305843009213693952) (Xk .gtr (Xv 5) 3000)) [7]
  (.seq (.reg 0 [Xset [(3, (Xi (-1)))]] [])
  .ret)
  .skip)))
 (.reg 0 [Xset [(5, (Xk .add (Xv 5) 1))]] [])))
def hc_ref22_far_l1 : HC := .loop [0, 3, 6, 7] hc_ref22_far_b1
def hc_ref22_far : HC :=
 (.seq (.reg 0 [Xset [(3, (Xi 0))]] [3])
 (.seq (.reg 0 [Xset [(4, (Xv 0))]] [0])
 (.seq (.seq (.reg 0 [Xset [(5, (Xi 0))]] [])
 (.block 0 hc_ref22_far_l1))
 (.seq (.reg 0 [Xset [(3, (Xv 4))]] [4])
 .ret))))
theorem ok_ref22_far : HFn Try.prog f_ref22_far [0, 1, 2, 6, 7, 8, 12, 23] hc_ref22_far [.t 3] := hfn_opt (hs := [[6], [0], [], [0, 6, 12, 23], [], [12], [], [], [23], [], [], [7]]) fol Try.func135 (by kernel_rfl)

/-- signalbox/ring.New[signalbox/api.Note] [0, 2, 6, 8] -/
def hc_ring_New_of_Note : HC :=
 (.seq (.reg 0 [Xset [(1, (Xc .nilp))]] [1])
 (.seq (.reg 2 [Xeff [] (some 2) 0 (.mksl 7 64 [(.int .i64 0), (.int .i64 0), (.int .i64 0), (.int .i64 0), (.int .i64 0), (.str []), (.int .i64 0)] (.t 0) (.t 0)) [(.o (.mn [(.t 0), (.c (.int .i64 1000))]) [(.o (.mx [(.t 0), (.c (.int .i64 1))]) [(Xv 0)])])],
   Xeff [] (some 3) 1 (.box (.t 0)) [(.o (.build [.nils, (.int .i64 0), (.int .i64 0), (.int .i64 0)] [(0, 1, (.t 0))]) [(Xv 2)])],
   Xset [(1, (Xv 3))]] [0, 2, 3])
 .ret))
theorem ok_ring_New_of_Note : HFn Try.prog f_ring_New_of_Note [0, 2, 6, 8] hc_ring_New_of_Note [.t 1] := hfn_opt (hs := [[2], [0, 6, 8]]) fol Try.func136 (by kernel_rfl)

/-- (*signalbox/ring.Ring[signalbox/api.Note]).Put [0, 1, 3, 4, 5, 8, 28, 29, 35, 36] -/
def hc_ring_Ring_of_Note_Put : HC :=
 (.seq (.reg 1 [Xeff [] (some 2) 0 (.box (.t 0)) [(Xv 1)],
   Xset [(3, (Xc (.bool false)))]] [1, 3])
 (.seq (.block 0 (.cond (Xnil (Xv 0)) [4]
  (.seq (.reg 0 [Xset [(3, (Xc (.bool false)))]] [])
  .ret)
  (.cond (Xb .eql (Xf 2 (Xn (Xv 0))) (Xlen (Xf 0 (Xn (Xv 0))))) [5]
   (.seq (.reg 0 [Xeff [] none 0 (.store 1 (.t 0) (.t 1)) [(Xa 3 (Xn (Xv 0))), (Xk .add (Xf 3 (Xn (Xv 0))) 1)]] [0])
   (.seq (.reg 0 [Xset [(3, (Xc (.bool false)))]] [])
   .ret))
   .skip)))
 (.seq (.reg 0 [⟨[(6, (Xa 0 (Xn (Xv 0)))), (7, (Xf 0 (Xn (Xv 0)))), (9, (Xln 7 (Xv 2)))], [], (some ⟨(some 8), none, 0, .call (.c (.fn f_ring_Ring_of_Note_at [] [])) [(.t 0), (.t 1)], [(Xv 0), (Xf 2 (Xn (Xv 0)))], [((Xln 7 (Xv 2)), 9), ((Xl (Xv 6)), 7)]⟩)⟩,
   Xeff [] none 0 (.store 7 (.t 0) (.t 1)) [(Xx 7 (Xv 7) (Xv 8)), (Xv 9)]] [2, 6, 7, 8, 9])
 (.seq (.reg 0 [Xeff [] none 0 (.store 1 (.t 0) (.t 1)) [(Xa 2 (Xn (Xv 0))), (Xk .add (Xf 2 (Xn (Xv 0))) 1)]] [0])
 (.seq (.reg 0 [Xset [(3, (Xc (.bool true)))]] [])
 .ret)))))
theorem ok_ring_Ring_of_Note_Put : HFn Try.prog f_ring_Ring_of_Note_Put [0, 1, 3, 4, 5, 8, 28, 29, 35, 36] hc_ring_Ring_of_Note_Put [.t 3] := hfn_opt (hs := [[1, 4], [], [5], [], [0, 1, 2, 4, 5, 6, 3, 7, 8, 9, 10], [0, 1, 3, 7, 0, 16, 48, 112, 240, 511, 1023], [], [8], [0], [], [0, 1, 2, 4, 5, 6, 7, 3, 8, 10, 9, 11, 12], [0, 1, 3, 7, 0, 0, 32, 96, 224, 496, 0, 2047, 4095], [3, 28, 29, 35, 36], [0], []]) fol Try.func137 (by kernel_rfl)

/-- signalbox/watch.within [0, 2] -/
def hc_watch_within : HC :=
 (.seq (.reg 0 [Xset [(1, (Xi 0))]] [1])
 (.seq (.reg 0 [Xset [(1, (.o (.mn [(.t 0), (.c (.int .i64 2305843009213693952))]) [(.o (.mx [(.t 0), (.c (.int .i64 0))]) [(Xv 0)])]))]] [0])
 .ret))
theorem ok_watch_within : HFn Try.prog f_watch_within [0, 2] hc_watch_within [.t 1] := hfn_opt (hs := [[2], [0]]) fol Try.func138 (by kernel_rfl)

/-- (*signalbox/watch.Watch).tell [0, 1, 2, 5, 6, 8, 9, 10, 20] -/
def hc_watch_Watch_tell : HC :=
 (.seq (.reg 2 [Xeff [] (some 3) 0 (.box (.t 0)) [(Xv 2)],
   Xeff [] (some 4) 1 (.alloc [(.int .i64 0), (.int .i64 0), (.int .i64 0), (.int .i64 0), (.int .i64 0), (.str []), (.int .i64 0)]) []] [2])
 (.seq (.reg 0 [Xeff [(5, (Xv 0)), (6, (Xv 0)), (7, (Xv 1))] none 0 (.store 1 (.t 0) (.t 1)) [(Xa 6 (Xn (Xv 0))), (Xv 3)],
   Xeff [] none 0 (.store 1 (.t 0) (.t 1)) [(Xa 7 (Xn (Xv 5))), (Xv 7)],
   Xeff [] none 0 (.store 1 (.t 0) (.c .nilp)) [(Xa 8 (Xn (Xv 6)))]] [5, 6, 7])
 (.seq (.reg 0 [Xcall [] (some 8) f_watch_Watch_note [(Xv 0), (Xv 1), (Xln 4 (Xv 3))] [(.t 0), (.c (.int .i64 1)), (.t 1), (.t 2)],
   Xeff [] none 0 (.store 7 (.t 0) (.t 1)) [(Xv 4), (Xv 8)]] [0, 1, 3, 8])
 .ret)))
theorem ok_watch_Watch_tell : HFn Try.prog f_watch_Watch_tell [0, 1, 2, 5, 6, 8, 9, 10, 20] hc_watch_Watch_tell [.cell 4 (some 7)] := hfn_opt (hs := [[2], [8, 9, 10], [0, 1, 5, 20]]) fol Try.func139 (by kernel_rfl)

/-- (*signalbox/watch.Watch).note [0, 1, 2, 3, 7, 8] -/
def hc_watch_Watch_note : HC :=
 (.seq (.reg 2 [Xeff [] (some 4) 0 (.box (.t 0)) [(Xv 3)],
   Xeff [] (some 5) 1 (.alloc [(.int .i64 0), (.int .i64 0), (.int .i64 0), (.int .i64 0), (.int .i64 0), (.str []), (.int .i64 0)]) []] [3])
 (.seq (.reg 0 [Xeff [] none 0 (.store 7 (.t 0) (.t 1)) [(Xv 5), (.o (.build [(.int .i64 0), (.int .i64 0), (.int .i64 0), (.int .i64 0), (.int .i64 0), (.str []), (.int .i64 0)] [(0, 1, (.t 0)), (1, 1, (.t 1)), (2, 4, (.t 2)), (6, 1, (.t 3))]) [(Xv 1), (Xcv .i64 (Xf 0 (Xa 0 (Xa 0 (Xn (Xv 0)))))), (Xln 4 (Xv 4)), (Xv 2)])]] [0, 1, 2, 4])
 .ret))
theorem ok_watch_Watch_note : HFn Try.prog f_watch_Watch_note [0, 1, 2, 3, 7, 8] hc_watch_Watch_note [.cell 5 (some 7)] := hfn_opt (hs := [[3], [0, 1, 2, 3, 4, 5, 9, 6, 7, 8, 10, 11], [0, 0, 2, 6, 14, 30, 62, 126, 0, 0, 1023, 2047], [0, 1, 2, 7]]) fol Try.func140 (by kernel_rfl)

/-- signalbox/watch.Right [0, 1, 2, 3, 6, 8, 11, 14] -/
def hc_watch_Right : HC :=
 (.seq (.reg 1 [Xeff [] (some 1) 0 (.box (.t 0)) [(Xv 0)],
   Xset [(2, (Xi 0))]] [0, 2])
 (.seq (.block 0 (.seq (.block 2 (.block 1 (.seq (.seq (.seq (.reg 0 [Xcall [] (some 4) f_watch_count [(Xf 4 (Xv 1))] [(.t 0)],
   ⟨[(5, (Xnot (Xv 4)))], [], (some ⟨(some 6), (some ((Xnot (Xv 4)), false)), 0, .call (.c (.fn f_watch_count [] [])) [(.t 0)], [(Xf 5 (Xv 1))], []⟩)⟩,
   Xset [(3, (Xor (Xv 5) (Xnot (Xv 6))))]] [4, 5, 6])
 (.cond (Xv 3) [3]
  (.exit 1)
  .skip))
 (.seq (.reg 0 [Xset [(7, (Xk .gtr (Xls (Xf 3 (Xv 1))) 64))]] [1])
 (.cond (Xv 7) [7]
  (.exit 2)
  .skip)))
 (.exit 0))))
 (.seq (.seq (.reg 0 [Xset [(2, (Xi 2))]] [])
 .ret)
 (.exit 0))))
 (.seq (.reg 0 [Xset [(2, (Xi 0))]] [])
 .ret)))
theorem ok_watch_Right : HFn Try.prog f_watch_Right [0, 1, 2, 3, 6, 8, 11, 14] hc_watch_Right [.t 2] := hfn_opt (hs := [[0, 2], [6, 8, 11], [3], [1], [14], [], []]) fol Try.func141 (by kernel_rfl)

/-- (*signalbox/ring.Ring[signalbox/api.Note]).Peek [0, 2, 3, 4, 5, 9] -/
def hc_ring_Ring_of_Note_Peek : HC :=
 (.seq (.reg 1 [Xeff [] (some 1) 0 (.alloc [(.int .i64 0), (.int .i64 0), (.int .i64 0), (.int .i64 0), (.int .i64 0), (.str []), (.int .i64 0)]) [],
   Xset [(2, (Xi 0))]] [2])
 (.seq (.reg 1 [Xeff [] (some 3) 0 (.alloc [(.int .i64 0), (.int .i64 0), (.int .i64 0), (.int .i64 0), (.int .i64 0), (.str []), (.int .i64 0)]) []] [])
 (.seq (.block 0 (.cond (Xnil (Xv 0)) [4]
  (.seq (.reg 0 [Xeff [] none 0 (.store 7 (.t 0) (.t 1)) [(Xv 1), (Xln 7 (Xv 3))],
    Xset [(2, (Xi 1))]] [3])
  .ret)
  (.cond (Xk .eql (Xf 2 (Xn (Xv 0))) 0) [5]
   (.seq (.reg 0 [Xeff [] none 0 (.store 7 (.t 0) (.t 1)) [(Xv 1), (Xln 7 (Xv 3))],
     Xset [(2, (Xi 6))]] [3])
   .ret)
   .skip)))
 (.seq (.reg 0 [Xeff [] none 0 (.store 7 (.t 0) (.t 1)) [(Xv 1), (Xln 7 (Xx 7 (Xf 0 (Xn (Xv 0))) (Xf 1 (Xn (Xv 0)))))],
   Xset [(2, (Xi 0))]] [0])
 .ret))))
theorem ok_ring_Ring_of_Note_Peek : HFn Try.prog f_ring_Ring_of_Note_Peek [0, 2, 3, 4, 5, 9] hc_ring_Ring_of_Note_Peek [.cell 1 (some 7), .t 2] := hfn_opt (hs := [[3], [], [], [5], [4], [], [9], [4], [0, 1, 2, 4, 5, 6, 3, 7, 8, 9, 10, 11], [0, 1, 3, 7, 0, 16, 48, 112, 255, 511, 1023, 2047], [0]]) fol Try.func149 (by kernel_rfl)

/-- (*signalbox/ring.Ring[signalbox/api.Note]).at [0, 1, 4] -/
def hc_ring_Ring_of_Note_at : HC :=
 (.seq (.reg 0 [Xset [(2, (Xi 0))]] [2])
 (.seq (.reg 0 [Xset [(2, (Xb .rem (Xb .add (Xf 1 (Xn (Xv 0))) (Xv 1)) (Xlen (Xf 0 (Xn (Xv 0))))))]] [0, 1])
 .ret))
theorem ok_ring_Ring_of_Note_at : HFn Try.prog f_ring_Ring_of_Note_at [0, 1, 4] hc_ring_Ring_of_Note_at [.t 2] := hfn_opt (hs := [[4], [0, 1, 2, 4, 6, 7, 8, 3, 5, 9, 10, 11, 12], [0, 1, 3, 7, 0, 31, 0, 64, 192, 448, 960, 2047, 4095], [0, 1]]) fol Try.func150 (by kernel_rfl)

/-- slices.ContainsFunc[[]signalbox/api.Frame,signalbox/api.Frame] [0, 1, 4, 7] -/
def hc_slices_ContainsFunc_of_Frame : HC :=
 (.seq (.reg 0 [Xset [(2, (Xc (.bool false)))]] [2])
 (.seq (.reg 0 [Xcall [] (some 3) f_slices_IndexFunc_of_Frame [(Xv 0), (Xv 1)] [(.t 0), (.t 1)],
   Xset [(2, (Xk .geq (Xv 3) 0))]] [0, 1, 3])
 .ret))
theorem ok_slices_ContainsFunc_of_Frame : HFn Try.prog f_slices_ContainsFunc_of_Frame [0, 1, 4, 7] hc_slices_ContainsFunc_of_Frame [.t 2] := hfn_opt (hs := [[4], [0, 1, 7]]) fol Try.func162 (by kernel_rfl)

/-- signalbox/cyc.Right$1 [0, 1, 2, 4] -/
def hc_cyc_Right_1 : HC :=
 (.seq (.reg 1 [Xeff [] (some 1) 0 (.box (.t 0)) [(Xv 0)],
   Xset [(2, (Xc (.bool false)))]] [0, 2])
 (.seq (.reg 0 [Xcall [] (some 3) f_frame_Key [(Xln 4 (Xv 1))] [(.t 0)],
   Xset [(2, (Xk .lss (Xv 3) 0))]] [1, 3])
 .ret))
theorem ok_cyc_Right_1 : HFn Try.prog f_cyc_Right_1 [0, 1, 2, 4] hc_cyc_Right_1 [.t 2] := hfn_opt (hs := [[0, 2], [1, 4]]) fol Try.func163 (by kernel_rfl)

/-- signalbox/cyc.turns$1 [0, 1, 2, 3, 7] -/
def hc_cyc_turns_1 : HC :=
 (.seq (.reg 1 [Xeff [] (some 2) 0 (.alloc [(.int .i64 0), (.int .i64 0), (.int .i64 0), (.str [])]) []] [])
 (.seq (.reg 1 [Xeff [(4, (Xln 4 (Xx 4 (Xl (Xv 0)) (Xl (Xv 1)))))] (some 3) 0 (.alloc [(.int .i64 0), (.int .i64 0), (.int .i64 0), (.str [])]) [],
   Xeff [] none 1 (.store 4 (.t 0) (.t 1)) [(Xv 3), (Xv 4)]] [4])
 (.seq (.reg 0 [Xeff [] none 0 (.store 1 (.t 0) (.t 1)) [(Xv 1), (Xb .rem (Xk .add (Xl (Xv 1)) 1) (Xlen (Xl (Xv 0))))]] [0, 1])
 (.seq (.reg 0 [Xeff [] none 0 (.store 4 (.t 0) (.t 1)) [(Xv 2), (Xln 4 (Xv 3))]] [3])
 .ret))))
theorem ok_cyc_turns_1 : HFn Try.prog f_cyc_turns_1 [0, 1, 2, 3, 7] hc_cyc_turns_1 [.cell 2 (some 4)] := hfn_opt (hs := [[], [7], [0, 1], [3]]) fol Try.func164 (by kernel_rfl)

/-- signalbox/watch.count [0, 2] -/
def hc_watch_count : HC :=
 (.seq (.reg 0 [Xset [(1, (Xc (.bool false)))]] [1])
 (.seq (.reg 0 [Xset [(1, (Xand (Xk .geq (Xv 0) 0) (Xk .leq (Xv 0) 1099511627776)))]] [0])
 .ret))
theorem ok_watch_count : HFn Try.prog f_watch_count [0, 2] hc_watch_count [.t 1] := hfn_opt (hs := [[2], [0]]) fol Try.func165 (by kernel_rfl)

/-- slices.IndexFunc[[]signalbox/api.Frame,signalbox/api.Frame] [0, 1, 4, 5, 7, 8, 9, 16] -/
def hc_slices_IndexFunc_of_Frame_b1 : HC :=
 (.seq (.cond (Xb .lss (Xv 5) (Xv 4)) [6]
  .skip
  (.exit 0))
 (.seq (.block 1 (.seq (.reg 0 [Xset [(3, (Xv 5))]] [])
 (.seq (.reg 0 [Xeff [] (some 7) 0 (.call (.t 0) [(.t 1)]) [(Xv 1), (Xln 4 (Xx 4 (Xv 0) (Xv 3)))]] [])
 (.cond (Xv 7) [7]
  (.seq (.reg 0 [Xset [(2, (Xv 3))]] [3])
  .ret)
  .skip))))
 (.reg 0 [Xset [(5, (Xk .add (Xv 5) 1))]] [])))
def hc_slices_IndexFunc_of_Frame_l1 : HC := .loop [2, 3, 6, 7] hc_slices_IndexFunc_of_Frame_b1
def hc_slices_IndexFunc_of_Frame : HC :=
 (.seq (.reg 0 [Xset [(2, (Xi 0))]] [2])
 (.seq (.seq (.reg 0 [Xset [(4, (Xlen (Xv 0))), (5, (Xi 0))]] [])
 (.block 0 hc_slices_IndexFunc_of_Frame_l1))
 (.seq (.reg 0 [Xset [(2, (Xi (-1)))]] [])
 .ret)))
theorem ok_slices_IndexFunc_of_Frame : HFn Try.prog f_slices_IndexFunc_of_Frame [0, 1, 4, 5, 7, 8, 9, 16] hc_slices_IndexFunc_of_Frame [.t 2] := hfn_opt (hs := [[4], [], [4, 5, 9, 16], [], [9], [], [], [16], [5], [], []]) fol Try.func170 (by kernel_rfl)


def tab0_QIf : TabH := [(f_law24_BcmTimes, [0, 1, 2, 3, 4, 5, 8, 9, 11, 12, 13, 15, 16, 18, 20, 22, 24, 46, 47, 48, 52, 56, 57, 59, 61, 62, 69, 70, 71, 72, 81, 82, 84, 85, 89, 94, 95, 96, 97, 99, 102, 103, 105, 106, 111, 115, 117, 120, 121, 122], hc_law24_BcmTimes, [.t 6]),
  (f_law24_BcmFull, [0, 1, 4, 5, 6, 7, 9, 11, 13, 14, 15, 29, 30, 31, 33, 34, 35, 36, 44, 48, 55, 56, 62, 71, 78, 83, 98, 101, 104, 107, 110, 113, 116, 117], hc_law24_BcmFull, [.t 2]),
  (f_ref22_Small, [0, 1, 2, 3, 4, 13], hc_ref22_Small, [.t 2]),
  (f_law24_alive, [0, 1, 3, 4, 5, 6, 7, 8, 10, 12, 14, 18, 20, 23, 24, 25], hc_law24_alive, [.t 0]),
  (f_bcm_New, [0, 2, 3, 6], hc_bcm_New, [.t 1]),
  (f_bcm_Jobs_Tx, [0, 1, 2, 3, 5, 6, 8, 9, 10, 11, 12, 13, 14, 15, 18, 20, 25, 29, 35, 37, 40, 41, 42, 43, 49, 50, 55, 56, 57, 58, 62], hc_bcm_Jobs_Tx, [.t 6, .t 7]),
  (f_ref22_Right, [0, 1, 2, 3, 7, 12, 15, 18, 21, 24, 27, 29, 34, 42, 43], hc_ref22_Right, [.t 2]),
  (f_ref22_Times, [0, 1, 2, 3, 6, 7, 8, 9, 11, 13, 15, 17, 20, 26, 33, 35, 37, 38], hc_ref22_Times, [.t 4]),
  (f_bcm_Jobs_Tick, [0, 1, 4, 5, 7, 8, 10, 12, 14, 19, 20, 21, 22, 24, 28, 30, 31, 37, 38, 40, 55, 56, 57, 58, 60, 64, 65, 66, 67, 69], hc_bcm_Jobs_Tick, [.t 2]),
  (f_bcm_Jobs_TxStop, [0, 1, 2, 4, 5, 6, 7, 9, 15, 21, 30], hc_bcm_Jobs_TxStop, [.t 5]),
  (f_ref09_Ints, [0, 1, 4, 5, 10, 14, 25], hc_ref09_Ints, [.t 2]),
  (f_bcm_Jobs_Rx, [0, 1, 2, 3, 5, 6, 8, 9, 10, 11, 12, 15, 17, 22, 26, 32, 34, 37, 38, 39, 40, 46, 47], hc_bcm_Jobs_Rx, [.t 6]),
  (f_bcm_Jobs_Len, [0, 1, 3, 4, 6, 12, 15, 16, 17, 18], hc_bcm_Jobs_Len, [.t 3]),
  (f_bcm_Jobs_Drop, [0, 1, 3, 4, 5, 8, 10, 11, 17, 20, 26], hc_bcm_Jobs_Drop, [.t 3]),
  (f_bcm_Jobs_Note, [0, 1, 4, 5, 6, 7, 9, 14, 15, 16, 17, 19, 21], hc_bcm_Jobs_Note, [.cell 2 (some 7), .t 3]),
  (f_bcm_right, [0, 2], hc_bcm_right, [.t 1]),
  (f_cyc_New, [0, 1, 2, 4, 5, 6, 7, 9, 10, 12, 14, 18, 20, 23, 25, 28], hc_cyc_New, [.t 3, .t 4]),
  (f_slices_DeleteFunc_of_sender, [0, 1, 4, 5, 6, 7, 10, 12, 19, 25, 28, 29], hc_slices_DeleteFunc_of_sender, [.t 2]),
  (f_slices_Clone_of_sender, [0, 2, 4, 5, 7], hc_slices_Clone_of_sender, [.t 1]),
  (f_bcm_Jobs_Tx_1, [0, 1, 2, 3, 4, 9], hc_bcm_Jobs_Tx_1, [.t 4]),
  (f_bcm_sender_is, [0, 1, 2, 3, 6], hc_bcm_sender_is, [.t 4]),
  (f_bcm_count_of_sender, [0, 1, 4, 5, 7, 8, 9, 10, 11, 13, 16], hc_bcm_count_of_sender, [.t 2]),
  (f_bcm_Jobs_Tx_2, [0, 1, 2, 3], hc_bcm_Jobs_Tx_2, [.t 3]),
  (f_cyc_Cyc_Begin, [0, 2, 3, 19, 28], hc_cyc_Cyc_Begin, [.cell 1 (some 4), .t 2]),
  (f_ref22_count, [0, 2], hc_ref22_count, [.t 1]),
  (f_ref22_At, [0, 1, 2, 3, 6, 7, 8, 11, 16, 21, 26, 28, 36, 43], hc_ref22_At, [.t 4]),
  (f_cyc_Cyc_Tick, [0, 1, 4, 5, 22, 28, 56], hc_cyc_Cyc_Tick, [.cell 2 (some 6)]),
  (f_bcm_Jobs_tell, [0, 1, 2, 5, 6, 7, 18, 23], hc_bcm_Jobs_tell, []),
  (f_watch_Watch_Tick, [0, 1, 4, 5, 6, 8, 11, 30, 31, 40, 41, 42, 66, 70, 74, 75, 76], hc_watch_Watch_Tick, [.t 2]),
  (f_bcm_Jobs_TxStop_1, [0, 1, 2, 3, 4, 8], hc_bcm_Jobs_TxStop_1, [.t 4]),
  (f_watch_New, [0, 1, 2, 4, 5, 6, 8, 10, 12, 14, 16], hc_watch_New, [.t 3, .t 4]),
  (f_slices_DeleteFunc_of_watcher, [0, 1, 4, 5, 6, 7, 10, 12, 19, 25, 28, 29], hc_slices_DeleteFunc_of_watcher, [.t 2]),
  (f_slices_Clone_of_watcher, [0, 2, 4, 5, 7], hc_slices_Clone_of_watcher, [.t 1]),
  (f_bcm_Jobs_Rx_1, [0, 1, 2, 3, 4, 9], hc_bcm_Jobs_Rx_1, [.t 4]),
  (f_bcm_watcher_is, [0, 1, 2, 3, 5, 6], hc_bcm_watcher_is, [.t 5]),
  (f_bcm_count_of_watcher, [0, 1, 4, 5, 7, 8, 9, 10, 11, 13, 16], hc_bcm_count_of_watcher, [.t 2]),
  (f_bcm_Jobs_Rx_2, [0, 1, 2, 3], hc_bcm_Jobs_Rx_2, [.t 3]),
  (f_bcm_Jobs_Len_1, [0, 1, 2, 3], hc_bcm_Jobs_Len_1, [.t 3]),
  (f_bcm_Jobs_Len_2, [0, 1, 2, 3], hc_bcm_Jobs_Len_2, [.t 3]),
  (f_bcm_Jobs_Drop_1, [0, 1, 2, 3], hc_bcm_Jobs_Drop_1, [.t 3]),
  (f_bcm_Jobs_Drop_2, [0, 1, 2, 3], hc_bcm_Jobs_Drop_2, [.t 3]),
  (f_slices_IndexFunc_of_sender, [0, 1, 4, 5, 7, 8, 9, 16], hc_slices_IndexFunc_of_sender, [.t 2]),
  (f_slices_IndexFunc_of_watcher, [0, 1, 4, 5, 7, 8, 9, 16], hc_slices_IndexFunc_of_watcher, [.t 2]),
  (f_bcm_Jobs_row, [0, 1, 4, 6], hc_bcm_Jobs_row, [.t 2]),
  (f_ring_Ring_of_Note_Take, [0, 2, 3, 4, 5, 8, 9, 10, 12, 13, 15, 26], hc_ring_Ring_of_Note_Take, [.cell 1 (some 7), .t 2]),
  (f_cyc_count, [0, 2], hc_cyc_count, [.t 1]),
  (f_cyc_Right, [0, 1, 2, 3, 8, 13, 16, 18, 21, 24, 27, 30, 33], hc_cyc_Right, [.t 2]),
  (f_slices_Clone_of_Frame, [0, 2, 4, 5, 7], hc_slices_Clone_of_Frame, [.t 1]),
  (f_cyc_turns, [0, 1, 2, 3], hc_cyc_turns, [.t 2]),
  (f_cyc_Cyc_plan, [0, 1, 4, 14, 21, 26], hc_cyc_Cyc_plan, []),
  (f_ref22_far, [0, 1, 2, 6, 7, 8, 12, 23], hc_ref22_far, [.t 3]),
  (f_ring_New_of_Note, [0, 2, 6, 8], hc_ring_New_of_Note, [.t 1]),
  (f_ring_Ring_of_Note_Put, [0, 1, 3, 4, 5, 8, 28, 29, 35, 36], hc_ring_Ring_of_Note_Put, [.t 3]),
  (f_watch_within, [0, 2], hc_watch_within, [.t 1]),
  (f_watch_Watch_tell, [0, 1, 2, 5, 6, 8, 9, 10, 20], hc_watch_Watch_tell, [.cell 4 (some 7)]),
  (f_watch_Watch_note, [0, 1, 2, 3, 7, 8], hc_watch_Watch_note, [.cell 5 (some 7)]),
  (f_watch_Right, [0, 1, 2, 3, 6, 8, 11, 14], hc_watch_Right, [.t 2]),
  (f_ring_Ring_of_Note_Peek, [0, 2, 3, 4, 5, 9], hc_ring_Ring_of_Note_Peek, [.cell 1 (some 7), .t 2]),
  (f_ring_Ring_of_Note_at, [0, 1, 4], hc_ring_Ring_of_Note_at, [.t 2]),
  (f_slices_ContainsFunc_of_Frame, [0, 1, 4, 7], hc_slices_ContainsFunc_of_Frame, [.t 2]),
  (f_cyc_Right_1, [0, 1, 2, 4], hc_cyc_Right_1, [.t 2]),
  (f_cyc_turns_1, [0, 1, 2, 3, 7], hc_cyc_turns_1, [.cell 2 (some 4)]),
  (f_watch_count, [0, 2], hc_watch_count, [.t 1]),
  (f_slices_IndexFunc_of_Frame, [0, 1, 4, 5, 7, 8, 9, 16], hc_slices_IndexFunc_of_Frame, [.t 2])]
def tab_QIf : TabH := tab0_QIf ++ tab_QIa
theorem tabOk0_QIf : TabH.OK Try.prog tab0_QIf := TabH.ok_cons ok_law24_BcmTimes (TabH.ok_cons ok_law24_BcmFull (TabH.ok_cons ok_ref22_Small (TabH.ok_cons ok_law24_alive (TabH.ok_cons ok_bcm_New (TabH.ok_cons ok_bcm_Jobs_Tx (TabH.ok_cons ok_ref22_Right (TabH.ok_cons ok_ref22_Times (TabH.ok_cons ok_bcm_Jobs_Tick (TabH.ok_cons ok_bcm_Jobs_TxStop (TabH.ok_cons ok_ref09_Ints (TabH.ok_cons ok_bcm_Jobs_Rx (TabH.ok_cons ok_bcm_Jobs_Len (TabH.ok_cons ok_bcm_Jobs_Drop (TabH.ok_cons ok_bcm_Jobs_Note (TabH.ok_cons ok_bcm_right (TabH.ok_cons ok_cyc_New (TabH.ok_cons ok_slices_DeleteFunc_of_sender (TabH.ok_cons ok_slices_Clone_of_sender (TabH.ok_cons ok_bcm_Jobs_Tx_1 (TabH.ok_cons ok_bcm_sender_is (TabH.ok_cons ok_bcm_count_of_sender (TabH.ok_cons ok_bcm_Jobs_Tx_2 (TabH.ok_cons ok_cyc_Cyc_Begin (TabH.ok_cons ok_ref22_count (TabH.ok_cons ok_ref22_At (TabH.ok_cons ok_cyc_Cyc_Tick (TabH.ok_cons ok_bcm_Jobs_tell (TabH.ok_cons ok_watch_Watch_Tick (TabH.ok_cons ok_bcm_Jobs_TxStop_1 (TabH.ok_cons ok_watch_New (TabH.ok_cons ok_slices_DeleteFunc_of_watcher (TabH.ok_cons ok_slices_Clone_of_watcher (TabH.ok_cons ok_bcm_Jobs_Rx_1 (TabH.ok_cons ok_bcm_watcher_is (TabH.ok_cons ok_bcm_count_of_watcher (TabH.ok_cons ok_bcm_Jobs_Rx_2 (TabH.ok_cons ok_bcm_Jobs_Len_1 (TabH.ok_cons ok_bcm_Jobs_Len_2 (TabH.ok_cons ok_bcm_Jobs_Drop_1 (TabH.ok_cons ok_bcm_Jobs_Drop_2 (TabH.ok_cons ok_slices_IndexFunc_of_sender (TabH.ok_cons ok_slices_IndexFunc_of_watcher (TabH.ok_cons ok_bcm_Jobs_row (TabH.ok_cons ok_ring_Ring_of_Note_Take (TabH.ok_cons ok_cyc_count (TabH.ok_cons ok_cyc_Right (TabH.ok_cons ok_slices_Clone_of_Frame (TabH.ok_cons ok_cyc_turns (TabH.ok_cons ok_cyc_Cyc_plan (TabH.ok_cons ok_ref22_far (TabH.ok_cons ok_ring_New_of_Note (TabH.ok_cons ok_ring_Ring_of_Note_Put (TabH.ok_cons ok_watch_within (TabH.ok_cons ok_watch_Watch_tell (TabH.ok_cons ok_watch_Watch_note (TabH.ok_cons ok_watch_Right (TabH.ok_cons ok_ring_Ring_of_Note_Peek (TabH.ok_cons ok_ring_Ring_of_Note_at (TabH.ok_cons ok_slices_ContainsFunc_of_Frame (TabH.ok_cons ok_cyc_Right_1 (TabH.ok_cons ok_cyc_turns_1 (TabH.ok_cons ok_watch_count (TabH.ok_cons ok_slices_IndexFunc_of_Frame (TabH.ok_nil))))))))))))))))))))))))))))))))))))))))))))))))))))))))))))))))
theorem tabOk_QIf : TabH.OK Try.prog tab_QIf := TabH.ok_app (tabOk0_QIf) tabOk_QIa
end Go.Proofs.Ytapoilcpollmpaa
end
