/- QIa, put together. Conditions: none. -/
import Derived.Test.YtapoilcpollmpaaNP0
/- What the program's functions do, in compact code, as printed by MkHC.lean. -/
section
namespace Go.Proofs.Ytapoilcpollmpaa
open Go.SB
set_option maxRecDepth 100000
abbrev f_ref02_Key : Nat := 13
abbrev f_ref02_Right : Nat := 56
abbrev f_ref02_Has : Nat := 57
abbrev f_ref02_KeyBits : Nat := 58
abbrev f_ref02_Code : Nat := 122
abbrev f_ref02_Bits : Nat := 123
abbrev f_frame_Key : Nat := 126
abbrev f_ref02_Sizes : Nat := 154
abbrev f_frame_Right : Nat := 156
abbrev f_frame_has : Nat := 157
abbrev f_frame_bit : Nat := 158
abbrev f_frame_flags : Nat := 167
abbrev f_frame_most : Nat := 168
abbrev f_frame_long : Nat := 169
abbrev f_frame_Code : Nat := 172
abbrev f_frame_first : Nat := 175
abbrev f_frame_Code_1 : Nat := 176
abbrev f_frame_sizes : Nat := 177

/-- signalbox/signalboxref02.Key [0, 1, 2, 3, 4, 5, 7, 9, 11, 12, 14, 18, 26] -/
def hc_ref02_Key_b1 : HC :=
 (.seq (.cond (Xb .lss (Xv 5) (Xlen (Xv 4))) [11]
  .skip
  (.exit 0))
 (.seq (.block 1 (.seq (.reg 0 [Xset [(3, (.o (.bin .mul (.c (.int .i64 2)) (.t 0)) [(Xv 3)]))]] [])
 (.cond (Xl (Xx 1 (Xv 4) (Xv 5))) [12]
  (.reg 0 [Xset [(3, (Xk .add (Xv 3) 1))]] [])
  .skip)))
 (.reg 0 [Xset [(5, (Xk .add (Xv 5) 1))]] [])))
def hc_ref02_Key_l1 : HC := .loop [0, 1, 2, 6, 7, 8, 9, 10, 11, 12] hc_ref02_Key_b1
def hc_ref02_Key : HC :=
 (.seq (.reg 1 [Xeff [] (some 1) 0 (.box (.t 0)) [(Xv 0)],
   Xset [(2, (Xi 0))]] [0, 2])
 (.seq (.seq (.reg 0 [Xcall [] (some 6) f_ref02_Right [(Xln 4 (Xv 1))] [(.t 0)],
   ⟨[(7, (Xnot (Xv 6)))], [], (some ⟨(some 8), (some ((Xnot (Xv 6)), false)), 0, .call (.c (.fn f_ref02_Has [] [])) [(.t 0), (.c (.int .i64 4))], [(Xln 4 (Xv 1))], []⟩)⟩,
   Xset [(9, (Xor (Xv 7) (Xv 8)))]] [6, 7, 8])
 (.cond (Xv 9) [9]
  (.seq (.reg 0 [Xset [(2, (Xi (-1)))]] [])
  .ret)
  .skip))
 (.seq (.reg 0 [Xset [(3, (Xi 0))]] [])
 (.seq (.reg 0 [Xcall [] (some 10) f_ref02_KeyBits [(Xln 4 (Xv 1))] [(.t 0)],
   Xset [(4, (Xv 10))]] [1, 10])
 (.seq (.seq (.reg 0 [Xset [(5, (Xi 0))]] [])
 (.block 0 hc_ref02_Key_l1))
 (.seq (.reg 0 [Xset [(2, (Xv 3))]] [3])
 .ret))))))
theorem ok_ref02_Key : HFn Try.prog f_ref02_Key [0, 1, 2, 3, 4, 5, 7, 9, 11, 12, 14, 18, 26] hc_ref02_Key [.t 2] := hfn_opt (hs := [[0, 2], [7, 9, 11], [12], [], [], [1, 14], [], [0, 1, 2, 7, 9, 11, 12, 14, 18, 26], [], [18], [], [], [26], [], [], [3]]) fol Try.func13 (by kernel_rfl)

/-- signalbox/signalboxref02.Right [0, 1, 2, 3, 4, 5, 6, 24, 26, 27, 28, 29, 30, 31, 32, 49, 51, 52, 54, 60, 71, 89, 91, 94, 105, 106] -/
def hc_ref02_Right : HC :=
 (.seq (.reg 1 [Xeff [] (some 1) 0 (.box (.t 0)) [(Xv 0)],
   Xset [(2, (Xc (.bool false)))]] [0, 2])
 (.seq (.cond (Xor (Xor (Xor (Xk .lss (Xf 1 (Xv 1)) 0) (Xk .gtr (Xf 1 (Xv 1)) 63)) (Xk .lss (Xf 0 (Xv 1)) 0)) (Xk .gtr (Xf 0 (Xv 1)) 536870911)) [7]
  (.seq (.reg 0 [Xset [(2, (Xc (.bool false)))]] [])
  .ret)
  .skip)
 (.seq (.reg 0 [⟨[(9, (Xln 4 (Xv 1))), (11, (Xln 4 (Xv 1))), (13, (Xln 4 (Xv 1)))], [], (some ⟨(some 8), none, 0, .call (.c (.fn f_ref02_Has [] [])) [(.t 0), (.c (.int .i64 4))], [(Xln 4 (Xv 1))], [((Xln 4 (Xv 1)), 13), ((Xln 4 (Xv 1)), 11), ((Xln 4 (Xv 1)), 9)]⟩)⟩,
   ⟨[], [], (some ⟨(some 10), none, 0, .call (.c (.fn f_ref02_Has [] [])) [(.t 0), (.c (.int .i64 8))], [(Xv 9)], [((Xln 4 (Xv 1)), 13), ((Xln 4 (Xv 1)), 11)]⟩)⟩,
   ⟨[], [], (some ⟨(some 12), none, 0, .call (.c (.fn f_ref02_Has [] [])) [(.t 0), (.c (.int .i64 2))], [(Xv 11)], [((Xln 4 (Xv 1)), 13)]⟩)⟩,
   Xcall [] (some 14) f_ref02_Has [(Xv 13)] [(.t 0), (.c (.int .i64 1))],
   Xset [(3, (Xv 8)), (4, (Xv 10)), (5, (Xv 12)), (6, (Xv 14))]] [8, 9, 10, 11, 12, 13, 14])
 (.seq (.seq (.reg 0 [⟨[(15, (Xor (Xand (Xv 3) (Xor (Xor (Xv 6) (Xv 5)) (Xv 4))) (Xand (Xv 4) (Xv 5))))], [], (some ⟨(some 16), (some ((Xor (Xand (Xv 3) (Xor (Xor (Xv 6) (Xv 5)) (Xv 4))) (Xand (Xv 4) (Xv 5))), false)), 0, .call (.c (.fn f_ref02_Has [] [])) [(.t 0), (.c (.int .i64 16))], [(Xln 4 (Xv 1))], []⟩)⟩,
   ⟨[(17, (.g (Xv 15) false (Xv 16)))], [], (some ⟨(some 18), (some ((.g (Xv 15) false (Xv 16)), false)), 0, .call (.c (.fn f_ref02_Has [] [])) [(.t 0), (.c (.int .i64 32))], [(Xln 4 (Xv 1))], []⟩)⟩,
   Xset [(19, (Xor (Xv 15) (Xand (Xor (Xv 17) (Xv 18)) (Xnot (Xv 4)))))]] [15, 16, 17, 18])
 (.cond (Xv 19) [19]
  (.seq (.reg 0 [Xset [(2, (Xc (.bool false)))]] [])
  .ret)
  .skip))
 (.seq (.seq (.reg 0 [Xset [(20, (Xand (Xand (Xk .gtr (Xf 0 (Xv 1)) 2047) (Xnot (Xv 6))) (Xnot (Xv 3))))]] [6])
 (.cond (Xv 20) [20]
  (.seq (.reg 0 [Xset [(2, (Xc (.bool false)))]] [])
  .ret)
  .skip))
 (.seq (.seq (.reg 0 [⟨[(21, (Xor (Xor (Xk .lss (Xf 2 (Xv 1)) 0) (Xk .gtr (Xf 2 (Xv 1)) 64)) (Xand (Xnot (Xv 4)) (Xk .gtr (Xf 2 (Xv 1)) 8)))), (22, (.g (Xor (Xor (Xk .lss (Xf 2 (Xv 1)) 0) (Xk .gtr (Xf 2 (Xv 1)) 64)) (Xand (Xnot (Xv 4)) (Xk .gtr (Xf 2 (Xv 1)) 8))) false (Xv 4)))], [], (some ⟨(some 23), (some ((.g (Xor (Xor (Xk .lss (Xf 2 (Xv 1)) 0) (Xk .gtr (Xf 2 (Xv 1)) 64)) (Xand (Xnot (Xv 4)) (Xk .gtr (Xf 2 (Xv 1)) 8))) false (Xv 4)), true)), 0, .call (.c (.fn f_ref02_Code [] [])) [(.t 0)], [(Xf 2 (Xv 1))], []⟩)⟩,
   ⟨[(24, (Xor (Xor (Xv 21) (Xand (Xv 22) (Xk .lss (Xv 23) 0))) (Xand (Xv 3) (Xk .neq (Xf 2 (Xv 1)) 8))))], [(.g (Xv 22) true (Xk .lss (Xv 23) 0))], none⟩] [3, 4, 21, 22, 23])
 (.cond (Xv 24) [24]
  (.seq (.reg 0 [Xset [(2, (Xc (.bool false)))]] [])
  .ret)
  .skip))
 (.seq (.seq (.reg 0 [Xset [(25, (Xv 5))]] [5])
 (.cond (Xv 25) [25]
  (.seq (.reg 0 [Xset [(2, (.o (.bin .eql (.t 0) (.c (.str []))) [(Xf 3 (Xv 1))]))]] [1])
  .ret)
  .skip))
 (.seq (.reg 0 [Xset [(2, (Xb .eql (Xls (Xf 3 (Xv 1))) (Xf 2 (Xv 1))))]] [1])
 .ret))))))))
theorem ok_ref02_Right : HFn Try.prog f_ref02_Right [0, 1, 2, 3, 4, 5, 6, 24, 26, 27, 28, 29, 30, 31, 32, 49, 51, 52, 54, 60, 71, 89, 91, 94, 105, 106] hc_ref02_Right [.t 2] := hfn_opt (hs := [[0, 2], [], [24], [], [0, 2, 4, 6, 1, 3, 5, 7, 8, 9, 10, 11], [0, 1, 0, 7, 0, 31, 0, 127, 255, 511, 1023, 2047], [26, 27, 28, 29, 30, 31, 32], [49, 51, 52, 54], [60], [], [6], [71], [], [3, 4, 89, 91, 94], [105], [], [5], [106], [1], [1]]) fol Try.func56 (by kernel_rfl)

/-- signalbox/signalboxref02.Has [0, 1, 2, 4, 7] -/
def hc_ref02_Has : HC :=
 (.seq (.reg 1 [Xeff [] (some 2) 0 (.box (.t 0)) [(Xv 0)],
   Xset [(3, (Xc (.bool false)))]] [0, 3])
 (.seq (.cond (Xk .lss (Xf 1 (Xv 2)) 0) [4]
  (.seq (.reg 0 [Xset [(3, (Xc (.bool false)))]] [])
  .ret)
  .skip)
 (.seq (.reg 0 [Xset [(3, (Xk .eql (Xk .rem (Xb .quo (Xf 1 (Xv 2)) (Xv 1)) 2) 1))]] [1, 2])
 .ret)))
theorem ok_ref02_Has : HFn Try.prog f_ref02_Has [0, 1, 2, 4, 7] hc_ref02_Has [.t 3] := hfn_opt (hs := [[0, 4], [], [7], [], [1, 2]]) fol Try.func57 (by kernel_rfl)

/-- signalbox/signalboxref02.KeyBits [0, 1, 2, 3, 4, 6, 7, 11, 12, 13, 14, 15, 16, 20, 21, 22, 24, 25, 26, 27, 30, 31, 32, 34, 35, 36, 38, 41, 42, 43, 44, 46, 47, 48] -/
def hc_ref02_KeyBits_b1 : HC :=
 (.seq (.cond (Xk .lss (Xv 4) 19) [26]
  .skip
  (.exit 0))
 (.seq (.block 1 (.reg 2 [Xeff [(27, (Xv 3))] (some 28) 0 (.bslice 1 [(.c (.bool false))]) [],
   Xeff [] (some 29) 1 (.app 1 1 (.t 0) (.t 1)) [(Xv 27), (Xv 28)],
   Xset [(3, (Xv 29))]] [27, 28, 29]))
 (.reg 0 [Xset [(4, (Xk .add (Xv 4) 1))]] [])))
def hc_ref02_KeyBits_l1 : HC := .loop [0, 2, 5, 6, 7, 8, 9, 10, 11, 12, 13, 14, 15, 16, 17, 18, 19, 20, 21, 22, 23, 24, 25, 26, 27, 28, 29, 30, 31, 32, 33] hc_ref02_KeyBits_b1
def hc_ref02_KeyBits : HC :=
 (.seq (.reg 1 [Xeff [] (some 1) 0 (.box (.t 0)) [(Xv 0)],
   Xset [(2, (Xc .nils))]] [0, 2])
 (.seq (.reg 0 [Xset [(3, (Xc .nils))]] [])
 (.seq (.seq (.reg 0 [Xcall [] (some 5) f_ref02_Has [(Xln 4 (Xv 1))] [(.t 0), (.c (.int .i64 1))]] [])
 (.cond (Xv 5) [5]
  (.seq (.reg 1 [Xcall [(6, (Xv 3))] (some 7) f_ref02_Bits [(Xk .quo (Xf 0 (Xv 1)) 262144)] [(.t 0), (.c (.int .i64 11))],
    Xeff [] (some 8) 0 (.app 1 1 (.t 0) (.t 1)) [(Xv 6), (Xv 7)],
    Xset [(3, (Xv 8))]] [6, 7, 8])
  (.seq (.reg 2 [Xeff [(9, (Xv 3))] (some 10) 0 (.bslice 1 [(.c (.bool true)), (.c (.bool true))]) [],
    Xeff [] (some 11) 1 (.app 1 1 (.t 0) (.t 1)) [(Xv 9), (Xv 10)],
    Xset [(3, (Xv 11))]] [9, 10, 11])
  (.seq (.reg 1 [Xcall [(12, (Xv 3))] (some 13) f_ref02_Bits [(Xk .rem (Xf 0 (Xv 1)) 262144)] [(.t 0), (.c (.int .i64 18))],
    Xeff [] (some 14) 0 (.app 1 1 (.t 0) (.t 1)) [(Xv 12), (Xv 13)],
    Xset [(3, (Xv 14))]] [12, 13, 14])
  (.reg 2 [Xcall [(15, (Xv 3))] (some 16) f_ref02_Has [(Xln 4 (Xv 1))] [(.t 0), (.c (.int .i64 2))],
    Xeff [] (some 17) 0 (.bslice 1 [(.t 0)]) [(Xv 16)],
    Xeff [] (some 18) 1 (.app 1 1 (.t 0) (.t 1)) [(Xv 15), (Xv 17)],
    Xset [(3, (Xv 18))]] [15, 16, 17, 18]))))
  (.seq (.reg 1 [Xcall [(19, (Xv 3))] (some 20) f_ref02_Bits [(Xf 0 (Xv 1))] [(.t 0), (.c (.int .i64 11))],
    Xeff [] (some 21) 0 (.app 1 1 (.t 0) (.t 1)) [(Xv 19), (Xv 20)],
    Xset [(3, (Xv 21))]] [19, 20, 21])
  (.seq (.reg 2 [Xcall [(22, (Xv 3))] (some 23) f_ref02_Has [(Xln 4 (Xv 1))] [(.t 0), (.c (.int .i64 2))],
    Xeff [] (some 24) 0 (.bslice 1 [(.t 0), (.c (.bool false))]) [(Xv 23)],
    Xeff [] (some 25) 1 (.app 1 1 (.t 0) (.t 1)) [(Xv 22), (Xv 24)],
    Xset [(3, (Xv 25))]] [22, 23, 24, 25])
  (.seq (.reg 0 [Xset [(4, (Xi 0))]] [])
  (.block 0 hc_ref02_KeyBits_l1))))))
 (.seq (.reg 2 [Xcall [(30, (Xv 3))] (some 31) f_ref02_Has [(Xln 4 (Xv 1))] [(.t 0), (.c (.int .i64 8))],
   Xeff [] (some 32) 0 (.bslice 1 [(.t 0)]) [(Xv 31)],
   Xeff [] (some 33) 1 (.app 1 1 (.t 0) (.t 1)) [(Xv 30), (Xv 32)],
   Xset [(2, (Xv 33))]] [1, 3, 30, 31, 32, 33])
 .ret))))
theorem ok_ref02_KeyBits : HFn Try.prog f_ref02_KeyBits [0, 1, 2, 3, 4, 6, 7, 11, 12, 13, 14, 15, 16, 20, 21, 22, 24, 25, 26, 27, 30, 31, 32, 34, 35, 36, 38, 41, 42, 43, 44, 46, 47, 48] hc_ref02_KeyBits [.t 2] := hfn_opt (hs := [[0, 2], [], [], [6], [7, 11, 12], [13, 14, 15], [16, 20, 21], [22, 24, 25, 26], [27, 30, 31], [32, 34, 35, 36], [], [0, 2, 6, 7, 11, 12, 13, 14, 15, 16, 20, 21, 22, 24, 25, 26, 27, 30, 31, 32, 34, 35, 36, 38, 41, 42, 43, 44, 46, 47, 48], [], [38], [41, 42, 43], [], [1, 3, 44, 46, 47, 48]]) fol Try.func58 (by kernel_rfl)

/-- signalbox/signalboxref02.Code [0, 2, 3, 4, 5, 9, 17] -/
def hc_ref02_Code_b1 : HC :=
 (.seq (.cond (Xb .lss (Xv 3) (Xlen (Xv 2))) [5]
  .skip
  (.exit 0))
 (.seq (.block 1 (.cond (Xb .eql (Xl (Xx 1 (Xv 2) (Xv 3))) (Xv 0)) [6]
  (.seq (.reg 0 [Xset [(1, (Xv 3))]] [3])
  .ret)
  .skip))
 (.reg 0 [Xset [(3, (Xk .add (Xv 3) 1))]] [])))
def hc_ref02_Code_l1 : HC := .loop [1, 4, 5, 6] hc_ref02_Code_b1
def hc_ref02_Code : HC :=
 (.seq (.reg 0 [Xset [(1, (Xi 0))]] [1])
 (.seq (.reg 0 [Xcall [] (some 4) f_ref02_Sizes [] [],
   Xset [(2, (Xv 4))]] [4])
 (.seq (.seq (.reg 0 [Xset [(3, (Xi 0))]] [])
 (.block 0 hc_ref02_Code_l1))
 (.seq (.reg 0 [Xset [(1, (Xi (-1)))]] [])
 .ret))))
theorem ok_ref02_Code : HFn Try.prog f_ref02_Code [0, 2, 3, 4, 5, 9, 17] hc_ref02_Code [.t 1] := hfn_opt (hs := [[2], [5], [], [2, 5, 9, 17], [], [9], [], [17], [4], [], []]) fol Try.func122 (by kernel_rfl)

/-- signalbox/signalboxref02.Bits [0, 1, 4, 5, 6, 7, 8, 11, 20, 25, 29, 30] -/
def hc_ref02_Bits_b1 : HC :=
 (.seq (.cond (Xb .lss (Xv 6) (Xb .sub (Xk .sub (Xv 1) 1) (Xv 4))) [8]
  .skip
  (.exit 2))
 (.seq (.block 3 (.reg 0 [Xset [(5, (Xk .quo (Xv 5) 2))]] []))
 (.reg 0 [Xset [(6, (Xk .add (Xv 6) 1))]] [])))
def hc_ref02_Bits_l1 : HC := .loop [2, 7, 8, 9, 10, 11] hc_ref02_Bits_b1
def hc_ref02_Bits_b2 : HC :=
 (.seq (.cond (Xb .lss (Xv 4) (Xv 1)) [7]
  .skip
  (.exit 0))
 (.seq (.block 1 (.seq (.reg 0 [Xset [(5, (Xv 0))]] [])
 (.seq (.seq (.reg 0 [Xset [(6, (Xi 0))]] [])
 (.block 2 hc_ref02_Bits_l1))
 (.reg 2 [Xeff [(9, (Xv 3))] (some 10) 0 (.bslice 1 [(.t 0)]) [(Xk .eql (Xk .rem (Xv 5) 2) 1)],
   Xeff [] (some 11) 1 (.app 1 1 (.t 0) (.t 1)) [(Xv 9), (Xv 10)],
   Xset [(3, (Xv 11))]] [5, 9, 10, 11]))))
 (.reg 0 [Xset [(4, (Xk .add (Xv 4) 1))]] [])))
def hc_ref02_Bits_l2 : HC := .loop [2, 5, 6, 7, 8, 9, 10, 11] hc_ref02_Bits_b2
def hc_ref02_Bits : HC :=
 (.seq (.reg 0 [Xset [(2, (Xc .nils))]] [2])
 (.seq (.reg 0 [Xset [(3, (Xc .nils))]] [])
 (.seq (.seq (.reg 0 [Xset [(4, (Xi 0))]] [])
 (.block 0 hc_ref02_Bits_l2))
 (.seq (.reg 0 [Xset [(2, (Xv 3))]] [3])
 .ret))))
theorem ok_ref02_Bits : HFn Try.prog f_ref02_Bits [0, 1, 4, 5, 6, 7, 8, 11, 20, 25, 29, 30] hc_ref02_Bits [.t 2] := hfn_opt (hs := [[4], [], [], [4, 7, 8, 11, 20, 25, 29, 30], [], [11], [], [], [4, 11, 20, 25, 29, 30], [], [20], [], [], [7, 25, 29, 30], [], [5]]) fol Try.func123 (by kernel_rfl)

/-- signalbox/frame.Key [0, 1, 2, 3, 5, 7, 9, 10, 12, 25, 27, 29, 30, 31, 33, 39, 41] -/
def hc_frame_Key : HC :=
 (.seq (.reg 1 [Xeff [] (some 1) 0 (.box (.t 0)) [(Xv 0)],
   Xset [(2, (Xi 0))]] [0, 2])
 (.seq (.seq (.reg 0 [Xcall [] (some 4) f_frame_Right [(Xln 4 (Xv 1))] [(.t 0)],
   ⟨[(5, (Xk .neq (Xv 4) 0))], [], (some ⟨(some 6), (some ((Xk .neq (Xv 4) 0), false)), 0, .call (.c (.fn f_frame_has [] [])) [(.t 0), (.c (.int .i64 4))], [(Xln 4 (Xv 1))], []⟩)⟩,
   Xset [(7, (Xor (Xv 5) (Xv 6)))]] [4, 5, 6])
 (.cond (Xv 7) [7]
  (.seq (.reg 0 [Xset [(2, (Xi (-1)))]] [])
  .ret)
  .skip))
 (.seq (.reg 0 [Xset [(3, (Xi 0))]] [3])
 (.seq (.seq (.reg 0 [Xcall [] (some 8) f_frame_has [(Xln 4 (Xv 1))] [(.t 0), (.c (.int .i64 1))]] [])
 (.cond (Xv 8) [8]
  (.seq (.reg 0 [Xset [(3, (Xk .or (.o (.bin .shl (.t 0) (.c (.int .u64 2))) [(.o (.bin .shr (.t 0) (.c (.int .u64 18))) [(Xf 0 (Xv 1))])]) 3))]] [])
  (.seq (.reg 0 [Xset [(3, (Xb .or (.o (.bin .shl (.t 0) (.c (.int .u64 18))) [(Xv 3)]) (Xk .and (Xf 0 (Xv 1)) 262143)))]] [])
  (.reg 0 [Xcall [(9, (.o (.bin .shl (.t 0) (.c (.int .u64 1))) [(Xv 3)]))] (some 10) f_frame_bit [(Xln 4 (Xv 1))] [(.t 0), (.c (.int .i64 2))],
    Xset [(3, (Xb .or (Xv 9) (Xv 10)))]] [9, 10])))
  (.seq (.reg 0 [⟨[(11, (Xa 0 (Xv 1))), (12, (Xf 0 (Xv 1))), (13, (.o (.bin .shl (.t 0) (.c (.int .u64 2))) [(Xf 0 (Xv 1))]))], [], (some ⟨(some 14), none, 0, .call (.c (.fn f_frame_bit [] [])) [(.t 0), (.c (.int .i64 2))], [(Xln 4 (Xv 1))], [((Xl (Xv 11)), 12)]⟩)⟩,
    Xset [(3, (Xb .or (Xv 13) (.o (.bin .shl (.t 0) (.c (.int .u64 1))) [(Xv 14)])))]] [11, 12, 13, 14])
  (.reg 0 [Xset [(3, (.o (.bin .shl (.t 0) (.c (.int .u64 19))) [(Xv 3)]))]] []))))
 (.seq (.reg 0 [Xcall [(15, (.o (.bin .shl (.t 0) (.c (.int .u64 1))) [(Xv 3)]))] (some 16) f_frame_bit [(Xln 4 (Xv 1))] [(.t 0), (.c (.int .i64 8))],
   Xset [(2, (Xb .or (Xv 15) (Xv 16)))]] [1, 3, 15, 16])
 .ret)))))
theorem ok_frame_Key : HFn Try.prog f_frame_Key [0, 1, 2, 3, 5, 7, 9, 10, 12, 25, 27, 29, 30, 31, 33, 39, 41] hc_frame_Key [.t 2] := hfn_opt (hs := [[0, 2], [5, 7, 9], [10], [], [3], [], [12], [], [], [25, 27], [0, 1, 2, 3, 4, 5, 6, 7], [0, 1, 3, 0, 8, 24, 63, 127], [29, 30, 31, 33], [], [1, 3, 39, 41]]) fol Try.func126 (by kernel_rfl)

/-- signalbox/signalboxref02.Sizes [0, 1] -/
def hc_ref02_Sizes : HC :=
 (.seq (.reg 0 [Xset [(0, (Xc .nils))]] [0])
 (.seq (.reg 1 [Xeff [] (some 1) 0 (.bslice 1 [(.c (.int .i64 0)), (.c (.int .i64 1)), (.c (.int .i64 2)), (.c (.int .i64 3)), (.c (.int .i64 4)), (.c (.int .i64 5)), (.c (.int .i64 6)), (.c (.int .i64 7)), (.c (.int .i64 8)), (.c (.int .i64 12)), (.c (.int .i64 16)), (.c (.int .i64 20)), (.c (.int .i64 24)), (.c (.int .i64 32)), (.c (.int .i64 48)), (.c (.int .i64 64))]) [],
   Xset [(0, (Xv 1))]] [1])
 .ret))
theorem ok_ref02_Sizes : HFn Try.prog f_ref02_Sizes [0, 1] hc_ref02_Sizes [.t 0] := hfn_opt (hs := [[0], [1]]) fol Try.func154 (by kernel_rfl)

/-- signalbox/frame.Right [0, 1, 2, 3, 6, 8, 15, 16, 17, 19, 22, 24, 26, 28, 33] -/
def hc_frame_Right : HC :=
 (.seq (.reg 1 [Xeff [] (some 1) 0 (.box (.t 0)) [(Xv 0)],
   Xset [(2, (Xi 0))]] [0, 2])
 (.seq (.reg 0 [Xset [(3, (Xf 2 (Xv 1)))]] [])
 (.seq (.block 0 (.seq (.block 3 (.seq (.block 2 (.block 1 (.seq (.seq (.seq (.reg 0 [Xcall [] (some 5) f_frame_flags [(Xln 4 (Xv 1))] [(.t 0)],
   ⟨[(6, (Xor (Xnot (Xv 5)) (Xk .lss (Xf 0 (Xv 1)) 0))), (7, (.g (Xor (Xnot (Xv 5)) (Xk .lss (Xf 0 (Xv 1)) 0)) false (Xa 0 (Xv 1)))), (8, (.g (Xor (Xnot (Xv 5)) (Xk .lss (Xf 0 (Xv 1)) 0)) false (Xf 0 (Xv 1))))], [], (some ⟨(some 9), (some ((Xor (Xnot (Xv 5)) (Xk .lss (Xf 0 (Xv 1)) 0)), false)), 0, .call (.c (.fn f_frame_most [] [])) [(.t 0)], [(Xln 4 (Xv 1))], [((.g (Xv 6) false (Xl (Xv 7))), 8)]⟩)⟩,
   Xset [(4, (Xor (Xv 6) (Xb .gtr (Xv 8) (Xv 9))))]] [5, 6, 7, 8, 9])
 (.cond (Xv 4) [4]
  (.exit 1)
  .skip))
 (.seq (.seq (.reg 0 [Xcall [] (some 11) f_frame_long [(Xln 4 (Xv 1))] [(.t 0)],
   Xset [(10, (Xnot (Xv 11)))]] [11])
 (.cond (Xv 10) [10]
  (.exit 2)
  .skip))
 (.seq (.reg 0 [Xcall [] (some 13) f_frame_has [(Xln 4 (Xv 1))] [(.t 0), (.c (.int .i64 2))],
   Xset [(12, (Xv 13))]] [13])
 (.cond (Xv 12) [12]
  (.exit 3)
  .skip))))
 (.exit 0))))
 (.seq (.seq (.reg 0 [Xset [(2, (Xi 4))]] [])
 .ret)
 (.exit 0))))
 (.seq (.reg 0 [Xset [(3, (Xi 0))]] [])
 (.exit 0))))
 (.seq (.seq (.reg 0 [Xset [(14, (Xb .neq (Xls (Xf 3 (Xv 1))) (Xv 3)))]] [1, 3])
 (.cond (Xv 14) [14]
  (.seq (.reg 0 [Xset [(2, (Xi 4))]] [])
  .ret)
  .skip))
 (.seq (.reg 0 [Xset [(2, (Xi 0))]] [])
 .ret)))))
theorem ok_frame_Right : HFn Try.prog f_frame_Right [0, 1, 2, 3, 6, 8, 15, 16, 17, 19, 22, 24, 26, 28, 33] hc_frame_Right [.t 2] := hfn_opt (hs := [[0, 2], [], [0, 1, 2, 3, 4, 5, 6, 7, 8, 9, 10, 11, 12, 13, 14, 15], [0, 1, 3, 7, 15, 31, 63, 127, 255, 511, 1023, 511, 2559, 8191, 16383, 32767], [8, 15, 16, 17, 19], [6], [24], [22], [28], [26], [], [], [1, 3], [33], [], []]) fol Try.func156 (by kernel_rfl)

/-- signalbox/frame.has [0, 1, 2, 4] -/
def hc_frame_has : HC :=
 (.seq (.reg 1 [Xeff [] (some 2) 0 (.box (.t 0)) [(Xv 0)],
   Xset [(3, (Xc (.bool false)))]] [0, 3])
 (.seq (.reg 0 [Xset [(3, (Xk .neq (Xb .and (Xf 1 (Xv 2)) (Xv 1)) 0))]] [1, 2])
 .ret))
theorem ok_frame_has : HFn Try.prog f_frame_has [0, 1, 2, 4] hc_frame_has [.t 3] := hfn_opt (hs := [[0, 4], [1, 2]]) fol Try.func157 (by kernel_rfl)

/-- signalbox/frame.bit [0, 1, 2, 4, 7] -/
def hc_frame_bit : HC :=
 (.seq (.reg 1 [Xeff [] (some 2) 0 (.box (.t 0)) [(Xv 0)],
   Xset [(3, (Xi 0))]] [0, 3])
 (.seq (.seq (.reg 0 [Xcall [] (some 4) f_frame_has [(Xln 4 (Xv 2)), (Xv 1)] [(.t 0), (.t 1)]] [1, 2])
 (.cond (Xv 4) [4]
  (.seq (.reg 0 [Xset [(3, (Xi 1))]] [])
  .ret)
  .skip))
 (.seq (.reg 0 [Xset [(3, (Xi 0))]] [])
 .ret)))
theorem ok_frame_bit : HFn Try.prog f_frame_bit [0, 1, 2, 4, 7] hc_frame_bit [.t 3] := hfn_opt (hs := [[0, 4], [1, 2], [7], [], []]) fol Try.func158 (by kernel_rfl)

/-- signalbox/frame.flags [0, 1, 2, 3, 12, 14, 18, 20, 22, 25] -/
def hc_frame_flags : HC :=
 (.seq (.reg 1 [Xeff [] (some 1) 0 (.box (.t 0)) [(Xv 0)],
   Xset [(2, (Xc (.bool false)))]] [0, 2])
 (.seq (.block 0 (.cond (Xor (Xk .lss (Xf 1 (Xv 1)) 0) (Xk .gtr (Xf 1 (Xv 1)) 63)) [3]
  (.seq (.reg 0 [Xset [(2, (Xc (.bool false)))]] [])
  .ret)
  (.seq (.reg 0 [Xcall [] (some 5) f_frame_has [(Xln 4 (Xv 1))] [(.t 0), (.c (.int .i64 4))],
    Xset [(4, (Xv 5))]] [5])
  (.cond (Xv 4) [4]
   (.seq (.reg 0 [Xset [(2, (Xk .eql (Xf 1 (Xv 1)) 4))]] [1])
   .ret)
   (.seq (.reg 0 [Xcall [] (some 7) f_frame_has [(Xln 4 (Xv 1))] [(.t 0), (.c (.int .i64 8))],
     Xset [(6, (Xv 7))]] [7])
   (.cond (Xv 6) [6]
    (.seq (.reg 0 [Xcall [] (some 8) f_frame_has [(Xln 4 (Xv 1))] [(.t 0), (.c (.int .i64 2))],
      Xset [(2, (Xnot (Xv 8)))]] [1, 8])
    .ret)
    .skip))))))
 (.seq (.reg 0 [Xcall [] (some 9) f_frame_has [(Xln 4 (Xv 1))] [(.t 0), (.c (.int .i64 48))],
   Xset [(2, (Xnot (Xv 9)))]] [1, 9])
 .ret)))
theorem ok_frame_flags : HFn Try.prog f_frame_flags [0, 1, 2, 3, 12, 14, 18, 20, 22, 25] hc_frame_flags [.t 2] := hfn_opt (hs := [[0, 2], [], [3], [], [14], [12], [1], [20], [18], [1, 22], [1, 25]]) fol Try.func167 (by kernel_rfl)

/-- signalbox/frame.most [0, 1, 2, 4] -/
def hc_frame_most : HC :=
 (.seq (.reg 1 [Xeff [] (some 1) 0 (.box (.t 0)) [(Xv 0)],
   Xset [(2, (Xi 0))]] [0, 2])
 (.seq (.seq (.reg 0 [Xcall [] (some 3) f_frame_has [(Xln 4 (Xv 1))] [(.t 0), (.c (.int .i64 5))]] [1])
 (.cond (Xv 3) [3]
  (.seq (.reg 0 [Xset [(2, (Xi 536870911))]] [])
  .ret)
  .skip))
 (.seq (.reg 0 [Xset [(2, (Xi 2047))]] [])
 .ret)))
theorem ok_frame_most : HFn Try.prog f_frame_most [0, 1, 2, 4] hc_frame_most [.t 2] := hfn_opt (hs := [[0, 2], [1], [4], [], []]) fol Try.func168 (by kernel_rfl)

/-- signalbox/frame.long [0, 1, 2, 4, 5, 7, 11, 13, 17] -/
def hc_frame_long : HC :=
 (.seq (.reg 1 [Xeff [] (some 1) 0 (.box (.t 0)) [(Xv 0)],
   Xset [(2, (Xc (.bool false)))]] [0, 2])
 (.seq (.block 0 (.seq (.reg 0 [Xcall [] (some 5) f_frame_has [(Xln 4 (Xv 1))] [(.t 0), (.c (.int .i64 4))],
   Xset [(4, (Xv 5))]] [5])
 (.cond (Xv 4) [4]
  (.seq (.reg 0 [Xset [(2, (Xk .eql (Xf 2 (Xv 1)) 8))]] [1])
  .ret)
  (.seq (.reg 0 [Xcall [] (some 7) f_frame_has [(Xln 4 (Xv 1))] [(.t 0), (.c (.int .i64 8))],
    Xset [(6, (Xv 7))]] [7])
  (.cond (Xv 6) [6]
   (.seq (.reg 0 [Xcall [] (some 8) f_frame_Code [(Xf 2 (Xv 1))] [(.t 0)],
     ⟨[(3, (Xe 1 (Xv 8)))], [(Xe 0 (Xv 8))], none⟩] [1, 8])
   (.seq (.reg 0 [Xset [(2, (Xv 3))]] [3])
   .ret))
   .skip)))))
 (.seq (.reg 0 [Xset [(2, (Xand (Xk .geq (Xf 2 (Xv 1)) 0) (Xk .leq (Xf 2 (Xv 1)) 8)))]] [1])
 .ret)))
theorem ok_frame_long : HFn Try.prog f_frame_long [0, 1, 2, 4, 5, 7, 11, 13, 17] hc_frame_long [.t 2] := hfn_opt (hs := [[0, 2], [7], [5], [1], [13], [11], [1, 17], [4], [1]]) fol Try.func169 (by kernel_rfl)

/-- signalbox/frame.Code [0, 1, 2, 3, 4, 6, 9] -/
def hc_frame_Code : HC :=
 (.seq (.reg 1 [Xeff [] (some 1) 0 (.box (.t 0)) [(Xv 0)],
   Xset [(2, (Xi 0)), (3, (Xc (.bool false)))]] [0, 2, 3])
 (.seq (.reg 0 [Xcall [] (some 6) f_frame_first [(.o (.mkfn f_frame_Code_1 [] [(.t 0)]) [(Xv 1)])] [(.t 0)],
   ⟨[(4, (Xe 0 (Xv 6))), (5, (Xe 2 (Xv 6)))], [(Xe 1 (Xv 6))], none⟩] [1, 6])
 (.seq (.reg 0 [Xset [(2, (Xv 4)), (3, (Xv 5))]] [4, 5])
 .ret)))
theorem ok_frame_Code : HFn Try.prog f_frame_Code [0, 1, 2, 3, 4, 6, 9] hc_frame_Code [.t 2, .t 3] := hfn_opt (hs := [[0, 2, 3], [1, 9], [4, 6]]) fol Try.func172 (by kernel_rfl)

/-- signalbox/frame.first [0, 2, 3, 4, 5, 6, 7, 8, 9, 14] -/
def hc_frame_first_b1 : HC :=
 (.seq (.cond (Xk .lss (Xv 7) 16) [8]
  .skip
  (.exit 0))
 (.seq (.block 1 (.seq (.reg 0 [Xset [(4, (Xv 7)), (5, (.o (.idxa 16 1 none (.t 0) (.t 1)) [(Xv 6), (Xv 7)]))]] [])
 (.seq (.reg 0 [Xeff [] (some 9) 0 (.call (.t 0) [(.t 1)]) [(Xv 0), (Xv 5)]] [])
 (.cond (Xv 9) [9]
  (.seq (.reg 0 [Xset [(1, (Xv 4)), (2, (Xv 5)), (3, (Xc (.bool true)))]] [4, 5])
  .ret)
  .skip))))
 (.reg 0 [Xset [(7, (Xk .add (Xv 7) 1))]] [])))
def hc_frame_first_l1 : HC := .loop [1, 2, 3, 4, 5, 8, 9] hc_frame_first_b1
def hc_frame_first : HC :=
 (.seq (.reg 0 [Xset [(1, (Xi 0)), (2, (Xi 0)), (3, (Xc (.bool false)))]] [1, 2, 3])
 (.seq (.seq (.reg 0 [Xcall [] (some 6) f_frame_sizes [] [],
   Xset [(7, (Xi 0))]] [])
 (.block 0 hc_frame_first_l1))
 (.seq (.reg 0 [Xset [(1, (Xi 0)), (2, (Xi 0)), (3, (Xc (.bool false)))]] [])
 .ret)))
theorem ok_frame_first : HFn Try.prog f_frame_first [0, 2, 3, 4, 5, 6, 7, 8, 9, 14] hc_frame_first [.t 1, .t 2, .t 3] := hfn_opt (hs := [[2, 3, 4], [], [2, 3, 4, 5, 6, 9, 14], [], [9], [], [], [14], [5, 6], [], []]) fol Try.func175 (by kernel_rfl)

/-- signalbox/frame.Code$1 [0, 1, 3] -/
def hc_frame_Code_1 : HC :=
 (.seq (.reg 0 [Xset [(2, (Xc (.bool false)))]] [2])
 (.seq (.reg 0 [Xset [(2, (Xb .eql (Xv 0) (Xl (Xv 1))))]] [0, 1])
 .ret))
theorem ok_frame_Code_1 : HFn Try.prog f_frame_Code_1 [0, 1, 3] hc_frame_Code_1 [.t 2] := hfn_opt (hs := [[3], [0, 1]]) fol Try.func176 (by kernel_rfl)

/-- signalbox/frame.sizes [0] -/
def hc_frame_sizes : HC :=
 (.seq (.reg 1 [Xeff [] (some 0) 0 (.alloc [(.int .i64 0), (.int .i64 0), (.int .i64 0), (.int .i64 0), (.int .i64 0), (.int .i64 0), (.int .i64 0), (.int .i64 0), (.int .i64 0), (.int .i64 0), (.int .i64 0), (.int .i64 0), (.int .i64 0), (.int .i64 0), (.int .i64 0), (.int .i64 0)]) []] [])
 (.seq (.reg 0 [Xeff [] none 0 (.store 16 (.t 0) (.t 1)) [(Xv 0), (.o (.build [(.int .i64 0), (.int .i64 0), (.int .i64 0), (.int .i64 0), (.int .i64 0), (.int .i64 0), (.int .i64 0), (.int .i64 0), (.int .i64 0), (.int .i64 0), (.int .i64 0), (.int .i64 0), (.int .i64 0), (.int .i64 0), (.int .i64 0), (.int .i64 0)] [(0, 1, (.c (.int .i64 0))), (1, 1, (.c (.int .i64 1))), (2, 1, (.c (.int .i64 2))), (3, 1, (.c (.int .i64 3))), (4, 1, (.c (.int .i64 4))), (5, 1, (.c (.int .i64 5))), (6, 1, (.c (.int .i64 6))), (7, 1, (.c (.int .i64 7))), (8, 1, (.c (.int .i64 8))), (9, 1, (.c (.int .i64 12))), (10, 1, (.c (.int .i64 16))), (11, 1, (.c (.int .i64 20))), (12, 1, (.c (.int .i64 24))), (13, 1, (.c (.int .i64 32))), (14, 1, (.c (.int .i64 48))), (15, 1, (.c (.int .i64 64)))]) [])]] [])
 .ret))
theorem ok_frame_sizes : HFn Try.prog f_frame_sizes [0] hc_frame_sizes [.cell 0 (some 16)] := hfn_opt (hs := [[], []]) fol Try.func177 (by kernel_rfl)


def tab0_QIa : TabH := [(f_ref02_Key, [0, 1, 2, 3, 4, 5, 7, 9, 11, 12, 14, 18, 26], hc_ref02_Key, [.t 2]),
  (f_ref02_Right, [0, 1, 2, 3, 4, 5, 6, 24, 26, 27, 28, 29, 30, 31, 32, 49, 51, 52, 54, 60, 71, 89, 91, 94, 105, 106], hc_ref02_Right, [.t 2]),
  (f_ref02_Has, [0, 1, 2, 4, 7], hc_ref02_Has, [.t 3]),
  (f_ref02_KeyBits, [0, 1, 2, 3, 4, 6, 7, 11, 12, 13, 14, 15, 16, 20, 21, 22, 24, 25, 26, 27, 30, 31, 32, 34, 35, 36, 38, 41, 42, 43, 44, 46, 47, 48], hc_ref02_KeyBits, [.t 2]),
  (f_ref02_Code, [0, 2, 3, 4, 5, 9, 17], hc_ref02_Code, [.t 1]),
  (f_ref02_Bits, [0, 1, 4, 5, 6, 7, 8, 11, 20, 25, 29, 30], hc_ref02_Bits, [.t 2]),
  (f_frame_Key, [0, 1, 2, 3, 5, 7, 9, 10, 12, 25, 27, 29, 30, 31, 33, 39, 41], hc_frame_Key, [.t 2]),
  (f_ref02_Sizes, [0, 1], hc_ref02_Sizes, [.t 0]),
  (f_frame_Right, [0, 1, 2, 3, 6, 8, 15, 16, 17, 19, 22, 24, 26, 28, 33], hc_frame_Right, [.t 2]),
  (f_frame_has, [0, 1, 2, 4], hc_frame_has, [.t 3]),
  (f_frame_bit, [0, 1, 2, 4, 7], hc_frame_bit, [.t 3]),
  (f_frame_flags, [0, 1, 2, 3, 12, 14, 18, 20, 22, 25], hc_frame_flags, [.t 2]),
  (f_frame_most, [0, 1, 2, 4], hc_frame_most, [.t 2]),
  (f_frame_long, [0, 1, 2, 4, 5, 7, 11, 13, 17], hc_frame_long, [.t 2]),
  (f_frame_Code, [0, 1, 2, 3, 4, 6, 9], hc_frame_Code, [.t 2, .t 3]),
  (f_frame_first, [0, 2, 3, 4, 5, 6, 7, 8, 9, 14], hc_frame_first, [.t 1, .t 2, .t 3]),
  (f_frame_Code_1, [0, 1, 3], hc_frame_Code_1, [.t 2]),
  (f_frame_sizes, [0], hc_frame_sizes, [.cell 0 (some 16)])]
def tab_QIa : TabH := tab0_QIa
theorem tabOk0_QIa : TabH.OK Try.prog tab0_QIa := TabH.ok_cons ok_ref02_Key (TabH.ok_cons ok_ref02_Right (TabH.ok_cons ok_ref02_Has (TabH.ok_cons ok_ref02_KeyBits (TabH.ok_cons ok_ref02_Code (TabH.ok_cons ok_ref02_Bits (TabH.ok_cons ok_frame_Key (TabH.ok_cons ok_ref02_Sizes (TabH.ok_cons ok_frame_Right (TabH.ok_cons ok_frame_has (TabH.ok_cons ok_frame_bit (TabH.ok_cons ok_frame_flags (TabH.ok_cons ok_frame_most (TabH.ok_cons ok_frame_long (TabH.ok_cons ok_frame_Code (TabH.ok_cons ok_frame_first (TabH.ok_cons ok_frame_Code_1 (TabH.ok_cons ok_frame_sizes (TabH.ok_nil))))))))))))))))))
theorem tabOk_QIa : TabH.OK Try.prog tab_QIa := tabOk0_QIa
end Go.Proofs.Ytapoilcpollmpaa
end
