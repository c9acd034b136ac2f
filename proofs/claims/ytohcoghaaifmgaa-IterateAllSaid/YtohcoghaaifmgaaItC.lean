/- PRINTED by cir3.py: the compiled functions, and the table. No conditions. -/
import Derived.Test.YtohcoghaaifmgaaChecked
import Derived.Test.YtohcoghaaifmgaaEwO
set_option maxHeartbeats 16000000
set_option maxRecDepth 100000
set_option linter.unusedVariables false
set_option linter.unusedSimpArgs false
set_option linter.unusedSectionVars false
namespace Go.Proofs.It
open Go Go.Ev
def zZF.r0 : List Cp := [⟨some 4, .box (.t 0), none⟩, ⟨some 6, .box (.t 2), none⟩, ⟨some 7, .box (.t 3), none⟩, ⟨some 8, .mov (.c (.bool false)), none⟩]
def zZF.r1 : List Cp := [⟨some 14, .load (some 1) (.t 4), none⟩, ⟨some 15, .mov (.t 1), none⟩, ⟨some 16, .load (some 2) (.t 6), none⟩, ⟨some 17, .call (.c (.fn (.func 8) [] [])) [(.t 14), (.t 15), (.t 16)], none⟩, ⟨some 13, .mov (.t 17), none⟩, ⟨some 18, .ext (.t 13) 0, none⟩, ⟨some 19, .ext (.t 13) 1, none⟩, ⟨some 9, .alloc [.int .i64 0, .int .i64 0, .bool false, .int .u32 0, .nils], none⟩, ⟨none, .store 5 (.t 9) (.t 18), none⟩, ⟨some 10, .mov (.t 19), none⟩]
def zZF.r2 : List Cp := [⟨some 21, .load (some 1) (.t 4), none⟩, ⟨some 22, .mov (.t 1), none⟩, ⟨some 23, .load (some 2) (.t 6), none⟩, ⟨some 24, .call (.c (.fn (.func 9) [] [])) [(.t 21), (.t 22), (.t 23)], none⟩, ⟨some 20, .mov (.t 24), none⟩, ⟨some 25, .ext (.t 20) 0, none⟩, ⟨some 26, .ext (.t 20) 1, none⟩, ⟨some 11, .alloc [.int .i64 0, .int .i64 0, .bool false, .int .u32 0, .nils], none⟩, ⟨none, .store 5 (.t 11) (.t 25), none⟩, ⟨some 12, .mov (.t 26), none⟩]
def zZF.r3 : List Cp := [⟨some 27, .load (some 5) (.t 9), none⟩, ⟨some 28, .load (some 5) (.t 11), none⟩, ⟨some 29, .call (.c (.fn (.func 10) [] [])) [(.t 27), (.t 28)], none⟩, ⟨some 30, .mov (.t 29), none⟩, ⟨some 31, .mov (.t 10), (some (30, true))⟩, ⟨some 32, .mov (.t 12), (some (30, true))⟩, ⟨some 33, .bin .eql (.t 31) (.t 32), (some (30, true))⟩, ⟨some 34, .pick (.t 30) (.t 33) (.c (.bool false)), none⟩, ⟨some 35, .mov (.t 34), none⟩, ⟨some 36, .load (some 1) (.t 4), (some (35, true))⟩, ⟨some 37, .load (some 5) (.t 7), (some (35, true))⟩, ⟨some 38, .call (.c (.fn (.func 11) [] [])) [(.t 36), (.t 37)], (some (35, true))⟩, ⟨some 39, .load (some 1) (.t 4), (some (35, true))⟩, ⟨some 40, .load (some 5) (.t 7), (some (35, true))⟩, ⟨some 41, .call (.c (.fn (.func 12) [] [])) [(.t 39), (.t 40)], (some (35, true))⟩, ⟨some 42, .bin .eql (.t 38) (.t 41), (some (35, true))⟩, ⟨some 43, .pick (.t 35) (.t 42) (.c (.bool false)), none⟩, ⟨some 44, .mov (.t 43), none⟩, ⟨some 45, .call (.c (.fn (.func 13) [] [])) [], (some (44, true))⟩, ⟨some 46, .pick (.t 44) (.t 45) (.c (.bool false)), none⟩, ⟨some 8, .mov (.t 46), none⟩]
def zZF.c : Cf := ⟨47, [.tmp 8], (.seq (.region zZF.r0) (.seq (.region zZF.r1) (.seq (.region zZF.r2) (.seq (.draw zZF.r3 [[], [], [0, 1], [2, 2], [3], [3], [4, 5, 3], [3, 6], [7, 3], [8], [8], [9, 10, 8, 8], [8], [8], [12, 13, 11, 8], [11, 14, 8], [8, 15], [16, 14], [17, 17], [17, 18], [19, 18, 0, 1, 2, 3, 4, 5, 6, 7, 8, 9, 10, 11, 12, 13, 14, 15, 16, 17, 18, 19]] [3, 4, 5, 6, 7, 8, 15, 16, 17, 19, 20]) .ret)))), true⟩
abbrev zZF : V := .fn (.func 3) [] []
abbrev zZF.k : Nat := 3
def zZK.r0 : List Cp := [⟨some 3, .box (.t 0), none⟩, ⟨some 4, .box (.t 1), none⟩, ⟨some 6, .mov (.c (.bool false)), none⟩]
def zZK.r1 : List Cp := [⟨some 12, .load (some 1) (.t 3), none⟩, ⟨some 13, .load (some 5) (.t 4), none⟩, ⟨some 14, .mov (.t 2), none⟩, ⟨some 15, .call (.c (.fn (.func 14) [] [])) [(.t 12), (.t 13), (.t 14)], none⟩, ⟨some 11, .mov (.t 15), none⟩, ⟨some 16, .ext (.t 11) 0, none⟩, ⟨some 17, .ext (.t 11) 1, none⟩, ⟨some 7, .alloc [.int .i64 0, .int .i64 0, .bool false, .int .u32 0, .nils], none⟩, ⟨none, .store 5 (.t 7) (.t 16), none⟩, ⟨some 8, .mov (.t 17), none⟩]
def zZK.r2 : List Cp := [⟨some 19, .load (some 1) (.t 3), none⟩, ⟨some 20, .load (some 5) (.t 4), none⟩, ⟨some 21, .mov (.t 2), none⟩, ⟨some 22, .call (.c (.fn (.func 15) [] [])) [(.t 19), (.t 20), (.t 21)], none⟩, ⟨some 18, .mov (.t 22), none⟩, ⟨some 23, .ext (.t 18) 0, none⟩, ⟨some 24, .ext (.t 18) 1, none⟩, ⟨some 9, .alloc [.int .i64 0, .int .i64 0, .bool false, .int .u32 0, .nils], none⟩, ⟨none, .store 5 (.t 9) (.t 23), none⟩, ⟨some 10, .mov (.t 24), none⟩]
def zZK.r3 : List Cp := [⟨some 25, .load (some 5) (.t 7), none⟩, ⟨some 26, .load (some 5) (.t 9), none⟩, ⟨some 27, .call (.c (.fn (.func 10) [] [])) [(.t 25), (.t 26)], none⟩, ⟨some 28, .mov (.t 27), none⟩, ⟨some 29, .mov (.t 8), (some (28, true))⟩, ⟨some 30, .mov (.t 10), (some (28, true))⟩, ⟨some 31, .bin .eql (.t 29) (.t 30), (some (28, true))⟩, ⟨some 32, .pick (.t 28) (.t 31) (.c (.bool false)), none⟩, ⟨some 33, .mov (.t 32), none⟩, ⟨some 34, .call (.c (.fn (.func 13) [] [])) [], (some (33, true))⟩, ⟨some 35, .pick (.t 33) (.t 34) (.c (.bool false)), none⟩, ⟨some 6, .mov (.t 35), none⟩]
def zZK.c : Cf := ⟨36, [.tmp 6], (.seq (.region zZK.r0) (.seq (.region zZK.r1) (.seq (.region zZK.r2) (.seq (.region zZK.r3) .ret)))), true⟩
abbrev zZK : V := .fn (.func 4) [] []
abbrev zZK.k : Nat := 4
def zZG.r0 : List Cp := [⟨some 2, .box (.t 0), none⟩, ⟨some 3, .box (.t 1), none⟩, ⟨some 4, .mov (.c (.bool false)), none⟩]
def zZG.r1 : List Cp := [⟨some 18, .load (some 1) (.t 2), none⟩, ⟨some 19, .load (some 5) (.t 3), none⟩, ⟨some 20, .call (.c (.fn (.func 16) [] [])) [(.t 18), (.t 19)], none⟩, ⟨some 17, .mov (.t 20), none⟩, ⟨some 21, .ext (.t 17) 0, none⟩, ⟨some 22, .ext (.t 17) 1, none⟩, ⟨some 23, .ext (.t 17) 2, none⟩, ⟨some 5, .alloc [.int .i64 0, .int .i64 0, .bool false, .int .u32 0, .nils], none⟩, ⟨none, .store 5 (.t 5) (.t 21), none⟩, ⟨some 6, .mov (.t 22), none⟩, ⟨some 7, .mov (.t 23), none⟩]
def zZG.r2 : List Cp := [⟨some 25, .load (some 1) (.t 2), none⟩, ⟨some 26, .load (some 5) (.t 3), none⟩, ⟨some 27, .call (.c (.fn (.func 17) [] [])) [(.t 25), (.t 26)], none⟩, ⟨some 24, .mov (.t 27), none⟩, ⟨some 28, .ext (.t 24) 0, none⟩, ⟨some 29, .ext (.t 24) 1, none⟩, ⟨some 30, .ext (.t 24) 2, none⟩, ⟨some 8, .alloc [.int .i64 0, .int .i64 0, .bool false, .int .u32 0, .nils], none⟩, ⟨none, .store 5 (.t 8) (.t 28), none⟩, ⟨some 9, .mov (.t 29), none⟩, ⟨some 10, .mov (.t 30), none⟩]
def zZG.r3 : List Cp := [⟨some 32, .load (some 1) (.t 2), none⟩, ⟨some 33, .load (some 5) (.t 3), none⟩, ⟨some 34, .call (.c (.fn (.func 18) [] [])) [(.t 32), (.t 33)], none⟩, ⟨some 31, .mov (.t 34), none⟩, ⟨some 35, .ext (.t 31) 0, none⟩, ⟨some 36, .ext (.t 31) 1, none⟩, ⟨some 37, .ext (.t 31) 2, none⟩, ⟨some 11, .alloc [.int .i64 0, .int .i64 0, .bool false, .int .u32 0, .nils], none⟩, ⟨none, .store 5 (.t 11) (.t 35), none⟩, ⟨some 12, .mov (.t 36), none⟩, ⟨some 13, .mov (.t 37), none⟩]
def zZG.r4 : List Cp := [⟨some 39, .load (some 1) (.t 2), none⟩, ⟨some 40, .load (some 5) (.t 3), none⟩, ⟨some 41, .call (.c (.fn (.func 19) [] [])) [(.t 39), (.t 40)], none⟩, ⟨some 38, .mov (.t 41), none⟩, ⟨some 42, .ext (.t 38) 0, none⟩, ⟨some 43, .ext (.t 38) 1, none⟩, ⟨some 44, .ext (.t 38) 2, none⟩, ⟨some 14, .alloc [.int .i64 0, .int .i64 0, .bool false, .int .u32 0, .nils], none⟩, ⟨none, .store 5 (.t 14) (.t 42), none⟩, ⟨some 15, .mov (.t 43), none⟩, ⟨some 16, .mov (.t 44), none⟩]
def zZG.r5 : List Cp := [⟨some 45, .load (some 5) (.t 5), none⟩, ⟨some 46, .load (some 5) (.t 8), none⟩, ⟨some 47, .call (.c (.fn (.func 10) [] [])) [(.t 45), (.t 46)], none⟩, ⟨some 48, .mov (.t 47), none⟩, ⟨some 49, .mov (.t 6), (some (48, true))⟩, ⟨some 50, .mov (.t 9), (some (48, true))⟩, ⟨some 51, .bin .eql (.t 49) (.t 50), (some (48, true))⟩, ⟨some 52, .pick (.t 48) (.t 51) (.c (.bool false)), none⟩, ⟨some 53, .mov (.t 52), none⟩, ⟨some 54, .mov (.t 7), (some (53, true))⟩, ⟨some 55, .mov (.t 10), (some (53, true))⟩, ⟨some 56, .bin .eql (.t 54) (.t 55), (some (53, true))⟩, ⟨some 57, .pick (.t 53) (.t 56) (.c (.bool false)), none⟩, ⟨some 58, .mov (.t 57), none⟩, ⟨some 59, .load (some 5) (.t 11), (some (58, true))⟩, ⟨some 60, .load (some 5) (.t 14), (some (58, true))⟩, ⟨some 61, .call (.c (.fn (.func 10) [] [])) [(.t 59), (.t 60)], (some (58, true))⟩, ⟨some 62, .pick (.t 58) (.t 61) (.c (.bool false)), none⟩, ⟨some 63, .mov (.t 62), none⟩, ⟨some 64, .mov (.t 12), (some (63, true))⟩, ⟨some 65, .mov (.t 15), (some (63, true))⟩, ⟨some 66, .bin .eql (.t 64) (.t 65), (some (63, true))⟩, ⟨some 67, .pick (.t 63) (.t 66) (.c (.bool false)), none⟩, ⟨some 68, .mov (.t 67), none⟩, ⟨some 69, .mov (.t 13), (some (68, true))⟩, ⟨some 70, .mov (.t 16), (some (68, true))⟩, ⟨some 71, .bin .eql (.t 69) (.t 70), (some (68, true))⟩, ⟨some 72, .pick (.t 68) (.t 71) (.c (.bool false)), none⟩, ⟨some 73, .mov (.t 72), none⟩, ⟨some 74, .call (.c (.fn (.func 13) [] [])) [], (some (73, true))⟩, ⟨some 75, .pick (.t 73) (.t 74) (.c (.bool false)), none⟩, ⟨some 4, .mov (.t 75), none⟩]
def zZG.c : Cf := ⟨76, [.tmp 4], (.seq (.region zZG.r0) (.seq (.region zZG.r1) (.seq (.region zZG.r2) (.seq (.region zZG.r3) (.seq (.region zZG.r4) (.seq (.region zZG.r5) .ret)))))), true⟩
abbrev zZG : V := .fn (.func 5) [] []
abbrev zZG.k : Nat := 5
def zZw.r0 : List Cp := [⟨some 2, .box (.t 0), none⟩, ⟨some 3, .box (.t 1), none⟩, ⟨some 4, .mov (.c (.bool false)), none⟩]
def zZw.r1 : List Cp := [⟨some 17, .call (.c (.fn (.func 13) [] [])) [], none⟩, ⟨some 18, .un .not (.t 17), none⟩]
def zZw.r2 : List Cp := [⟨some 4, .mov (.c (.bool false)), none⟩]
def zZw.r3 : List Cp := [⟨some 20, .load (some 1) (.t 2), none⟩, ⟨some 21, .load (some 5) (.t 3), none⟩, ⟨some 22, .call (.c (.fn (.func 16) [] [])) [(.t 20), (.t 21)], none⟩, ⟨some 19, .mov (.t 22), none⟩, ⟨some 23, .ext (.t 19) 0, none⟩, ⟨some 24, .ext (.t 19) 1, none⟩, ⟨some 25, .ext (.t 19) 2, none⟩, ⟨some 5, .alloc [.int .i64 0, .int .i64 0, .bool false, .int .u32 0, .nils], none⟩, ⟨none, .store 5 (.t 5) (.t 23), none⟩, ⟨some 6, .mov (.t 24), none⟩, ⟨some 7, .mov (.t 25), none⟩]
def zZw.r4 : List Cp := [⟨some 26, .mov (.t 7), none⟩, ⟨some 27, .bin .neq (.t 26) (.c (.int .i64 0)), none⟩]
def zZw.r5 : List Cp := [⟨some 28, .mov (.t 6), none⟩, ⟨some 29, .bin .eql (.t 28) (.c (.int .i64 0)), none⟩, ⟨some 30, .mov (.t 29), none⟩, ⟨some 31, .load (some 1) (.t 2), (some (30, true))⟩, ⟨some 32, .load (some 5) (.t 3), (some (30, true))⟩, ⟨some 33, .call (.c (.fn (.func 11) [] [])) [(.t 31), (.t 32)], (some (30, true))⟩, ⟨some 34, .mov (.t 7), (some (30, true))⟩, ⟨some 35, .bin .eql (.t 33) (.t 34), (some (30, true))⟩, ⟨some 36, .pick (.t 30) (.t 35) (.c (.bool false)), none⟩, ⟨some 4, .mov (.t 36), none⟩]
def zZw.r6 : List Cp := [⟨some 38, .load (some 1) (.t 2), none⟩, ⟨some 39, .load (some 5) (.t 3), none⟩, ⟨some 40, .call (.c (.fn (.func 18) [] [])) [(.t 38), (.t 39)], none⟩, ⟨some 37, .mov (.t 40), none⟩, ⟨some 41, .ext (.t 37) 0, none⟩, ⟨some 42, .ext (.t 37) 1, none⟩, ⟨some 43, .ext (.t 37) 2, none⟩, ⟨some 8, .alloc [.int .i64 0, .int .i64 0, .bool false, .int .u32 0, .nils], none⟩, ⟨none, .store 5 (.t 8) (.t 41), none⟩, ⟨some 9, .mov (.t 42), none⟩, ⟨some 10, .mov (.t 43), none⟩]
def zZw.r7 : List Cp := [⟨some 44, .mov (.t 10), none⟩, ⟨some 45, .bin .neq (.t 44) (.c (.int .i64 0)), none⟩]
def zZw.r8 : List Cp := [⟨some 4, .mov (.c (.bool false)), none⟩]
def zZw.r9 : List Cp := [⟨some 46, .mov (.t 6), none⟩, ⟨some 47, .bin .neq (.t 46) (.c (.int .i64 0)), none⟩]
def zZw.r10 : List Cp := [⟨some 49, .load (some 1) (.t 2), none⟩, ⟨some 50, .load (some 5) (.t 5), none⟩, ⟨some 51, .call (.c (.fn (.func 18) [] [])) [(.t 49), (.t 50)], none⟩, ⟨some 48, .mov (.t 51), none⟩, ⟨some 52, .ext (.t 48) 0, none⟩, ⟨some 53, .ext (.t 48) 1, none⟩, ⟨some 54, .ext (.t 48) 2, none⟩, ⟨some 11, .alloc [.int .i64 0, .int .i64 0, .bool false, .int .u32 0, .nils], none⟩, ⟨none, .store 5 (.t 11) (.t 52), none⟩, ⟨some 12, .mov (.t 53), none⟩, ⟨some 13, .mov (.t 54), none⟩]
def zZw.r11 : List Cp := [⟨some 55, .mov (.t 13), none⟩, ⟨some 56, .bin .neq (.t 55) (.c (.int .i64 0)), none⟩, ⟨some 57, .mov (.t 56), none⟩, ⟨some 58, .mov (.t 12), (some (57, false))⟩, ⟨some 59, .mov (.t 6), (some (57, false))⟩, ⟨some 60, .bin .neq (.t 58) (.t 59), (some (57, false))⟩, ⟨some 61, .pick (.t 57) (.c (.bool true)) (.t 60), none⟩, ⟨some 62, .mov (.t 61), none⟩, ⟨some 63, .faddr 2 (.t 5), (some (62, false))⟩, ⟨some 64, .load none (.t 63), (some (62, false))⟩, ⟨some 65, .pick (.t 62) (.c (.bool true)) (.t 64), none⟩, ⟨some 66, .mov (.t 65), none⟩, ⟨some 67, .faddr 1 (.t 5), (some (66, false))⟩, ⟨some 68, .load none (.t 67), (some (66, false))⟩, ⟨some 69, .mov (.t 6), (some (66, false))⟩, ⟨some 70, .bin .neq (.t 68) (.t 69), (some (66, false))⟩, ⟨some 71, .pick (.t 66) (.c (.bool true)) (.t 70), none⟩]
def zZw.r12 : List Cp := [⟨some 4, .mov (.c (.bool false)), none⟩]
def zZw.r13 : List Cp := [⟨some 72, .mov (.t 9), none⟩, ⟨some 73, .bin .neq (.t 72) (.c (.int .i64 0)), none⟩]
def zZw.r14 : List Cp := [⟨some 75, .load (some 1) (.t 2), none⟩, ⟨some 76, .load (some 5) (.t 8), none⟩, ⟨some 77, .call (.c (.fn (.func 16) [] [])) [(.t 75), (.t 76)], none⟩, ⟨some 74, .mov (.t 77), none⟩, ⟨some 78, .ext (.t 74) 0, none⟩, ⟨some 79, .ext (.t 74) 1, none⟩, ⟨some 80, .ext (.t 74) 2, none⟩, ⟨some 14, .alloc [.int .i64 0, .int .i64 0, .bool false, .int .u32 0, .nils], none⟩, ⟨none, .store 5 (.t 14) (.t 78), none⟩, ⟨some 15, .mov (.t 79), none⟩, ⟨some 16, .mov (.t 80), none⟩]
def zZw.r15 : List Cp := [⟨some 81, .mov (.t 16), none⟩, ⟨some 82, .bin .neq (.t 81) (.c (.int .i64 0)), none⟩, ⟨some 83, .mov (.t 82), none⟩, ⟨some 84, .mov (.t 15), (some (83, false))⟩, ⟨some 85, .mov (.t 9), (some (83, false))⟩, ⟨some 86, .bin .neq (.t 84) (.t 85), (some (83, false))⟩, ⟨some 87, .pick (.t 83) (.c (.bool true)) (.t 86), none⟩, ⟨some 88, .mov (.t 87), none⟩, ⟨some 89, .faddr 2 (.t 8), (some (88, false))⟩, ⟨some 90, .load none (.t 89), (some (88, false))⟩, ⟨some 91, .un .not (.t 90), (some (88, false))⟩, ⟨some 92, .pick (.t 88) (.c (.bool true)) (.t 91), none⟩, ⟨some 93, .mov (.t 92), none⟩, ⟨some 94, .faddr 1 (.t 8), (some (93, false))⟩, ⟨some 95, .load none (.t 94), (some (93, false))⟩, ⟨some 96, .mov (.t 9), (some (93, false))⟩, ⟨some 97, .bin .neq (.t 95) (.t 96), (some (93, false))⟩, ⟨some 98, .pick (.t 93) (.c (.bool true)) (.t 97), none⟩]
def zZw.r16 : List Cp := [⟨some 4, .mov (.c (.bool false)), none⟩]
def zZw.r17 : List Cp := [⟨some 4, .mov (.c (.bool true)), none⟩]
def zZw.c : Cf := ⟨99, [.tmp 4], (.seq (.region zZw.r0) (.seq (.seq (.region zZw.r1) (.cond (.t 18) (.seq (.region zZw.r2) .ret) .skip)) (.seq (.region zZw.r3) (.seq (.seq (.region zZw.r4) (.cond (.t 27) (.seq (.region zZw.r5) .ret) .skip)) (.seq (.region zZw.r6) (.seq (.seq (.region zZw.r7) (.cond (.t 45) (.seq (.region zZw.r8) .ret) .skip)) (.seq (.seq (.region zZw.r9) (.cond (.t 47) (.seq (.region zZw.r10) (.seq (.region zZw.r11) (.cond (.t 71) (.seq (.region zZw.r12) .ret) .skip))) .skip)) (.seq (.seq (.region zZw.r13) (.cond (.t 73) (.seq (.region zZw.r14) (.seq (.region zZw.r15) (.cond (.t 98) (.seq (.region zZw.r16) .ret) .skip))) .skip)) (.seq (.region zZw.r17) .ret))))))))), true⟩
abbrev zZw : V := .fn (.func 6) [] []
abbrev zZw.k : Nat := 6
def zZj.r0 : List Cp := [⟨some 3, .box (.t 0), none⟩, ⟨some 5, .box (.t 2), none⟩, ⟨some 6, .mov (.c (.bool false)), none⟩]
def zZj.r1 : List Cp := [⟨some 24, .call (.c (.fn (.func 13) [] [])) [], none⟩, ⟨some 25, .un .not (.t 24), none⟩]
def zZj.r2 : List Cp := [⟨some 6, .mov (.c (.bool false)), none⟩]
def zZj.r3 : List Cp := [⟨some 27, .load (some 1) (.t 3), none⟩, ⟨some 28, .mov (.t 1), none⟩, ⟨some 29, .load (some 2) (.t 5), none⟩, ⟨some 30, .call (.c (.fn (.func 8) [] [])) [(.t 27), (.t 28), (.t 29)], none⟩, ⟨some 26, .mov (.t 30), none⟩, ⟨some 31, .ext (.t 26) 0, none⟩, ⟨some 32, .ext (.t 26) 1, none⟩, ⟨some 7, .alloc [.int .i64 0, .int .i64 0, .bool false, .int .u32 0, .nils], none⟩, ⟨none, .store 5 (.t 7) (.t 31), none⟩, ⟨some 8, .mov (.t 32), none⟩]
def zZj.r4 : List Cp := [⟨some 33, .mov (.t 8), none⟩, ⟨some 34, .bin .neq (.t 33) (.c (.int .i64 0)), none⟩]
def zZj.r5 : List Cp := [⟨some 35, .faddr 0 (.t 7), none⟩, ⟨some 36, .load none (.t 35), none⟩, ⟨some 37, .bin .eql (.t 36) (.c (.int .i64 0)), none⟩, ⟨some 38, .mov (.t 37), none⟩, ⟨some 39, .faddr 1 (.t 7), (some (38, true))⟩, ⟨some 40, .load none (.t 39), (some (38, true))⟩, ⟨some 41, .bin .eql (.t 40) (.c (.int .i64 0)), (some (38, true))⟩, ⟨some 42, .pick (.t 38) (.t 41) (.c (.bool false)), none⟩, ⟨some 6, .mov (.t 42), none⟩]
def zZj.r6 : List Cp := [⟨some 44, .load (some 1) (.t 3), none⟩, ⟨some 45, .mov (.t 1), none⟩, ⟨some 46, .call (.c (.fn (.func 20) [] [])) [(.t 44), (.t 45)], none⟩, ⟨some 43, .mov (.t 46), none⟩, ⟨some 47, .ext (.t 43) 0, none⟩, ⟨some 48, .ext (.t 43) 1, none⟩, ⟨some 9, .mov (.t 47), none⟩, ⟨some 10, .mov (.t 48), none⟩]
def zZj.r7 : List Cp := [⟨some 49, .mov (.t 10), none⟩, ⟨some 50, .bin .neq (.t 49) (.c (.int .i64 0)), none⟩]
def zZj.r8 : List Cp := [⟨some 6, .mov (.c (.bool false)), none⟩]
def zZj.r9 : List Cp := [⟨some 11, .mov (.c (.nils)), none⟩]
def zZj.r10 : List Cp := [⟨some 12, .mov (.c (.int .i64 0)), none⟩]
def zZj.r11 : List Cp := [⟨some 51, .mov (.t 12), none⟩, ⟨some 52, .mov (.t 9), none⟩, ⟨some 53, .len .l (.t 52), none⟩, ⟨some 54, .bin .lss (.t 51) (.t 53), none⟩]
def zZj.r12 : List Cp := [⟨some 58, .load (some 1) (.t 3), none⟩, ⟨some 59, .load (some 2) (.t 5), none⟩, ⟨some 60, .mov (.t 9), none⟩, ⟨some 61, .mov (.t 12), none⟩, ⟨some 62, .iaddr 1 (.t 60) (.t 61), none⟩, ⟨some 63, .load none (.t 62), none⟩, ⟨some 64, .call (.c (.fn (.func 21) [] [])) [(.t 58), (.t 59), (.t 63)], none⟩, ⟨some 57, .mov (.t 64), none⟩, ⟨some 65, .ext (.t 57) 0, none⟩, ⟨some 66, .ext (.t 57) 1, none⟩, ⟨some 13, .mov (.t 65), none⟩, ⟨some 14, .mov (.t 66), none⟩]
def zZj.r13 : List Cp := [⟨some 67, .mov (.t 14), none⟩, ⟨some 68, .bin .neq (.t 67) (.c (.int .i64 0)), none⟩]
def zZj.r14 : List Cp := [⟨some 6, .mov (.c (.bool false)), none⟩]
def zZj.r15 : List Cp := [⟨some 69, .mov (.t 13), none⟩, ⟨some 70, .bin .neq (.t 69) (.c (.int .u8 1)), none⟩]
def zZj.r16 : List Cp := [⟨some 72, .load (some 1) (.t 3), none⟩, ⟨some 73, .load (some 5) (.t 7), none⟩, ⟨some 74, .call (.c (.fn (.func 16) [] [])) [(.t 72), (.t 73)], none⟩, ⟨some 71, .mov (.t 74), none⟩, ⟨some 75, .ext (.t 71) 0, none⟩, ⟨some 76, .ext (.t 71) 1, none⟩, ⟨some 77, .ext (.t 71) 2, none⟩, ⟨some 15, .alloc [.int .i64 0, .int .i64 0, .bool false, .int .u32 0, .nils], none⟩, ⟨none, .store 5 (.t 15) (.t 75), none⟩, ⟨some 16, .mov (.t 76), none⟩, ⟨some 14, .mov (.t 77), none⟩]
def zZj.r17 : List Cp := [⟨some 78, .mov (.t 14), none⟩, ⟨some 79, .bin .neq (.t 78) (.c (.int .i64 0)), none⟩, ⟨some 80, .mov (.t 79), none⟩, ⟨some 81, .mov (.t 16), (some (80, false))⟩, ⟨some 82, .mov (.t 9), (some (80, false))⟩, ⟨some 83, .mov (.t 12), (some (80, false))⟩, ⟨some 84, .iaddr 1 (.t 82) (.t 83), (some (80, false))⟩, ⟨some 85, .load none (.t 84), (some (80, false))⟩, ⟨some 86, .bin .neq (.t 81) (.t 85), (some (80, false))⟩, ⟨some 87, .pick (.t 80) (.c (.bool true)) (.t 86), none⟩]
def zZj.r18 : List Cp := [⟨some 6, .mov (.c (.bool false)), none⟩]
def zZj.r19 : List Cp := [⟨some 88, .load (some 5) (.t 15), none⟩, ⟨none, .store 5 (.t 7) (.t 88), none⟩]
def zZj.r20 : List Cp := [⟨some 89, .mov (.t 11), none⟩, ⟨some 90, .mov (.t 16), none⟩, ⟨some 91, .bslice [.int .i64 0] 1 1 [(0, (.t 90))], none⟩, ⟨some 92, .app 1 8 (.t 89) (.t 91), none⟩, ⟨some 11, .mov (.t 92), none⟩]
def zZj.r21 : List Cp := [⟨some 55, .mov (.t 12), none⟩, ⟨some 56, .bin .add (.t 55) (.c (.int .i64 1)), none⟩, ⟨some 12, .mov (.t 56), none⟩]
def zZj.b22 : Cc := (.seq (.seq (.region zZj.r11) (.cond (.t 54) .skip (.exit 0))) (.seq (.block 1 (.seq (.draw zZj.r12 [[], [], [], [], [2, 3], [4], [0, 1, 5], [6], [7], [7], [8, 6, 0, 1, 2, 3, 4, 5, 6, 7, 8], [9, 10, 0, 1, 2, 3, 4, 5, 6, 7, 8, 9, 10]] [2, 3, 4, 7, 8, 9, 10, 11]) (.seq (.seq (.region zZj.r13) (.cond (.t 68) (.seq (.region zZj.r14) .ret) .skip)) (.seq (.seq (.region zZj.r15) (.cond (.t 70) (.exit 1) .skip)) (.seq (.region zZj.r16) (.seq (.seq (.region zZj.r17) (.cond (.t 87) (.seq (.region zZj.r18) .ret) .skip)) (.seq (.region zZj.r19) (.region zZj.r20)))))))) (.region zZj.r21)))
def zZj.r23 : List Cp := [⟨some 94, .load (some 1) (.t 3), none⟩, ⟨some 95, .load (some 5) (.t 7), none⟩, ⟨some 96, .call (.c (.fn (.func 16) [] [])) [(.t 94), (.t 95)], none⟩, ⟨some 93, .mov (.t 96), none⟩, ⟨some 97, .ext (.t 93) 0, none⟩, ⟨some 98, .ext (.t 93) 1, none⟩, ⟨some 99, .ext (.t 93) 2, none⟩, ⟨some 17, .alloc [.int .i64 0, .int .i64 0, .bool false, .int .u32 0, .nils], none⟩, ⟨none, .store 5 (.t 17) (.t 97), none⟩, ⟨some 18, .mov (.t 98), none⟩, ⟨some 19, .mov (.t 99), none⟩]
def zZj.r24 : List Cp := [⟨some 100, .mov (.t 19), none⟩, ⟨some 101, .bin .neq (.t 100) (.c (.int .i64 0)), none⟩, ⟨some 102, .mov (.t 101), none⟩, ⟨some 103, .mov (.t 18), (some (102, false))⟩, ⟨some 104, .bin .neq (.t 103) (.c (.int .i64 0)), (some (102, false))⟩, ⟨some 105, .pick (.t 102) (.c (.bool true)) (.t 104), none⟩, ⟨some 106, .mov (.t 105), none⟩, ⟨some 107, .load (some 5) (.t 17), (some (106, false))⟩, ⟨some 108, .load (some 5) (.t 7), (some (106, false))⟩, ⟨some 109, .call (.c (.fn (.func 10) [] [])) [(.t 107), (.t 108)], (some (106, false))⟩, ⟨some 110, .un .not (.t 109), (some (106, false))⟩, ⟨some 111, .pick (.t 106) (.c (.bool true)) (.t 110), none⟩]
def zZj.r25 : List Cp := [⟨some 6, .mov (.c (.bool false)), none⟩]
def zZj.r26 : List Cp := [⟨some 112, .mov (.t 11), none⟩, ⟨some 113, .len .l (.t 112), none⟩, ⟨some 114, .bin .sub (.t 113) (.c (.int .i64 1)), none⟩, ⟨some 20, .mov (.t 114), none⟩]
def zZj.r27 : List Cp := [⟨some 115, .mov (.t 20), none⟩, ⟨some 116, .bin .geq (.t 115) (.c (.int .i64 0)), none⟩]
def zZj.r28 : List Cp := [⟨some 120, .load (some 1) (.t 3), none⟩, ⟨some 121, .load (some 5) (.t 7), none⟩, ⟨some 122, .call (.c (.fn (.func 18) [] [])) [(.t 120), (.t 121)], none⟩, ⟨some 119, .mov (.t 122), none⟩, ⟨some 123, .ext (.t 119) 0, none⟩, ⟨some 124, .ext (.t 119) 1, none⟩, ⟨some 125, .ext (.t 119) 2, none⟩, ⟨some 21, .alloc [.int .i64 0, .int .i64 0, .bool false, .int .u32 0, .nils], none⟩, ⟨none, .store 5 (.t 21) (.t 123), none⟩, ⟨some 22, .mov (.t 124), none⟩, ⟨some 23, .mov (.t 125), none⟩]
def zZj.r29 : List Cp := [⟨some 126, .mov (.t 23), none⟩, ⟨some 127, .bin .neq (.t 126) (.c (.int .i64 0)), none⟩, ⟨some 128, .mov (.t 127), none⟩, ⟨some 129, .mov (.t 22), (some (128, false))⟩, ⟨some 130, .mov (.t 11), (some (128, false))⟩, ⟨some 131, .mov (.t 20), (some (128, false))⟩, ⟨some 132, .iaddr 1 (.t 130) (.t 131), (some (128, false))⟩, ⟨some 133, .load none (.t 132), (some (128, false))⟩, ⟨some 134, .bin .neq (.t 129) (.t 133), (some (128, false))⟩, ⟨some 135, .pick (.t 128) (.c (.bool true)) (.t 134), none⟩]
def zZj.r30 : List Cp := [⟨some 6, .mov (.c (.bool false)), none⟩]
def zZj.r31 : List Cp := [⟨some 136, .load (some 5) (.t 21), none⟩, ⟨none, .store 5 (.t 7) (.t 136), none⟩]
def zZj.r32 : List Cp := [⟨some 117, .mov (.t 20), none⟩, ⟨some 118, .bin .sub (.t 117) (.c (.int .i64 1)), none⟩, ⟨some 20, .mov (.t 118), none⟩]
def zZj.b33 : Cc := (.seq (.seq (.region zZj.r27) (.cond (.t 116) .skip (.exit 2))) (.seq (.block 3 (.seq (.region zZj.r28) (.seq (.seq (.region zZj.r29) (.cond (.t 135) (.seq (.region zZj.r30) .ret) .skip)) (.region zZj.r31)))) (.region zZj.r32)))
def zZj.r34 : List Cp := [⟨some 138, .load (some 1) (.t 3), none⟩, ⟨some 139, .load (some 5) (.t 7), none⟩, ⟨some 140, .call (.c (.fn (.func 18) [] [])) [(.t 138), (.t 139)], none⟩, ⟨some 137, .mov (.t 140), none⟩, ⟨some 141, .ext (.t 137) 0, none⟩, ⟨some 142, .ext (.t 137) 1, none⟩, ⟨some 143, .ext (.t 137) 2, none⟩, ⟨some 18, .mov (.t 142), none⟩, ⟨some 19, .mov (.t 143), none⟩]
def zZj.r35 : List Cp := [⟨some 144, .mov (.t 19), none⟩, ⟨some 145, .bin .eql (.t 144) (.c (.int .i64 0)), none⟩, ⟨some 146, .mov (.t 145), none⟩, ⟨some 147, .mov (.t 18), (some (146, true))⟩, ⟨some 148, .bin .eql (.t 147) (.c (.int .i64 0)), (some (146, true))⟩, ⟨some 149, .pick (.t 146) (.t 148) (.c (.bool false)), none⟩, ⟨some 6, .mov (.t 149), none⟩]
def zZj.c : Cf := ⟨150, [.tmp 6], (.seq (.region zZj.r0) (.seq (.seq (.region zZj.r1) (.cond (.t 25) (.seq (.region zZj.r2) .ret) .skip)) (.seq (.region zZj.r3) (.seq (.seq (.region zZj.r4) (.cond (.t 34) (.seq (.region zZj.r5) .ret) .skip)) (.seq (.region zZj.r6) (.seq (.seq (.region zZj.r7) (.cond (.t 50) (.seq (.region zZj.r8) .ret) .skip)) (.seq (.region zZj.r9) (.seq (.seq (.region zZj.r10) (.block 0 (.loop zZj.b22))) (.seq (.region zZj.r23) (.seq (.seq (.region zZj.r24) (.cond (.t 111) (.seq (.region zZj.r25) .ret) .skip)) (.seq (.seq (.region zZj.r26) (.block 2 (.loop zZj.b33))) (.seq (.region zZj.r34) (.seq (.region zZj.r35) .ret))))))))))))), true⟩
abbrev zZj : V := .fn (.func 7) [] []
abbrev zZj.k : Nat := 7
def zZ1.r0 : List Cp := [⟨some 3, .box (.t 0), none⟩, ⟨some 5, .box (.t 2), none⟩, ⟨some 6, .alloc [.int .i64 0, .int .i64 0, .bool false, .int .u32 0, .nils], none⟩, ⟨some 7, .mov (.c (.int .i64 0)), none⟩]
def zZ1.r1 : List Cp := [⟨some 10, .mov (.t 1), none⟩, ⟨some 11, .mov (.t 1), none⟩, ⟨some 12, .load (some 2) (.t 5), none⟩, ⟨some 13, .build [.int .i64 0, .int .i64 0, .bool false, .int .u32 0, .nils] [(0, 1, (.t 10)), (1, 1, (.t 11)), (2, 1, (.c (.bool true))), (3, 2, (.t 12))], none⟩, ⟨some 8, .alloc [.int .i64 0, .int .i64 0, .bool false, .int .u32 0, .nils], none⟩, ⟨none, .store 5 (.t 8) (.t 13), none⟩]
def zZ1.r2 : List Cp := [⟨some 14, .load (some 1) (.t 3), none⟩, ⟨some 15, .load (some 5) (.t 8), none⟩, ⟨some 16, .call (.c (.fn (.func 11) [] [])) [(.t 14), (.t 15)], none⟩, ⟨some 9, .mov (.t 16), none⟩]
def zZ1.r3 : List Cp := [⟨some 17, .mov (.t 9), none⟩, ⟨some 18, .bin .neq (.t 17) (.c (.int .i64 0)), none⟩]
def zZ1.r4 : List Cp := [⟨some 19, .build [.int .i64 0, .int .i64 0, .bool false, .int .u32 0, .nils] [], none⟩, ⟨some 20, .mov (.t 9), none⟩, ⟨none, .store 5 (.t 6) (.t 19), none⟩, ⟨some 7, .mov (.t 20), none⟩]
def zZ1.r5 : List Cp := [⟨some 21, .load (some 5) (.t 8), none⟩, ⟨some 22, .call (.c (.fn (.func 22) [] [])) [(.t 21)], none⟩, ⟨none, .store 5 (.t 6) (.t 22), none⟩, ⟨some 7, .mov (.c (.int .i64 0)), none⟩]
def zZ1.c : Cf := ⟨23, [.cell 6 (some 5), .tmp 7], (.seq (.region zZ1.r0) (.seq (.region zZ1.r1) (.seq (.seq (.region zZ1.r2) (.seq (.region zZ1.r3) (.cond (.t 18) (.seq (.region zZ1.r4) .ret) .skip))) (.seq (.region zZ1.r5) .ret)))), true⟩
abbrev zZ1 : V := .fn (.func 8) [] []
abbrev zZ1.k : Nat := 8
def qZu.r0 : List Cp := [⟨some 3, .box (.t 0), none⟩, ⟨some 5, .box (.t 2), none⟩, ⟨some 6, .alloc [.int .i64 0, .int .i64 0, .bool false, .int .u32 0, .nils], none⟩, ⟨some 7, .mov (.c (.int .i64 0)), none⟩]
def qZu.r1 : List Cp := [⟨some 11, .load (some 1) (.t 3), none⟩, ⟨some 12, .load (some 2) (.t 5), none⟩, ⟨some 13, .mov (.t 1), none⟩, ⟨some 14, .call (.c (.fn (.func 23) [] [])) [(.t 11), (.t 12), (.t 13)], none⟩, ⟨some 10, .mov (.t 14), none⟩, ⟨some 15, .ext (.t 10) 0, none⟩, ⟨some 16, .ext (.t 10) 1, none⟩, ⟨some 8, .mov (.t 15), none⟩, ⟨some 9, .mov (.t 16), none⟩]
def qZu.r2 : List Cp := [⟨some 17, .mov (.t 9), none⟩, ⟨some 18, .bin .neq (.t 17) (.c (.int .i64 0)), none⟩]
def qZu.r3 : List Cp := [⟨some 19, .build [.int .i64 0, .int .i64 0, .bool false, .int .u32 0, .nils] [], none⟩, ⟨some 20, .mov (.t 9), none⟩, ⟨none, .store 5 (.t 6) (.t 19), none⟩, ⟨some 7, .mov (.t 20), none⟩]
def qZu.r4 : List Cp := [⟨some 21, .mov (.t 1), none⟩, ⟨some 22, .mov (.t 1), none⟩, ⟨some 23, .load (some 2) (.t 5), none⟩, ⟨some 24, .build [.int .i64 0, .int .i64 0, .bool false, .int .u32 0, .nils] [(0, 1, (.t 21)), (1, 1, (.t 22)), (2, 1, (.c (.bool true))), (3, 2, (.t 23))], none⟩, ⟨none, .store 5 (.t 6) (.t 24), none⟩, ⟨some 7, .mov (.c (.int .i64 0)), none⟩]
def qZu.c : Cf := ⟨25, [.cell 6 (some 5), .tmp 7], (.seq (.region qZu.r0) (.seq (.region qZu.r1) (.seq (.seq (.region qZu.r2) (.cond (.t 18) (.seq (.region qZu.r3) .ret) .skip)) (.seq (.region qZu.r4) .ret)))), true⟩
abbrev qZu : V := .fn (.func 9) [] []
abbrev qZu.k : Nat := 9
def qZH.r0 : List Cp := [⟨some 2, .box (.t 0), none⟩, ⟨some 3, .box (.t 1), none⟩, ⟨some 4, .mov (.c (.bool false)), none⟩]
def qZH.r1 : List Cp := [⟨some 5, .faddr 0 (.t 2), none⟩, ⟨some 6, .load none (.t 5), none⟩, ⟨some 7, .faddr 0 (.t 3), none⟩, ⟨some 8, .load none (.t 7), none⟩, ⟨some 9, .bin .eql (.t 6) (.t 8), none⟩, ⟨some 10, .mov (.t 9), none⟩, ⟨some 11, .faddr 1 (.t 2), (some (10, true))⟩, ⟨some 12, .load none (.t 11), (some (10, true))⟩, ⟨some 13, .faddr 1 (.t 3), (some (10, true))⟩, ⟨some 14, .load none (.t 13), (some (10, true))⟩, ⟨some 15, .bin .eql (.t 12) (.t 14), (some (10, true))⟩, ⟨some 16, .pick (.t 10) (.t 15) (.c (.bool false)), none⟩, ⟨some 17, .mov (.t 16), none⟩, ⟨some 18, .faddr 2 (.t 2), (some (17, true))⟩, ⟨some 19, .load none (.t 18), (some (17, true))⟩, ⟨some 20, .faddr 2 (.t 3), (some (17, true))⟩, ⟨some 21, .load none (.t 20), (some (17, true))⟩, ⟨some 22, .eqc false (.leaf .b) (.t 19) (.t 21), (some (17, true))⟩, ⟨some 23, .pick (.t 17) (.t 22) (.c (.bool false)), none⟩, ⟨some 24, .mov (.t 23), none⟩, ⟨some 25, .faddr 3 (.t 2), (some (24, true))⟩, ⟨some 26, .load (some 2) (.t 25), (some (24, true))⟩, ⟨some 27, .faddr 3 (.t 3), (some (24, true))⟩, ⟨some 28, .load (some 2) (.t 27), (some (24, true))⟩, ⟨some 29, .call (.c (.fn (.func 24) [] [])) [(.t 26), (.t 28)], (some (24, true))⟩, ⟨some 30, .pick (.t 24) (.t 29) (.c (.bool false)), none⟩, ⟨some 4, .mov (.t 30), none⟩]
def qZH.c : Cf := ⟨31, [.tmp 4], (.seq (.region qZH.r0) (.seq (.region qZH.r1) .ret)), true⟩
abbrev qZH : V := .fn (.func 10) [] []
abbrev qZH.k : Nat := 10
def zZy.r0 : List Cp := [⟨some 2, .box (.t 0), none⟩, ⟨some 3, .box (.t 1), none⟩, ⟨some 4, .mov (.c (.int .i64 0)), none⟩]
def zZy.r1 : List Cp := [⟨some 8, .load (some 1) (.t 2), none⟩, ⟨some 9, .faddr 3 (.t 3), none⟩, ⟨some 10, .load (some 2) (.t 9), none⟩, ⟨some 11, .faddr 0 (.t 3), none⟩, ⟨some 12, .load none (.t 11), none⟩, ⟨some 13, .call (.c (.fn (.func 21) [] [])) [(.t 8), (.t 10), (.t 12)], none⟩, ⟨some 7, .mov (.t 13), none⟩, ⟨some 14, .ext (.t 7) 0, none⟩, ⟨some 15, .ext (.t 7) 1, none⟩, ⟨some 5, .mov (.t 14), none⟩, ⟨some 6, .mov (.t 15), none⟩]
def zZy.r2 : List Cp := [⟨some 16, .mov (.t 6), none⟩, ⟨some 17, .bin .neq (.t 16) (.c (.int .i64 0)), none⟩]
def zZy.r3 : List Cp := [⟨some 18, .mov (.t 6), none⟩, ⟨some 4, .mov (.t 18), none⟩]
def zZy.r4 : List Cp := [⟨some 19, .load (some 1) (.t 2), none⟩, ⟨some 20, .faddr 1 (.t 3), none⟩, ⟨some 21, .load none (.t 20), none⟩, ⟨some 22, .bslice [.int .i64 0] 1 1 [(0, (.t 21))], none⟩, ⟨some 23, .call (.c (.fn (.func 25) [] [])) [(.t 19), (.t 22)], none⟩, ⟨some 24, .bin .neq (.t 23) (.c (.int .i64 0)), none⟩, ⟨some 25, .mov (.t 24), none⟩, ⟨some 26, .load (some 1) (.t 2), (some (25, false))⟩, ⟨some 27, .faddr 0 (.t 3), (some (25, false))⟩, ⟨some 28, .load none (.t 27), (some (25, false))⟩, ⟨some 29, .faddr 1 (.t 3), (some (25, false))⟩, ⟨some 30, .load none (.t 29), (some (25, false))⟩, ⟨some 31, .call (.c (.fn (.func 26) [] [])) [(.t 26), (.t 28), (.t 30)], (some (25, false))⟩, ⟨some 32, .un .not (.t 31), (some (25, false))⟩, ⟨some 33, .pick (.t 25) (.c (.bool true)) (.t 32), none⟩]
def zZy.r5 : List Cp := [⟨some 4, .mov (.c (.int .i64 2)), none⟩]
def zZy.r6 : List Cp := [⟨some 4, .mov (.c (.int .i64 0)), none⟩]
def zZy.c : Cf := ⟨34, [.tmp 4], (.seq (.region zZy.r0) (.seq (.seq (.region zZy.r1) (.seq (.region zZy.r2) (.cond (.t 17) (.seq (.region zZy.r3) .ret) .skip))) (.seq (.seq (.region zZy.r4) (.cond (.t 33) (.seq (.region zZy.r5) .ret) .skip)) (.seq (.region zZy.r6) .ret)))), true⟩
abbrev zZy : V := .fn (.func 11) [] []
abbrev zZy.k : Nat := 11
def zZE.r0 : List Cp := [⟨some 2, .box (.t 0), none⟩, ⟨some 3, .box (.t 1), none⟩, ⟨some 4, .mov (.c (.int .i64 0)), none⟩]
def zZE.r1 : List Cp := [⟨some 8, .load (some 1) (.t 2), none⟩, ⟨some 9, .faddr 3 (.t 3), none⟩, ⟨some 10, .load (some 2) (.t 9), none⟩, ⟨some 11, .faddr 0 (.t 3), none⟩, ⟨some 12, .load none (.t 11), none⟩, ⟨some 13, .call (.c (.fn (.func 23) [] [])) [(.t 8), (.t 10), (.t 12)], none⟩, ⟨some 7, .mov (.t 13), none⟩, ⟨some 14, .ext (.t 7) 0, none⟩, ⟨some 15, .ext (.t 7) 1, none⟩, ⟨some 5, .mov (.t 14), none⟩, ⟨some 6, .mov (.t 15), none⟩]
def zZE.r2 : List Cp := [⟨some 16, .mov (.t 6), none⟩, ⟨some 17, .bin .neq (.t 16) (.c (.int .i64 0)), none⟩]
def zZE.r3 : List Cp := [⟨some 18, .mov (.t 6), none⟩, ⟨some 4, .mov (.t 18), none⟩]
def zZE.r4 : List Cp := [⟨some 19, .load (some 1) (.t 2), none⟩, ⟨some 20, .faddr 1 (.t 3), none⟩, ⟨some 21, .load none (.t 20), none⟩, ⟨some 22, .bslice [.int .i64 0] 1 1 [(0, (.t 21))], none⟩, ⟨some 23, .call (.c (.fn (.func 27) [] [])) [(.t 19), (.t 22)], none⟩, ⟨some 6, .mov (.t 23), none⟩]
def zZE.r5 : List Cp := [⟨some 24, .mov (.t 6), none⟩, ⟨some 25, .bin .eql (.t 24) (.c (.int .i64 0)), none⟩, ⟨some 26, .mov (.t 25), none⟩, ⟨some 27, .load (some 1) (.t 2), (some (26, true))⟩, ⟨some 28, .faddr 0 (.t 3), (some (26, true))⟩, ⟨some 29, .load none (.t 28), (some (26, true))⟩, ⟨some 30, .faddr 1 (.t 3), (some (26, true))⟩, ⟨some 31, .load none (.t 30), (some (26, true))⟩, ⟨some 32, .call (.c (.fn (.func 28) [] [])) [(.t 27), (.t 29), (.t 31)], (some (26, true))⟩, ⟨some 33, .un .not (.t 32), (some (26, true))⟩, ⟨some 34, .pick (.t 26) (.t 33) (.c (.bool false)), none⟩]
def zZE.r6 : List Cp := [⟨some 6, .mov (.c (.int .i64 2)), none⟩]
def zZE.r7 : List Cp := [⟨some 35, .mov (.t 6), none⟩, ⟨some 4, .mov (.t 35), none⟩]
def zZE.c : Cf := ⟨36, [.tmp 4], (.seq (.region zZE.r0) (.seq (.region zZE.r1) (.seq (.seq (.region zZE.r2) (.cond (.t 17) (.seq (.region zZE.r3) .ret) .skip)) (.seq (.region zZE.r4) (.seq (.seq (.region zZE.r5) (.cond (.t 34) (.region zZE.r6) .skip)) (.seq (.region zZE.r7) .ret)))))), true⟩
abbrev zZE : V := .fn (.func 12) [] []
abbrev zZE.k : Nat := 12
def zZZ.r0 : List Cp := [⟨some 0, .mov (.c (.bool false)), none⟩]
def zZZ.r1 : List Cp := [⟨some 9, .call (.c (.fn (.func 29) [] [])) [], none⟩, ⟨some 1, .alloc [.nils], none⟩, ⟨none, .store 1 (.t 1) (.t 9), none⟩]
def zZZ.r2 : List Cp := [⟨some 10, .load (some 1) (.t 1), none⟩, ⟨some 11, .call (.c (.fn (.func 30) [] [])) [(.t 10)], none⟩, ⟨some 12, .un .not (.t 11), none⟩]
def zZZ.r3 : List Cp := [⟨some 0, .mov (.c (.bool false)), none⟩]
def zZZ.r4 : List Cp := [⟨some 14, .load (some 1) (.t 1), none⟩, ⟨some 15, .build [.int .u32 0, .nils] [(0, 1, (.c (.int .u32 4294967295)))], none⟩, ⟨some 16, .call (.c (.fn (.func 8) [] [])) [(.t 14), (.c (.int .i64 1)), (.t 15)], none⟩, ⟨some 13, .mov (.t 16), none⟩, ⟨some 17, .ext (.t 13) 0, none⟩, ⟨some 18, .ext (.t 13) 1, none⟩, ⟨some 2, .alloc [.int .i64 0, .int .i64 0, .bool false, .int .u32 0, .nils], none⟩, ⟨none, .store 5 (.t 2) (.t 17), none⟩, ⟨some 3, .mov (.t 18), none⟩]
def zZZ.r5 : List Cp := [⟨some 20, .load (some 1) (.t 1), none⟩, ⟨some 21, .load (some 5) (.t 2), none⟩, ⟨some 22, .call (.c (.fn (.func 16) [] [])) [(.t 20), (.t 21)], none⟩, ⟨some 19, .mov (.t 22), none⟩, ⟨some 23, .ext (.t 19) 0, none⟩, ⟨some 24, .ext (.t 19) 1, none⟩, ⟨some 25, .ext (.t 19) 2, none⟩, ⟨some 4, .alloc [.int .i64 0, .int .i64 0, .bool false, .int .u32 0, .nils], none⟩, ⟨none, .store 5 (.t 4) (.t 23), none⟩, ⟨some 5, .mov (.t 24), none⟩, ⟨some 6, .mov (.t 25), none⟩]
def zZZ.r6 : List Cp := [⟨some 27, .load (some 1) (.t 1), none⟩, ⟨some 28, .faddr 3 (.t 2), none⟩, ⟨some 29, .load (some 2) (.t 28), none⟩, ⟨some 30, .build [.int .i64 0, .int .i64 0, .bool false, .int .u32 0, .nils] [(0, 1, (.c (.int .i64 1))), (1, 1, (.c (.int .i64 3))), (3, 2, (.t 29))], none⟩, ⟨some 31, .call (.c (.fn (.func 14) [] [])) [(.t 27), (.t 30), (.c (.int .i64 3))], none⟩, ⟨some 26, .mov (.t 31), none⟩, ⟨some 32, .ext (.t 26) 0, none⟩, ⟨some 33, .ext (.t 26) 1, none⟩, ⟨some 7, .alloc [.int .i64 0, .int .i64 0, .bool false, .int .u32 0, .nils], none⟩, ⟨none, .store 5 (.t 7) (.t 32), none⟩, ⟨some 8, .mov (.t 33), none⟩]
def zZZ.r7 : List Cp := [⟨some 34, .mov (.t 3), none⟩, ⟨some 35, .bin .eql (.t 34) (.c (.int .i64 0)), none⟩, ⟨some 36, .mov (.t 35), none⟩, ⟨some 37, .faddr 1 (.t 2), (some (36, true))⟩, ⟨some 38, .load none (.t 37), (some (36, true))⟩, ⟨some 39, .bin .eql (.t 38) (.c (.int .i64 1)), (some (36, true))⟩, ⟨some 40, .pick (.t 36) (.t 39) (.c (.bool false)), none⟩, ⟨some 41, .mov (.t 40), none⟩, ⟨some 42, .faddr 2 (.t 2), (some (41, true))⟩, ⟨some 43, .load none (.t 42), (some (41, true))⟩, ⟨some 44, .pick (.t 41) (.t 43) (.c (.bool false)), none⟩, ⟨some 45, .mov (.t 44), none⟩, ⟨some 46, .mov (.t 6), (some (45, true))⟩, ⟨some 47, .bin .eql (.t 46) (.c (.int .i64 0)), (some (45, true))⟩, ⟨some 48, .pick (.t 45) (.t 47) (.c (.bool false)), none⟩, ⟨some 49, .mov (.t 48), none⟩, ⟨some 50, .mov (.t 5), (some (49, true))⟩, ⟨some 51, .bin .eql (.t 50) (.c (.int .i64 1)), (some (49, true))⟩, ⟨some 52, .pick (.t 49) (.t 51) (.c (.bool false)), none⟩, ⟨some 53, .mov (.t 52), none⟩, ⟨some 54, .faddr 2 (.t 4), (some (53, true))⟩, ⟨some 55, .load none (.t 54), (some (53, true))⟩, ⟨some 56, .un .not (.t 55), (some (53, true))⟩, ⟨some 57, .pick (.t 53) (.t 56) (.c (.bool false)), none⟩, ⟨some 58, .mov (.t 57), none⟩, ⟨some 59, .mov (.t 8), (some (58, true))⟩, ⟨some 60, .bin .eql (.t 59) (.c (.int .i64 0)), (some (58, true))⟩, ⟨some 61, .pick (.t 58) (.t 60) (.c (.bool false)), none⟩, ⟨some 62, .mov (.t 61), none⟩, ⟨some 63, .faddr 1 (.t 7), (some (62, true))⟩, ⟨some 64, .load none (.t 63), (some (62, true))⟩, ⟨some 65, .bin .eql (.t 64) (.c (.int .i64 2)), (some (62, true))⟩, ⟨some 66, .pick (.t 62) (.t 65) (.c (.bool false)), none⟩, ⟨some 67, .mov (.t 66), none⟩, ⟨some 68, .faddr 2 (.t 7), (some (67, true))⟩, ⟨some 69, .load none (.t 68), (some (67, true))⟩, ⟨some 70, .un .not (.t 69), (some (67, true))⟩, ⟨some 71, .pick (.t 67) (.t 70) (.c (.bool false)), none⟩, ⟨some 0, .mov (.t 71), none⟩]
def zZZ.c : Cf := ⟨72, [.tmp 0], (.seq (.region zZZ.r0) (.seq (.region zZZ.r1) (.seq (.seq (.region zZZ.r2) (.cond (.t 12) (.seq (.region zZZ.r3) .ret) .skip)) (.seq (.region zZZ.r4) (.seq (.region zZZ.r5) (.seq (.region zZZ.r6) (.seq (.region zZZ.r7) .ret))))))), true⟩
abbrev zZZ : V := .fn (.func 13) [] []
abbrev zZZ.k : Nat := 13
def zZt.r0 : List Cp := [⟨some 3, .box (.t 0), none⟩, ⟨some 4, .box (.t 1), none⟩, ⟨some 6, .alloc [.int .i64 0, .int .i64 0, .bool false, .int .u32 0, .nils], none⟩, ⟨some 7, .mov (.c (.int .i64 0)), none⟩]
def zZt.r1 : List Cp := [⟨some 9, .load (some 1) (.t 3), none⟩, ⟨some 10, .load (some 5) (.t 4), none⟩, ⟨some 11, .call (.c (.fn (.func 11) [] [])) [(.t 9), (.t 10)], none⟩, ⟨some 8, .mov (.t 11), none⟩]
def zZt.r2 : List Cp := [⟨some 12, .mov (.t 8), none⟩, ⟨some 13, .bin .eql (.t 12) (.c (.int .i64 0)), none⟩]
def zZt.r3 : List Cp := [⟨some 14, .load (some 1) (.t 3), none⟩, ⟨some 15, .mov (.t 2), none⟩, ⟨some 16, .bslice [.int .i64 0] 1 1 [(0, (.t 15))], none⟩, ⟨some 17, .call (.c (.fn (.func 25) [] [])) [(.t 14), (.t 16)], none⟩, ⟨some 8, .mov (.t 17), none⟩]
def zZt.r4 : List Cp := [⟨some 18, .mov (.t 8), none⟩, ⟨some 19, .bin .neq (.t 18) (.c (.int .i64 0)), none⟩]
def zZt.r5 : List Cp := [⟨some 20, .build [.int .i64 0, .int .i64 0, .bool false, .int .u32 0, .nils] [], none⟩, ⟨some 21, .mov (.t 8), none⟩, ⟨none, .store 5 (.t 6) (.t 20), none⟩, ⟨some 7, .mov (.t 21), none⟩]
def zZt.r6 : List Cp := [⟨some 22, .load (some 1) (.t 3), none⟩, ⟨some 23, .load (some 5) (.t 4), none⟩, ⟨some 24, .mov (.t 2), none⟩, ⟨some 25, .call (.c (.fn (.func 31) [] [])) [(.t 22), (.t 23), (.t 24)], none⟩, ⟨none, .store 5 (.t 6) (.t 25), none⟩, ⟨some 7, .mov (.c (.int .i64 0)), none⟩]
def zZt.c : Cf := ⟨26, [.cell 6 (some 5), .tmp 7], (.seq (.region zZt.r0) (.seq (.region zZt.r1) (.seq (.seq (.region zZt.r2) (.cond (.t 13) (.region zZt.r3) .skip)) (.seq (.seq (.region zZt.r4) (.cond (.t 19) (.seq (.region zZt.r5) .ret) .skip)) (.seq (.region zZt.r6) .ret))))), true⟩
abbrev zZt : V := .fn (.func 14) [] []
abbrev zZt.k : Nat := 14
def zZC.r0 : List Cp := [⟨some 3, .box (.t 0), none⟩, ⟨some 4, .box (.t 1), none⟩, ⟨some 6, .alloc [.int .i64 0, .int .i64 0, .bool false, .int .u32 0, .nils], none⟩, ⟨some 7, .mov (.c (.int .i64 0)), none⟩]
def zZC.r1 : List Cp := [⟨some 9, .load (some 1) (.t 3), none⟩, ⟨some 10, .load (some 5) (.t 4), none⟩, ⟨some 11, .call (.c (.fn (.func 12) [] [])) [(.t 9), (.t 10)], none⟩, ⟨some 8, .mov (.t 11), none⟩]
def zZC.r2 : List Cp := [⟨some 12, .mov (.t 8), none⟩, ⟨some 13, .bin .eql (.t 12) (.c (.int .i64 0)), none⟩]
def zZC.r3 : List Cp := [⟨some 14, .load (some 1) (.t 3), none⟩, ⟨some 15, .mov (.t 2), none⟩, ⟨some 16, .bslice [.int .i64 0] 1 1 [(0, (.t 15))], none⟩, ⟨some 17, .call (.c (.fn (.func 27) [] [])) [(.t 14), (.t 16)], none⟩, ⟨some 8, .mov (.t 17), none⟩]
def zZC.r4 : List Cp := [⟨some 18, .mov (.t 8), none⟩, ⟨some 19, .bin .neq (.t 18) (.c (.int .i64 0)), none⟩]
def zZC.r5 : List Cp := [⟨some 20, .build [.int .i64 0, .int .i64 0, .bool false, .int .u32 0, .nils] [], none⟩, ⟨some 21, .mov (.t 8), none⟩, ⟨none, .store 5 (.t 6) (.t 20), none⟩, ⟨some 7, .mov (.t 21), none⟩]
def zZC.r6 : List Cp := [⟨some 22, .load (some 1) (.t 3), none⟩, ⟨some 23, .load (some 5) (.t 4), none⟩, ⟨some 24, .mov (.t 2), none⟩, ⟨some 25, .call (.c (.fn (.func 32) [] [])) [(.t 22), (.t 23), (.t 24)], none⟩, ⟨none, .store 5 (.t 6) (.t 25), none⟩, ⟨some 7, .mov (.c (.int .i64 0)), none⟩]
def zZC.c : Cf := ⟨26, [.cell 6 (some 5), .tmp 7], (.seq (.region zZC.r0) (.seq (.region zZC.r1) (.seq (.seq (.region zZC.r2) (.cond (.t 13) (.region zZC.r3) .skip)) (.seq (.seq (.region zZC.r4) (.cond (.t 19) (.seq (.region zZC.r5) .ret) .skip)) (.seq (.region zZC.r6) .ret))))), true⟩
abbrev zZC : V := .fn (.func 15) [] []
abbrev zZC.k : Nat := 15
def qZn.r0 : List Cp := [⟨some 2, .box (.t 0), none⟩, ⟨some 3, .box (.t 1), none⟩, ⟨some 4, .alloc [.int .i64 0, .int .i64 0, .bool false, .int .u32 0, .nils], none⟩, ⟨some 5, .mov (.c (.int .i64 0)), none⟩, ⟨some 6, .mov (.c (.int .i64 0)), none⟩]
def qZn.r1 : List Cp := [⟨some 10, .call (.c (.fn (.func 33) [] [])) [], none⟩, ⟨some 9, .mov (.t 10), none⟩, ⟨some 11, .ext (.t 9) 0, none⟩, ⟨some 12, .ext (.t 9) 1, none⟩, ⟨some 7, .alloc [.int .i64 0, .bool false], none⟩, ⟨some 8, .alloc [.int .i64 0, .bool false], none⟩, ⟨none, .store 2 (.t 7) (.t 11), none⟩, ⟨none, .store 2 (.t 8) (.t 12), none⟩]
def qZn.r2 : List Cp := [⟨some 13, .load (some 2) (.t 7), none⟩, ⟨some 14, .load (some 1) (.t 2), none⟩, ⟨some 15, .load (some 5) (.t 3), none⟩, ⟨some 16, .call (.c (.fn (.func 34) [] [])) [(.t 13), (.t 14), (.t 15)], none⟩, ⟨some 17, .ext (.t 16) 0, none⟩, ⟨some 18, .ext (.t 16) 1, none⟩, ⟨some 19, .ext (.t 16) 2, none⟩, ⟨none, .store 5 (.t 4) (.t 17), none⟩, ⟨some 5, .mov (.t 18), none⟩, ⟨some 6, .mov (.t 19), none⟩]
def qZn.c : Cf := ⟨20, [.cell 4 (some 5), .tmp 5, .tmp 6], (.seq (.region qZn.r0) (.seq (.region qZn.r1) (.seq (.region qZn.r2) .ret))), true⟩
abbrev qZn : V := .fn (.func 16) [] []
abbrev qZn.k : Nat := 16
def zZu.r0 : List Cp := [⟨some 2, .box (.t 0), none⟩, ⟨some 3, .box (.t 1), none⟩, ⟨some 4, .alloc [.int .i64 0, .int .i64 0, .bool false, .int .u32 0, .nils], none⟩, ⟨some 5, .mov (.c (.int .i64 0)), none⟩, ⟨some 6, .mov (.c (.int .i64 0)), none⟩]
def zZu.r1 : List Cp := [⟨some 10, .load (some 1) (.t 2), none⟩, ⟨some 11, .load (some 5) (.t 3), none⟩, ⟨some 12, .call (.c (.fn (.func 12) [] [])) [(.t 10), (.t 11)], none⟩, ⟨some 7, .mov (.t 12), none⟩]
def zZu.r2 : List Cp := [⟨some 13, .mov (.t 7), none⟩, ⟨some 14, .bin .neq (.t 13) (.c (.int .i64 0)), none⟩]
def zZu.r3 : List Cp := [⟨some 15, .build [.int .i64 0, .int .i64 0, .bool false, .int .u32 0, .nils] [], none⟩, ⟨some 16, .mov (.t 7), none⟩, ⟨none, .store 5 (.t 4) (.t 15), none⟩, ⟨some 5, .mov (.c (.int .i64 0)), none⟩, ⟨some 6, .mov (.t 16), none⟩]
def zZu.r4 : List Cp := [⟨some 17, .load (some 1) (.t 2), none⟩, ⟨some 18, .faddr 0 (.t 3), none⟩, ⟨some 19, .load none (.t 18), none⟩, ⟨some 20, .call (.c (.fn (.func 35) [] [])) [(.t 17), (.t 19)], none⟩, ⟨some 8, .mov (.t 20), none⟩]
def zZu.r5 : List Cp := [⟨some 21, .mov (.t 8), none⟩, ⟨some 22, .faddr 1 (.t 3), none⟩, ⟨some 23, .load none (.t 22), none⟩, ⟨some 24, .call (.c (.fn (.func 36) [] [])) [(.t 21), (.t 23)], none⟩, ⟨some 9, .mov (.t 24), none⟩]
def zZu.r6 : List Cp := [⟨some 25, .faddr 2 (.t 3), none⟩, ⟨some 26, .load none (.t 25), none⟩, ⟨some 27, .un .not (.t 26), none⟩]
def zZu.r7 : List Cp := [⟨some 28, .mov (.t 9), none⟩, ⟨some 29, .bin .add (.t 28) (.c (.int .i64 1)), none⟩, ⟨some 9, .mov (.t 29), none⟩]
def zZu.r8 : List Cp := [⟨some 30, .mov (.t 9), none⟩, ⟨some 31, .mov (.t 8), none⟩, ⟨some 32, .len .l (.t 31), none⟩, ⟨some 33, .bin .lss (.t 30) (.t 32), none⟩]
def zZu.r9 : List Cp := [⟨some 36, .load (some 1) (.t 2), none⟩, ⟨some 37, .load (some 5) (.t 3), none⟩, ⟨some 38, .mov (.t 8), none⟩, ⟨some 39, .mov (.t 9), none⟩, ⟨some 40, .iaddr 1 (.t 38) (.t 39), none⟩, ⟨some 41, .load none (.t 40), none⟩, ⟨some 42, .call (.c (.fn (.func 37) [] [])) [(.t 36), (.t 37), (.t 41)], none⟩]
def zZu.r10 : List Cp := [⟨some 43, .mov (.t 8), none⟩, ⟨some 44, .mov (.t 9), none⟩, ⟨some 45, .iaddr 1 (.t 43) (.t 44), none⟩, ⟨some 46, .load none (.t 45), none⟩, ⟨some 47, .faddr 1 (.t 3), none⟩, ⟨none, .store 1 (.t 47) (.t 46), none⟩]
def zZu.r11 : List Cp := [⟨some 48, .faddr 2 (.t 3), none⟩, ⟨none, .store 1 (.t 48) (.c (.bool false)), none⟩]
def zZu.r12 : List Cp := [⟨some 49, .load (some 5) (.t 3), none⟩, ⟨some 50, .mov (.t 8), none⟩, ⟨some 51, .mov (.t 9), none⟩, ⟨some 52, .iaddr 1 (.t 50) (.t 51), none⟩, ⟨some 53, .load none (.t 52), none⟩, ⟨none, .store 5 (.t 4) (.t 49), none⟩, ⟨some 5, .mov (.t 53), none⟩, ⟨some 6, .mov (.c (.int .i64 0)), none⟩]
def zZu.r13 : List Cp := [⟨some 34, .mov (.t 9), none⟩, ⟨some 35, .bin .add (.t 34) (.c (.int .i64 1)), none⟩, ⟨some 9, .mov (.t 35), none⟩]
def zZu.b14 : Cc := (.seq (.seq (.region zZu.r8) (.cond (.t 33) .skip (.exit 0))) (.seq (.block 1 (.seq (.draw zZu.r9 [[], [], [], [], [2, 3], [4], [0, 1, 5]] [2, 3, 4]) (.cond (.t 42) (.seq (.region zZu.r10) (.seq (.region zZu.r11) (.seq (.draw zZu.r12 [[], [], [], [1, 2], [3], [0, 0], [4, 5, 0, 1, 2, 3, 4, 5], [6, 0, 1, 2, 3, 4, 5, 6]] [1, 2, 3, 6, 7]) .ret))) .skip))) (.region zZu.r13)))
def zZu.r15 : List Cp := [⟨some 54, .load (some 5) (.t 3), none⟩, ⟨none, .store 5 (.t 4) (.t 54), none⟩, ⟨some 5, .mov (.c (.int .i64 0)), none⟩, ⟨some 6, .mov (.c (.int .i64 0)), none⟩]
def zZu.c : Cf := ⟨55, [.cell 4 (some 5), .tmp 5, .tmp 6], (.seq (.region zZu.r0) (.seq (.region zZu.r1) (.seq (.seq (.region zZu.r2) (.cond (.t 14) (.seq (.region zZu.r3) .ret) .skip)) (.seq (.region zZu.r4) (.seq (.region zZu.r5) (.seq (.seq (.region zZu.r6) (.cond (.t 27) (.region zZu.r7) .skip)) (.seq (.block 0 (.loop zZu.b14)) (.seq (.region zZu.r15) .ret)))))))), true⟩
abbrev zZu : V := .fn (.func 17) [] []
abbrev zZu.k : Nat := 17
def qZo.r0 : List Cp := [⟨some 2, .box (.t 0), none⟩, ⟨some 3, .box (.t 1), none⟩, ⟨some 4, .alloc [.int .i64 0, .int .i64 0, .bool false, .int .u32 0, .nils], none⟩, ⟨some 5, .mov (.c (.int .i64 0)), none⟩, ⟨some 6, .mov (.c (.int .i64 0)), none⟩]
def qZo.r1 : List Cp := [⟨some 10, .call (.c (.fn (.func 33) [] [])) [], none⟩, ⟨some 9, .mov (.t 10), none⟩, ⟨some 11, .ext (.t 9) 0, none⟩, ⟨some 12, .ext (.t 9) 1, none⟩, ⟨some 7, .alloc [.int .i64 0, .bool false], none⟩, ⟨some 8, .alloc [.int .i64 0, .bool false], none⟩, ⟨none, .store 2 (.t 7) (.t 11), none⟩, ⟨none, .store 2 (.t 8) (.t 12), none⟩]
def qZo.r2 : List Cp := [⟨some 13, .load (some 2) (.t 8), none⟩, ⟨some 14, .load (some 1) (.t 2), none⟩, ⟨some 15, .load (some 5) (.t 3), none⟩, ⟨some 16, .call (.c (.fn (.func 34) [] [])) [(.t 13), (.t 14), (.t 15)], none⟩, ⟨some 17, .ext (.t 16) 0, none⟩, ⟨some 18, .ext (.t 16) 1, none⟩, ⟨some 19, .ext (.t 16) 2, none⟩, ⟨none, .store 5 (.t 4) (.t 17), none⟩, ⟨some 5, .mov (.t 18), none⟩, ⟨some 6, .mov (.t 19), none⟩]
def qZo.c : Cf := ⟨20, [.cell 4 (some 5), .tmp 5, .tmp 6], (.seq (.region qZo.r0) (.seq (.region qZo.r1) (.seq (.region qZo.r2) .ret))), true⟩
abbrev qZo : V := .fn (.func 18) [] []
abbrev qZo.k : Nat := 18
def zZv.r0 : List Cp := [⟨some 2, .box (.t 0), none⟩, ⟨some 3, .box (.t 1), none⟩, ⟨some 4, .alloc [.int .i64 0, .int .i64 0, .bool false, .int .u32 0, .nils], none⟩, ⟨some 5, .mov (.c (.int .i64 0)), none⟩, ⟨some 6, .mov (.c (.int .i64 0)), none⟩]
def zZv.r1 : List Cp := [⟨some 10, .load (some 1) (.t 2), none⟩, ⟨some 11, .load (some 5) (.t 3), none⟩, ⟨some 12, .call (.c (.fn (.func 12) [] [])) [(.t 10), (.t 11)], none⟩, ⟨some 7, .mov (.t 12), none⟩]
def zZv.r2 : List Cp := [⟨some 13, .mov (.t 7), none⟩, ⟨some 14, .bin .neq (.t 13) (.c (.int .i64 0)), none⟩]
def zZv.r3 : List Cp := [⟨some 15, .build [.int .i64 0, .int .i64 0, .bool false, .int .u32 0, .nils] [], none⟩, ⟨some 16, .mov (.t 7), none⟩, ⟨none, .store 5 (.t 4) (.t 15), none⟩, ⟨some 5, .mov (.c (.int .i64 0)), none⟩, ⟨some 6, .mov (.t 16), none⟩]
def zZv.r4 : List Cp := [⟨some 17, .load (some 1) (.t 2), none⟩, ⟨some 18, .faddr 0 (.t 3), none⟩, ⟨some 19, .load none (.t 18), none⟩, ⟨some 20, .call (.c (.fn (.func 35) [] [])) [(.t 17), (.t 19)], none⟩, ⟨some 8, .mov (.t 20), none⟩]
def zZv.r5 : List Cp := [⟨some 21, .mov (.t 8), none⟩, ⟨some 22, .faddr 1 (.t 3), none⟩, ⟨some 23, .load none (.t 22), none⟩, ⟨some 24, .call (.c (.fn (.func 36) [] [])) [(.t 21), (.t 23)], none⟩, ⟨some 9, .mov (.t 24), none⟩]
def zZv.r6 : List Cp := [⟨some 25, .faddr 2 (.t 3), none⟩, ⟨some 26, .load none (.t 25), none⟩]
def zZv.r7 : List Cp := [⟨some 27, .mov (.t 9), none⟩, ⟨some 28, .bin .sub (.t 27) (.c (.int .i64 1)), none⟩, ⟨some 9, .mov (.t 28), none⟩]
def zZv.r8 : List Cp := [⟨some 29, .mov (.t 9), none⟩, ⟨some 30, .bin .geq (.t 29) (.c (.int .i64 0)), none⟩]
def zZv.r9 : List Cp := [⟨some 33, .load (some 1) (.t 2), none⟩, ⟨some 34, .load (some 5) (.t 3), none⟩, ⟨some 35, .mov (.t 8), none⟩, ⟨some 36, .mov (.t 9), none⟩, ⟨some 37, .iaddr 1 (.t 35) (.t 36), none⟩, ⟨some 38, .load none (.t 37), none⟩, ⟨some 39, .call (.c (.fn (.func 37) [] [])) [(.t 33), (.t 34), (.t 38)], none⟩]
def zZv.r10 : List Cp := [⟨some 40, .mov (.t 8), none⟩, ⟨some 41, .mov (.t 9), none⟩, ⟨some 42, .iaddr 1 (.t 40) (.t 41), none⟩, ⟨some 43, .load none (.t 42), none⟩, ⟨some 44, .faddr 1 (.t 3), none⟩, ⟨none, .store 1 (.t 44) (.t 43), none⟩]
def zZv.r11 : List Cp := [⟨some 45, .faddr 2 (.t 3), none⟩, ⟨none, .store 1 (.t 45) (.c (.bool true)), none⟩]
def zZv.r12 : List Cp := [⟨some 46, .load (some 5) (.t 3), none⟩, ⟨some 47, .mov (.t 8), none⟩, ⟨some 48, .mov (.t 9), none⟩, ⟨some 49, .iaddr 1 (.t 47) (.t 48), none⟩, ⟨some 50, .load none (.t 49), none⟩, ⟨none, .store 5 (.t 4) (.t 46), none⟩, ⟨some 5, .mov (.t 50), none⟩, ⟨some 6, .mov (.c (.int .i64 0)), none⟩]
def zZv.r13 : List Cp := [⟨some 31, .mov (.t 9), none⟩, ⟨some 32, .bin .sub (.t 31) (.c (.int .i64 1)), none⟩, ⟨some 9, .mov (.t 32), none⟩]
def zZv.b14 : Cc := (.seq (.seq (.region zZv.r8) (.cond (.t 30) .skip (.exit 0))) (.seq (.block 1 (.seq (.draw zZv.r9 [[], [], [], [], [2, 3], [4], [0, 1, 5]] [2, 3, 4]) (.cond (.t 39) (.seq (.region zZv.r10) (.seq (.region zZv.r11) (.seq (.draw zZv.r12 [[], [], [], [1, 2], [3], [0, 0], [4, 5, 0, 1, 2, 3, 4, 5], [6, 0, 1, 2, 3, 4, 5, 6]] [1, 2, 3, 6, 7]) .ret))) .skip))) (.region zZv.r13)))
def zZv.r15 : List Cp := [⟨some 51, .load (some 5) (.t 3), none⟩, ⟨none, .store 5 (.t 4) (.t 51), none⟩, ⟨some 5, .mov (.c (.int .i64 0)), none⟩, ⟨some 6, .mov (.c (.int .i64 0)), none⟩]
def zZv.c : Cf := ⟨52, [.cell 4 (some 5), .tmp 5, .tmp 6], (.seq (.region zZv.r0) (.seq (.region zZv.r1) (.seq (.seq (.region zZv.r2) (.cond (.t 14) (.seq (.region zZv.r3) .ret) .skip)) (.seq (.region zZv.r4) (.seq (.region zZv.r5) (.seq (.seq (.region zZv.r6) (.cond (.t 26) (.region zZv.r7) .skip)) (.seq (.block 0 (.loop zZv.b14)) (.seq (.region zZv.r15) .ret)))))))), true⟩
abbrev zZv : V := .fn (.func 19) [] []
abbrev zZv.k : Nat := 19
def qZW.r0 : List Cp := [⟨some 2, .box (.t 0), none⟩, ⟨some 3, .box (.t 1), none⟩, ⟨some 4, .mov (.c (.nils)), none⟩, ⟨some 5, .mov (.c (.int .i64 0)), none⟩]
def qZW.r1 : List Cp := [⟨some 6, .load (some 1) (.t 2), none⟩, ⟨some 7, .mkf (.func 39) [] [(.t 2), (.t 3)], none⟩, ⟨some 8, .load none (.t 3), none⟩, ⟨some 9, .bslice [.int .i64 0] 1 1 [(0, (.t 8))], none⟩, ⟨some 10, .call (.c (.fn (.func 38) [] [])) [(.t 6), (.t 7), (.t 9)], none⟩, ⟨some 11, .ext (.t 10) 0, none⟩, ⟨some 12, .ext (.t 10) 1, none⟩, ⟨some 4, .mov (.t 11), none⟩, ⟨some 5, .mov (.t 12), none⟩]
def qZW.c : Cf := ⟨13, [.tmp 4, .tmp 5], (.seq (.region qZW.r0) (.seq (.region qZW.r1) .ret)), true⟩
abbrev qZW : V := .fn (.func 20) [] []
abbrev qZW.k : Nat := 20
def zZ8.r0 : List Cp := [⟨some 3, .box (.t 0), none⟩, ⟨some 4, .box (.t 1), none⟩, ⟨some 6, .mov (.c (.int .u8 0)), none⟩, ⟨some 7, .mov (.c (.int .i64 0)), none⟩]
def zZ8.r1 : List Cp := [⟨some 9, .load (some 1) (.t 3), none⟩, ⟨some 10, .load (some 2) (.t 4), none⟩, ⟨some 11, .mov (.t 2), none⟩, ⟨some 12, .bslice [.int .i64 0] 1 1 [(0, (.t 11))], none⟩, ⟨some 13, .call (.c (.fn (.func 41) [] [])) [(.t 9), (.t 10), (.t 12)], none⟩, ⟨some 8, .mov (.t 13), none⟩]
def zZ8.r2 : List Cp := [⟨some 14, .mov (.t 8), none⟩, ⟨some 15, .bin .neq (.t 14) (.c (.int .i64 0)), none⟩]
def zZ8.r3 : List Cp := [⟨some 16, .mov (.t 8), none⟩, ⟨some 6, .mov (.c (.int .u8 0)), none⟩, ⟨some 7, .mov (.t 16), none⟩]
def zZ8.r4 : List Cp := [⟨some 17, .load (some 1) (.t 3), none⟩, ⟨some 18, .load (some 2) (.t 4), none⟩, ⟨some 19, .mov (.t 2), none⟩, ⟨some 20, .call (.c (.fn (.func 42) [] [])) [(.t 17), (.t 18), (.t 19)], none⟩, ⟨some 6, .mov (.t 20), none⟩, ⟨some 7, .mov (.c (.int .i64 0)), none⟩]
def zZ8.c : Cf := ⟨21, [.tmp 6, .tmp 7], (.seq (.region zZ8.r0) (.seq (.seq (.region zZ8.r1) (.seq (.region zZ8.r2) (.cond (.t 15) (.seq (.region zZ8.r3) .ret) .skip))) (.seq (.region zZ8.r4) .ret))), true⟩
abbrev zZ8 : V := .fn (.func 21) [] []
abbrev zZ8.k : Nat := 21
def qZh.r0 : List Cp := [⟨some 1, .box (.t 0), none⟩, ⟨some 2, .alloc [.int .i64 0, .int .i64 0, .bool false, .int .u32 0, .nils], none⟩]
def qZh.r1 : List Cp := [⟨some 4, .faddr 3 (.t 1), none⟩, ⟨some 5, .faddr 1 (.t 4), none⟩, ⟨some 6, .load none (.t 5), none⟩, ⟨some 7, .len .l (.t 6), none⟩, ⟨some 8, .mks [.int .u8 0, .str ⟨#[]⟩, .int .u8 0] 3 32 (.t 7) (.t 7), none⟩, ⟨some 3, .mov (.t 8), none⟩]
def qZh.r2 : List Cp := [⟨some 9, .mov (.t 3), none⟩, ⟨some 10, .faddr 3 (.t 1), none⟩, ⟨some 11, .faddr 1 (.t 10), none⟩, ⟨some 12, .load none (.t 11), none⟩, ⟨some 13, .copy 3 (.t 9) (.t 12), none⟩]
def qZh.r3 : List Cp := [⟨some 14, .mov (.t 3), none⟩, ⟨some 15, .faddr 3 (.t 1), none⟩, ⟨some 16, .faddr 1 (.t 15), none⟩, ⟨none, .store 1 (.t 16) (.t 14), none⟩]
def qZh.r4 : List Cp := [⟨some 17, .load (some 5) (.t 1), none⟩, ⟨none, .store 5 (.t 2) (.t 17), none⟩]
def qZh.c : Cf := ⟨18, [.cell 2 (some 5)], (.seq (.region qZh.r0) (.seq (.region qZh.r1) (.seq (.region qZh.r2) (.seq (.region qZh.r3) (.seq (.region qZh.r4) .ret))))), true⟩
abbrev qZh : V := .fn (.func 22) [] []
abbrev qZh.k : Nat := 22
def zZN.r0 : List Cp := [⟨some 3, .box (.t 0), none⟩, ⟨some 4, .box (.t 1), none⟩, ⟨some 6, .mov (.c (.int .u8 0)), none⟩, ⟨some 7, .mov (.c (.int .i64 0)), none⟩]
def zZN.r1 : List Cp := [⟨some 9, .load (some 1) (.t 3), none⟩, ⟨some 10, .mov (.t 2), none⟩, ⟨some 11, .call (.c (.fn (.func 43) [] [])) [(.t 9), (.t 10)], none⟩, ⟨some 8, .mov (.t 11), none⟩]
def zZN.r2 : List Cp := [⟨some 12, .mov (.t 8), none⟩, ⟨some 13, .bin .eql (.t 12) (.c (.int .i64 0)), none⟩]
def zZN.r3 : List Cp := [⟨some 14, .load (some 2) (.t 4), none⟩, ⟨some 15, .call (.c (.fn (.func 44) [] [])) [(.t 14)], none⟩, ⟨some 8, .mov (.t 15), none⟩]
def zZN.r4 : List Cp := [⟨some 16, .mov (.t 8), none⟩, ⟨some 17, .bin .neq (.t 16) (.c (.int .i64 0)), none⟩]
def zZN.r5 : List Cp := [⟨some 18, .mov (.t 8), none⟩, ⟨some 6, .mov (.c (.int .u8 0)), none⟩, ⟨some 7, .mov (.t 18), none⟩]
def zZN.r6 : List Cp := [⟨some 19, .load (some 1) (.t 3), none⟩, ⟨some 20, .load (some 2) (.t 4), none⟩, ⟨some 21, .mov (.t 2), none⟩, ⟨some 22, .call (.c (.fn (.func 45) [] [])) [(.t 19), (.t 20), (.t 21)], none⟩, ⟨some 6, .mov (.t 22), none⟩, ⟨some 7, .mov (.c (.int .i64 0)), none⟩]
def zZN.c : Cf := ⟨23, [.tmp 6, .tmp 7], (.seq (.region zZN.r0) (.seq (.region zZN.r1) (.seq (.seq (.region zZN.r2) (.cond (.t 13) (.region zZN.r3) .skip)) (.seq (.seq (.region zZN.r4) (.cond (.t 17) (.seq (.region zZN.r5) .ret) .skip)) (.seq (.region zZN.r6) .ret))))), true⟩
abbrev zZN : V := .fn (.func 23) [] []
abbrev zZN.k : Nat := 23
def zZs.r0 : List Cp := [⟨some 2, .box (.t 0), none⟩, ⟨some 3, .box (.t 1), none⟩, ⟨some 4, .mov (.c (.bool false)), none⟩]
def zZs.r1 : List Cp := [⟨some 6, .faddr 0 (.t 2), none⟩, ⟨some 7, .load none (.t 6), none⟩, ⟨some 8, .faddr 0 (.t 3), none⟩, ⟨some 9, .load none (.t 8), none⟩, ⟨some 10, .bin .neq (.t 7) (.t 9), none⟩, ⟨some 11, .mov (.t 10), none⟩, ⟨some 12, .faddr 1 (.t 2), (some (11, false))⟩, ⟨some 13, .load none (.t 12), (some (11, false))⟩, ⟨some 14, .len .l (.t 13), (some (11, false))⟩, ⟨some 15, .faddr 1 (.t 3), (some (11, false))⟩, ⟨some 16, .load none (.t 15), (some (11, false))⟩, ⟨some 17, .len .l (.t 16), (some (11, false))⟩, ⟨some 18, .bin .neq (.t 14) (.t 17), (some (11, false))⟩, ⟨some 19, .pick (.t 11) (.c (.bool true)) (.t 18), none⟩]
def zZs.r2 : List Cp := [⟨some 4, .mov (.c (.bool false)), none⟩]
def zZs.r3 : List Cp := [⟨some 5, .mov (.c (.int .i64 0)), none⟩]
def zZs.r4 : List Cp := [⟨some 20, .mov (.t 5), none⟩, ⟨some 21, .faddr 1 (.t 2), none⟩, ⟨some 22, .load none (.t 21), none⟩, ⟨some 23, .len .l (.t 22), none⟩, ⟨some 24, .bin .lss (.t 20) (.t 23), none⟩]
def zZs.r5 : List Cp := [⟨some 27, .faddr 1 (.t 2), none⟩, ⟨some 28, .load none (.t 27), none⟩, ⟨some 29, .mov (.t 5), none⟩, ⟨some 30, .iaddr 3 (.t 28) (.t 29), none⟩, ⟨some 31, .load (some 3) (.t 30), none⟩, ⟨some 32, .faddr 1 (.t 3), none⟩, ⟨some 33, .load none (.t 32), none⟩, ⟨some 34, .mov (.t 5), none⟩, ⟨some 35, .iaddr 3 (.t 33) (.t 34), none⟩, ⟨some 36, .load (some 3) (.t 35), none⟩, ⟨some 37, .eqc true (.cons 0 none (.leaf .i) (.cons 1 none (.leaf .s) (.cons 2 none (.leaf .i) .nil))) (.t 31) (.t 36), none⟩]
def zZs.r6 : List Cp := [⟨some 4, .mov (.c (.bool false)), none⟩]
def zZs.r7 : List Cp := [⟨some 25, .mov (.t 5), none⟩, ⟨some 26, .bin .add (.t 25) (.c (.int .i64 1)), none⟩, ⟨some 5, .mov (.t 26), none⟩]
def zZs.b8 : Cc := (.seq (.seq (.region zZs.r4) (.cond (.t 24) .skip (.exit 0))) (.seq (.block 1 (.seq (.draw zZs.r5 [[], [0], [], [1, 2], [3], [], [5], [], [6, 7], [8], [4, 9]] [0, 2, 3, 5, 7, 8]) (.cond (.t 37) (.seq (.region zZs.r6) .ret) .skip))) (.region zZs.r7)))
def zZs.r9 : List Cp := [⟨some 4, .mov (.c (.bool true)), none⟩]
def zZs.c : Cf := ⟨38, [.tmp 4], (.seq (.region zZs.r0) (.seq (.seq (.region zZs.r1) (.cond (.t 19) (.seq (.region zZs.r2) .ret) .skip)) (.seq (.seq (.region zZs.r3) (.block 0 (.loop zZs.b8))) (.seq (.region zZs.r9) .ret)))), true⟩
abbrev zZs : V := .fn (.func 24) [] []
abbrev zZs.k : Nat := 24
def zZM.r0 : List Cp := [⟨some 2, .box (.t 0), none⟩, ⟨some 4, .mov (.c (.int .i64 0)), none⟩]
def zZM.r1 : List Cp := [⟨some 10, .load (some 1) (.t 2), none⟩, ⟨some 11, .call (.c (.fn (.func 46) [] [])) [(.t 10)], none⟩, ⟨some 9, .mov (.t 11), none⟩, ⟨some 12, .ext (.t 9) 0, none⟩, ⟨some 13, .ext (.t 9) 1, none⟩, ⟨some 5, .mov (.t 12), none⟩, ⟨some 6, .mov (.t 13), none⟩]
def zZM.r2 : List Cp := [⟨some 14, .mov (.t 5), none⟩, ⟨some 15, .bin .neq (.t 14) (.c (.int .i64 0)), none⟩]
def zZM.r3 : List Cp := [⟨some 16, .mov (.t 5), none⟩, ⟨some 4, .mov (.t 16), none⟩]
def zZM.r4 : List Cp := [⟨some 17, .mov (.t 1), none⟩, ⟨some 18, .len .l (.t 17), none⟩, ⟨some 19, .mov (.c (.int .i64 0)), none⟩]
def zZM.r5 : List Cp := [⟨some 20, .bin .lss (.t 19) (.t 18), none⟩]
def zZM.r6 : List Cp := [⟨some 21, .iaddr 1 (.t 17) (.t 19), none⟩, ⟨some 22, .load none (.t 21), none⟩, ⟨some 8, .mov (.t 22), none⟩]
def zZM.r7 : List Cp := [⟨some 23, .mov (.t 8), none⟩, ⟨some 24, .bin .lss (.t 23) (.c (.int .i64 1)), none⟩, ⟨some 25, .mov (.t 24), none⟩, ⟨some 26, .mov (.t 8), (some (25, false))⟩, ⟨some 27, .faddr 0 (.t 2), (some (25, false))⟩, ⟨some 28, .load none (.t 27), (some (25, false))⟩, ⟨some 29, .len .l (.t 28), (some (25, false))⟩, ⟨some 30, .bin .gtr (.t 26) (.t 29), (some (25, false))⟩, ⟨some 31, .pick (.t 25) (.c (.bool true)) (.t 30), none⟩]
def zZM.r8 : List Cp := [⟨some 4, .mov (.c (.int .i64 2)), none⟩]
def zZM.r9 : List Cp := [⟨some 32, .bin .add (.t 19) (.c (.int .i64 1)), none⟩, ⟨some 19, .mov (.t 32), none⟩]
def zZM.b10 : Cc := (.seq (.region zZM.r5) (.seq (.cond (.t 20) .skip (.exit 0)) (.seq (.block 1 (.seq (.region zZM.r6) (.seq (.region zZM.r7) (.cond (.t 31) (.seq (.region zZM.r8) .ret) .skip)))) (.region zZM.r9))))
def zZM.r11 : List Cp := [⟨some 4, .mov (.c (.int .i64 0)), none⟩]
def zZM.c : Cf := ⟨33, [.tmp 4], (.seq (.region zZM.r0) (.seq (.seq (.region zZM.r1) (.seq (.region zZM.r2) (.cond (.t 15) (.seq (.region zZM.r3) .ret) .skip))) (.seq (.seq (.region zZM.r4) (.block 0 (.loop zZM.b10))) (.seq (.region zZM.r11) .ret)))), true⟩
abbrev zZM : V := .fn (.func 25) [] []
abbrev zZM.k : Nat := 25
def zZR.r0 : List Cp := [⟨some 3, .box (.t 0), none⟩, ⟨some 4, .box (.t 1), none⟩, ⟨some 6, .alloc [.bool false], none⟩]
def zZR.r1 : List Cp := [⟨some 8, .load (some 1) (.t 3), none⟩, ⟨some 9, .mov (.t 2), none⟩, ⟨some 10, .call (.c (.fn (.func 47) [] [])) [(.t 8), (.t 9)], none⟩]
def zZR.r2 : List Cp := [⟨some 7, .mov (.t 11), none⟩]
def zZR.r3 : List Cp := [⟨some 12, .mov (.t 7), none⟩, ⟨some 13, .load none (.t 4), none⟩, ⟨some 14, .bin .eql (.t 12) (.t 13), none⟩]
def zZR.r4 : List Cp := [⟨none, .store 1 (.t 6) (.c (.bool true)), none⟩]
def zZR.b5 : Cc := (.block 1 (.seq (.region zZR.r3) (.cond (.t 14) (.seq (.region zZR.r4) .ret) .skip)))
def zZR.r6 : List Cp := [⟨none, .store 1 (.t 6) (.c (.bool false)), none⟩]
def zZR.c : Cf := ⟨15, [.cell 6 none], (.seq (.region zZR.r0) (.seq (.seq (.region zZR.r1) (.block 0 (.rfunc (.t 10) [11] (.region zZR.r2) zZR.b5))) (.seq (.region zZR.r6) .ret))), true⟩
abbrev zZR : V := .fn (.func 26) [] []
abbrev zZR.k : Nat := 26
def zZL.r0 : List Cp := [⟨some 2, .box (.t 0), none⟩, ⟨some 4, .mov (.c (.int .i64 0)), none⟩]
def zZL.r1 : List Cp := [⟨some 6, .load (some 1) (.t 2), none⟩, ⟨some 7, .call (.c (.fn (.func 30) [] [])) [(.t 6)], none⟩, ⟨some 8, .un .not (.t 7), none⟩]
def zZL.r2 : List Cp := [⟨some 4, .mov (.c (.int .i64 5)), none⟩]
def zZL.r3 : List Cp := [⟨some 5, .mov (.c (.int .i64 0)), none⟩]
def zZL.r4 : List Cp := [⟨some 9, .mov (.t 5), none⟩, ⟨some 10, .mov (.t 1), none⟩, ⟨some 11, .len .l (.t 10), none⟩, ⟨some 12, .bin .lss (.t 9) (.t 11), none⟩]
def zZL.r5 : List Cp := [⟨some 15, .mov (.t 1), none⟩, ⟨some 16, .mov (.t 5), none⟩, ⟨some 17, .iaddr 1 (.t 15) (.t 16), none⟩, ⟨some 18, .load none (.t 17), none⟩, ⟨some 19, .bin .lss (.t 18) (.c (.int .i64 1)), none⟩, ⟨some 20, .mov (.t 19), none⟩, ⟨some 21, .mov (.t 1), (some (20, false))⟩, ⟨some 22, .mov (.t 5), (some (20, false))⟩, ⟨some 23, .iaddr 1 (.t 21) (.t 22), (some (20, false))⟩, ⟨some 24, .load none (.t 23), (some (20, false))⟩, ⟨some 25, .faddr 0 (.t 2), (some (20, false))⟩, ⟨some 26, .load none (.t 25), (some (20, false))⟩, ⟨some 27, .len .l (.t 26), (some (20, false))⟩, ⟨some 28, .bin .gtr (.t 24) (.t 27), (some (20, false))⟩, ⟨some 29, .pick (.t 20) (.c (.bool true)) (.t 28), none⟩]
def zZL.r6 : List Cp := [⟨some 4, .mov (.c (.int .i64 2)), none⟩]
def zZL.r7 : List Cp := [⟨some 13, .mov (.t 5), none⟩, ⟨some 14, .bin .add (.t 13) (.c (.int .i64 1)), none⟩, ⟨some 5, .mov (.t 14), none⟩]
def zZL.b8 : Cc := (.seq (.seq (.region zZL.r4) (.cond (.t 12) .skip (.exit 0))) (.seq (.block 1 (.seq (.draw zZL.r5 [[], [], [0, 1], [2], [3], [4], [5], [5], [6, 7, 5], [8, 5], [5], [10, 5], [11, 5], [9, 12, 5], [5, 13]] [0, 1, 2, 4, 5, 6, 7, 8, 10, 13, 14]) (.cond (.t 29) (.seq (.region zZL.r6) .ret) .skip))) (.region zZL.r7)))
def zZL.r9 : List Cp := [⟨some 4, .mov (.c (.int .i64 0)), none⟩]
def zZL.c : Cf := ⟨30, [.tmp 4], (.seq (.region zZL.r0) (.seq (.seq (.region zZL.r1) (.cond (.t 8) (.seq (.region zZL.r2) .ret) .skip)) (.seq (.seq (.region zZL.r3) (.block 0 (.loop zZL.b8))) (.seq (.region zZL.r9) .ret)))), true⟩
abbrev zZL : V := .fn (.func 27) [] []
abbrev zZL.k : Nat := 27
def zZ9.r0 : List Cp := [⟨some 3, .box (.t 0), none⟩, ⟨some 6, .mov (.c (.bool false)), none⟩]
def zZ9.r1 : List Cp := [⟨some 7, .mov (.t 1), none⟩, ⟨some 8, .mov (.t 2), none⟩, ⟨some 9, .bin .eql (.t 7) (.t 8), none⟩, ⟨some 10, .mov (.t 9), none⟩, ⟨some 11, .load (some 1) (.t 3), (some (10, false))⟩, ⟨some 12, .mov (.t 2), (some (10, false))⟩, ⟨some 13, .call (.c (.fn (.func 48) [] [])) [(.t 11), (.t 12)], (some (10, false))⟩, ⟨some 14, .mov (.t 1), (some (10, false))⟩, ⟨some 15, .call (.c (.fn (.func 36) [] [])) [(.t 13), (.t 14)], (some (10, false))⟩, ⟨some 16, .bin .geq (.t 15) (.c (.int .i64 0)), (some (10, false))⟩, ⟨some 17, .pick (.t 10) (.c (.bool true)) (.t 16), none⟩, ⟨some 6, .mov (.t 17), none⟩]
def zZ9.c : Cf := ⟨18, [.tmp 6], (.seq (.region zZ9.r0) (.seq (.region zZ9.r1) .ret)), true⟩
abbrev zZ9 : V := .fn (.func 28) [] []
abbrev zZ9.k : Nat := 28
def qZF.r0 : List Cp := [⟨some 0, .alloc [.nils], none⟩]
def qZF.r1 : List Cp := [⟨some 1, .bslice [.int .i64 0] 1 1 [(0, (.c (.int .i64 2)))], none⟩, ⟨some 2, .build [.int .u8 0, .str ⟨#[]⟩, .str ⟨#[]⟩, .str ⟨#[]⟩, .str ⟨#[]⟩, .str ⟨#[]⟩, .nils, .nils, .int .i64 0, .nils, .int .i64 0, .int .i64 0, .int .i64 0, .int .u8 0, .bool false, .bool false] [(0, 1, (.c (.int .u8 9))), (9, 1, (.t 1)), (10, 1, (.c (.int .i64 1)))], none⟩, ⟨some 3, .build [.str ⟨#[]⟩, .str ⟨#[]⟩, .str ⟨#[]⟩] [(2, 1, (.c (.str ⟨#[97]⟩)))], none⟩, ⟨some 4, .bslice [.int .i64 0] 2 1 [(0, (.c (.int .i64 3))), (1, (.c (.int .i64 4)))], none⟩, ⟨some 5, .build [.int .u8 0, .str ⟨#[]⟩, .str ⟨#[]⟩, .str ⟨#[]⟩, .str ⟨#[]⟩, .str ⟨#[]⟩, .nils, .nils, .int .i64 0, .nils, .int .i64 0, .int .i64 0, .int .i64 0, .int .u8 0, .bool false, .bool false] [(0, 1, (.c (.int .u8 1))), (1, 3, (.t 3)), (8, 1, (.c (.int .i64 1))), (9, 1, (.t 4)), (10, 1, (.c (.int .i64 1)))], none⟩, ⟨some 6, .bslice [.int .u16 0] 1 1 [(0, (.c (.int .u16 65)))], none⟩, ⟨some 7, .build [.int .u8 0, .str ⟨#[]⟩, .str ⟨#[]⟩, .str ⟨#[]⟩, .str ⟨#[]⟩, .str ⟨#[]⟩, .nils, .nils, .int .i64 0, .nils, .int .i64 0, .int .i64 0, .int .i64 0, .int .u8 0, .bool false, .bool false] [(0, 1, (.c (.int .u8 3))), (6, 1, (.t 6)), (8, 1, (.c (.int .i64 2))), (10, 1, (.c (.int .i64 1)))], none⟩, ⟨some 8, .bslice [.int .u16 0] 1 1 [(0, (.c (.int .u16 66)))], none⟩, ⟨some 9, .build [.int .u8 0, .str ⟨#[]⟩, .str ⟨#[]⟩, .str ⟨#[]⟩, .str ⟨#[]⟩, .str ⟨#[]⟩, .nils, .nils, .int .i64 0, .nils, .int .i64 0, .int .i64 0, .int .i64 0, .int .u8 0, .bool false, .bool false] [(0, 1, (.c (.int .u8 3))), (6, 1, (.t 8)), (8, 1, (.c (.int .i64 2))), (10, 1, (.c (.int .i64 1)))], none⟩, ⟨some 10, .bslice [.int .u8 0, .str ⟨#[]⟩, .str ⟨#[]⟩, .str ⟨#[]⟩, .str ⟨#[]⟩, .str ⟨#[]⟩, .nils, .nils, .int .i64 0, .nils, .int .i64 0, .int .i64 0, .int .i64 0, .int .u8 0, .bool false, .bool false] 4 16 [(0, (.t 2)), (1, (.t 5)), (2, (.t 7)), (3, (.t 9))], none⟩, ⟨some 11, .build [.nils] [(0, 1, (.t 10))], none⟩, ⟨none, .store 1 (.t 0) (.t 11), none⟩]
def qZF.c : Cf := ⟨12, [.cell 0 (some 1)], (.seq (.region qZF.r0) (.seq (.region qZF.r1) .ret)), true⟩
abbrev qZF : V := .fn (.func 29) [] []
abbrev qZF.k : Nat := 29
def qZl.r0 : List Cp := [⟨some 1, .box (.t 0), none⟩, ⟨some 2, .mov (.c (.bool false)), none⟩]
def qZl.r1 : List Cp := [⟨some 6, .load (some 1) (.t 1), none⟩, ⟨some 7, .call (.c (.fn (.func 49) [] [])) [(.t 6)], none⟩, ⟨some 5, .mov (.t 7), none⟩, ⟨some 8, .ext (.t 5) 0, none⟩, ⟨some 9, .ext (.t 5) 1, none⟩, ⟨some 3, .mov (.t 8), none⟩, ⟨some 4, .mov (.t 9), none⟩]
def qZl.r2 : List Cp := [⟨some 10, .mov (.t 3), none⟩, ⟨some 11, .bin .eql (.t 10) (.c (.int .i64 0)), none⟩, ⟨some 2, .mov (.t 11), none⟩]
def qZl.c : Cf := ⟨12, [.tmp 2], (.seq (.region qZl.r0) (.seq (.region qZl.r1) (.seq (.region qZl.r2) .ret))), true⟩
abbrev qZl : V := .fn (.func 30) [] []
abbrev qZl.k : Nat := 30
def zZc.r0 : List Cp := [⟨some 3, .box (.t 0), none⟩, ⟨some 4, .box (.t 1), none⟩, ⟨some 6, .alloc [.int .i64 0, .int .i64 0, .bool false, .int .u32 0, .nils], none⟩]
def zZc.r1 : List Cp := [⟨some 11, .load (some 5) (.t 4), none⟩, ⟨some 12, .call (.c (.fn (.func 22) [] [])) [(.t 11)], none⟩, ⟨some 7, .alloc [.int .i64 0, .int .i64 0, .bool false, .int .u32 0, .nils], none⟩, ⟨none, .store 5 (.t 7) (.t 12), none⟩]
def zZc.r2 : List Cp := [⟨some 13, .load (some 1) (.t 3), none⟩, ⟨some 14, .mov (.t 2), none⟩, ⟨some 15, .faddr 1 (.t 4), none⟩, ⟨some 16, .load none (.t 15), none⟩, ⟨some 17, .call (.c (.fn (.func 26) [] [])) [(.t 13), (.t 14), (.t 16)], none⟩, ⟨some 18, .un .not (.t 17), none⟩, ⟨some 19, .mov (.t 18), none⟩, ⟨some 20, .load (some 1) (.t 3), (some (19, false))⟩, ⟨some 21, .mov (.t 2), (some (19, false))⟩, ⟨some 22, .faddr 0 (.t 4), (some (19, false))⟩, ⟨some 23, .load none (.t 22), (some (19, false))⟩, ⟨some 24, .call (.c (.fn (.func 26) [] [])) [(.t 20), (.t 21), (.t 23)], (some (19, false))⟩, ⟨some 25, .pick (.t 19) (.c (.bool true)) (.t 24), none⟩]
def zZc.r3 : List Cp := [⟨some 26, .load (some 5) (.t 7), none⟩, ⟨none, .store 5 (.t 6) (.t 26), none⟩]
def zZc.r4 : List Cp := [⟨some 27, .faddr 2 (.t 4), none⟩, ⟨some 28, .load none (.t 27), none⟩]
def zZc.r5 : List Cp := [⟨some 29, .load (some 1) (.t 3), none⟩, ⟨some 30, .faddr 0 (.t 4), none⟩, ⟨some 31, .load none (.t 30), none⟩, ⟨some 32, .call (.c (.fn (.func 40) [] [])) [(.t 29), (.t 31)], none⟩, ⟨some 8, .mov (.t 32), none⟩]
def zZc.r6 : List Cp := [⟨some 33, .mov (.t 8), none⟩, ⟨some 34, .mov (.t 2), none⟩, ⟨some 35, .call (.c (.fn (.func 50) [] [])) [(.t 33), (.t 34)], none⟩, ⟨some 36, .load (some 1) (.t 3), none⟩, ⟨some 37, .mov (.t 2), none⟩, ⟨some 38, .call (.c (.fn (.func 40) [] [])) [(.t 36), (.t 37)], none⟩, ⟨some 39, .len .l (.t 38), none⟩, ⟨some 40, .bin .add (.t 35) (.t 39), none⟩, ⟨some 9, .mov (.t 40), none⟩]
def zZc.r7 : List Cp := [⟨some 41, .mov (.t 9), none⟩, ⟨some 42, .mov (.t 8), none⟩, ⟨some 43, .len .l (.t 42), none⟩, ⟨some 44, .bin .lss (.t 41) (.t 43), none⟩]
def zZc.r8 : List Cp := [⟨some 45, .mov (.t 8), none⟩, ⟨some 46, .mov (.t 9), none⟩, ⟨some 47, .iaddr 1 (.t 45) (.t 46), none⟩, ⟨some 48, .load none (.t 47), none⟩, ⟨some 49, .faddr 1 (.t 7), none⟩, ⟨none, .store 1 (.t 49) (.t 48), none⟩]
def zZc.r9 : List Cp := [⟨some 50, .load (some 5) (.t 7), none⟩, ⟨none, .store 5 (.t 6) (.t 50), none⟩]
def zZc.r10 : List Cp := [⟨some 51, .faddr 2 (.t 7), none⟩, ⟨none, .store 1 (.t 51) (.c (.bool false)), none⟩]
def zZc.r11 : List Cp := [⟨some 52, .load (some 1) (.t 3), none⟩, ⟨some 53, .mov (.t 2), none⟩, ⟨some 54, .call (.c (.fn (.func 51) [] [])) [(.t 52), (.t 53)], none⟩, ⟨some 55, .field 8 none (.t 54), none⟩, ⟨some 56, .faddr 1 (.t 7), none⟩, ⟨none, .store 1 (.t 56) (.t 55), none⟩]
def zZc.r12 : List Cp := [⟨some 57, .load (some 1) (.t 3), none⟩, ⟨some 58, .mov (.t 2), none⟩, ⟨some 59, .call (.c (.fn (.func 52) [] [])) [(.t 57), (.t 58), (.c (.int .i64 (-1)))], none⟩, ⟨some 10, .mov (.t 59), none⟩]
def zZc.r13 : List Cp := [⟨some 60, .mov (.t 10), none⟩, ⟨some 61, .bin .neq (.t 60) (.c (.int .i64 0)), none⟩]
def zZc.r14 : List Cp := [⟨some 62, .load (some 1) (.t 3), none⟩, ⟨some 63, .mov (.t 10), none⟩, ⟨some 64, .call (.c (.fn (.func 53) [] [])) [(.t 62), (.t 63)], none⟩, ⟨some 65, .faddr 1 (.t 7), none⟩, ⟨none, .store 1 (.t 65) (.t 64), none⟩]
def zZc.r15 : List Cp := [⟨some 66, .load (some 5) (.t 7), none⟩, ⟨none, .store 5 (.t 6) (.t 66), none⟩]
def zZc.c : Cf := ⟨67, [.cell 6 (some 5)], (.seq (.region zZc.r0) (.seq (.region zZc.r1) (.seq (.seq (.region zZc.r2) (.cond (.t 25) (.seq (.region zZc.r3) .ret) .skip)) (.seq (.seq (.region zZc.r4) (.cond (.t 28) (.seq (.region zZc.r5) (.seq (.draw zZc.r6 [[], [], [0, 1], [], [], [3, 4, 2], [5], [2, 6], [7, 5, 0, 1, 2, 3, 4, 5, 6, 7]] [0, 1, 4, 7, 8]) (.seq (.seq (.region zZc.r7) (.cond (.t 44) (.seq (.region zZc.r8) (.seq (.region zZc.r9) .ret)) .skip)) (.region zZc.r10)))) .skip)) (.seq (.region zZc.r11) (.seq (.seq (.region zZc.r12) (.seq (.region zZc.r13) (.cond (.t 61) (.region zZc.r14) .skip))) (.seq (.region zZc.r15) .ret))))))), true⟩
abbrev zZc : V := .fn (.func 31) [] []
abbrev zZc.k : Nat := 31
def zZd.r0 : List Cp := [⟨some 3, .box (.t 0), none⟩, ⟨some 4, .box (.t 1), none⟩, ⟨some 6, .alloc [.int .i64 0, .int .i64 0, .bool false, .int .u32 0, .nils], none⟩]
def zZd.r1 : List Cp := [⟨some 13, .load (some 1) (.t 3), none⟩, ⟨some 14, .mov (.t 2), none⟩, ⟨some 15, .faddr 1 (.t 4), none⟩, ⟨some 16, .load none (.t 15), none⟩, ⟨some 17, .call (.c (.fn (.func 28) [] [])) [(.t 13), (.t 14), (.t 16)], none⟩, ⟨some 18, .un .not (.t 17), none⟩, ⟨some 19, .mov (.t 18), none⟩, ⟨some 20, .load (some 1) (.t 3), (some (19, false))⟩, ⟨some 21, .mov (.t 2), (some (19, false))⟩, ⟨some 22, .faddr 0 (.t 4), (some (19, false))⟩, ⟨some 23, .load none (.t 22), (some (19, false))⟩, ⟨some 24, .call (.c (.fn (.func 28) [] [])) [(.t 20), (.t 21), (.t 23)], (some (19, false))⟩, ⟨some 25, .pick (.t 19) (.c (.bool true)) (.t 24), none⟩]
def zZd.r2 : List Cp := [⟨some 26, .load (some 5) (.t 4), none⟩, ⟨none, .store 5 (.t 6) (.t 26), none⟩]
def zZd.r3 : List Cp := [⟨some 27, .load (some 1) (.t 3), none⟩, ⟨some 28, .faddr 0 (.t 4), none⟩, ⟨some 29, .load none (.t 28), none⟩, ⟨some 30, .call (.c (.fn (.func 35) [] [])) [(.t 27), (.t 29)], none⟩, ⟨some 7, .mov (.t 30), none⟩]
def zZd.r4 : List Cp := [⟨some 31, .load (some 1) (.t 3), none⟩, ⟨some 32, .mov (.t 2), none⟩, ⟨some 33, .call (.c (.fn (.func 35) [] [])) [(.t 31), (.t 32)], none⟩, ⟨some 8, .mov (.t 33), none⟩]
def zZd.r5 : List Cp := [⟨some 34, .mov (.t 7), none⟩, ⟨some 35, .mov (.t 2), none⟩, ⟨some 36, .call (.c (.fn (.func 36) [] [])) [(.t 34), (.t 35)], none⟩, ⟨some 37, .mov (.t 8), none⟩, ⟨some 38, .len .l (.t 37), none⟩, ⟨some 39, .bin .add (.t 36) (.t 38), none⟩, ⟨some 9, .mov (.t 39), none⟩]
def zZd.r6 : List Cp := [⟨some 40, .faddr 2 (.t 4), none⟩, ⟨some 41, .load none (.t 40), none⟩, ⟨some 42, .mov (.t 41), none⟩, ⟨some 43, .mov (.t 9), (some (42, true))⟩, ⟨some 44, .mov (.t 7), (some (42, true))⟩, ⟨some 45, .len .l (.t 44), (some (42, true))⟩, ⟨some 46, .bin .lss (.t 43) (.t 45), (some (42, true))⟩, ⟨some 47, .pick (.t 42) (.t 46) (.c (.bool false)), none⟩]
def zZd.r7 : List Cp := [⟨some 48, .mov (.t 7), none⟩, ⟨some 49, .mov (.t 9), none⟩, ⟨some 50, .iaddr 1 (.t 48) (.t 49), none⟩, ⟨some 51, .load none (.t 50), none⟩, ⟨some 52, .faddr 1 (.t 4), none⟩, ⟨none, .store 1 (.t 52) (.t 51), none⟩]
def zZd.r8 : List Cp := [⟨some 53, .load (some 5) (.t 4), none⟩, ⟨none, .store 5 (.t 6) (.t 53), none⟩]
def zZd.r9 : List Cp := [⟨some 54, .faddr 2 (.t 4), none⟩, ⟨none, .store 1 (.t 54) (.c (.bool false)), none⟩]
def zZd.r10 : List Cp := [⟨some 55, .load (some 1) (.t 3), none⟩, ⟨some 56, .mov (.t 2), none⟩, ⟨some 57, .call (.c (.fn (.func 54) [] [])) [(.t 55), (.t 56)], none⟩, ⟨some 58, .field 8 none (.t 57), none⟩, ⟨some 10, .mov (.t 58), none⟩]
def zZd.r11 : List Cp := [⟨some 59, .load (some 1) (.t 3), none⟩, ⟨some 60, .mov (.t 2), none⟩, ⟨some 61, .call (.c (.fn (.func 55) [] [])) [(.t 59), (.t 60)], none⟩, ⟨some 11, .mov (.t 61), none⟩]
def zZd.r12 : List Cp := [⟨some 62, .mov (.t 11), none⟩, ⟨some 63, .bin .eql (.t 62) (.c (.int .i64 0)), none⟩]
def zZd.r13 : List Cp := [⟨some 64, .mov (.t 10), none⟩, ⟨some 65, .faddr 1 (.t 4), none⟩, ⟨none, .store 1 (.t 65) (.t 64), none⟩]
def zZd.r14 : List Cp := [⟨some 66, .load (some 5) (.t 4), none⟩, ⟨none, .store 5 (.t 6) (.t 66), none⟩]
def zZd.r15 : List Cp := [⟨some 67, .load (some 1) (.t 3), none⟩, ⟨some 68, .load (some 1) (.t 3), none⟩, ⟨some 69, .mov (.t 10), none⟩, ⟨some 70, .call (.c (.fn (.func 54) [] [])) [(.t 68), (.t 69)], none⟩, ⟨some 71, .field 9 none (.t 70), none⟩, ⟨some 72, .mov (.t 11), none⟩, ⟨some 73, .bin .sub (.t 72) (.c (.int .i64 1)), none⟩, ⟨some 74, .iaddr 1 (.t 71) (.t 73), none⟩, ⟨some 75, .load none (.t 74), none⟩, ⟨some 76, .call (.c (.fn (.func 35) [] [])) [(.t 67), (.t 75)], none⟩, ⟨some 12, .mov (.t 76), none⟩]
def zZd.r16 : List Cp := [⟨some 77, .mov (.t 12), none⟩, ⟨some 78, .mov (.t 12), none⟩, ⟨some 79, .len .l (.t 78), none⟩, ⟨some 80, .bin .sub (.t 79) (.c (.int .i64 1)), none⟩, ⟨some 81, .iaddr 1 (.t 77) (.t 80), none⟩, ⟨some 82, .load none (.t 81), none⟩, ⟨some 83, .faddr 1 (.t 4), none⟩, ⟨none, .store 1 (.t 83) (.t 82), none⟩]
def zZd.r17 : List Cp := [⟨some 84, .load (some 5) (.t 4), none⟩, ⟨none, .store 5 (.t 6) (.t 84), none⟩]
def zZd.c : Cf := ⟨85, [.cell 6 (some 5)], (.seq (.region zZd.r0) (.seq (.seq (.region zZd.r1) (.cond (.t 25) (.seq (.region zZd.r2) .ret) .skip)) (.seq (.region zZd.r3) (.seq (.region zZd.r4) (.seq (.region zZd.r5) (.seq (.seq (.region zZd.r6) (.cond (.t 47) (.seq (.region zZd.r7) (.seq (.region zZd.r8) .ret)) .skip)) (.seq (.region zZd.r9) (.seq (.region zZd.r10) (.seq (.region zZd.r11) (.seq (.seq (.region zZd.r12) (.cond (.t 63) (.seq (.region zZd.r13) (.seq (.region zZd.r14) .ret)) .skip)) (.seq (.draw zZd.r15 [[], [], [], [1, 2], [3], [], [5], [4, 6], [7], [0, 8, 3], [9, 9, 0, 1, 2, 3, 4, 5, 6, 7, 8, 9]] [2, 4, 5, 6, 7, 10]) (.seq (.region zZd.r16) (.seq (.region zZd.r17) .ret))))))))))))), true⟩
abbrev zZd : V := .fn (.func 32) [] []
abbrev zZd.k : Nat := 32
def qZA.r0 : List Cp := [⟨some 0, .alloc [.int .i64 0, .bool false], none⟩, ⟨some 1, .alloc [.int .i64 0, .bool false], none⟩]
def qZA.r1 : List Cp := [⟨some 2, .build [.int .i64 0, .bool false] [(0, 1, (.c (.int .i64 1))), (1, 1, (.c (.bool false)))], none⟩, ⟨some 3, .build [.int .i64 0, .bool false] [(0, 1, (.c (.int .i64 (-1)))), (1, 1, (.c (.bool true)))], none⟩, ⟨none, .store 2 (.t 0) (.t 2), none⟩, ⟨none, .store 2 (.t 1) (.t 3), none⟩]
def qZA.c : Cf := ⟨4, [.cell 0 (some 2), .cell 1 (some 2)], (.seq (.region qZA.r0) (.seq (.region qZA.r1) .ret)), true⟩
abbrev qZA : V := .fn (.func 33) [] []
abbrev qZA.k : Nat := 33
def zZa.r0 : List Cp := [⟨some 3, .box (.t 0), none⟩, ⟨some 4, .box (.t 1), none⟩, ⟨some 5, .box (.t 2), none⟩, ⟨some 6, .alloc [.int .i64 0, .int .i64 0, .bool false, .int .u32 0, .nils], none⟩, ⟨some 7, .mov (.c (.int .i64 0)), none⟩, ⟨some 8, .mov (.c (.int .i64 0)), none⟩]
def zZa.r1 : List Cp := [⟨some 15, .load (some 1) (.t 4), none⟩, ⟨some 16, .load (some 5) (.t 5), none⟩, ⟨some 17, .call (.c (.fn (.func 11) [] [])) [(.t 15), (.t 16)], none⟩, ⟨some 9, .mov (.t 17), none⟩]
def zZa.r2 : List Cp := [⟨some 18, .mov (.t 9), none⟩, ⟨some 19, .bin .neq (.t 18) (.c (.int .i64 0)), none⟩]
def zZa.r3 : List Cp := [⟨some 20, .build [.int .i64 0, .int .i64 0, .bool false, .int .u32 0, .nils] [], none⟩, ⟨some 21, .mov (.t 9), none⟩, ⟨none, .store 5 (.t 6) (.t 20), none⟩, ⟨some 7, .mov (.c (.int .i64 0)), none⟩, ⟨some 8, .mov (.t 21), none⟩]
def zZa.r4 : List Cp := [⟨some 22, .load (some 1) (.t 4), none⟩, ⟨some 23, .faddr 0 (.t 5), none⟩, ⟨some 24, .load none (.t 23), none⟩, ⟨some 25, .call (.c (.fn (.func 40) [] [])) [(.t 22), (.t 24)], none⟩, ⟨some 10, .mov (.t 25), none⟩]
def zZa.r5 : List Cp := [⟨some 26, .mov (.t 10), none⟩, ⟨some 27, .faddr 1 (.t 5), none⟩, ⟨some 28, .load none (.t 27), none⟩, ⟨some 29, .call (.c (.fn (.func 50) [] [])) [(.t 26), (.t 28)], none⟩, ⟨some 11, .mov (.t 29), none⟩]
def zZa.r6 : List Cp := [⟨some 30, .faddr 2 (.t 5), none⟩, ⟨some 31, .load none (.t 30), none⟩, ⟨some 32, .faddr 1 (.t 3), none⟩, ⟨some 33, .load none (.t 32), none⟩, ⟨some 34, .eqc true (.leaf .b) (.t 31) (.t 33), none⟩, ⟨some 35, .mov (.t 34), none⟩, ⟨some 36, .faddr 0 (.t 3), (some (35, true))⟩, ⟨some 37, .load none (.t 36), (some (35, true))⟩, ⟨some 38, .bin .eql (.t 37) (.c (.int .i64 1)), (some (35, true))⟩, ⟨some 39, .faddr 2 (.t 5), (some (35, true))⟩, ⟨some 40, .load none (.t 39), (some (35, true))⟩, ⟨some 41, .eqc false (.leaf .b) (.t 38) (.t 40), (some (35, true))⟩, ⟨some 42, .pick (.t 35) (.t 41) (.c (.bool false)), none⟩]
def zZa.r7 : List Cp := [⟨some 43, .mov (.t 11), none⟩, ⟨some 44, .faddr 0 (.t 3), none⟩, ⟨some 45, .load none (.t 44), none⟩, ⟨some 46, .bin .sub (.t 43) (.t 45), none⟩, ⟨some 11, .mov (.t 46), none⟩]
def zZa.r8 : List Cp := [⟨some 47, .mov (.t 11), none⟩, ⟨some 48, .faddr 0 (.t 3), none⟩, ⟨some 49, .load none (.t 48), none⟩, ⟨some 50, .bin .add (.t 47) (.t 49), none⟩, ⟨some 11, .mov (.t 50), none⟩]
def zZa.r9 : List Cp := [⟨some 51, .mov (.t 11), none⟩, ⟨some 52, .bin .geq (.t 51) (.c (.int .i64 0)), none⟩, ⟨some 53, .mov (.t 52), none⟩, ⟨some 54, .mov (.t 11), (some (53, true))⟩, ⟨some 55, .mov (.t 10), (some (53, true))⟩, ⟨some 56, .len .l (.t 55), (some (53, true))⟩, ⟨some 57, .bin .lss (.t 54) (.t 56), (some (53, true))⟩, ⟨some 58, .pick (.t 53) (.t 57) (.c (.bool false)), none⟩]
def zZa.r10 : List Cp := [⟨some 64, .load (some 1) (.t 4), none⟩, ⟨some 65, .faddr 3 (.t 5), none⟩, ⟨some 66, .load (some 2) (.t 65), none⟩, ⟨some 67, .mov (.t 10), none⟩, ⟨some 68, .mov (.t 11), none⟩, ⟨some 69, .iaddr 1 (.t 67) (.t 68), none⟩, ⟨some 70, .load none (.t 69), none⟩, ⟨some 71, .call (.c (.fn (.func 21) [] [])) [(.t 64), (.t 66), (.t 70)], none⟩, ⟨some 63, .mov (.t 71), none⟩, ⟨some 72, .ext (.t 63) 0, none⟩, ⟨some 73, .ext (.t 63) 1, none⟩, ⟨some 12, .mov (.t 72), none⟩, ⟨some 13, .mov (.t 73), none⟩]
def zZa.r11 : List Cp := [⟨some 74, .mov (.t 12), none⟩, ⟨some 75, .bin .eql (.t 74) (.c (.int .u8 1)), none⟩]
def zZa.r12 : List Cp := [⟨some 76, .load (some 5) (.t 5), none⟩, ⟨some 77, .call (.c (.fn (.func 22) [] [])) [(.t 76)], none⟩, ⟨some 14, .alloc [.int .i64 0, .int .i64 0, .bool false, .int .u32 0, .nils], none⟩, ⟨none, .store 5 (.t 14) (.t 77), none⟩]
def zZa.r13 : List Cp := [⟨some 78, .mov (.t 10), none⟩, ⟨some 79, .mov (.t 11), none⟩, ⟨some 80, .iaddr 1 (.t 78) (.t 79), none⟩, ⟨some 81, .load none (.t 80), none⟩, ⟨some 82, .faddr 1 (.t 3), none⟩, ⟨some 83, .load none (.t 82), none⟩, ⟨some 84, .faddr 1 (.t 14), none⟩, ⟨none, .store 1 (.t 84) (.t 81), none⟩, ⟨some 85, .faddr 2 (.t 14), none⟩, ⟨none, .store 1 (.t 85) (.t 83), none⟩]
def zZa.r14 : List Cp := [⟨some 86, .load (some 5) (.t 14), none⟩, ⟨some 87, .mov (.t 10), none⟩, ⟨some 88, .mov (.t 11), none⟩, ⟨some 89, .iaddr 1 (.t 87) (.t 88), none⟩, ⟨some 90, .load none (.t 89), none⟩, ⟨none, .store 5 (.t 6) (.t 86), none⟩, ⟨some 7, .mov (.t 90), none⟩, ⟨some 8, .mov (.c (.int .i64 0)), none⟩]
def zZa.r15 : List Cp := [⟨some 59, .mov (.t 11), none⟩, ⟨some 60, .faddr 0 (.t 3), none⟩, ⟨some 61, .load none (.t 60), none⟩, ⟨some 62, .bin .add (.t 59) (.t 61), none⟩, ⟨some 11, .mov (.t 62), none⟩]
def zZa.b16 : Cc := (.seq (.seq (.region zZa.r9) (.cond (.t 58) .skip (.exit 0))) (.seq (.block 1 (.seq (.draw zZa.r10 [[], [], [1], [], [], [3, 4], [5], [0, 2, 6], [7], [8], [8], [9, 7, 0, 1, 2, 3, 4, 5, 6, 7, 8, 9], [10, 11, 0, 1, 2, 3, 4, 5, 6, 7, 8, 9, 10, 11]] [1, 3, 4, 5, 8, 9, 10, 11, 12]) (.seq (.region zZa.r11) (.cond (.t 75) (.seq (.region zZa.r12) (.seq (.draw zZa.r13 [[], [], [0, 1], [2], [], [4], [0, 1, 2, 3], [6, 3, 0, 1, 2, 3], [0, 1, 2, 3, 4, 5, 6, 7], [8, 5, 7, 0, 1, 2, 3, 4, 5, 6, 7]] [0, 1, 2, 4, 6, 8]) (.seq (.draw zZa.r14 [[], [], [], [1, 2], [3], [0, 0], [4, 5, 0, 1, 2, 3, 4, 5], [6, 0, 1, 2, 3, 4, 5, 6]] [1, 2, 3, 6, 7]) .ret))) .skip)))) (.region zZa.r15)))
def zZa.r17 : List Cp := [⟨some 91, .load (some 5) (.t 5), none⟩, ⟨some 92, .call (.c (.fn (.func 22) [] [])) [(.t 91)], none⟩, ⟨none, .store 5 (.t 6) (.t 92), none⟩, ⟨some 7, .mov (.c (.int .i64 0)), none⟩, ⟨some 8, .mov (.c (.int .i64 0)), none⟩]
def zZa.c : Cf := ⟨93, [.cell 6 (some 5), .tmp 7, .tmp 8], (.seq (.region zZa.r0) (.seq (.seq (.region zZa.r1) (.seq (.region zZa.r2) (.cond (.t 19) (.seq (.region zZa.r3) .ret) .skip))) (.seq (.region zZa.r4) (.seq (.region zZa.r5) (.seq (.seq (.region zZa.r6) (.cond (.t 42) (.region zZa.r7) .skip)) (.seq (.seq (.region zZa.r8) (.block 0 (.loop zZa.b16))) (.seq (.region zZa.r17) .ret))))))), true⟩
abbrev zZa : V := .fn (.func 34) [] []
abbrev zZa.k : Nat := 34
def zZ2.r0 : List Cp := [⟨some 2, .box (.t 0), none⟩, ⟨some 4, .mov (.c (.nils)), none⟩]
def zZ2.r1 : List Cp := [⟨some 8, .mov (.t 1), none⟩, ⟨some 9, .bslice [.int .i64 0] 1 1 [(0, (.t 8))], none⟩, ⟨some 5, .mov (.t 9), none⟩]
def zZ2.r2 : List Cp := [⟨some 10, .load (some 1) (.t 2), none⟩, ⟨some 11, .mov (.t 1), none⟩, ⟨some 12, .call (.c (.fn (.func 54) [] [])) [(.t 10), (.t 11)], none⟩, ⟨some 13, .field 9 none (.t 12), none⟩, ⟨some 6, .mov (.t 13), none⟩]
def zZ2.r3 : List Cp := [⟨some 7, .mov (.c (.int .i64 0)), none⟩]
def zZ2.r4 : List Cp := [⟨some 14, .mov (.t 7), none⟩, ⟨some 15, .mov (.t 6), none⟩, ⟨some 16, .len .l (.t 15), none⟩, ⟨some 17, .bin .lss (.t 14) (.t 16), none⟩]
def zZ2.r5 : List Cp := [⟨some 20, .mov (.t 5), none⟩, ⟨some 21, .load (some 1) (.t 2), none⟩, ⟨some 22, .mov (.t 6), none⟩, ⟨some 23, .mov (.t 7), none⟩, ⟨some 24, .iaddr 1 (.t 22) (.t 23), none⟩, ⟨some 25, .load none (.t 24), none⟩, ⟨some 26, .call (.c (.fn (.func 35) [] [])) [(.t 21), (.t 25)], none⟩, ⟨some 27, .app 1 8 (.t 20) (.t 26), none⟩, ⟨some 5, .mov (.t 27), none⟩]
def zZ2.r6 : List Cp := [⟨some 18, .mov (.t 7), none⟩, ⟨some 19, .bin .add (.t 18) (.c (.int .i64 1)), none⟩, ⟨some 7, .mov (.t 19), none⟩]
def zZ2.b7 : Cc := (.seq (.seq (.region zZ2.r4) (.cond (.t 17) .skip (.exit 0))) (.seq (.block 1 (.draw zZ2.r5 [[], [], [], [], [2, 3], [4], [1, 5], [0, 6, 6], [7, 7, 0, 1, 2, 3, 4, 5, 6, 7]] [0, 2, 3, 4, 8])) (.region zZ2.r6)))
def zZ2.r8 : List Cp := [⟨some 28, .mov (.t 5), none⟩, ⟨some 4, .mov (.t 28), none⟩]
def zZ2.c : Cf := ⟨29, [.tmp 4], (.seq (.region zZ2.r0) (.seq (.region zZ2.r1) (.seq (.region zZ2.r2) (.seq (.seq (.region zZ2.r3) (.block 0 (.loop zZ2.b7))) (.seq (.region zZ2.r8) .ret))))), true⟩
abbrev zZ2 : V := .fn (.func 35) [] []
abbrev zZ2.k : Nat := 35
def zZY.r0 : List Cp := [⟨some 4, .mov (.c (.int .i64 0)), none⟩]
def zZY.r1 : List Cp := [⟨some 5, .mov (.c (.int .i64 0)), none⟩]
def zZY.r2 : List Cp := [⟨some 6, .mov (.t 5), none⟩, ⟨some 7, .mov (.t 0), none⟩, ⟨some 8, .len .l (.t 7), none⟩, ⟨some 9, .bin .lss (.t 6) (.t 8), none⟩]
def zZY.r3 : List Cp := [⟨some 12, .mov (.t 0), none⟩, ⟨some 13, .mov (.t 5), none⟩, ⟨some 14, .iaddr 1 (.t 12) (.t 13), none⟩, ⟨some 15, .load none (.t 14), none⟩, ⟨some 16, .mov (.t 1), none⟩, ⟨some 17, .bin .eql (.t 15) (.t 16), none⟩]
def zZY.r4 : List Cp := [⟨some 18, .mov (.t 5), none⟩, ⟨some 4, .mov (.t 18), none⟩]
def zZY.r5 : List Cp := [⟨some 10, .mov (.t 5), none⟩, ⟨some 11, .bin .add (.t 10) (.c (.int .i64 1)), none⟩, ⟨some 5, .mov (.t 11), none⟩]
def zZY.b6 : Cc := (.seq (.seq (.region zZY.r2) (.cond (.t 9) .skip (.exit 0))) (.seq (.block 1 (.seq (.region zZY.r3) (.cond (.t 17) (.seq (.region zZY.r4) .ret) .skip))) (.region zZY.r5)))
def zZY.r7 : List Cp := [⟨some 4, .mov (.c (.int .i64 (-1))), none⟩]
def zZY.c : Cf := ⟨19, [.tmp 4], (.seq (.region zZY.r0) (.seq (.seq (.region zZY.r1) (.block 0 (.loop zZY.b6))) (.seq (.region zZY.r7) .ret))), true⟩
abbrev zZY : V := .fn (.func 36) [] []
abbrev zZY.k : Nat := 36
def qZi.r0 : List Cp := [⟨some 3, .box (.t 0), none⟩, ⟨some 4, .box (.t 1), none⟩, ⟨some 6, .mov (.c (.bool false)), none⟩]
def qZi.r1 : List Cp := [⟨some 7, .load (some 1) (.t 3), none⟩, ⟨some 8, .faddr 3 (.t 4), none⟩, ⟨some 9, .load (some 2) (.t 8), none⟩, ⟨some 10, .mov (.t 2), none⟩, ⟨some 11, .call (.c (.fn (.func 45) [] [])) [(.t 7), (.t 9), (.t 10)], none⟩, ⟨some 12, .bin .eql (.t 11) (.c (.int .u8 1)), none⟩, ⟨some 6, .mov (.t 12), none⟩]
def qZi.c : Cf := ⟨13, [.tmp 6], (.seq (.region qZi.r0) (.seq (.region qZi.r1) .ret)), true⟩
abbrev qZi : V := .fn (.func 37) [] []
abbrev qZi.k : Nat := 37
def qZw.r0 : List Cp := [⟨some 3, .box (.t 0), none⟩, ⟨some 6, .mov (.c (.nils)), none⟩, ⟨some 7, .mov (.c (.int .i64 0)), none⟩]
def qZw.r1 : List Cp := [⟨some 8, .mov (.c (.nils)), none⟩]
def qZw.r2 : List Cp := [⟨some 10, .load (some 1) (.t 3), none⟩, ⟨some 11, .mov (.t 2), none⟩, ⟨some 12, .call (.c (.fn (.func 25) [] [])) [(.t 10), (.t 11)], none⟩, ⟨some 9, .mov (.t 12), none⟩]
def qZw.r3 : List Cp := [⟨some 13, .mov (.t 9), none⟩, ⟨some 14, .bin .neq (.t 13) (.c (.int .i64 0)), none⟩]
def qZw.r4 : List Cp := [⟨some 15, .mov (.t 8), none⟩, ⟨some 16, .mov (.t 9), none⟩, ⟨some 6, .mov (.t 15), none⟩, ⟨some 7, .mov (.t 16), none⟩]
def qZw.r5 : List Cp := [⟨some 17, .mov (.t 1), none⟩, ⟨some 18, .call (.t 17) [], none⟩, ⟨some 6, .mov (.t 18), none⟩, ⟨some 7, .mov (.c (.int .i64 0)), none⟩]
def qZw.c : Cf := ⟨19, [.tmp 6, .tmp 7], (.seq (.region qZw.r0) (.seq (.region qZw.r1) (.seq (.seq (.region qZw.r2) (.seq (.region qZw.r3) (.cond (.t 14) (.seq (.region qZw.r4) .ret) .skip))) (.seq (.region qZw.r5) .ret)))), false⟩
abbrev qZw : V := .fn (.func 38) [] []
abbrev qZw.k : Nat := 38
def qZO.r0 : List Cp := [⟨some 2, .mov (.c (.nils)), none⟩]
def qZO.r1 : List Cp := [⟨some 3, .load (some 1) (.t 0), none⟩, ⟨some 4, .load none (.t 1), none⟩, ⟨some 5, .call (.c (.fn (.func 40) [] [])) [(.t 3), (.t 4)], none⟩, ⟨some 2, .mov (.t 5), none⟩]
def qZO.c : Cf := ⟨6, [.tmp 2], (.seq (.region qZO.r0) (.seq (.region qZO.r1) .ret)), false⟩
abbrev qZO : V := .fn (.func 39) [] []
abbrev qZO.k : Nat := 39
def qZL.r0 : List Cp := [⟨some 2, .box (.t 0), none⟩, ⟨some 4, .mov (.c (.nils)), none⟩]
def qZL.r1 : List Cp := [⟨some 5, .load (some 1) (.t 2), none⟩, ⟨some 6, .mov (.t 1), none⟩, ⟨some 7, .call (.c (.fn (.func 57) [] [])) [(.t 5), (.t 6)], none⟩, ⟨some 8, .call (.c (.fn (.func 56) [] [])) [(.t 7)], none⟩, ⟨some 4, .mov (.t 8), none⟩]
def qZL.c : Cf := ⟨9, [.tmp 4], (.seq (.region qZL.r0) (.seq (.region qZL.r1) .ret)), true⟩
abbrev qZL : V := .fn (.func 40) [] []
abbrev qZL.k : Nat := 40
def zZq.r0 : List Cp := [⟨some 3, .box (.t 0), none⟩, ⟨some 4, .box (.t 1), none⟩, ⟨some 6, .mov (.c (.int .i64 0)), none⟩]
def zZq.r1 : List Cp := [⟨some 10, .load (some 1) (.t 3), none⟩, ⟨some 11, .mov (.t 2), none⟩, ⟨some 12, .call (.c (.fn (.func 25) [] [])) [(.t 10), (.t 11)], none⟩, ⟨some 7, .mov (.t 12), none⟩]
def zZq.r2 : List Cp := [⟨some 13, .mov (.t 7), none⟩, ⟨some 14, .bin .neq (.t 13) (.c (.int .i64 0)), none⟩]
def zZq.r3 : List Cp := [⟨some 15, .mov (.t 7), none⟩, ⟨some 6, .mov (.t 15), none⟩]
def zZq.r4 : List Cp := [⟨some 16, .faddr 1 (.t 4), none⟩, ⟨some 17, .load none (.t 16), none⟩, ⟨some 18, .len .l (.t 17), none⟩, ⟨some 19, .bin .gtr (.t 18) (.c (.int .i64 64)), none⟩]
def zZq.r5 : List Cp := [⟨some 6, .mov (.c (.int .i64 3)), none⟩]
def zZq.r6 : List Cp := [⟨some 20, .faddr 1 (.t 4), none⟩, ⟨some 21, .load none (.t 20), none⟩, ⟨some 22, .len .l (.t 21), none⟩, ⟨some 23, .mov (.c (.int .i64 0)), none⟩]
def zZq.r7 : List Cp := [⟨some 24, .bin .lss (.t 23) (.t 22), none⟩]
def zZq.r8 : List Cp := [⟨some 25, .iaddr 3 (.t 21) (.t 23), none⟩, ⟨some 26, .load (some 3) (.t 25), none⟩, ⟨some 9, .alloc [.int .u8 0, .str ⟨#[]⟩, .int .u8 0], none⟩, ⟨none, .store 3 (.t 9) (.t 26), none⟩]
def zZq.r9 : List Cp := [⟨some 27, .faddr 2 (.t 9), none⟩, ⟨some 28, .load none (.t 27), none⟩]
def zZq.r10 : List Cp := [⟨some 30, .bin .eql (.t 28) (.c (.int .u8 1)), none⟩, ⟨some 29, .mov (.t 30), none⟩]
def zZq.r11 : List Cp := [⟨some 31, .bin .eql (.t 28) (.c (.int .u8 2)), none⟩, ⟨some 29, .mov (.t 31), none⟩]
def zZq.r12 : List Cp := [⟨some 32, .bin .eql (.t 28) (.c (.int .u8 3)), none⟩, ⟨some 29, .mov (.t 32), none⟩]
def zZq.r13 : List Cp := [⟨some 6, .mov (.c (.int .i64 23)), none⟩]
def zZq.r14 : List Cp := [⟨some 33, .bin .add (.t 23) (.c (.int .i64 1)), none⟩, ⟨some 23, .mov (.t 33), none⟩]
def zZq.b15 : Cc := (.seq (.region zZq.r7) (.seq (.cond (.t 24) .skip (.exit 0)) (.seq (.block 1 (.seq (.region zZq.r8) (.seq (.region zZq.r9) (.block 2 (.seq (.seq (.region zZq.r10) (.cond (.t 29) .skip (.seq (.region zZq.r11) (.cond (.t 29) .skip (.region zZq.r12))))) (.cond (.t 29) .skip (.seq (.region zZq.r13) .ret))))))) (.region zZq.r14))))
def zZq.r16 : List Cp := [⟨some 6, .mov (.c (.int .i64 0)), none⟩]
def zZq.c : Cf := ⟨34, [.tmp 6], (.seq (.region zZq.r0) (.seq (.seq (.region zZq.r1) (.seq (.region zZq.r2) (.cond (.t 14) (.seq (.region zZq.r3) .ret) .skip))) (.seq (.seq (.region zZq.r4) (.cond (.t 19) (.seq (.region zZq.r5) .ret) .skip)) (.seq (.seq (.region zZq.r6) (.block 0 (.loop zZq.b15))) (.seq (.region zZq.r16) .ret))))), true⟩
abbrev zZq : V := .fn (.func 41) [] []
abbrev zZq.k : Nat := 41
def zZh.r0 : List Cp := [⟨some 3, .box (.t 0), none⟩, ⟨some 4, .box (.t 1), none⟩, ⟨some 6, .mov (.c (.int .u8 0)), none⟩]
def zZh.r1 : List Cp := [⟨some 11, .load (some 1) (.t 3), none⟩, ⟨some 12, .mov (.t 2), none⟩, ⟨some 13, .call (.c (.fn (.func 51) [] [])) [(.t 11), (.t 12)], none⟩, ⟨some 7, .alloc [.int .u8 0, .str ⟨#[]⟩, .str ⟨#[]⟩, .str ⟨#[]⟩, .str ⟨#[]⟩, .str ⟨#[]⟩, .nils, .nils, .int .i64 0, .nils, .int .i64 0, .int .i64 0, .int .i64 0, .int .u8 0, .bool false, .bool false], none⟩, ⟨none, .store 16 (.t 7) (.t 13), none⟩]
def zZh.r2 : List Cp := [⟨some 14, .faddr 0 (.t 7), none⟩, ⟨some 15, .load none (.t 14), none⟩, ⟨some 8, .mov (.t 15), none⟩]
def zZh.r3 : List Cp := [⟨some 16, .mov (.t 8), none⟩, ⟨some 17, .bin .eql (.t 16) (.c (.int .u8 12)), none⟩]
def zZh.r4 : List Cp := [⟨some 8, .mov (.c (.int .u8 11)), none⟩]
def zZh.r5 : List Cp := [⟨some 18, .faddr 0 (.t 4), none⟩, ⟨some 19, .load none (.t 18), none⟩, ⟨some 20, .mov (.t 8), none⟩, ⟨some 21, .bin .sub (.t 20) (.c (.int .u8 1)), none⟩, ⟨some 22, .bin .shl (.c (.int .u32 1)) (.t 21), none⟩, ⟨some 23, .bin .and (.t 19) (.t 22), none⟩, ⟨some 24, .bin .eql (.t 23) (.c (.int .u32 0)), none⟩]
def zZh.r6 : List Cp := [⟨some 6, .mov (.c (.int .u8 3)), none⟩]
def zZh.r7 : List Cp := [⟨some 25, .faddr 1 (.t 4), none⟩, ⟨some 26, .load none (.t 25), none⟩, ⟨some 27, .len .l (.t 26), none⟩, ⟨some 28, .mov (.c (.int .i64 0)), none⟩]
def zZh.r8 : List Cp := [⟨some 29, .bin .lss (.t 28) (.t 27), none⟩]
def zZh.r9 : List Cp := [⟨some 30, .iaddr 3 (.t 26) (.t 28), none⟩, ⟨some 31, .load (some 3) (.t 30), none⟩, ⟨some 10, .alloc [.int .u8 0, .str ⟨#[]⟩, .int .u8 0], none⟩, ⟨none, .store 3 (.t 10) (.t 31), none⟩]
def zZh.r10 : List Cp := [⟨some 32, .faddr 0 (.t 10), none⟩, ⟨some 33, .load none (.t 32), none⟩, ⟨some 34, .bin .eql (.t 33) (.c (.int .u8 0)), none⟩, ⟨some 35, .mov (.t 34), none⟩, ⟨some 36, .faddr 0 (.t 10), (some (35, false))⟩, ⟨some 37, .load none (.t 36), (some (35, false))⟩, ⟨some 38, .faddr 0 (.t 7), (some (35, false))⟩, ⟨some 39, .load none (.t 38), (some (35, false))⟩, ⟨some 40, .bin .eql (.t 37) (.t 39), (some (35, false))⟩, ⟨some 41, .pick (.t 35) (.c (.bool true)) (.t 40), none⟩, ⟨some 42, .mov (.t 41), none⟩, ⟨some 43, .faddr 1 (.t 10), (some (42, true))⟩, ⟨some 44, .load none (.t 43), (some (42, true))⟩, ⟨some 45, .bin .eql (.t 44) (.c (.str ⟨#[]⟩)), (some (42, true))⟩, ⟨some 46, .mov (.t 45), (some (42, true))⟩, ⟨some 47, .faddr 1 (.t 10), (some (46, false))⟩, ⟨some 48, .load none (.t 47), (some (46, false))⟩, ⟨some 49, .faddr 1 (.t 7), (some (46, false))⟩, ⟨some 50, .faddr 2 (.t 49), (some (46, false))⟩, ⟨some 51, .load none (.t 50), (some (46, false))⟩, ⟨some 52, .bin .eql (.t 48) (.t 51), (some (46, false))⟩, ⟨some 53, .pick (.t 46) (.c (.bool true)) (.t 52), (some (42, true))⟩, ⟨some 54, .pick (.t 42) (.t 53) (.c (.bool false)), none⟩]
def zZh.r11 : List Cp := [⟨some 55, .faddr 2 (.t 10), none⟩, ⟨some 56, .load none (.t 55), none⟩, ⟨some 6, .mov (.t 56), none⟩]
def zZh.r12 : List Cp := [⟨some 57, .bin .add (.t 28) (.c (.int .i64 1)), none⟩, ⟨some 28, .mov (.t 57), none⟩]
def zZh.b13 : Cc := (.seq (.region zZh.r8) (.seq (.cond (.t 29) .skip (.exit 0)) (.seq (.block 1 (.seq (.region zZh.r9) (.seq (.region zZh.r10) (.cond (.t 54) (.seq (.region zZh.r11) .ret) .skip)))) (.region zZh.r12))))
def zZh.r14 : List Cp := [⟨some 6, .mov (.c (.int .u8 1)), none⟩]
def zZh.c : Cf := ⟨58, [.tmp 6], (.seq (.region zZh.r0) (.seq (.region zZh.r1) (.seq (.region zZh.r2) (.seq (.seq (.region zZh.r3) (.cond (.t 17) (.region zZh.r4) .skip)) (.seq (.seq (.region zZh.r5) (.cond (.t 24) (.seq (.region zZh.r6) .ret) .skip)) (.seq (.seq (.region zZh.r7) (.block 0 (.loop zZh.b13))) (.seq (.region zZh.r14) .ret))))))), true⟩
abbrev zZh : V := .fn (.func 42) [] []
abbrev zZh.k : Nat := 42
def zZU.r0 : List Cp := [⟨some 2, .box (.t 0), none⟩, ⟨some 4, .mov (.c (.int .i64 0)), none⟩]
def zZU.r1 : List Cp := [⟨some 7, .load (some 1) (.t 2), none⟩, ⟨some 8, .call (.c (.fn (.func 30) [] [])) [(.t 7)], none⟩, ⟨some 9, .un .not (.t 8), none⟩]
def zZU.r2 : List Cp := [⟨some 4, .mov (.c (.int .i64 5)), none⟩]
def zZU.r3 : List Cp := [⟨some 11, .load (some 1) (.t 2), none⟩, ⟨some 12, .mov (.t 1), none⟩, ⟨some 13, .call (.c (.fn (.func 58) [] [])) [(.t 11), (.t 12)], none⟩, ⟨some 10, .mov (.t 13), none⟩, ⟨some 14, .ext (.t 10) 0, none⟩, ⟨some 15, .ext (.t 10) 1, none⟩, ⟨some 5, .alloc [.int .u8 0, .str ⟨#[]⟩, .str ⟨#[]⟩, .str ⟨#[]⟩, .str ⟨#[]⟩, .str ⟨#[]⟩, .nils, .nils, .int .i64 0, .nils, .int .i64 0, .int .i64 0, .int .i64 0, .int .u8 0, .bool false, .bool false], none⟩, ⟨none, .store 16 (.t 5) (.t 14), none⟩, ⟨some 6, .mov (.t 15), none⟩]
def zZU.r4 : List Cp := [⟨some 16, .mov (.t 6), none⟩, ⟨some 17, .un .not (.t 16), none⟩]
def zZU.r5 : List Cp := [⟨some 4, .mov (.c (.int .i64 2)), none⟩]
def zZU.r6 : List Cp := [⟨some 4, .mov (.c (.int .i64 0)), none⟩]
def zZU.c : Cf := ⟨18, [.tmp 4], (.seq (.region zZU.r0) (.seq (.seq (.region zZU.r1) (.cond (.t 9) (.seq (.region zZU.r2) .ret) .skip)) (.seq (.region zZU.r3) (.seq (.seq (.region zZU.r4) (.cond (.t 17) (.seq (.region zZU.r5) .ret) .skip)) (.seq (.region zZU.r6) .ret))))), true⟩
abbrev zZU : V := .fn (.func 43) [] []
abbrev zZU.k : Nat := 43
def zZB.r0 : List Cp := [⟨some 1, .box (.t 0), none⟩, ⟨some 2, .mov (.c (.int .i64 0)), none⟩]
def zZB.r1 : List Cp := [⟨some 5, .faddr 1 (.t 1), none⟩, ⟨some 6, .load none (.t 5), none⟩, ⟨some 7, .len .l (.t 6), none⟩, ⟨some 8, .bin .gtr (.t 7) (.c (.int .i64 64)), none⟩]
def zZB.r2 : List Cp := [⟨some 2, .mov (.c (.int .i64 3)), none⟩]
def zZB.r3 : List Cp := [⟨some 9, .faddr 1 (.t 1), none⟩, ⟨some 10, .load none (.t 9), none⟩, ⟨some 11, .len .l (.t 10), none⟩, ⟨some 12, .mov (.c (.int .i64 0)), none⟩]
def zZB.r4 : List Cp := [⟨some 13, .bin .lss (.t 12) (.t 11), none⟩]
def zZB.r5 : List Cp := [⟨some 14, .iaddr 3 (.t 10) (.t 12), none⟩, ⟨some 15, .load (some 3) (.t 14), none⟩, ⟨some 4, .alloc [.int .u8 0, .str ⟨#[]⟩, .int .u8 0], none⟩, ⟨none, .store 3 (.t 4) (.t 15), none⟩]
def zZB.r6 : List Cp := [⟨some 16, .faddr 2 (.t 4), none⟩, ⟨some 17, .load none (.t 16), none⟩, ⟨some 18, .bin .lss (.t 17) (.c (.int .u8 1)), none⟩, ⟨some 19, .mov (.t 18), none⟩, ⟨some 20, .faddr 2 (.t 4), (some (19, false))⟩, ⟨some 21, .load none (.t 20), (some (19, false))⟩, ⟨some 22, .bin .gtr (.t 21) (.c (.int .u8 3)), (some (19, false))⟩, ⟨some 23, .pick (.t 19) (.c (.bool true)) (.t 22), none⟩]
def zZB.r7 : List Cp := [⟨some 2, .mov (.c (.int .i64 23)), none⟩]
def zZB.r8 : List Cp := [⟨some 24, .bin .add (.t 12) (.c (.int .i64 1)), none⟩, ⟨some 12, .mov (.t 24), none⟩]
def zZB.b9 : Cc := (.seq (.region zZB.r4) (.seq (.cond (.t 13) .skip (.exit 0)) (.seq (.block 1 (.seq (.region zZB.r5) (.seq (.region zZB.r6) (.cond (.t 23) (.seq (.region zZB.r7) .ret) .skip)))) (.region zZB.r8))))
def zZB.r10 : List Cp := [⟨some 2, .mov (.c (.int .i64 0)), none⟩]
def zZB.c : Cf := ⟨25, [.tmp 2], (.seq (.region zZB.r0) (.seq (.seq (.region zZB.r1) (.cond (.t 8) (.seq (.region zZB.r2) .ret) .skip)) (.seq (.seq (.region zZB.r3) (.block 0 (.loop zZB.b9))) (.seq (.region zZB.r10) .ret)))), true⟩
abbrev zZB : V := .fn (.func 44) [] []
abbrev zZB.k : Nat := 44
def zZf.r0 : List Cp := [⟨some 3, .box (.t 0), none⟩, ⟨some 4, .box (.t 1), none⟩, ⟨some 6, .mov (.c (.int .u8 0)), none⟩]
def zZf.r1 : List Cp := [⟨some 13, .load (some 1) (.t 3), none⟩, ⟨some 14, .mov (.t 2), none⟩, ⟨some 15, .call (.c (.fn (.func 58) [] [])) [(.t 13), (.t 14)], none⟩, ⟨some 12, .mov (.t 15), none⟩, ⟨some 16, .ext (.t 12) 0, none⟩, ⟨some 17, .ext (.t 12) 1, none⟩, ⟨some 7, .alloc [.int .u8 0, .str ⟨#[]⟩, .str ⟨#[]⟩, .str ⟨#[]⟩, .str ⟨#[]⟩, .str ⟨#[]⟩, .nils, .nils, .int .i64 0, .nils, .int .i64 0, .int .i64 0, .int .i64 0, .int .u8 0, .bool false, .bool false], none⟩, ⟨none, .store 16 (.t 7) (.t 16), none⟩, ⟨some 8, .mov (.t 17), none⟩]
def zZf.r2 : List Cp := [⟨some 18, .faddr 0 (.t 7), none⟩, ⟨some 19, .load none (.t 18), none⟩, ⟨some 9, .mov (.t 19), none⟩]
def zZf.r3 : List Cp := [⟨some 20, .mov (.t 9), none⟩, ⟨some 21, .bin .eql (.t 20) (.c (.int .u8 12)), none⟩]
def zZf.r4 : List Cp := [⟨some 9, .mov (.c (.int .u8 11)), none⟩]
def zZf.r5 : List Cp := [⟨some 22, .faddr 0 (.t 4), none⟩, ⟨some 23, .load none (.t 22), none⟩, ⟨some 24, .mov (.t 9), none⟩, ⟨some 25, .bin .sub (.t 24) (.c (.int .u8 1)), none⟩, ⟨some 26, .conv (.int .u64) (.t 25), none⟩, ⟨some 27, .bin .shr (.t 23) (.t 26), none⟩, ⟨some 28, .bin .rem (.t 27) (.c (.int .u32 2)), none⟩, ⟨some 29, .bin .eql (.t 28) (.c (.int .u32 0)), none⟩]
def zZf.r6 : List Cp := [⟨some 6, .mov (.c (.int .u8 3)), none⟩]
def zZf.r7 : List Cp := [⟨some 30, .faddr 1 (.t 4), none⟩, ⟨some 31, .load none (.t 30), none⟩, ⟨some 32, .len .l (.t 31), none⟩, ⟨some 33, .mov (.c (.int .i64 0)), none⟩]
def zZf.r8 : List Cp := [⟨some 34, .bin .lss (.t 33) (.t 32), none⟩]
def zZf.r9 : List Cp := [⟨some 35, .iaddr 3 (.t 31) (.t 33), none⟩, ⟨some 36, .load (some 3) (.t 35), none⟩, ⟨some 11, .alloc [.int .u8 0, .str ⟨#[]⟩, .int .u8 0], none⟩, ⟨none, .store 3 (.t 11) (.t 36), none⟩]
def zZf.r10 : List Cp := [⟨some 37, .faddr 0 (.t 11), none⟩, ⟨some 38, .load none (.t 37), none⟩, ⟨some 39, .bin .eql (.t 38) (.c (.int .u8 0)), none⟩, ⟨some 40, .mov (.t 39), none⟩, ⟨some 41, .faddr 0 (.t 11), (some (40, false))⟩, ⟨some 42, .load none (.t 41), (some (40, false))⟩, ⟨some 43, .faddr 0 (.t 7), (some (40, false))⟩, ⟨some 44, .load none (.t 43), (some (40, false))⟩, ⟨some 45, .bin .eql (.t 42) (.t 44), (some (40, false))⟩, ⟨some 46, .pick (.t 40) (.c (.bool true)) (.t 45), none⟩, ⟨some 47, .mov (.t 46), none⟩, ⟨some 48, .faddr 1 (.t 11), (some (47, true))⟩, ⟨some 49, .load none (.t 48), (some (47, true))⟩, ⟨some 50, .bin .eql (.t 49) (.c (.str ⟨#[]⟩)), (some (47, true))⟩, ⟨some 51, .mov (.t 50), (some (47, true))⟩, ⟨some 52, .faddr 1 (.t 11), (some (51, false))⟩, ⟨some 53, .load none (.t 52), (some (51, false))⟩, ⟨some 54, .faddr 1 (.t 7), (some (51, false))⟩, ⟨some 55, .faddr 2 (.t 54), (some (51, false))⟩, ⟨some 56, .load none (.t 55), (some (51, false))⟩, ⟨some 57, .bin .eql (.t 53) (.t 56), (some (51, false))⟩, ⟨some 58, .pick (.t 51) (.c (.bool true)) (.t 57), (some (47, true))⟩, ⟨some 59, .pick (.t 47) (.t 58) (.c (.bool false)), none⟩]
def zZf.r11 : List Cp := [⟨some 60, .faddr 2 (.t 11), none⟩, ⟨some 61, .load none (.t 60), none⟩, ⟨some 6, .mov (.t 61), none⟩]
def zZf.r12 : List Cp := [⟨some 62, .bin .add (.t 33) (.c (.int .i64 1)), none⟩, ⟨some 33, .mov (.t 62), none⟩]
def zZf.b13 : Cc := (.seq (.region zZf.r8) (.seq (.cond (.t 34) .skip (.exit 0)) (.seq (.block 1 (.seq (.region zZf.r9) (.seq (.region zZf.r10) (.cond (.t 59) (.seq (.region zZf.r11) .ret) .skip)))) (.region zZf.r12))))
def zZf.r14 : List Cp := [⟨some 6, .mov (.c (.int .u8 1)), none⟩]
def zZf.c : Cf := ⟨63, [.tmp 6], (.seq (.region zZf.r0) (.seq (.region zZf.r1) (.seq (.region zZf.r2) (.seq (.seq (.region zZf.r3) (.cond (.t 21) (.region zZf.r4) .skip)) (.seq (.seq (.region zZf.r5) (.cond (.t 29) (.seq (.region zZf.r6) .ret) .skip)) (.seq (.seq (.region zZf.r7) (.block 0 (.loop zZf.b13))) (.seq (.region zZf.r14) .ret))))))), true⟩
abbrev zZf : V := .fn (.func 45) [] []
abbrev zZf.k : Nat := 45
def zZx.r0 : List Cp := [⟨some 1, .box (.t 0), none⟩, ⟨some 2, .mov (.c (.int .i64 0)), none⟩, ⟨some 3, .mov (.c (.int .i64 0)), none⟩]
def zZx.r1 : List Cp := [⟨some 7, .faddr 0 (.t 1), none⟩, ⟨some 8, .load none (.t 7), none⟩, ⟨some 9, .len .l (.t 8), none⟩, ⟨some 10, .bin .gtr (.t 9) (.c (.int .i64 4096)), none⟩]
def zZx.r2 : List Cp := [⟨some 2, .mov (.c (.int .i64 5)), none⟩, ⟨some 3, .mov (.c (.int .i64 0)), none⟩]
def zZx.r3 : List Cp := [⟨some 11, .load (some 1) (.t 1), none⟩, ⟨some 12, .call (.c (.fn (.func 59) [] [])) [(.t 11)], none⟩, ⟨some 4, .mov (.t 12), none⟩]
def zZx.r4 : List Cp := [⟨some 13, .faddr 0 (.t 1), none⟩, ⟨some 14, .load none (.t 13), none⟩, ⟨some 15, .len .l (.t 14), none⟩, ⟨some 16, .mov (.c (.int .i64 0)), none⟩]
def zZx.r5 : List Cp := [⟨some 17, .bin .lss (.t 16) (.t 15), none⟩]
def zZx.r6 : List Cp := [⟨some 18, .mov (.t 16), none⟩, ⟨some 19, .iaddr 16 (.t 14) (.t 16), none⟩, ⟨some 20, .load (some 16) (.t 19), none⟩, ⟨some 6, .alloc [.int .u8 0, .str ⟨#[]⟩, .str ⟨#[]⟩, .str ⟨#[]⟩, .str ⟨#[]⟩, .str ⟨#[]⟩, .nils, .nils, .int .i64 0, .nils, .int .i64 0, .int .i64 0, .int .i64 0, .int .u8 0, .bool false, .bool false], none⟩, ⟨some 5, .mov (.t 18), none⟩, ⟨none, .store 16 (.t 6) (.t 20), none⟩]
def zZx.r7 : List Cp := [⟨some 21, .load (some 16) (.t 6), none⟩, ⟨some 22, .call (.c (.fn (.func 60) [] [])) [(.t 21)], none⟩, ⟨some 23, .un .not (.t 22), none⟩, ⟨some 24, .mov (.t 23), none⟩, ⟨some 25, .load (some 1) (.t 1), (some (24, false))⟩, ⟨some 26, .mov (.t 5), (some (24, false))⟩, ⟨some 27, .bin .add (.t 26) (.c (.int .i64 1)), (some (24, false))⟩, ⟨some 28, .call (.c (.fn (.func 61) [] [])) [(.t 25), (.t 27)], (some (24, false))⟩, ⟨some 29, .un .not (.t 28), (some (24, false))⟩, ⟨some 30, .pick (.t 24) (.c (.bool true)) (.t 29), none⟩, ⟨some 31, .mov (.t 30), none⟩, ⟨some 32, .mov (.t 4), (some (31, false))⟩, ⟨some 33, .mov (.t 5), (some (31, false))⟩, ⟨some 34, .bin .add (.t 33) (.c (.int .i64 1)), (some (31, false))⟩, ⟨some 35, .iaddr 1 (.t 32) (.t 34), (some (31, false))⟩, ⟨some 36, .load none (.t 35), (some (31, false))⟩, ⟨some 37, .un .not (.t 36), (some (31, false))⟩, ⟨some 38, .pick (.t 31) (.c (.bool true)) (.t 37), none⟩]
def zZx.r8 : List Cp := [⟨some 39, .mov (.t 5), none⟩, ⟨some 40, .bin .add (.t 39) (.c (.int .i64 1)), none⟩, ⟨some 2, .mov (.c (.int .i64 5)), none⟩, ⟨some 3, .mov (.t 40), none⟩]
def zZx.r9 : List Cp := [⟨some 41, .bin .add (.t 16) (.c (.int .i64 1)), none⟩, ⟨some 16, .mov (.t 41), none⟩]
def zZx.b10 : Cc := (.seq (.region zZx.r5) (.seq (.cond (.t 17) .skip (.exit 0)) (.seq (.block 1 (.seq (.region zZx.r6) (.seq (.region zZx.r7) (.cond (.t 38) (.seq (.region zZx.r8) .ret) .skip)))) (.region zZx.r9))))
def zZx.r11 : List Cp := [⟨some 2, .mov (.c (.int .i64 0)), none⟩, ⟨some 3, .mov (.c (.int .i64 0)), none⟩]
def zZx.c : Cf := ⟨42, [.tmp 2, .tmp 3], (.seq (.region zZx.r0) (.seq (.seq (.region zZx.r1) (.cond (.t 10) (.seq (.region zZx.r2) .ret) .skip)) (.seq (.region zZx.r3) (.seq (.seq (.region zZx.r4) (.block 0 (.loop zZx.b10))) (.seq (.region zZx.r11) .ret))))), true⟩
abbrev zZx : V := .fn (.func 46) [] []
abbrev zZx.k : Nat := 46
def qZC.r0 : List Cp := [⟨some 2, .box (.t 0), none⟩, ⟨some 3, .box (.t 1), none⟩, ⟨some 4, .mov (.c (.nilf)), none⟩]
def qZC.r1 : List Cp := [⟨some 5, .mkf (.func 62) [] [(.t 3), (.t 2)], none⟩, ⟨some 4, .mov (.t 5), none⟩]
def qZC.c : Cf := ⟨6, [.tmp 4], (.seq (.region qZC.r0) (.seq (.region qZC.r1) .ret)), false⟩
abbrev qZC : V := .fn (.func 47) [] []
abbrev qZC.k : Nat := 47
def zZI.r0 : List Cp := [⟨some 2, .box (.t 0), none⟩, ⟨some 4, .mov (.c (.nils)), none⟩]
def zZI.r1 : List Cp := [⟨some 5, .mov (.c (.nils)), none⟩]
def zZI.r2 : List Cp := [⟨some 6, .load (some 1) (.t 2), none⟩, ⟨some 7, .mov (.t 1), none⟩, ⟨some 8, .call (.c (.fn (.func 54) [] [])) [(.t 6), (.t 7)], none⟩, ⟨some 9, .field 8 none (.t 8), none⟩, ⟨some 10, .bin .neq (.t 9) (.c (.int .i64 0)), none⟩]
def zZI.r3 : List Cp := [⟨some 11, .load (some 1) (.t 2), none⟩, ⟨some 12, .mov (.t 1), none⟩, ⟨some 13, .call (.c (.fn (.func 54) [] [])) [(.t 11), (.t 12)], none⟩, ⟨some 14, .field 8 none (.t 13), none⟩, ⟨some 1, .mov (.t 14), none⟩]
def zZI.r4 : List Cp := [⟨some 15, .mov (.t 5), none⟩, ⟨some 16, .mov (.t 1), none⟩, ⟨some 17, .bslice [.int .i64 0] 1 1 [(0, (.t 16))], none⟩, ⟨some 18, .app 1 8 (.t 15) (.t 17), none⟩, ⟨some 5, .mov (.t 18), none⟩]
def zZI.b5 : Cc := (.seq (.seq (.region zZI.r2) (.cond (.t 10) .skip (.exit 0))) (.block 1 (.seq (.region zZI.r3) (.region zZI.r4))))
def zZI.r6 : List Cp := [⟨some 19, .mov (.t 5), none⟩, ⟨some 4, .mov (.t 19), none⟩]
def zZI.c : Cf := ⟨20, [.tmp 4], (.seq (.region zZI.r0) (.seq (.region zZI.r1) (.seq (.block 0 (.loop zZI.b5)) (.seq (.region zZI.r6) .ret)))), true⟩
abbrev zZI : V := .fn (.func 48) [] []
abbrev zZI.k : Nat := 48
def zZD.r0 : List Cp := [⟨some 1, .box (.t 0), none⟩, ⟨some 2, .mov (.c (.int .i64 0)), none⟩, ⟨some 3, .mov (.c (.int .i64 0)), none⟩]
def zZD.r1 : List Cp := [⟨some 6, .faddr 0 (.t 1), none⟩, ⟨some 7, .load none (.t 6), none⟩, ⟨some 8, .len .l (.t 7), none⟩, ⟨some 9, .bin .gtr (.t 8) (.c (.int .i64 4096)), none⟩]
def zZD.r2 : List Cp := [⟨some 2, .mov (.c (.int .i64 5)), none⟩, ⟨some 3, .mov (.c (.int .i64 0)), none⟩]
def zZD.r3 : List Cp := [⟨some 10, .faddr 0 (.t 1), none⟩, ⟨some 11, .load none (.t 10), none⟩, ⟨some 12, .len .l (.t 11), none⟩, ⟨some 13, .mov (.c (.int .i64 0)), none⟩]
def zZD.r4 : List Cp := [⟨some 14, .bin .lss (.t 13) (.t 12), none⟩]
def zZD.r5 : List Cp := [⟨some 15, .mov (.t 13), none⟩, ⟨some 16, .iaddr 16 (.t 11) (.t 13), none⟩, ⟨some 17, .load (some 16) (.t 16), none⟩, ⟨some 5, .alloc [.int .u8 0, .str ⟨#[]⟩, .str ⟨#[]⟩, .str ⟨#[]⟩, .str ⟨#[]⟩, .str ⟨#[]⟩, .nils, .nils, .int .i64 0, .nils, .int .i64 0, .int .i64 0, .int .i64 0, .int .u8 0, .bool false, .bool false], none⟩, ⟨some 4, .mov (.t 15), none⟩, ⟨none, .store 16 (.t 5) (.t 17), none⟩]
def zZD.r6 : List Cp := [⟨some 18, .load (some 16) (.t 5), none⟩, ⟨some 19, .call (.c (.fn (.func 63) [] [])) [(.t 18)], none⟩, ⟨some 20, .un .not (.t 19), none⟩, ⟨some 21, .mov (.t 20), none⟩, ⟨some 22, .load (some 1) (.t 1), (some (21, false))⟩, ⟨some 23, .mov (.t 4), (some (21, false))⟩, ⟨some 24, .bin .add (.t 23) (.c (.int .i64 1)), (some (21, false))⟩, ⟨some 25, .call (.c (.fn (.func 64) [] [])) [(.t 22), (.t 24)], (some (21, false))⟩, ⟨some 26, .un .not (.t 25), (some (21, false))⟩, ⟨some 27, .pick (.t 21) (.c (.bool true)) (.t 26), none⟩, ⟨some 28, .mov (.t 27), none⟩, ⟨some 29, .load (some 1) (.t 1), (some (28, false))⟩, ⟨some 30, .mov (.t 4), (some (28, false))⟩, ⟨some 31, .bin .add (.t 30) (.c (.int .i64 1)), (some (28, false))⟩, ⟨some 32, .call (.c (.fn (.func 65) [] [])) [(.t 29), (.t 31)], (some (28, false))⟩, ⟨some 33, .pick (.t 28) (.c (.bool true)) (.t 32), none⟩]
def zZD.r7 : List Cp := [⟨some 34, .mov (.t 4), none⟩, ⟨some 35, .bin .add (.t 34) (.c (.int .i64 1)), none⟩, ⟨some 2, .mov (.c (.int .i64 5)), none⟩, ⟨some 3, .mov (.t 35), none⟩]
def zZD.r8 : List Cp := [⟨some 36, .bin .add (.t 13) (.c (.int .i64 1)), none⟩, ⟨some 13, .mov (.t 36), none⟩]
def zZD.b9 : Cc := (.seq (.region zZD.r4) (.seq (.cond (.t 14) .skip (.exit 0)) (.seq (.block 1 (.seq (.region zZD.r5) (.seq (.region zZD.r6) (.cond (.t 33) (.seq (.region zZD.r7) .ret) .skip)))) (.region zZD.r8))))
def zZD.r10 : List Cp := [⟨some 2, .mov (.c (.int .i64 0)), none⟩, ⟨some 3, .mov (.c (.int .i64 0)), none⟩]
def zZD.c : Cf := ⟨37, [.tmp 2, .tmp 3], (.seq (.region zZD.r0) (.seq (.seq (.region zZD.r1) (.cond (.t 9) (.seq (.region zZD.r2) .ret) .skip)) (.seq (.seq (.region zZD.r3) (.block 0 (.loop zZD.b9))) (.seq (.region zZD.r10) .ret)))), true⟩
abbrev zZD : V := .fn (.func 49) [] []
abbrev zZD.k : Nat := 49
def zZo.r0 : List Cp := [⟨some 4, .mov (.c (.int .i64 0)), none⟩]
def zZo.r1 : List Cp := [⟨some 6, .mov (.t 0), none⟩, ⟨some 7, .len .l (.t 6), none⟩, ⟨some 8, .mov (.c (.int .i64 0)), none⟩]
def zZo.r2 : List Cp := [⟨some 9, .bin .lss (.t 8) (.t 7), none⟩]
def zZo.r3 : List Cp := [⟨some 10, .mov (.t 8), none⟩, ⟨some 5, .mov (.t 10), none⟩]
def zZo.r4 : List Cp := [⟨some 11, .mov (.t 1), none⟩, ⟨some 12, .mov (.t 0), none⟩, ⟨some 13, .mov (.t 5), none⟩, ⟨some 14, .iaddr 1 (.t 12) (.t 13), none⟩, ⟨some 15, .load none (.t 14), none⟩, ⟨some 16, .bin .eql (.t 11) (.t 15), none⟩]
def zZo.r5 : List Cp := [⟨some 17, .mov (.t 5), none⟩, ⟨some 4, .mov (.t 17), none⟩]
def zZo.r6 : List Cp := [⟨some 18, .bin .add (.t 8) (.c (.int .i64 1)), none⟩, ⟨some 8, .mov (.t 18), none⟩]
def zZo.b7 : Cc := (.seq (.region zZo.r2) (.seq (.cond (.t 9) .skip (.exit 0)) (.seq (.block 1 (.seq (.region zZo.r3) (.seq (.region zZo.r4) (.cond (.t 16) (.seq (.region zZo.r5) .ret) .skip)))) (.region zZo.r6))))
def zZo.r8 : List Cp := [⟨some 4, .mov (.c (.int .i64 (-1))), none⟩]
def zZo.c : Cf := ⟨19, [.tmp 4], (.seq (.region zZo.r0) (.seq (.seq (.region zZo.r1) (.block 0 (.loop zZo.b7))) (.seq (.region zZo.r8) .ret))), true⟩
abbrev zZo : V := .fn (.func 50) [] []
abbrev zZo.k : Nat := 50
def qZJ.r0 : List Cp := [⟨some 2, .box (.t 0), none⟩, ⟨some 4, .alloc [.int .u8 0, .str ⟨#[]⟩, .str ⟨#[]⟩, .str ⟨#[]⟩, .str ⟨#[]⟩, .str ⟨#[]⟩, .nils, .nils, .int .i64 0, .nils, .int .i64 0, .int .i64 0, .int .i64 0, .int .u8 0, .bool false, .bool false], none⟩]
def qZJ.r1 : List Cp := [⟨some 5, .mov (.t 1), none⟩, ⟨some 6, .bin .lss (.t 5) (.c (.int .i64 1)), none⟩, ⟨some 7, .mov (.t 6), none⟩, ⟨some 8, .mov (.t 1), (some (7, false))⟩, ⟨some 9, .faddr 0 (.t 2), (some (7, false))⟩, ⟨some 10, .load none (.t 9), (some (7, false))⟩, ⟨some 11, .len .l (.t 10), (some (7, false))⟩, ⟨some 12, .bin .gtr (.t 8) (.t 11), (some (7, false))⟩, ⟨some 13, .pick (.t 7) (.c (.bool true)) (.t 12), none⟩]
def qZJ.r2 : List Cp := [⟨some 14, .build [.int .u8 0, .str ⟨#[]⟩, .str ⟨#[]⟩, .str ⟨#[]⟩, .str ⟨#[]⟩, .str ⟨#[]⟩, .nils, .nils, .int .i64 0, .nils, .int .i64 0, .int .i64 0, .int .i64 0, .int .u8 0, .bool false, .bool false] [], none⟩, ⟨none, .store 16 (.t 4) (.t 14), none⟩]
def qZJ.r3 : List Cp := [⟨some 15, .faddr 0 (.t 2), none⟩, ⟨some 16, .load none (.t 15), none⟩, ⟨some 17, .mov (.t 1), none⟩, ⟨some 18, .bin .sub (.t 17) (.c (.int .i64 1)), none⟩, ⟨some 19, .iaddr 16 (.t 16) (.t 18), none⟩, ⟨some 20, .load (some 16) (.t 19), none⟩, ⟨none, .store 16 (.t 4) (.t 20), none⟩]
def qZJ.c : Cf := ⟨21, [.cell 4 (some 16)], (.seq (.region qZJ.r0) (.seq (.seq (.region qZJ.r1) (.cond (.t 13) (.seq (.region qZJ.r2) .ret) .skip)) (.seq (.region qZJ.r3) .ret))), true⟩
abbrev qZJ : V := .fn (.func 51) [] []
abbrev qZJ.k : Nat := 51
def zZJ.r0 : List Cp := [⟨some 3, .box (.t 0), none⟩, ⟨some 6, .mov (.c (.int .i64 0)), none⟩]
def zZJ.r1 : List Cp := [⟨some 10, .load (some 1) (.t 3), none⟩, ⟨some 11, .mov (.t 1), none⟩, ⟨some 12, .call (.c (.fn (.func 51) [] [])) [(.t 10), (.t 11)], none⟩, ⟨some 13, .field 8 none (.t 12), none⟩, ⟨some 7, .mov (.t 13), none⟩]
def zZJ.r2 : List Cp := [⟨some 14, .mov (.t 7), none⟩, ⟨some 15, .bin .eql (.t 14) (.c (.int .i64 0)), none⟩]
def zZJ.r3 : List Cp := [⟨some 6, .mov (.c (.int .i64 0)), none⟩]
def zZJ.r4 : List Cp := [⟨some 16, .load (some 1) (.t 3), none⟩, ⟨some 17, .mov (.t 7), none⟩, ⟨some 18, .call (.c (.fn (.func 51) [] [])) [(.t 16), (.t 17)], none⟩, ⟨some 19, .field 9 none (.t 18), none⟩, ⟨some 8, .mov (.t 19), none⟩]
def zZJ.r5 : List Cp := [⟨some 20, .mov (.t 8), none⟩, ⟨some 21, .mov (.t 1), none⟩, ⟨some 22, .call (.c (.fn (.func 50) [] [])) [(.t 20), (.t 21)], none⟩, ⟨some 23, .mov (.t 2), none⟩, ⟨some 24, .bin .add (.t 22) (.t 23), none⟩, ⟨some 9, .mov (.t 24), none⟩]
def zZJ.r6 : List Cp := [⟨some 25, .mov (.t 9), none⟩, ⟨some 26, .bin .lss (.t 25) (.c (.int .i64 0)), none⟩, ⟨some 27, .mov (.t 26), none⟩, ⟨some 28, .mov (.t 9), (some (27, false))⟩, ⟨some 29, .mov (.t 8), (some (27, false))⟩, ⟨some 30, .len .l (.t 29), (some (27, false))⟩, ⟨some 31, .bin .geq (.t 28) (.t 30), (some (27, false))⟩, ⟨some 32, .pick (.t 27) (.c (.bool true)) (.t 31), none⟩]
def zZJ.r7 : List Cp := [⟨some 6, .mov (.c (.int .i64 0)), none⟩]
def zZJ.r8 : List Cp := [⟨some 33, .mov (.t 8), none⟩, ⟨some 34, .mov (.t 9), none⟩, ⟨some 35, .iaddr 1 (.t 33) (.t 34), none⟩, ⟨some 36, .load none (.t 35), none⟩, ⟨some 6, .mov (.t 36), none⟩]
def zZJ.c : Cf := ⟨37, [.tmp 6], (.seq (.region zZJ.r0) (.seq (.region zZJ.r1) (.seq (.seq (.region zZJ.r2) (.cond (.t 15) (.seq (.region zZJ.r3) .ret) .skip)) (.seq (.region zZJ.r4) (.seq (.region zZJ.r5) (.seq (.seq (.region zZJ.r6) (.cond (.t 32) (.seq (.region zZJ.r7) .ret) .skip)) (.seq (.region zZJ.r8) .ret))))))), true⟩
abbrev zZJ : V := .fn (.func 52) [] []
abbrev zZJ.k : Nat := 52
def zZV.r0 : List Cp := [⟨some 2, .box (.t 0), none⟩, ⟨some 4, .mov (.c (.int .i64 0)), none⟩]
def zZV.r1 : List Cp := [⟨some 6, .mov (.t 1), none⟩, ⟨some 5, .mov (.t 6), none⟩]
def zZV.r2 : List Cp := [⟨some 7, .mov (.t 5), none⟩, ⟨some 8, .bin .neq (.t 7) (.c (.int .i64 0)), none⟩]
def zZV.r3 : List Cp := [⟨some 12, .mov (.t 5), none⟩, ⟨some 1, .mov (.t 12), none⟩]
def zZV.r4 : List Cp := [⟨some 9, .load (some 1) (.t 2), none⟩, ⟨some 10, .mov (.t 5), none⟩, ⟨some 11, .call (.c (.fn (.func 66) [] [])) [(.t 9), (.t 10), (.c (.bool true))], none⟩, ⟨some 5, .mov (.t 11), none⟩]
def zZV.b5 : Cc := (.seq (.seq (.region zZV.r2) (.cond (.t 8) .skip (.exit 0))) (.seq (.block 1 (.region zZV.r3)) (.region zZV.r4)))
def zZV.r6 : List Cp := [⟨some 13, .mov (.t 1), none⟩, ⟨some 4, .mov (.t 13), none⟩]
def zZV.c : Cf := ⟨14, [.tmp 4], (.seq (.region zZV.r0) (.seq (.seq (.region zZV.r1) (.block 0 (.loop zZV.b5))) (.seq (.region zZV.r6) .ret))), true⟩
abbrev zZV : V := .fn (.func 53) [] []
abbrev zZV.k : Nat := 53
def qZR.r0 : List Cp := [⟨some 2, .box (.t 0), none⟩, ⟨some 4, .alloc [.int .u8 0, .str ⟨#[]⟩, .str ⟨#[]⟩, .str ⟨#[]⟩, .str ⟨#[]⟩, .str ⟨#[]⟩, .nils, .nils, .int .i64 0, .nils, .int .i64 0, .int .i64 0, .int .i64 0, .int .u8 0, .bool false, .bool false], none⟩]
def qZR.r1 : List Cp := [⟨some 5, .faddr 0 (.t 2), none⟩, ⟨some 6, .load none (.t 5), none⟩, ⟨some 7, .mov (.t 1), none⟩, ⟨some 8, .bin .sub (.t 7) (.c (.int .i64 1)), none⟩, ⟨some 9, .iaddr 16 (.t 6) (.t 8), none⟩, ⟨some 10, .load (some 16) (.t 9), none⟩, ⟨none, .store 16 (.t 4) (.t 10), none⟩]
def qZR.c : Cf := ⟨11, [.cell 4 (some 16)], (.seq (.region qZR.r0) (.seq (.region qZR.r1) .ret)), true⟩
abbrev qZR : V := .fn (.func 54) [] []
abbrev qZR.k : Nat := 54
def zZ7.r0 : List Cp := [⟨some 2, .box (.t 0), none⟩, ⟨some 4, .mov (.c (.int .i64 0)), none⟩]
def zZ7.r1 : List Cp := [⟨some 6, .load (some 1) (.t 2), none⟩, ⟨some 7, .mov (.t 1), none⟩, ⟨some 8, .call (.c (.fn (.func 54) [] [])) [(.t 6), (.t 7)], none⟩, ⟨some 9, .field 8 none (.t 8), none⟩, ⟨some 5, .mov (.t 9), none⟩]
def zZ7.r2 : List Cp := [⟨some 10, .mov (.t 5), none⟩, ⟨some 11, .bin .eql (.t 10) (.c (.int .i64 0)), none⟩]
def zZ7.r3 : List Cp := [⟨some 4, .mov (.c (.int .i64 0)), none⟩]
def zZ7.r4 : List Cp := [⟨some 12, .load (some 1) (.t 2), none⟩, ⟨some 13, .mov (.t 5), none⟩, ⟨some 14, .call (.c (.fn (.func 54) [] [])) [(.t 12), (.t 13)], none⟩, ⟨some 15, .field 9 none (.t 14), none⟩, ⟨some 16, .mov (.t 1), none⟩, ⟨some 17, .call (.c (.fn (.func 36) [] [])) [(.t 15), (.t 16)], none⟩, ⟨some 4, .mov (.t 17), none⟩]
def zZ7.c : Cf := ⟨18, [.tmp 4], (.seq (.region zZ7.r0) (.seq (.region zZ7.r1) (.seq (.seq (.region zZ7.r2) (.cond (.t 11) (.seq (.region zZ7.r3) .ret) .skip)) (.seq (.region zZ7.r4) .ret)))), true⟩
abbrev zZ7 : V := .fn (.func 55) [] []
abbrev zZ7.k : Nat := 55
def zZ3.r0 : List Cp := [⟨some 2, .mov (.c (.nils)), none⟩]
def zZ3.r1 : List Cp := [⟨some 3, .mov (.t 0), none⟩, ⟨some 4, .call (.c (.fn (.func 67) [] [])) [(.c (.nils)), (.t 3)], none⟩, ⟨some 2, .mov (.t 4), none⟩]
def zZ3.c : Cf := ⟨5, [.tmp 2], (.seq (.region zZ3.r0) (.seq (.region zZ3.r1) .ret)), false⟩
abbrev zZ3 : V := .fn (.func 56) [] []
abbrev zZ3.k : Nat := 56
def qZD.r0 : List Cp := [⟨some 2, .box (.t 0), none⟩, ⟨some 3, .box (.t 1), none⟩, ⟨some 4, .mov (.c (.nilf)), none⟩]
def qZD.r1 : List Cp := [⟨some 5, .mkf (.func 68) [] [(.t 2), (.t 3)], none⟩, ⟨some 4, .mov (.t 5), none⟩]
def qZD.c : Cf := ⟨6, [.tmp 4], (.seq (.region qZD.r0) (.seq (.region qZD.r1) .ret)), false⟩
abbrev qZD : V := .fn (.func 57) [] []
abbrev qZD.k : Nat := 57
def qZc.r0 : List Cp := [⟨some 2, .box (.t 0), none⟩, ⟨some 4, .alloc [.int .u8 0, .str ⟨#[]⟩, .str ⟨#[]⟩, .str ⟨#[]⟩, .str ⟨#[]⟩, .str ⟨#[]⟩, .nils, .nils, .int .i64 0, .nils, .int .i64 0, .int .i64 0, .int .i64 0, .int .u8 0, .bool false, .bool false], none⟩, ⟨some 5, .mov (.c (.bool false)), none⟩]
def qZc.r1 : List Cp := [⟨some 6, .mov (.t 1), none⟩, ⟨some 7, .bin .lss (.t 6) (.c (.int .i64 1)), none⟩, ⟨some 8, .mov (.t 7), none⟩, ⟨some 9, .mov (.t 1), (some (8, false))⟩, ⟨some 10, .faddr 0 (.t 2), (some (8, false))⟩, ⟨some 11, .load none (.t 10), (some (8, false))⟩, ⟨some 12, .len .l (.t 11), (some (8, false))⟩, ⟨some 13, .bin .gtr (.t 9) (.t 12), (some (8, false))⟩, ⟨some 14, .pick (.t 8) (.c (.bool true)) (.t 13), none⟩]
def qZc.r2 : List Cp := [⟨some 15, .build [.int .u8 0, .str ⟨#[]⟩, .str ⟨#[]⟩, .str ⟨#[]⟩, .str ⟨#[]⟩, .str ⟨#[]⟩, .nils, .nils, .int .i64 0, .nils, .int .i64 0, .int .i64 0, .int .i64 0, .int .u8 0, .bool false, .bool false] [], none⟩, ⟨none, .store 16 (.t 4) (.t 15), none⟩, ⟨some 5, .mov (.c (.bool false)), none⟩]
def qZc.r3 : List Cp := [⟨some 16, .faddr 0 (.t 2), none⟩, ⟨some 17, .load none (.t 16), none⟩, ⟨some 18, .mov (.t 1), none⟩, ⟨some 19, .bin .sub (.t 18) (.c (.int .i64 1)), none⟩, ⟨some 20, .iaddr 16 (.t 17) (.t 19), none⟩, ⟨some 21, .load (some 16) (.t 20), none⟩, ⟨none, .store 16 (.t 4) (.t 21), none⟩, ⟨some 5, .mov (.c (.bool true)), none⟩]
def qZc.c : Cf := ⟨22, [.cell 4 (some 16), .tmp 5], (.seq (.region qZc.r0) (.seq (.seq (.region qZc.r1) (.cond (.t 14) (.seq (.region qZc.r2) .ret) .skip)) (.seq (.region qZc.r3) .ret))), true⟩
abbrev qZc : V := .fn (.func 58) [] []
abbrev qZc.k : Nat := 58
def zZk.r0 : List Cp := [⟨some 1, .box (.t 0), none⟩, ⟨some 2, .mov (.c (.nils)), none⟩]
def zZk.r1 : List Cp := [⟨some 12, .faddr 0 (.t 1), none⟩, ⟨some 13, .load none (.t 12), none⟩, ⟨some 14, .len .l (.t 13), none⟩, ⟨some 15, .bin .add (.t 14) (.c (.int .i64 1)), none⟩, ⟨some 16, .mks [.int .i64 0] 1 8 (.t 15) (.t 15), none⟩, ⟨some 3, .mov (.t 16), none⟩]
def zZk.r2 : List Cp := [⟨some 17, .faddr 0 (.t 1), none⟩, ⟨some 18, .load none (.t 17), none⟩, ⟨some 19, .len .l (.t 18), none⟩, ⟨some 20, .mov (.c (.int .i64 0)), none⟩]
def zZk.r3 : List Cp := [⟨some 21, .bin .lss (.t 20) (.t 19), none⟩]
def zZk.r4 : List Cp := [⟨some 22, .mov (.t 20), none⟩, ⟨some 4, .mov (.t 22), none⟩]
def zZk.r5 : List Cp := [⟨some 5, .mov (.c (.nils)), none⟩]
def zZk.r6 : List Cp := [⟨some 23, .mov (.t 4), none⟩, ⟨some 24, .bin .add (.t 23) (.c (.int .i64 1)), none⟩, ⟨some 6, .mov (.t 24), none⟩]
def zZk.r7 : List Cp := [⟨some 25, .mov (.t 6), none⟩, ⟨some 26, .bin .geq (.t 25) (.c (.int .i64 1)), none⟩, ⟨some 27, .mov (.t 26), none⟩, ⟨some 28, .mov (.t 6), (some (27, true))⟩, ⟨some 29, .faddr 0 (.t 1), (some (27, true))⟩, ⟨some 30, .load none (.t 29), (some (27, true))⟩, ⟨some 31, .len .l (.t 30), (some (27, true))⟩, ⟨some 32, .bin .leq (.t 28) (.t 31), (some (27, true))⟩, ⟨some 33, .pick (.t 27) (.t 32) (.c (.bool false)), none⟩, ⟨some 34, .mov (.t 33), none⟩, ⟨some 35, .mov (.t 3), (some (34, true))⟩, ⟨some 36, .mov (.t 6), (some (34, true))⟩, ⟨some 37, .iaddr 1 (.t 35) (.t 36), (some (34, true))⟩, ⟨some 38, .load none (.t 37), (some (34, true))⟩, ⟨some 39, .bin .eql (.t 38) (.c (.int .i64 0)), (some (34, true))⟩, ⟨some 40, .pick (.t 34) (.t 39) (.c (.bool false)), none⟩]
def zZk.r8 : List Cp := [⟨some 41, .mov (.t 3), none⟩, ⟨some 42, .mov (.t 6), none⟩, ⟨some 43, .iaddr 1 (.t 41) (.t 42), none⟩, ⟨none, .store 1 (.t 43) (.c (.int .i64 1)), none⟩]
def zZk.r9 : List Cp := [⟨some 44, .mov (.t 5), none⟩, ⟨some 45, .mov (.t 6), none⟩, ⟨some 46, .bslice [.int .i64 0] 1 1 [(0, (.t 45))], none⟩, ⟨some 47, .app 1 8 (.t 44) (.t 46), none⟩, ⟨some 5, .mov (.t 47), none⟩]
def zZk.r10 : List Cp := [⟨some 48, .faddr 0 (.t 1), none⟩, ⟨some 49, .load none (.t 48), none⟩, ⟨some 50, .mov (.t 6), none⟩, ⟨some 51, .bin .sub (.t 50) (.c (.int .i64 1)), none⟩, ⟨some 52, .iaddr 16 (.t 49) (.t 51), none⟩, ⟨some 53, .load (some 16) (.t 52), none⟩, ⟨some 54, .call (.c (.fn (.func 70) [] [])) [(.t 53)], none⟩, ⟨some 6, .mov (.t 54), none⟩]
def zZk.b11 : Cc := (.seq (.seq (.region zZk.r7) (.cond (.t 40) .skip (.exit 2))) (.block 3 (.seq (.region zZk.r8) (.seq (.region zZk.r9) (.region zZk.r10)))))
def zZk.r12 : List Cp := [⟨some 7, .mov (.c (.int .i64 2)), none⟩]
def zZk.r13 : List Cp := [⟨some 55, .mov (.t 6), none⟩, ⟨some 56, .bin .geq (.t 55) (.c (.int .i64 1)), none⟩, ⟨some 57, .mov (.t 56), none⟩, ⟨some 58, .mov (.t 6), (some (57, true))⟩, ⟨some 59, .faddr 0 (.t 1), (some (57, true))⟩, ⟨some 60, .load none (.t 59), (some (57, true))⟩, ⟨some 61, .len .l (.t 60), (some (57, true))⟩, ⟨some 62, .bin .leq (.t 58) (.t 61), (some (57, true))⟩, ⟨some 63, .pick (.t 57) (.t 62) (.c (.bool false)), none⟩, ⟨some 64, .mov (.t 63), none⟩, ⟨some 65, .mov (.t 3), (some (64, true))⟩, ⟨some 66, .mov (.t 6), (some (64, true))⟩, ⟨some 67, .iaddr 1 (.t 65) (.t 66), (some (64, true))⟩, ⟨some 68, .load none (.t 67), (some (64, true))⟩, ⟨some 69, .bin .neq (.t 68) (.c (.int .i64 2)), (some (64, true))⟩, ⟨some 70, .pick (.t 64) (.t 69) (.c (.bool false)), none⟩]
def zZk.r14 : List Cp := [⟨some 7, .mov (.c (.int .i64 3)), none⟩]
def zZk.r15 : List Cp := [⟨some 71, .mov (.t 5), none⟩, ⟨some 72, .len .l (.t 71), none⟩, ⟨some 73, .mov (.c (.int .i64 0)), none⟩]
def zZk.r16 : List Cp := [⟨some 74, .bin .lss (.t 73) (.t 72), none⟩]
def zZk.r17 : List Cp := [⟨some 75, .iaddr 1 (.t 71) (.t 73), none⟩, ⟨some 76, .load none (.t 75), none⟩, ⟨some 9, .mov (.t 76), none⟩]
def zZk.r18 : List Cp := [⟨some 77, .mov (.t 3), none⟩, ⟨some 78, .mov (.t 9), none⟩, ⟨some 79, .mov (.t 7), none⟩, ⟨some 80, .iaddr 1 (.t 77) (.t 78), none⟩, ⟨none, .store 1 (.t 80) (.t 79), none⟩]
def zZk.r19 : List Cp := [⟨some 81, .bin .add (.t 73) (.c (.int .i64 1)), none⟩, ⟨some 73, .mov (.t 81), none⟩]
def zZk.b20 : Cc := (.seq (.region zZk.r16) (.seq (.cond (.t 74) .skip (.exit 4)) (.seq (.block 5 (.seq (.region zZk.r17) (.region zZk.r18))) (.region zZk.r19))))
def zZk.r21 : List Cp := [⟨some 82, .bin .add (.t 20) (.c (.int .i64 1)), none⟩, ⟨some 20, .mov (.t 82), none⟩]
def zZk.b22 : Cc := (.seq (.region zZk.r3) (.seq (.cond (.t 21) .skip (.exit 0)) (.seq (.block 1 (.seq (.region zZk.r4) (.seq (.region zZk.r5) (.seq (.region zZk.r6) (.seq (.block 2 (.loop zZk.b11)) (.seq (.region zZk.r12) (.seq (.seq (.region zZk.r13) (.cond (.t 70) (.region zZk.r14) .skip)) (.seq (.region zZk.r15) (.block 4 (.loop zZk.b20)))))))))) (.region zZk.r21))))
def zZk.r23 : List Cp := [⟨some 83, .mov (.t 3), none⟩, ⟨some 84, .len .l (.t 83), none⟩, ⟨some 85, .mks [.bool false] 1 1 (.t 84) (.t 84), none⟩, ⟨some 10, .mov (.t 85), none⟩]
def zZk.r24 : List Cp := [⟨some 86, .mov (.t 10), none⟩, ⟨some 87, .len .l (.t 86), none⟩, ⟨some 88, .mov (.c (.int .i64 0)), none⟩]
def zZk.r25 : List Cp := [⟨some 89, .bin .lss (.t 88) (.t 87), none⟩]
def zZk.r26 : List Cp := [⟨some 90, .mov (.t 88), none⟩, ⟨some 11, .mov (.t 90), none⟩]
def zZk.r27 : List Cp := [⟨some 91, .mov (.t 10), none⟩, ⟨some 92, .mov (.t 11), none⟩, ⟨some 93, .mov (.t 3), none⟩, ⟨some 94, .mov (.t 11), none⟩, ⟨some 95, .iaddr 1 (.t 93) (.t 94), none⟩, ⟨some 96, .load none (.t 95), none⟩, ⟨some 97, .bin .eql (.t 96) (.c (.int .i64 2)), none⟩, ⟨some 98, .iaddr 1 (.t 91) (.t 92), none⟩, ⟨none, .store 1 (.t 98) (.t 97), none⟩]
def zZk.r28 : List Cp := [⟨some 99, .bin .add (.t 88) (.c (.int .i64 1)), none⟩, ⟨some 88, .mov (.t 99), none⟩]
def zZk.b29 : Cc := (.seq (.region zZk.r25) (.seq (.cond (.t 89) .skip (.exit 6)) (.seq (.block 7 (.seq (.region zZk.r26) (.region zZk.r27))) (.region zZk.r28))))
def zZk.r30 : List Cp := [⟨some 100, .mov (.t 10), none⟩, ⟨some 2, .mov (.t 100), none⟩]
def zZk.c : Cf := ⟨101, [.tmp 2], (.seq (.region zZk.r0) (.seq (.region zZk.r1) (.seq (.seq (.region zZk.r2) (.block 0 (.loop zZk.b22))) (.seq (.region zZk.r23) (.seq (.seq (.region zZk.r24) (.block 6 (.loop zZk.b29))) (.seq (.region zZk.r30) .ret)))))), true⟩
abbrev zZk : V := .fn (.func 59) [] []
abbrev zZk.k : Nat := 59
def zZr.r0 : List Cp := [⟨some 1, .box (.t 0), none⟩, ⟨some 2, .mov (.c (.bool false)), none⟩]
def zZr.r1 : List Cp := [⟨some 5, .faddr 0 (.t 1), none⟩, ⟨some 6, .load none (.t 5), none⟩, ⟨some 7, .call (.c (.fn (.func 71) [] [])) [(.t 6)], none⟩, ⟨some 3, .alloc [.bool false, .bool false, .bool false, .bool false, .bool false, .bool false], none⟩, ⟨none, .store 6 (.t 3) (.t 7), none⟩]
def zZr.r2 : List Cp := [⟨some 8, .faddr 0 (.t 1), none⟩, ⟨some 9, .load none (.t 8), none⟩, ⟨some 10, .bin .eql (.t 9) (.c (.int .u8 1)), none⟩, ⟨some 4, .mov (.t 10), none⟩]
def zZr.r3 : List Cp := [⟨some 12, .faddr 0 (.t 3), none⟩, ⟨some 13, .load none (.t 12), none⟩, ⟨some 14, .un .not (.t 13), none⟩, ⟨some 15, .mov (.t 14), none⟩, ⟨some 16, .load (some 16) (.t 1), (some (15, false))⟩, ⟨some 17, .load (some 6) (.t 3), (some (15, false))⟩, ⟨some 18, .call (.c (.fn (.func 72) [] [])) [(.t 16), (.t 17)], (some (15, false))⟩, ⟨some 19, .un .not (.t 18), (some (15, false))⟩, ⟨some 20, .pick (.t 15) (.c (.bool true)) (.t 19), none⟩, ⟨some 21, .mov (.t 20), none⟩, ⟨some 22, .faddr 7 (.t 1), (some (21, false))⟩, ⟨some 23, .load none (.t 22), (some (21, false))⟩, ⟨some 24, .call (.c (.fn (.func 73) [] [])) [(.t 23)], (some (21, false))⟩, ⟨some 25, .un .not (.t 24), (some (21, false))⟩, ⟨some 26, .pick (.t 21) (.c (.bool true)) (.t 25), none⟩, ⟨some 11, .mov (.t 26), none⟩]
def zZr.r4 : List Cp := [⟨some 2, .mov (.c (.bool false)), none⟩]
def zZr.r5 : List Cp := [⟨some 28, .faddr 4 (.t 1), none⟩, ⟨some 29, .load none (.t 28), none⟩, ⟨some 30, .faddr 5 (.t 1), none⟩, ⟨some 31, .load none (.t 30), none⟩, ⟨some 32, .bslice [.str ⟨#[]⟩] 2 1 [(0, (.t 29)), (1, (.t 31))], none⟩, ⟨some 33, .call (.c (.fn (.func 74) [] [])) [(.t 32)], none⟩, ⟨some 34, .un .not (.t 33), none⟩, ⟨some 35, .mov (.t 34), none⟩, ⟨some 36, .faddr 0 (.t 1), (some (35, false))⟩, ⟨some 37, .load none (.t 36), (some (35, false))⟩, ⟨some 38, .bin .neq (.t 37) (.c (.int .u8 10)), (some (35, false))⟩, ⟨some 39, .mov (.t 38), (some (35, false))⟩, ⟨some 40, .faddr 4 (.t 1), (some (39, true))⟩, ⟨some 41, .load none (.t 40), (some (39, true))⟩, ⟨some 42, .bin .neq (.t 41) (.c (.str ⟨#[]⟩)), (some (39, true))⟩, ⟨some 43, .mov (.t 42), (some (39, true))⟩, ⟨some 44, .faddr 5 (.t 1), (some (43, false))⟩, ⟨some 45, .load none (.t 44), (some (43, false))⟩, ⟨some 46, .bin .neq (.t 45) (.c (.str ⟨#[]⟩)), (some (43, false))⟩, ⟨some 47, .pick (.t 43) (.c (.bool true)) (.t 46), (some (39, true))⟩, ⟨some 48, .pick (.t 39) (.t 47) (.c (.bool false)), (some (35, false))⟩, ⟨some 49, .pick (.t 35) (.c (.bool true)) (.t 48), none⟩, ⟨some 27, .mov (.t 49), none⟩]
def zZr.r6 : List Cp := [⟨some 2, .mov (.c (.bool false)), none⟩]
def zZr.r7 : List Cp := [⟨some 51, .faddr 6 (.t 1), none⟩, ⟨some 52, .load none (.t 51), none⟩, ⟨some 53, .len .l (.t 52), none⟩, ⟨some 54, .bin .gtr (.t 53) (.c (.int .i64 16384)), none⟩, ⟨some 55, .mov (.t 54), none⟩, ⟨some 56, .faddr 1 (.t 3), (some (55, false))⟩, ⟨some 57, .load none (.t 56), (some (55, false))⟩, ⟨some 58, .un .not (.t 57), (some (55, false))⟩, ⟨some 59, .mov (.t 58), (some (55, false))⟩, ⟨some 60, .faddr 6 (.t 1), (some (59, true))⟩, ⟨some 61, .load none (.t 60), (some (59, true))⟩, ⟨some 62, .len .l (.t 61), (some (59, true))⟩, ⟨some 63, .bin .gtr (.t 62) (.c (.int .i64 0)), (some (59, true))⟩, ⟨some 64, .pick (.t 59) (.t 63) (.c (.bool false)), (some (55, false))⟩, ⟨some 65, .pick (.t 55) (.c (.bool true)) (.t 64), none⟩, ⟨some 66, .mov (.t 65), none⟩, ⟨some 67, .faddr 2 (.t 3), (some (66, false))⟩, ⟨some 68, .load none (.t 67), (some (66, false))⟩, ⟨some 69, .un .not (.t 68), (some (66, false))⟩, ⟨some 70, .mov (.t 69), (some (66, false))⟩, ⟨some 71, .faddr 9 (.t 1), (some (70, true))⟩, ⟨some 72, .load none (.t 71), (some (70, true))⟩, ⟨some 73, .len .l (.t 72), (some (70, true))⟩, ⟨some 74, .bin .gtr (.t 73) (.c (.int .i64 0)), (some (70, true))⟩, ⟨some 75, .pick (.t 70) (.t 74) (.c (.bool false)), (some (66, false))⟩, ⟨some 76, .pick (.t 66) (.c (.bool true)) (.t 75), none⟩, ⟨some 50, .mov (.t 76), none⟩]
def zZr.r8 : List Cp := [⟨some 2, .mov (.c (.bool false)), none⟩]
def zZr.r9 : List Cp := [⟨some 78, .mov (.t 4), none⟩, ⟨some 79, .un .not (.t 78), none⟩, ⟨some 80, .mov (.t 79), none⟩, ⟨some 81, .faddr 7 (.t 1), (some (80, true))⟩, ⟨some 82, .load none (.t 81), (some (80, true))⟩, ⟨some 83, .len .l (.t 82), (some (80, true))⟩, ⟨some 84, .bin .gtr (.t 83) (.c (.int .i64 0)), (some (80, true))⟩, ⟨some 85, .mov (.t 84), (some (80, true))⟩, ⟨some 86, .faddr 12 (.t 1), (some (85, false))⟩, ⟨some 87, .load none (.t 86), (some (85, false))⟩, ⟨some 88, .bin .neq (.t 87) (.c (.int .i64 0)), (some (85, false))⟩, ⟨some 89, .pick (.t 85) (.c (.bool true)) (.t 88), (some (80, true))⟩, ⟨some 90, .pick (.t 80) (.t 89) (.c (.bool false)), none⟩, ⟨some 91, .mov (.t 90), none⟩, ⟨some 92, .faddr 0 (.t 1), (some (91, false))⟩, ⟨some 93, .load none (.t 92), (some (91, false))⟩, ⟨some 94, .bin .neq (.t 93) (.c (.int .u8 9)), (some (91, false))⟩, ⟨some 95, .mov (.t 94), (some (91, false))⟩, ⟨some 96, .faddr 15 (.t 1), (some (95, true))⟩, ⟨some 97, .load none (.t 96), (some (95, true))⟩, ⟨some 98, .pick (.t 95) (.t 97) (.c (.bool false)), (some (91, false))⟩, ⟨some 99, .pick (.t 91) (.c (.bool true)) (.t 98), none⟩, ⟨some 77, .mov (.t 99), none⟩]
def zZr.r10 : List Cp := [⟨some 2, .mov (.c (.bool false)), none⟩]
def zZr.r11 : List Cp := [⟨some 101, .faddr 3 (.t 3), none⟩, ⟨some 102, .load none (.t 101), none⟩, ⟨some 103, .un .not (.t 102), none⟩, ⟨some 104, .mov (.t 103), none⟩, ⟨some 105, .faddr 8 (.t 1), (some (104, true))⟩, ⟨some 106, .load none (.t 105), (some (104, true))⟩, ⟨some 107, .bin .neq (.t 106) (.c (.int .i64 0)), (some (104, true))⟩, ⟨some 108, .pick (.t 104) (.t 107) (.c (.bool false)), none⟩, ⟨some 100, .mov (.t 108), none⟩]
def zZr.r12 : List Cp := [⟨some 2, .mov (.c (.bool false)), none⟩]
def zZr.r13 : List Cp := [⟨some 109, .faddr 0 (.t 1), none⟩, ⟨some 110, .load none (.t 109), none⟩, ⟨some 111, .bin .eql (.t 110) (.c (.int .u8 12)), none⟩]
def zZr.r14 : List Cp := [⟨some 112, .faddr 13 (.t 1), none⟩, ⟨some 113, .load none (.t 112), none⟩, ⟨some 114, .bin .eql (.t 113) (.c (.int .u8 1)), none⟩, ⟨some 115, .mov (.t 114), none⟩, ⟨some 116, .faddr 13 (.t 1), (some (115, false))⟩, ⟨some 117, .load none (.t 116), (some (115, false))⟩, ⟨some 118, .bin .eql (.t 117) (.c (.int .u8 2)), (some (115, false))⟩, ⟨some 119, .pick (.t 115) (.c (.bool true)) (.t 118), none⟩, ⟨some 2, .mov (.t 119), none⟩]
def zZr.r15 : List Cp := [⟨some 120, .faddr 13 (.t 1), none⟩, ⟨some 121, .load none (.t 120), none⟩, ⟨some 122, .bin .eql (.t 121) (.c (.int .u8 0)), none⟩, ⟨some 123, .mov (.t 122), none⟩, ⟨some 124, .faddr 14 (.t 1), (some (123, true))⟩, ⟨some 125, .load none (.t 124), (some (123, true))⟩, ⟨some 126, .un .not (.t 125), (some (123, true))⟩, ⟨some 127, .pick (.t 123) (.t 126) (.c (.bool false)), none⟩, ⟨some 128, .mov (.t 127), none⟩, ⟨some 129, .faddr 11 (.t 1), (some (128, true))⟩, ⟨some 130, .load none (.t 129), (some (128, true))⟩, ⟨some 131, .bin .eql (.t 130) (.c (.int .i64 0)), (some (128, true))⟩, ⟨some 132, .pick (.t 128) (.t 131) (.c (.bool false)), none⟩, ⟨some 2, .mov (.t 132), none⟩]
def zZr.c : Cf := ⟨133, [.tmp 2], (.seq (.region zZr.r0) (.seq (.region zZr.r1) (.seq (.region zZr.r2) (.seq (.block 0 (.seq (.region zZr.r3) (.cond (.t 11) (.seq (.region zZr.r4) .ret) (.seq (.region zZr.r5) (.cond (.t 27) (.seq (.region zZr.r6) .ret) (.seq (.region zZr.r7) (.cond (.t 50) (.seq (.region zZr.r8) .ret) (.seq (.region zZr.r9) (.cond (.t 77) (.seq (.region zZr.r10) .ret) (.seq (.region zZr.r11) (.cond (.t 100) (.seq (.region zZr.r12) .ret) .skip))))))))))) (.seq (.seq (.region zZr.r13) (.cond (.t 111) (.seq (.region zZr.r14) .ret) .skip)) (.seq (.region zZr.r15) .ret)))))), true⟩
abbrev zZr : V := .fn (.func 60) [] []
abbrev zZr.k : Nat := 60
def zZp.r0 : List Cp := [⟨some 2, .box (.t 0), none⟩, ⟨some 4, .mov (.c (.bool false)), none⟩]
def zZp.r1 : List Cp := [⟨some 12, .faddr 0 (.t 2), none⟩, ⟨some 13, .load none (.t 12), none⟩, ⟨some 14, .mov (.t 1), none⟩, ⟨some 15, .bin .sub (.t 14) (.c (.int .i64 1)), none⟩, ⟨some 16, .iaddr 16 (.t 13) (.t 15), none⟩, ⟨some 17, .load (some 16) (.t 16), none⟩, ⟨some 5, .alloc [.int .u8 0, .str ⟨#[]⟩, .str ⟨#[]⟩, .str ⟨#[]⟩, .str ⟨#[]⟩, .str ⟨#[]⟩, .nils, .nils, .int .i64 0, .nils, .int .i64 0, .int .i64 0, .int .i64 0, .int .u8 0, .bool false, .bool false], none⟩, ⟨none, .store 16 (.t 5) (.t 17), none⟩]
def zZp.r2 : List Cp := [⟨some 18, .faddr 8 (.t 5), none⟩, ⟨some 19, .load none (.t 18), none⟩, ⟨some 20, .bin .neq (.t 19) (.c (.int .i64 0)), none⟩]
def zZp.r3 : List Cp := [⟨some 22, .load (some 1) (.t 2), none⟩, ⟨some 23, .faddr 8 (.t 5), none⟩, ⟨some 24, .load none (.t 23), none⟩, ⟨some 25, .call (.c (.fn (.func 75) [] [])) [(.t 22), (.t 24)], none⟩, ⟨some 21, .mov (.t 25), none⟩, ⟨some 26, .ext (.t 21) 0, none⟩, ⟨some 27, .ext (.t 21) 1, none⟩, ⟨some 6, .alloc [.int .u8 0, .str ⟨#[]⟩, .str ⟨#[]⟩, .str ⟨#[]⟩, .str ⟨#[]⟩, .str ⟨#[]⟩, .nils, .nils, .int .i64 0, .nils, .int .i64 0, .int .i64 0, .int .i64 0, .int .u8 0, .bool false, .bool false], none⟩, ⟨none, .store 16 (.t 6) (.t 26), none⟩, ⟨some 7, .mov (.t 27), none⟩]
def zZp.r4 : List Cp := [⟨some 28, .mov (.t 7), none⟩, ⟨some 29, .un .not (.t 28), none⟩, ⟨some 30, .mov (.t 29), none⟩, ⟨some 31, .faddr 9 (.t 6), (some (30, false))⟩, ⟨some 32, .load none (.t 31), (some (30, false))⟩, ⟨some 33, .mov (.t 1), (some (30, false))⟩, ⟨some 34, .call (.c (.fn (.func 76) [] [])) [(.t 32), (.t 33)], (some (30, false))⟩, ⟨some 35, .un .not (.t 34), (some (30, false))⟩, ⟨some 36, .pick (.t 30) (.c (.bool true)) (.t 35), none⟩]
def zZp.r5 : List Cp := [⟨some 4, .mov (.c (.bool false)), none⟩]
def zZp.r6 : List Cp := [⟨some 37, .load (some 1) (.t 2), none⟩, ⟨some 38, .faddr 10 (.t 5), none⟩, ⟨some 39, .load none (.t 38), none⟩, ⟨some 40, .call (.c (.fn (.func 77) [] [])) [(.t 37), (.t 39)], none⟩, ⟨some 41, .bin .neq (.t 40) (.c (.int .u8 9)), none⟩, ⟨some 42, .mov (.t 41), none⟩, ⟨some 43, .faddr 0 (.t 5), (some (42, false))⟩, ⟨some 44, .load none (.t 43), (some (42, false))⟩, ⟨some 45, .bin .eql (.t 44) (.c (.int .u8 9)), (some (42, false))⟩, ⟨some 46, .mov (.t 45), (some (42, false))⟩, ⟨some 47, .faddr 10 (.t 5), (some (46, true))⟩, ⟨some 48, .load none (.t 47), (some (46, true))⟩, ⟨some 49, .mov (.t 1), (some (46, true))⟩, ⟨some 50, .bin .neq (.t 48) (.t 49), (some (46, true))⟩, ⟨some 51, .pick (.t 46) (.t 50) (.c (.bool false)), (some (42, false))⟩, ⟨some 52, .pick (.t 42) (.c (.bool true)) (.t 51), none⟩]
def zZp.r7 : List Cp := [⟨some 4, .mov (.c (.bool false)), none⟩]
def zZp.r8 : List Cp := [⟨some 53, .faddr 12 (.t 5), none⟩, ⟨some 54, .load none (.t 53), none⟩, ⟨some 55, .bin .neq (.t 54) (.c (.int .i64 0)), none⟩]
def zZp.r9 : List Cp := [⟨some 57, .load (some 1) (.t 2), none⟩, ⟨some 58, .faddr 12 (.t 5), none⟩, ⟨some 59, .load none (.t 58), none⟩, ⟨some 60, .call (.c (.fn (.func 75) [] [])) [(.t 57), (.t 59)], none⟩, ⟨some 56, .mov (.t 60), none⟩, ⟨some 61, .ext (.t 56) 0, none⟩, ⟨some 62, .ext (.t 56) 1, none⟩, ⟨some 8, .alloc [.int .u8 0, .str ⟨#[]⟩, .str ⟨#[]⟩, .str ⟨#[]⟩, .str ⟨#[]⟩, .str ⟨#[]⟩, .nils, .nils, .int .i64 0, .nils, .int .i64 0, .int .i64 0, .int .i64 0, .int .u8 0, .bool false, .bool false], none⟩, ⟨none, .store 16 (.t 8) (.t 61), none⟩, ⟨some 9, .mov (.t 62), none⟩]
def zZp.r10 : List Cp := [⟨some 63, .mov (.t 9), none⟩, ⟨some 64, .un .not (.t 63), none⟩, ⟨some 65, .mov (.t 64), none⟩, ⟨some 66, .faddr 0 (.t 8), (some (65, false))⟩, ⟨some 67, .load none (.t 66), (some (65, false))⟩, ⟨some 68, .bin .neq (.t 67) (.c (.int .u8 12)), (some (65, false))⟩, ⟨some 69, .pick (.t 65) (.c (.bool true)) (.t 68), none⟩, ⟨some 70, .mov (.t 69), none⟩, ⟨some 71, .faddr 11 (.t 8), (some (70, false))⟩, ⟨some 72, .load none (.t 71), (some (70, false))⟩, ⟨some 73, .mov (.t 1), (some (70, false))⟩, ⟨some 74, .bin .neq (.t 72) (.t 73), (some (70, false))⟩, ⟨some 75, .pick (.t 70) (.c (.bool true)) (.t 74), none⟩]
def zZp.r11 : List Cp := [⟨some 4, .mov (.c (.bool false)), none⟩]
def zZp.r12 : List Cp := [⟨some 76, .faddr 0 (.t 5), none⟩, ⟨some 77, .load none (.t 76), none⟩, ⟨some 78, .bin .eql (.t 77) (.c (.int .u8 12)), none⟩]
def zZp.r13 : List Cp := [⟨some 80, .load (some 1) (.t 2), none⟩, ⟨some 81, .faddr 11 (.t 5), none⟩, ⟨some 82, .load none (.t 81), none⟩, ⟨some 83, .call (.c (.fn (.func 75) [] [])) [(.t 80), (.t 82)], none⟩, ⟨some 79, .mov (.t 83), none⟩, ⟨some 84, .ext (.t 79) 0, none⟩, ⟨some 85, .ext (.t 79) 1, none⟩, ⟨some 10, .alloc [.int .u8 0, .str ⟨#[]⟩, .str ⟨#[]⟩, .str ⟨#[]⟩, .str ⟨#[]⟩, .str ⟨#[]⟩, .nils, .nils, .int .i64 0, .nils, .int .i64 0, .int .i64 0, .int .i64 0, .int .u8 0, .bool false, .bool false], none⟩, ⟨none, .store 16 (.t 10) (.t 84), none⟩, ⟨some 11, .mov (.t 85), none⟩]
def zZp.r14 : List Cp := [⟨some 86, .mov (.t 11), none⟩, ⟨some 87, .un .not (.t 86), none⟩, ⟨some 88, .mov (.t 87), none⟩, ⟨some 89, .faddr 0 (.t 10), (some (88, false))⟩, ⟨some 90, .load none (.t 89), (some (88, false))⟩, ⟨some 91, .bin .neq (.t 90) (.c (.int .u8 1)), (some (88, false))⟩, ⟨some 92, .pick (.t 88) (.c (.bool true)) (.t 91), none⟩, ⟨some 93, .mov (.t 92), none⟩, ⟨some 94, .faddr 12 (.t 10), (some (93, false))⟩, ⟨some 95, .load none (.t 94), (some (93, false))⟩, ⟨some 96, .mov (.t 1), (some (93, false))⟩, ⟨some 97, .bin .neq (.t 95) (.t 96), (some (93, false))⟩, ⟨some 98, .pick (.t 93) (.c (.bool true)) (.t 97), none⟩, ⟨some 99, .mov (.t 98), none⟩, ⟨some 100, .faddr 10 (.t 10), (some (99, false))⟩, ⟨some 101, .load none (.t 100), (some (99, false))⟩, ⟨some 102, .faddr 10 (.t 5), (some (99, false))⟩, ⟨some 103, .load none (.t 102), (some (99, false))⟩, ⟨some 104, .bin .neq (.t 101) (.t 103), (some (99, false))⟩, ⟨some 105, .pick (.t 99) (.c (.bool true)) (.t 104), none⟩]
def zZp.r15 : List Cp := [⟨some 4, .mov (.c (.bool false)), none⟩]
def zZp.r16 : List Cp := [⟨some 106, .load (some 1) (.t 2), none⟩, ⟨some 107, .mov (.t 1), none⟩, ⟨some 108, .load (some 16) (.t 5), none⟩, ⟨some 109, .call (.c (.fn (.func 78) [] [])) [(.t 106), (.t 107), (.t 108)], none⟩, ⟨some 4, .mov (.t 109), none⟩]
def zZp.c : Cf := ⟨110, [.tmp 4], (.seq (.region zZp.r0) (.seq (.region zZp.r1) (.seq (.seq (.region zZp.r2) (.cond (.t 20) (.seq (.region zZp.r3) (.seq (.region zZp.r4) (.cond (.t 36) (.seq (.region zZp.r5) .ret) .skip))) .skip)) (.seq (.seq (.region zZp.r6) (.cond (.t 52) (.seq (.region zZp.r7) .ret) .skip)) (.seq (.seq (.region zZp.r8) (.cond (.t 55) (.seq (.region zZp.r9) (.seq (.region zZp.r10) (.cond (.t 75) (.seq (.region zZp.r11) .ret) .skip))) .skip)) (.seq (.seq (.region zZp.r12) (.cond (.t 78) (.seq (.region zZp.r13) (.seq (.region zZp.r14) (.cond (.t 105) (.seq (.region zZp.r15) .ret) .skip))) .skip)) (.seq (.region zZp.r16) .ret))))))), true⟩
abbrev zZp : V := .fn (.func 61) [] []
abbrev zZp.k : Nat := 61
def zZW.r0 : List Cp := [⟨some 4, .load none (.t 1), none⟩, ⟨some 5, .bin .neq (.t 4) (.c (.int .i64 0)), none⟩]
def zZW.r1 : List Cp := [⟨some 10, .mov (.t 0), none⟩, ⟨some 11, .load none (.t 1), none⟩, ⟨some 12, .call (.t 10) [(.t 11)], none⟩, ⟨some 13, .un .not (.t 12), none⟩]
def zZW.r2 : List Cp := [⟨some 6, .load (some 1) (.t 2), none⟩, ⟨some 7, .load none (.t 1), none⟩, ⟨some 8, .call (.c (.fn (.func 51) [] [])) [(.t 6), (.t 7)], none⟩, ⟨some 9, .field 8 none (.t 8), none⟩, ⟨none, .store 1 (.t 1) (.t 9), none⟩]
def zZW.b3 : Cc := (.seq (.seq (.region zZW.r0) (.cond (.t 5) .skip (.exit 0))) (.seq (.block 1 (.seq (.region zZW.r1) (.cond (.t 13) .ret .skip))) (.region zZW.r2)))
def zZW.c : Cf := ⟨14, [], (.block 0 (.loop zZW.b3)), false⟩
abbrev zZW : V := .fn (.func 62) [] []
abbrev zZW.k : Nat := 62
def zZi.r0 : List Cp := [⟨some 1, .box (.t 0), none⟩, ⟨some 2, .mov (.c (.bool false)), none⟩]
def zZi.r1 : List Cp := [⟨some 4, .faddr 0 (.t 1), none⟩, ⟨some 5, .load none (.t 4), none⟩, ⟨some 3, .mov (.t 5), none⟩]
def zZi.r2 : List Cp := [⟨some 6, .mov (.t 3), none⟩, ⟨some 7, .call (.c (.fn (.func 79) [] [])) [(.t 6)], none⟩, ⟨some 8, .un .not (.t 7), none⟩, ⟨some 9, .mov (.t 8), none⟩, ⟨some 10, .faddr 4 (.t 1), (some (9, false))⟩, ⟨some 11, .load none (.t 10), (some (9, false))⟩, ⟨some 12, .len .s (.t 11), (some (9, false))⟩, ⟨some 13, .bin .gtr (.t 12) (.c (.int .i64 1024)), (some (9, false))⟩, ⟨some 14, .pick (.t 9) (.c (.bool true)) (.t 13), none⟩, ⟨some 15, .mov (.t 14), none⟩, ⟨some 16, .faddr 5 (.t 1), (some (15, false))⟩, ⟨some 17, .load none (.t 16), (some (15, false))⟩, ⟨some 18, .len .s (.t 17), (some (15, false))⟩, ⟨some 19, .bin .gtr (.t 18) (.c (.int .i64 1024)), (some (15, false))⟩, ⟨some 20, .pick (.t 15) (.c (.bool true)) (.t 19), none⟩, ⟨some 21, .mov (.t 20), none⟩, ⟨some 22, .faddr 6 (.t 1), (some (21, false))⟩, ⟨some 23, .load none (.t 22), (some (21, false))⟩, ⟨some 24, .len .l (.t 23), (some (21, false))⟩, ⟨some 25, .bin .gtr (.t 24) (.c (.int .i64 16384)), (some (21, false))⟩, ⟨some 26, .pick (.t 21) (.c (.bool true)) (.t 25), none⟩, ⟨some 27, .mov (.t 26), none⟩, ⟨some 28, .faddr 7 (.t 1), (some (27, false))⟩, ⟨some 29, .load none (.t 28), (some (27, false))⟩, ⟨some 30, .call (.c (.fn (.func 80) [] [])) [(.t 29)], (some (27, false))⟩, ⟨some 31, .un .not (.t 30), (some (27, false))⟩, ⟨some 32, .pick (.t 27) (.c (.bool true)) (.t 31), none⟩]
def zZi.r3 : List Cp := [⟨some 2, .mov (.c (.bool false)), none⟩]
def zZi.r4 : List Cp := [⟨some 34, .mov (.t 3), none⟩, ⟨some 35, .bin .eql (.t 34) (.c (.int .u8 1)), none⟩, ⟨some 33, .mov (.t 35), none⟩]
def zZi.r5 : List Cp := [⟨some 36, .faddr 1 (.t 1), none⟩, ⟨some 37, .load (some 3) (.t 36), none⟩, ⟨some 38, .call (.c (.fn (.func 81) [] [])) [(.t 37)], none⟩, ⟨some 39, .un .not (.t 38), none⟩]
def zZi.r6 : List Cp := [⟨some 2, .mov (.c (.bool false)), none⟩]
def zZi.r7 : List Cp := [⟨some 41, .mov (.t 3), none⟩, ⟨some 42, .bin .eql (.t 41) (.c (.int .u8 10)), none⟩, ⟨some 43, .mov (.t 42), none⟩, ⟨some 44, .mov (.t 3), (some (43, false))⟩, ⟨some 45, .bin .eql (.t 44) (.c (.int .u8 7)), (some (43, false))⟩, ⟨some 46, .pick (.t 43) (.c (.bool true)) (.t 45), none⟩, ⟨some 40, .mov (.t 46), none⟩]
def zZi.r8 : List Cp := [⟨some 47, .faddr 1 (.t 1), none⟩, ⟨some 48, .load (some 3) (.t 47), none⟩, ⟨some 49, .faddr 1 (.t 1), none⟩, ⟨some 50, .faddr 2 (.t 49), none⟩, ⟨some 51, .load none (.t 50), none⟩, ⟨some 52, .build [.str ⟨#[]⟩, .str ⟨#[]⟩, .str ⟨#[]⟩] [(2, 1, (.t 51))], none⟩, ⟨some 53, .eqc true (.cons 0 none (.leaf .s) (.cons 1 none (.leaf .s) (.cons 2 none (.leaf .s) .nil))) (.t 48) (.t 52), none⟩, ⟨some 54, .mov (.t 53), none⟩, ⟨some 55, .faddr 1 (.t 1), (some (54, false))⟩, ⟨some 56, .faddr 2 (.t 55), (some (54, false))⟩, ⟨some 57, .load none (.t 56), (some (54, false))⟩, ⟨some 58, .bin .eql (.t 57) (.c (.str ⟨#[]⟩)), (some (54, false))⟩, ⟨some 59, .pick (.t 54) (.c (.bool true)) (.t 58), none⟩, ⟨some 60, .mov (.t 59), none⟩, ⟨some 61, .faddr 1 (.t 1), (some (60, false))⟩, ⟨some 62, .faddr 2 (.t 61), (some (60, false))⟩, ⟨some 63, .load none (.t 62), (some (60, false))⟩, ⟨some 64, .len .s (.t 63), (some (60, false))⟩, ⟨some 65, .bin .gtr (.t 64) (.c (.int .i64 1024)), (some (60, false))⟩, ⟨some 66, .pick (.t 60) (.c (.bool true)) (.t 65), none⟩]
def zZi.r9 : List Cp := [⟨some 2, .mov (.c (.bool false)), none⟩]
def zZi.r10 : List Cp := [⟨some 68, .faddr 1 (.t 1), none⟩, ⟨some 69, .load (some 3) (.t 68), none⟩, ⟨some 70, .build [.str ⟨#[]⟩, .str ⟨#[]⟩, .str ⟨#[]⟩] [], none⟩, ⟨some 71, .eqc true (.cons 0 none (.leaf .s) (.cons 1 none (.leaf .s) (.cons 2 none (.leaf .s) .nil))) (.t 69) (.t 70), none⟩, ⟨some 67, .mov (.t 71), none⟩]
def zZi.r11 : List Cp := [⟨some 2, .mov (.c (.bool false)), none⟩]
def zZi.r12 : List Cp := [⟨some 72, .mov (.t 3), none⟩, ⟨some 73, .bin .neq (.t 72) (.c (.int .u8 10)), none⟩, ⟨some 74, .mov (.t 73), none⟩, ⟨some 75, .faddr 4 (.t 1), (some (74, true))⟩, ⟨some 76, .load none (.t 75), (some (74, true))⟩, ⟨some 77, .bin .neq (.t 76) (.c (.str ⟨#[]⟩)), (some (74, true))⟩, ⟨some 78, .mov (.t 77), (some (74, true))⟩, ⟨some 79, .faddr 5 (.t 1), (some (78, false))⟩, ⟨some 80, .load none (.t 79), (some (78, false))⟩, ⟨some 81, .bin .neq (.t 80) (.c (.str ⟨#[]⟩)), (some (78, false))⟩, ⟨some 82, .pick (.t 78) (.c (.bool true)) (.t 81), (some (74, true))⟩, ⟨some 83, .pick (.t 74) (.t 82) (.c (.bool false)), none⟩, ⟨some 84, .mov (.t 83), none⟩, ⟨some 85, .mov (.t 3), (some (84, false))⟩, ⟨some 86, .call (.c (.fn (.func 82) [] [])) [(.t 85)], (some (84, false))⟩, ⟨some 87, .un .not (.t 86), (some (84, false))⟩, ⟨some 88, .mov (.t 87), (some (84, false))⟩, ⟨some 89, .faddr 6 (.t 1), (some (88, true))⟩, ⟨some 90, .load none (.t 89), (some (88, true))⟩, ⟨some 91, .len .l (.t 90), (some (88, true))⟩, ⟨some 92, .bin .gtr (.t 91) (.c (.int .i64 0)), (some (88, true))⟩, ⟨some 93, .pick (.t 88) (.t 92) (.c (.bool false)), (some (84, false))⟩, ⟨some 94, .pick (.t 84) (.c (.bool true)) (.t 93), none⟩, ⟨some 95, .mov (.t 94), none⟩, ⟨some 96, .mov (.t 3), (some (95, false))⟩, ⟨some 97, .call (.c (.fn (.func 83) [] [])) [(.t 96)], (some (95, false))⟩, ⟨some 98, .un .not (.t 97), (some (95, false))⟩, ⟨some 99, .mov (.t 98), (some (95, false))⟩, ⟨some 100, .faddr 9 (.t 1), (some (99, true))⟩, ⟨some 101, .load none (.t 100), (some (99, true))⟩, ⟨some 102, .len .l (.t 101), (some (99, true))⟩, ⟨some 103, .bin .gtr (.t 102) (.c (.int .i64 0)), (some (99, true))⟩, ⟨some 104, .pick (.t 99) (.t 103) (.c (.bool false)), (some (95, false))⟩, ⟨some 105, .pick (.t 95) (.c (.bool true)) (.t 104), none⟩]
def zZi.r13 : List Cp := [⟨some 2, .mov (.c (.bool false)), none⟩]
def zZi.r14 : List Cp := [⟨some 106, .mov (.t 3), none⟩, ⟨some 107, .bin .neq (.t 106) (.c (.int .u8 1)), none⟩, ⟨some 108, .mov (.t 107), none⟩, ⟨some 109, .faddr 7 (.t 1), (some (108, true))⟩, ⟨some 110, .load none (.t 109), (some (108, true))⟩, ⟨some 111, .len .l (.t 110), (some (108, true))⟩, ⟨some 112, .bin .gtr (.t 111) (.c (.int .i64 0)), (some (108, true))⟩, ⟨some 113, .mov (.t 112), (some (108, true))⟩, ⟨some 114, .faddr 12 (.t 1), (some (113, false))⟩, ⟨some 115, .load none (.t 114), (some (113, false))⟩, ⟨some 116, .bin .neq (.t 115) (.c (.int .i64 0)), (some (113, false))⟩, ⟨some 117, .pick (.t 113) (.c (.bool true)) (.t 116), (some (108, true))⟩, ⟨some 118, .pick (.t 108) (.t 117) (.c (.bool false)), none⟩, ⟨some 119, .mov (.t 118), none⟩, ⟨some 120, .mov (.t 3), (some (119, false))⟩, ⟨some 121, .bin .neq (.t 120) (.c (.int .u8 9)), (some (119, false))⟩, ⟨some 122, .mov (.t 121), (some (119, false))⟩, ⟨some 123, .faddr 15 (.t 1), (some (122, true))⟩, ⟨some 124, .load none (.t 123), (some (122, true))⟩, ⟨some 125, .pick (.t 122) (.t 124) (.c (.bool false)), (some (119, false))⟩, ⟨some 126, .pick (.t 119) (.c (.bool true)) (.t 125), none⟩]
def zZi.r15 : List Cp := [⟨some 2, .mov (.c (.bool false)), none⟩]
def zZi.r16 : List Cp := [⟨some 127, .mov (.t 3), none⟩, ⟨some 128, .bin .eql (.t 127) (.c (.int .u8 12)), none⟩]
def zZi.r17 : List Cp := [⟨some 129, .faddr 13 (.t 1), none⟩, ⟨some 130, .load none (.t 129), none⟩, ⟨some 131, .bin .neq (.t 130) (.c (.int .u8 1)), none⟩, ⟨some 132, .mov (.t 131), none⟩, ⟨some 133, .faddr 13 (.t 1), (some (132, true))⟩, ⟨some 134, .load none (.t 133), (some (132, true))⟩, ⟨some 135, .bin .neq (.t 134) (.c (.int .u8 2)), (some (132, true))⟩, ⟨some 136, .pick (.t 132) (.t 135) (.c (.bool false)), none⟩]
def zZi.r18 : List Cp := [⟨some 2, .mov (.c (.bool false)), none⟩]
def zZi.r19 : List Cp := [⟨some 137, .faddr 13 (.t 1), none⟩, ⟨some 138, .load none (.t 137), none⟩, ⟨some 139, .bin .neq (.t 138) (.c (.int .u8 0)), none⟩, ⟨some 140, .mov (.t 139), none⟩, ⟨some 141, .faddr 14 (.t 1), (some (140, false))⟩, ⟨some 142, .load none (.t 141), (some (140, false))⟩, ⟨some 143, .pick (.t 140) (.c (.bool true)) (.t 142), none⟩, ⟨some 144, .mov (.t 143), none⟩, ⟨some 145, .faddr 11 (.t 1), (some (144, false))⟩, ⟨some 146, .load none (.t 145), (some (144, false))⟩, ⟨some 147, .bin .neq (.t 146) (.c (.int .i64 0)), (some (144, false))⟩, ⟨some 148, .pick (.t 144) (.c (.bool true)) (.t 147), none⟩]
def zZi.r20 : List Cp := [⟨some 2, .mov (.c (.bool false)), none⟩]
def zZi.r21 : List Cp := [⟨some 149, .faddr 8 (.t 1), none⟩, ⟨some 150, .load none (.t 149), none⟩, ⟨some 151, .bin .eql (.t 150) (.c (.int .i64 0)), none⟩, ⟨some 152, .mov (.t 151), none⟩, ⟨some 153, .mov (.t 3), (some (152, false))⟩, ⟨some 154, .bin .neq (.t 153) (.c (.int .u8 9)), (some (152, false))⟩, ⟨some 155, .mov (.t 154), (some (152, false))⟩, ⟨some 156, .mov (.t 3), (some (155, true))⟩, ⟨some 157, .bin .neq (.t 156) (.c (.int .u8 11)), (some (155, true))⟩, ⟨some 158, .pick (.t 155) (.t 157) (.c (.bool false)), (some (152, false))⟩, ⟨some 159, .mov (.t 158), (some (152, false))⟩, ⟨some 160, .mov (.t 3), (some (159, true))⟩, ⟨some 161, .bin .neq (.t 160) (.c (.int .u8 12)), (some (159, true))⟩, ⟨some 162, .pick (.t 159) (.t 161) (.c (.bool false)), (some (152, false))⟩, ⟨some 163, .pick (.t 152) (.c (.bool true)) (.t 162), none⟩, ⟨some 2, .mov (.t 163), none⟩]
def zZi.c : Cf := ⟨164, [.tmp 2], (.seq (.region zZi.r0) (.seq (.region zZi.r1) (.seq (.seq (.region zZi.r2) (.cond (.t 32) (.seq (.region zZi.r3) .ret) .skip)) (.seq (.block 0 (.seq (.region zZi.r4) (.cond (.t 33) (.seq (.region zZi.r5) (.cond (.t 39) (.seq (.region zZi.r6) .ret) .skip)) (.seq (.region zZi.r7) (.cond (.t 40) (.seq (.region zZi.r8) (.cond (.t 66) (.seq (.region zZi.r9) .ret) .skip)) (.seq (.region zZi.r10) (.cond (.t 67) (.seq (.region zZi.r11) .ret) .skip))))))) (.seq (.seq (.region zZi.r12) (.cond (.t 105) (.seq (.region zZi.r13) .ret) .skip)) (.seq (.seq (.region zZi.r14) (.cond (.t 126) (.seq (.region zZi.r15) .ret) .skip)) (.seq (.seq (.region zZi.r16) (.cond (.t 128) (.seq (.region zZi.r17) (.cond (.t 136) (.seq (.region zZi.r18) .ret) .skip)) (.seq (.region zZi.r19) (.cond (.t 148) (.seq (.region zZi.r20) .ret) .skip)))) (.seq (.region zZi.r21) .ret)))))))), true⟩
abbrev zZi : V := .fn (.func 63) [] []
abbrev zZi.k : Nat := 63
def zZn.r0 : List Cp := [⟨some 2, .box (.t 0), none⟩, ⟨some 4, .mov (.c (.bool false)), none⟩]
def zZn.r1 : List Cp := [⟨some 16, .faddr 0 (.t 2), none⟩, ⟨some 17, .load none (.t 16), none⟩, ⟨some 18, .mov (.t 1), none⟩, ⟨some 19, .bin .sub (.t 18) (.c (.int .i64 1)), none⟩, ⟨some 20, .iaddr 16 (.t 17) (.t 19), none⟩, ⟨some 21, .load (some 16) (.t 20), none⟩, ⟨some 5, .alloc [.int .u8 0, .str ⟨#[]⟩, .str ⟨#[]⟩, .str ⟨#[]⟩, .str ⟨#[]⟩, .str ⟨#[]⟩, .nils, .nils, .int .i64 0, .nils, .int .i64 0, .int .i64 0, .int .i64 0, .int .u8 0, .bool false, .bool false], none⟩, ⟨none, .store 16 (.t 5) (.t 21), none⟩]
def zZn.r2 : List Cp := [⟨some 22, .faddr 9 (.t 5), none⟩, ⟨some 23, .load none (.t 22), none⟩, ⟨some 24, .len .l (.t 23), none⟩, ⟨some 25, .mov (.c (.int .i64 0)), none⟩]
def zZn.r3 : List Cp := [⟨some 26, .bin .lss (.t 25) (.t 24), none⟩]
def zZn.r4 : List Cp := [⟨some 27, .iaddr 1 (.t 23) (.t 25), none⟩, ⟨some 28, .load none (.t 27), none⟩, ⟨some 7, .mov (.t 28), none⟩]
def zZn.r5 : List Cp := [⟨some 30, .load (some 1) (.t 2), none⟩, ⟨some 31, .mov (.t 7), none⟩, ⟨some 32, .call (.c (.fn (.func 58) [] [])) [(.t 30), (.t 31)], none⟩, ⟨some 29, .mov (.t 32), none⟩, ⟨some 33, .ext (.t 29) 0, none⟩, ⟨some 34, .ext (.t 29) 1, none⟩, ⟨some 8, .alloc [.int .u8 0, .str ⟨#[]⟩, .str ⟨#[]⟩, .str ⟨#[]⟩, .str ⟨#[]⟩, .str ⟨#[]⟩, .nils, .nils, .int .i64 0, .nils, .int .i64 0, .int .i64 0, .int .i64 0, .int .u8 0, .bool false, .bool false], none⟩, ⟨none, .store 16 (.t 8) (.t 33), none⟩, ⟨some 9, .mov (.t 34), none⟩]
def zZn.r6 : List Cp := [⟨some 35, .mov (.t 9), none⟩, ⟨some 36, .un .not (.t 35), none⟩, ⟨some 37, .mov (.t 36), none⟩, ⟨some 38, .faddr 8 (.t 8), (some (37, false))⟩, ⟨some 39, .load none (.t 38), (some (37, false))⟩, ⟨some 40, .mov (.t 1), (some (37, false))⟩, ⟨some 41, .bin .neq (.t 39) (.t 40), (some (37, false))⟩, ⟨some 42, .pick (.t 37) (.c (.bool true)) (.t 41), none⟩, ⟨some 43, .mov (.t 42), none⟩, ⟨some 44, .faddr 9 (.t 5), (some (43, false))⟩, ⟨some 45, .load none (.t 44), (some (43, false))⟩, ⟨some 46, .mov (.t 7), (some (43, false))⟩, ⟨some 47, .call (.c (.fn (.func 84) [] [])) [(.t 45), (.t 46)], (some (43, false))⟩, ⟨some 48, .bin .neq (.t 47) (.c (.int .i64 1)), (some (43, false))⟩, ⟨some 49, .pick (.t 43) (.c (.bool true)) (.t 48), none⟩, ⟨some 50, .mov (.t 49), none⟩, ⟨some 51, .faddr 10 (.t 8), (some (50, false))⟩, ⟨some 52, .load none (.t 51), (some (50, false))⟩, ⟨some 53, .faddr 10 (.t 5), (some (50, false))⟩, ⟨some 54, .load none (.t 53), (some (50, false))⟩, ⟨some 55, .bin .neq (.t 52) (.t 54), (some (50, false))⟩, ⟨some 56, .pick (.t 50) (.c (.bool true)) (.t 55), none⟩]
def zZn.r7 : List Cp := [⟨some 4, .mov (.c (.bool false)), none⟩]
def zZn.r8 : List Cp := [⟨some 57, .bin .add (.t 25) (.c (.int .i64 1)), none⟩, ⟨some 25, .mov (.t 57), none⟩]
def zZn.b9 : Cc := (.seq (.region zZn.r3) (.seq (.cond (.t 26) .skip (.exit 0)) (.seq (.block 1 (.seq (.region zZn.r4) (.seq (.region zZn.r5) (.seq (.region zZn.r6) (.cond (.t 56) (.seq (.region zZn.r7) .ret) .skip))))) (.region zZn.r8))))
def zZn.r10 : List Cp := [⟨some 58, .faddr 8 (.t 5), none⟩, ⟨some 59, .load none (.t 58), none⟩, ⟨some 60, .bin .neq (.t 59) (.c (.int .i64 0)), none⟩]
def zZn.r11 : List Cp := [⟨some 62, .load (some 1) (.t 2), none⟩, ⟨some 63, .faddr 8 (.t 5), none⟩, ⟨some 64, .load none (.t 63), none⟩, ⟨some 65, .call (.c (.fn (.func 58) [] [])) [(.t 62), (.t 64)], none⟩, ⟨some 61, .mov (.t 65), none⟩, ⟨some 66, .ext (.t 61) 0, none⟩, ⟨some 67, .ext (.t 61) 1, none⟩, ⟨some 10, .alloc [.int .u8 0, .str ⟨#[]⟩, .str ⟨#[]⟩, .str ⟨#[]⟩, .str ⟨#[]⟩, .str ⟨#[]⟩, .nils, .nils, .int .i64 0, .nils, .int .i64 0, .int .i64 0, .int .i64 0, .int .u8 0, .bool false, .bool false], none⟩, ⟨none, .store 16 (.t 10) (.t 66), none⟩, ⟨some 11, .mov (.t 67), none⟩]
def zZn.r12 : List Cp := [⟨some 68, .mov (.t 11), none⟩, ⟨some 69, .un .not (.t 68), none⟩, ⟨some 70, .mov (.t 69), none⟩, ⟨some 71, .faddr 9 (.t 10), (some (70, false))⟩, ⟨some 72, .load none (.t 71), (some (70, false))⟩, ⟨some 73, .mov (.t 1), (some (70, false))⟩, ⟨some 74, .call (.c (.fn (.func 84) [] [])) [(.t 72), (.t 73)], (some (70, false))⟩, ⟨some 75, .bin .neq (.t 74) (.c (.int .i64 1)), (some (70, false))⟩, ⟨some 76, .pick (.t 70) (.c (.bool true)) (.t 75), none⟩]
def zZn.r13 : List Cp := [⟨some 4, .mov (.c (.bool false)), none⟩]
def zZn.r14 : List Cp := [⟨some 77, .load (some 1) (.t 2), none⟩, ⟨some 78, .faddr 10 (.t 5), none⟩, ⟨some 79, .load none (.t 78), none⟩, ⟨some 80, .call (.c (.fn (.func 85) [] [])) [(.t 77), (.t 79)], none⟩, ⟨some 81, .bin .neq (.t 80) (.c (.int .u8 9)), none⟩, ⟨some 82, .mov (.t 81), none⟩, ⟨some 83, .faddr 0 (.t 5), (some (82, false))⟩, ⟨some 84, .load none (.t 83), (some (82, false))⟩, ⟨some 85, .bin .eql (.t 84) (.c (.int .u8 9)), (some (82, false))⟩, ⟨some 86, .mov (.t 85), (some (82, false))⟩, ⟨some 87, .faddr 10 (.t 5), (some (86, true))⟩, ⟨some 88, .load none (.t 87), (some (86, true))⟩, ⟨some 89, .mov (.t 1), (some (86, true))⟩, ⟨some 90, .bin .neq (.t 88) (.t 89), (some (86, true))⟩, ⟨some 91, .pick (.t 86) (.t 90) (.c (.bool false)), (some (82, false))⟩, ⟨some 92, .pick (.t 82) (.c (.bool true)) (.t 91), none⟩]
def zZn.r15 : List Cp := [⟨some 4, .mov (.c (.bool false)), none⟩]
def zZn.r16 : List Cp := [⟨some 93, .faddr 12 (.t 5), none⟩, ⟨some 94, .load none (.t 93), none⟩, ⟨some 95, .bin .neq (.t 94) (.c (.int .i64 0)), none⟩]
def zZn.r17 : List Cp := [⟨some 97, .load (some 1) (.t 2), none⟩, ⟨some 98, .faddr 12 (.t 5), none⟩, ⟨some 99, .load none (.t 98), none⟩, ⟨some 100, .call (.c (.fn (.func 58) [] [])) [(.t 97), (.t 99)], none⟩, ⟨some 96, .mov (.t 100), none⟩, ⟨some 101, .ext (.t 96) 0, none⟩, ⟨some 102, .ext (.t 96) 1, none⟩, ⟨some 12, .alloc [.int .u8 0, .str ⟨#[]⟩, .str ⟨#[]⟩, .str ⟨#[]⟩, .str ⟨#[]⟩, .str ⟨#[]⟩, .nils, .nils, .int .i64 0, .nils, .int .i64 0, .int .i64 0, .int .i64 0, .int .u8 0, .bool false, .bool false], none⟩, ⟨none, .store 16 (.t 12) (.t 101), none⟩, ⟨some 13, .mov (.t 102), none⟩]
def zZn.r18 : List Cp := [⟨some 103, .mov (.t 13), none⟩, ⟨some 104, .un .not (.t 103), none⟩, ⟨some 105, .mov (.t 104), none⟩, ⟨some 106, .faddr 0 (.t 12), (some (105, false))⟩, ⟨some 107, .load none (.t 106), (some (105, false))⟩, ⟨some 108, .bin .neq (.t 107) (.c (.int .u8 12)), (some (105, false))⟩, ⟨some 109, .pick (.t 105) (.c (.bool true)) (.t 108), none⟩, ⟨some 110, .mov (.t 109), none⟩, ⟨some 111, .faddr 11 (.t 12), (some (110, false))⟩, ⟨some 112, .load none (.t 111), (some (110, false))⟩, ⟨some 113, .mov (.t 1), (some (110, false))⟩, ⟨some 114, .bin .neq (.t 112) (.t 113), (some (110, false))⟩, ⟨some 115, .pick (.t 110) (.c (.bool true)) (.t 114), none⟩]
def zZn.r19 : List Cp := [⟨some 4, .mov (.c (.bool false)), none⟩]
def zZn.r20 : List Cp := [⟨some 116, .faddr 0 (.t 5), none⟩, ⟨some 117, .load none (.t 116), none⟩, ⟨some 118, .bin .eql (.t 117) (.c (.int .u8 12)), none⟩]
def zZn.r21 : List Cp := [⟨some 120, .load (some 1) (.t 2), none⟩, ⟨some 121, .faddr 11 (.t 5), none⟩, ⟨some 122, .load none (.t 121), none⟩, ⟨some 123, .call (.c (.fn (.func 58) [] [])) [(.t 120), (.t 122)], none⟩, ⟨some 119, .mov (.t 123), none⟩, ⟨some 124, .ext (.t 119) 0, none⟩, ⟨some 125, .ext (.t 119) 1, none⟩, ⟨some 14, .alloc [.int .u8 0, .str ⟨#[]⟩, .str ⟨#[]⟩, .str ⟨#[]⟩, .str ⟨#[]⟩, .str ⟨#[]⟩, .nils, .nils, .int .i64 0, .nils, .int .i64 0, .int .i64 0, .int .i64 0, .int .u8 0, .bool false, .bool false], none⟩, ⟨none, .store 16 (.t 14) (.t 124), none⟩, ⟨some 15, .mov (.t 125), none⟩]
def zZn.r22 : List Cp := [⟨some 126, .mov (.t 15), none⟩, ⟨some 127, .un .not (.t 126), none⟩, ⟨some 128, .mov (.t 127), none⟩, ⟨some 129, .faddr 0 (.t 14), (some (128, false))⟩, ⟨some 130, .load none (.t 129), (some (128, false))⟩, ⟨some 131, .bin .neq (.t 130) (.c (.int .u8 1)), (some (128, false))⟩, ⟨some 132, .pick (.t 128) (.c (.bool true)) (.t 131), none⟩, ⟨some 133, .mov (.t 132), none⟩, ⟨some 134, .faddr 12 (.t 14), (some (133, false))⟩, ⟨some 135, .load none (.t 134), (some (133, false))⟩, ⟨some 136, .mov (.t 1), (some (133, false))⟩, ⟨some 137, .bin .neq (.t 135) (.t 136), (some (133, false))⟩, ⟨some 138, .pick (.t 133) (.c (.bool true)) (.t 137), none⟩, ⟨some 139, .mov (.t 138), none⟩, ⟨some 140, .faddr 10 (.t 14), (some (139, false))⟩, ⟨some 141, .load none (.t 140), (some (139, false))⟩, ⟨some 142, .faddr 10 (.t 5), (some (139, false))⟩, ⟨some 143, .load none (.t 142), (some (139, false))⟩, ⟨some 144, .bin .neq (.t 141) (.t 143), (some (139, false))⟩, ⟨some 145, .pick (.t 139) (.c (.bool true)) (.t 144), none⟩]
def zZn.r23 : List Cp := [⟨some 4, .mov (.c (.bool false)), none⟩]
def zZn.r24 : List Cp := [⟨some 146, .load (some 1) (.t 2), none⟩, ⟨some 147, .faddr 0 (.t 5), none⟩, ⟨some 148, .load none (.t 147), none⟩, ⟨some 149, .faddr 9 (.t 5), none⟩, ⟨some 150, .load none (.t 149), none⟩, ⟨some 151, .call (.c (.fn (.func 86) [] [])) [(.t 146), (.t 148), (.t 150)], none⟩, ⟨some 4, .mov (.t 151), none⟩]
def zZn.c : Cf := ⟨152, [.tmp 4], (.seq (.region zZn.r0) (.seq (.region zZn.r1) (.seq (.seq (.region zZn.r2) (.block 0 (.loop zZn.b9))) (.seq (.seq (.region zZn.r10) (.cond (.t 60) (.seq (.region zZn.r11) (.seq (.region zZn.r12) (.cond (.t 76) (.seq (.region zZn.r13) .ret) .skip))) .skip)) (.seq (.seq (.region zZn.r14) (.cond (.t 92) (.seq (.region zZn.r15) .ret) .skip)) (.seq (.seq (.region zZn.r16) (.cond (.t 95) (.seq (.region zZn.r17) (.seq (.region zZn.r18) (.cond (.t 115) (.seq (.region zZn.r19) .ret) .skip))) .skip)) (.seq (.seq (.region zZn.r20) (.cond (.t 118) (.seq (.region zZn.r21) (.seq (.region zZn.r22) (.cond (.t 145) (.seq (.region zZn.r23) .ret) .skip))) .skip)) (.seq (.region zZn.r24) .ret)))))))), true⟩
abbrev zZn : V := .fn (.func 64) [] []
abbrev zZn.k : Nat := 64
def zZX.r0 : List Cp := [⟨some 2, .box (.t 0), none⟩, ⟨some 4, .mov (.c (.bool false)), none⟩]
def zZX.r1 : List Cp := [⟨some 9, .mov (.t 1), none⟩, ⟨some 5, .mov (.t 9), none⟩]
def zZX.r2 : List Cp := [⟨some 6, .mov (.c (.int .i64 0)), none⟩]
def zZX.r3 : List Cp := [⟨some 10, .mov (.t 6), none⟩, ⟨some 11, .faddr 0 (.t 2), none⟩, ⟨some 12, .load none (.t 11), none⟩, ⟨some 13, .len .l (.t 12), none⟩, ⟨some 14, .bin .leq (.t 10) (.t 13), none⟩]
def zZX.r4 : List Cp := [⟨some 18, .load (some 1) (.t 2), none⟩, ⟨some 19, .mov (.t 5), none⟩, ⟨some 20, .call (.c (.fn (.func 58) [] [])) [(.t 18), (.t 19)], none⟩, ⟨some 17, .mov (.t 20), none⟩, ⟨some 21, .ext (.t 17) 0, none⟩, ⟨some 22, .ext (.t 17) 1, none⟩, ⟨some 7, .alloc [.int .u8 0, .str ⟨#[]⟩, .str ⟨#[]⟩, .str ⟨#[]⟩, .str ⟨#[]⟩, .str ⟨#[]⟩, .nils, .nils, .int .i64 0, .nils, .int .i64 0, .int .i64 0, .int .i64 0, .int .u8 0, .bool false, .bool false], none⟩, ⟨none, .store 16 (.t 7) (.t 21), none⟩, ⟨some 8, .mov (.t 22), none⟩]
def zZX.r5 : List Cp := [⟨some 23, .mov (.t 8), none⟩, ⟨some 24, .un .not (.t 23), none⟩]
def zZX.r6 : List Cp := [⟨some 4, .mov (.c (.bool false)), none⟩]
def zZX.r7 : List Cp := [⟨some 25, .load (some 16) (.t 7), none⟩, ⟨some 26, .call (.c (.fn (.func 87) [] [])) [(.t 25)], none⟩, ⟨some 5, .mov (.t 26), none⟩]
def zZX.r8 : List Cp := [⟨some 15, .mov (.t 6), none⟩, ⟨some 16, .bin .add (.t 15) (.c (.int .i64 1)), none⟩, ⟨some 6, .mov (.t 16), none⟩]
def zZX.b9 : Cc := (.seq (.seq (.region zZX.r3) (.cond (.t 14) .skip (.exit 0))) (.seq (.block 1 (.seq (.region zZX.r4) (.seq (.seq (.region zZX.r5) (.cond (.t 24) (.seq (.region zZX.r6) .ret) .skip)) (.region zZX.r7)))) (.region zZX.r8)))
def zZX.r10 : List Cp := [⟨some 4, .mov (.c (.bool true)), none⟩]
def zZX.c : Cf := ⟨27, [.tmp 4], (.seq (.region zZX.r0) (.seq (.region zZX.r1) (.seq (.seq (.region zZX.r2) (.block 0 (.loop zZX.b9))) (.seq (.region zZX.r10) .ret)))), true⟩
abbrev zZX : V := .fn (.func 65) [] []
abbrev zZX.k : Nat := 65
def qZt.r0 : List Cp := [⟨some 3, .box (.t 0), none⟩, ⟨some 6, .mov (.c (.int .i64 0)), none⟩]
def qZt.r1 : List Cp := [⟨some 8, .load (some 1) (.t 3), none⟩, ⟨some 9, .mov (.t 1), none⟩, ⟨some 10, .call (.c (.fn (.func 51) [] [])) [(.t 8), (.t 9)], none⟩, ⟨some 11, .field 9 none (.t 10), none⟩, ⟨some 7, .mov (.t 11), none⟩]
def qZt.r2 : List Cp := [⟨some 13, .mov (.t 7), none⟩, ⟨some 14, .len .l (.t 13), none⟩, ⟨some 15, .bin .eql (.t 14) (.c (.int .i64 0)), none⟩, ⟨some 12, .mov (.t 15), none⟩]
def qZt.r3 : List Cp := [⟨some 6, .mov (.c (.int .i64 0)), none⟩]
def qZt.r4 : List Cp := [⟨some 17, .mov (.t 2), none⟩, ⟨some 16, .mov (.t 17), none⟩]
def qZt.r5 : List Cp := [⟨some 18, .mov (.t 7), none⟩, ⟨some 19, .mov (.t 7), none⟩, ⟨some 20, .len .l (.t 19), none⟩, ⟨some 21, .bin .sub (.t 20) (.c (.int .i64 1)), none⟩, ⟨some 22, .iaddr 1 (.t 18) (.t 21), none⟩, ⟨some 23, .load none (.t 22), none⟩, ⟨some 6, .mov (.t 23), none⟩]
def qZt.r6 : List Cp := [⟨some 24, .mov (.t 7), none⟩, ⟨some 25, .iaddr 1 (.t 24) (.c (.int .i64 0)), none⟩, ⟨some 26, .load none (.t 25), none⟩, ⟨some 6, .mov (.t 26), none⟩]
def qZt.c : Cf := ⟨27, [.tmp 6], (.seq (.region qZt.r0) (.seq (.region qZt.r1) (.seq (.block 0 (.seq (.region qZt.r2) (.cond (.t 12) (.seq (.region qZt.r3) .ret) (.seq (.region qZt.r4) (.cond (.t 16) (.seq (.region qZt.r5) .ret) .skip))))) (.seq (.region qZt.r6) .ret)))), true⟩
abbrev qZt : V := .fn (.func 66) [] []
abbrev qZt.k : Nat := 66
def zZl.r0 : List Cp := [⟨some 2, .box (.t 0), none⟩, ⟨some 4, .mov (.c (.nils)), none⟩]
def zZl.r1 : List Cp := [⟨some 6, .mov (.t 1), none⟩]
def zZl.r2 : List Cp := [⟨some 5, .mov (.t 7), none⟩]
def zZl.r3 : List Cp := [⟨some 8, .load none (.t 2), none⟩, ⟨some 9, .mov (.t 5), none⟩, ⟨some 10, .bslice [.int .i64 0] 1 1 [(0, (.t 9))], none⟩, ⟨some 11, .app 1 8 (.t 8) (.t 10), none⟩, ⟨none, .store 1 (.t 2) (.t 11), none⟩]
def zZl.b4 : Cc := (.block 1 (.region zZl.r3))
def zZl.r5 : List Cp := [⟨some 12, .load none (.t 2), none⟩, ⟨some 4, .mov (.t 12), none⟩]
def zZl.c : Cf := ⟨13, [.tmp 4], (.seq (.region zZl.r0) (.seq (.seq (.region zZl.r1) (.block 0 (.rfunc (.t 6) [7] (.region zZl.r2) zZl.b4))) (.seq (.region zZl.r5) .ret))), false⟩
abbrev zZl : V := .fn (.func 67) [] []
abbrev zZl.k : Nat := 67
def qZk.r0 : List Cp := [⟨some 4, .load (some 1) (.t 1), none⟩, ⟨some 5, .load none (.t 2), none⟩, ⟨some 6, .mov (.t 0), none⟩, ⟨some 7, .call (.c (.fn (.func 69) [] [])) [(.t 4), (.t 5), (.t 6)], none⟩]
def qZk.c : Cf := ⟨8, [], (.region qZk.r0), false⟩
abbrev qZk : V := .fn (.func 68) [] []
abbrev qZk.k : Nat := 68
def zZO.r0 : List Cp := [⟨some 3, .box (.t 0), none⟩, ⟨some 6, .mov (.c (.bool false)), none⟩]
def zZO.r1 : List Cp := [⟨some 9, .mov (.t 2), none⟩, ⟨some 10, .mov (.t 1), none⟩, ⟨some 11, .call (.t 9) [(.t 10)], none⟩, ⟨some 12, .un .not (.t 11), none⟩]
def zZO.r2 : List Cp := [⟨some 6, .mov (.c (.bool false)), none⟩]
def zZO.r3 : List Cp := [⟨some 13, .load (some 1) (.t 3), none⟩, ⟨some 14, .mov (.t 1), none⟩, ⟨some 15, .call (.c (.fn (.func 51) [] [])) [(.t 13), (.t 14)], none⟩, ⟨some 16, .field 9 none (.t 15), none⟩, ⟨some 17, .len .l (.t 16), none⟩, ⟨some 18, .mov (.c (.int .i64 0)), none⟩]
def zZO.r4 : List Cp := [⟨some 19, .bin .lss (.t 18) (.t 17), none⟩]
def zZO.r5 : List Cp := [⟨some 20, .iaddr 1 (.t 16) (.t 18), none⟩, ⟨some 21, .load none (.t 20), none⟩, ⟨some 8, .mov (.t 21), none⟩]
def zZO.r6 : List Cp := [⟨some 22, .load (some 1) (.t 3), none⟩, ⟨some 23, .mov (.t 8), none⟩, ⟨some 24, .mov (.t 2), none⟩, ⟨some 25, .call (.c (.fn (.func 69) [] [])) [(.t 22), (.t 23), (.t 24)], none⟩, ⟨some 26, .un .not (.t 25), none⟩]
def zZO.r7 : List Cp := [⟨some 6, .mov (.c (.bool false)), none⟩]
def zZO.r8 : List Cp := [⟨some 27, .bin .add (.t 18) (.c (.int .i64 1)), none⟩, ⟨some 18, .mov (.t 27), none⟩]
def zZO.b9 : Cc := (.seq (.region zZO.r4) (.seq (.cond (.t 19) .skip (.exit 0)) (.seq (.block 1 (.seq (.region zZO.r5) (.seq (.region zZO.r6) (.cond (.t 26) (.seq (.region zZO.r7) .ret) .skip)))) (.region zZO.r8))))
def zZO.r10 : List Cp := [⟨some 6, .mov (.c (.bool true)), none⟩]
def zZO.c : Cf := ⟨28, [.tmp 6], (.seq (.region zZO.r0) (.seq (.seq (.region zZO.r1) (.cond (.t 12) (.seq (.region zZO.r2) .ret) .skip)) (.seq (.seq (.region zZO.r3) (.block 0 (.loop zZO.b9))) (.seq (.region zZO.r10) .ret)))), false⟩
abbrev zZO : V := .fn (.func 69) [] []
abbrev zZO.k : Nat := 69
def qZe.r0 : List Cp := [⟨some 1, .box (.t 0), none⟩, ⟨some 2, .mov (.c (.int .i64 0)), none⟩]
def qZe.r1 : List Cp := [⟨some 3, .faddr 0 (.t 1), none⟩, ⟨some 4, .load none (.t 3), none⟩, ⟨some 5, .bin .eql (.t 4) (.c (.int .u8 12)), none⟩]
def qZe.r2 : List Cp := [⟨some 6, .faddr 11 (.t 1), none⟩, ⟨some 7, .load none (.t 6), none⟩, ⟨some 2, .mov (.t 7), none⟩]
def qZe.r3 : List Cp := [⟨some 8, .faddr 8 (.t 1), none⟩, ⟨some 9, .load none (.t 8), none⟩, ⟨some 2, .mov (.t 9), none⟩]
def qZe.c : Cf := ⟨10, [.tmp 2], (.seq (.region qZe.r0) (.seq (.seq (.region qZe.r1) (.cond (.t 5) (.seq (.region qZe.r2) .ret) .skip)) (.seq (.region qZe.r3) .ret))), true⟩
abbrev qZe : V := .fn (.func 70) [] []
abbrev qZe.k : Nat := 70
def zZe.r0 : List Cp := [⟨some 2, .alloc [.bool false, .bool false, .bool false, .bool false, .bool false, .bool false], none⟩]
def zZe.r1 : List Cp := [⟨some 3, .mov (.t 0), none⟩]
def zZe.r2 : List Cp := [⟨some 5, .bin .eql (.t 3) (.c (.int .u8 1)), none⟩, ⟨some 4, .mov (.t 5), none⟩]
def zZe.r3 : List Cp := [⟨some 6, .build [.bool false, .bool false, .bool false, .bool false, .bool false, .bool false] [(0, 1, (.c (.bool true))), (2, 1, (.c (.bool true))), (3, 1, (.c (.bool true))), (4, 1, (.c (.bool true)))], none⟩, ⟨none, .store 6 (.t 2) (.t 6), none⟩]
def zZe.r4 : List Cp := [⟨some 8, .bin .eql (.t 3) (.c (.int .u8 3)), none⟩, ⟨some 7, .mov (.t 8), none⟩]
def zZe.r5 : List Cp := [⟨some 9, .bin .eql (.t 3) (.c (.int .u8 4)), none⟩, ⟨some 7, .mov (.t 9), none⟩]
def zZe.r6 : List Cp := [⟨some 10, .bin .eql (.t 3) (.c (.int .u8 8)), none⟩, ⟨some 7, .mov (.t 10), none⟩]
def zZe.r7 : List Cp := [⟨some 11, .build [.bool false, .bool false, .bool false, .bool false, .bool false, .bool false] [(0, 1, (.c (.bool true))), (1, 1, (.c (.bool true))), (3, 1, (.c (.bool true)))], none⟩, ⟨none, .store 6 (.t 2) (.t 11), none⟩]
def zZe.r8 : List Cp := [⟨some 13, .bin .eql (.t 3) (.c (.int .u8 7)), none⟩, ⟨some 12, .mov (.t 13), none⟩]
def zZe.r9 : List Cp := [⟨some 14, .build [.bool false, .bool false, .bool false, .bool false, .bool false, .bool false] [(0, 1, (.c (.bool true))), (1, 1, (.c (.bool true))), (3, 1, (.c (.bool true))), (5, 1, (.c (.bool true)))], none⟩, ⟨none, .store 6 (.t 2) (.t 14), none⟩]
def zZe.r10 : List Cp := [⟨some 16, .bin .eql (.t 3) (.c (.int .u8 10)), none⟩, ⟨some 15, .mov (.t 16), none⟩]
def zZe.r11 : List Cp := [⟨some 17, .build [.bool false, .bool false, .bool false, .bool false, .bool false, .bool false] [(0, 1, (.c (.bool true))), (3, 1, (.c (.bool true))), (5, 1, (.c (.bool true)))], none⟩, ⟨none, .store 6 (.t 2) (.t 17), none⟩]
def zZe.r12 : List Cp := [⟨some 19, .bin .eql (.t 3) (.c (.int .u8 9)), none⟩, ⟨some 18, .mov (.t 19), none⟩]
def zZe.r13 : List Cp := [⟨some 20, .bin .eql (.t 3) (.c (.int .u8 11)), none⟩, ⟨some 18, .mov (.t 20), none⟩]
def zZe.r14 : List Cp := [⟨some 21, .bin .eql (.t 3) (.c (.int .u8 12)), none⟩, ⟨some 18, .mov (.t 21), none⟩]
def zZe.r15 : List Cp := [⟨some 22, .build [.bool false, .bool false, .bool false, .bool false, .bool false, .bool false] [(0, 1, (.c (.bool true))), (2, 1, (.c (.bool true)))], none⟩, ⟨none, .store 6 (.t 2) (.t 22), none⟩]
def zZe.r16 : List Cp := [⟨some 23, .build [.bool false, .bool false, .bool false, .bool false, .bool false, .bool false] [], none⟩, ⟨none, .store 6 (.t 2) (.t 23), none⟩]
def zZe.c : Cf := ⟨24, [.cell 2 (some 6)], (.seq (.region zZe.r0) (.seq (.seq (.region zZe.r1) (.block 0 (.seq (.region zZe.r2) (.cond (.t 4) (.seq (.region zZe.r3) .ret) (.seq (.seq (.region zZe.r4) (.cond (.t 7) .skip (.seq (.region zZe.r5) (.cond (.t 7) .skip (.region zZe.r6))))) (.cond (.t 7) (.seq (.region zZe.r7) .ret) (.seq (.region zZe.r8) (.cond (.t 12) (.seq (.region zZe.r9) .ret) (.seq (.region zZe.r10) (.cond (.t 15) (.seq (.region zZe.r11) .ret) (.seq (.seq (.region zZe.r12) (.cond (.t 18) .skip (.seq (.region zZe.r13) (.cond (.t 18) .skip (.region zZe.r14))))) (.cond (.t 18) (.seq (.region zZe.r15) .ret) .skip)))))))))))) (.seq (.region zZe.r16) .ret))), true⟩
abbrev zZe : V := .fn (.func 71) [] []
abbrev zZe.k : Nat := 71
def zZH.r0 : List Cp := [⟨some 2, .box (.t 0), none⟩, ⟨some 3, .box (.t 1), none⟩, ⟨some 4, .mov (.c (.bool false)), none⟩]
def zZH.r1 : List Cp := [⟨some 6, .faddr 4 (.t 3), none⟩, ⟨some 7, .load none (.t 6), none⟩, ⟨some 5, .mov (.t 7), none⟩]
def zZH.r2 : List Cp := [⟨some 8, .faddr 1 (.t 2), none⟩, ⟨some 9, .load (some 3) (.t 8), none⟩, ⟨some 10, .call (.c (.fn (.func 88) [] [])) [(.t 9)], none⟩, ⟨some 4, .mov (.t 10), none⟩]
def zZH.r3 : List Cp := [⟨some 12, .faddr 5 (.t 3), none⟩, ⟨some 13, .load none (.t 12), none⟩, ⟨some 11, .mov (.t 13), none⟩]
def zZH.r4 : List Cp := [⟨some 14, .faddr 1 (.t 2), none⟩, ⟨some 15, .faddr 2 (.t 14), none⟩, ⟨some 16, .load none (.t 15), none⟩, ⟨some 17, .bin .neq (.t 16) (.c (.str ⟨#[]⟩)), none⟩, ⟨some 18, .mov (.t 17), none⟩, ⟨some 19, .faddr 1 (.t 2), (some (18, true))⟩, ⟨some 20, .faddr 2 (.t 19), (some (18, true))⟩, ⟨some 21, .load none (.t 20), (some (18, true))⟩, ⟨some 22, .bslice [.str ⟨#[]⟩] 1 1 [(0, (.t 21))], (some (18, true))⟩, ⟨some 23, .call (.c (.fn (.func 74) [] [])) [(.t 22)], (some (18, true))⟩, ⟨some 24, .pick (.t 18) (.t 23) (.c (.bool false)), none⟩, ⟨some 25, .mov (.t 24), none⟩, ⟨some 26, .faddr 1 (.t 2), (some (25, true))⟩, ⟨some 27, .load (some 3) (.t 26), (some (25, true))⟩, ⟨some 28, .faddr 1 (.t 2), (some (25, true))⟩, ⟨some 29, .faddr 2 (.t 28), (some (25, true))⟩, ⟨some 30, .load none (.t 29), (some (25, true))⟩, ⟨some 31, .build [.str ⟨#[]⟩, .str ⟨#[]⟩, .str ⟨#[]⟩] [(2, 1, (.t 30))], (some (25, true))⟩, ⟨some 32, .eqc false (.cons 0 none (.leaf .s) (.cons 1 none (.leaf .s) (.cons 2 none (.leaf .s) .nil))) (.t 27) (.t 31), (some (25, true))⟩, ⟨some 33, .pick (.t 25) (.t 32) (.c (.bool false)), none⟩, ⟨some 4, .mov (.t 33), none⟩]
def zZH.r5 : List Cp := [⟨some 34, .faddr 1 (.t 2), none⟩, ⟨some 35, .load (some 3) (.t 34), none⟩, ⟨some 36, .build [.str ⟨#[]⟩, .str ⟨#[]⟩, .str ⟨#[]⟩] [], none⟩, ⟨some 37, .eqc false (.cons 0 none (.leaf .s) (.cons 1 none (.leaf .s) (.cons 2 none (.leaf .s) .nil))) (.t 35) (.t 36), none⟩, ⟨some 4, .mov (.t 37), none⟩]
def zZH.c : Cf := ⟨38, [.tmp 4], (.seq (.region zZH.r0) (.seq (.block 0 (.seq (.region zZH.r1) (.cond (.t 5) (.seq (.region zZH.r2) .ret) (.seq (.region zZH.r3) (.cond (.t 11) (.seq (.region zZH.r4) .ret) .skip))))) (.seq (.region zZH.r5) .ret))), true⟩
abbrev zZH : V := .fn (.func 72) [] []
abbrev zZH.k : Nat := 72
def zZm.r0 : List Cp := [⟨some 2, .mov (.c (.bool false)), none⟩]
def zZm.r1 : List Cp := [⟨some 7, .mov (.t 0), none⟩, ⟨some 8, .len .l (.t 7), none⟩, ⟨some 9, .bin .gtr (.t 8) (.c (.int .i64 64)), none⟩]
def zZm.r2 : List Cp := [⟨some 2, .mov (.c (.bool false)), none⟩]
def zZm.r3 : List Cp := [⟨some 10, .mkm, none⟩, ⟨some 3, .mov (.t 10), none⟩]
def zZm.r4 : List Cp := [⟨some 11, .mov (.t 0), none⟩, ⟨some 12, .len .l (.t 11), none⟩, ⟨some 13, .mov (.c (.int .i64 0)), none⟩]
def zZm.r5 : List Cp := [⟨some 14, .bin .lss (.t 13) (.t 12), none⟩]
def zZm.r6 : List Cp := [⟨some 15, .iaddr 4 (.t 11) (.t 13), none⟩, ⟨some 16, .load (some 4) (.t 15), none⟩, ⟨some 5, .alloc [.str ⟨#[]⟩, .str ⟨#[]⟩, .str ⟨#[]⟩, .str ⟨#[]⟩], none⟩, ⟨none, .store 4 (.t 5) (.t 16), none⟩]
def zZm.r7 : List Cp := [⟨some 17, .faddr 0 (.t 5), none⟩, ⟨some 18, .load (some 3) (.t 17), none⟩, ⟨some 19, .call (.c (.fn (.func 89) [] [])) [(.t 18)], none⟩, ⟨some 6, .alloc [.str ⟨#[]⟩, .str ⟨#[]⟩], none⟩, ⟨none, .store 2 (.t 6) (.t 19), none⟩]
def zZm.r8 : List Cp := [⟨some 20, .faddr 0 (.t 5), none⟩, ⟨some 21, .load (some 3) (.t 20), none⟩, ⟨some 22, .call (.c (.fn (.func 88) [] [])) [(.t 21)], none⟩, ⟨some 23, .un .not (.t 22), none⟩, ⟨some 24, .mov (.t 23), none⟩, ⟨some 25, .faddr 3 (.t 5), (some (24, false))⟩, ⟨some 26, .load none (.t 25), (some (24, false))⟩, ⟨some 27, .len .s (.t 26), (some (24, false))⟩, ⟨some 28, .bin .gtr (.t 27) (.c (.int .i64 4096)), (some (24, false))⟩, ⟨some 29, .pick (.t 24) (.c (.bool true)) (.t 28), none⟩, ⟨some 30, .mov (.t 29), none⟩, ⟨some 31, .mov (.t 3), (some (30, false))⟩, ⟨some 32, .load (some 2) (.t 6), (some (30, false))⟩, ⟨some 33, .look (.cons 0 none (.leaf .s) (.cons 1 none (.leaf .s) .nil)) false (.int .i64 0) (.t 31) (.t 32), (some (30, false))⟩, ⟨some 34, .bin .gtr (.t 33) (.c (.int .i64 0)), (some (30, false))⟩, ⟨some 35, .pick (.t 30) (.c (.bool true)) (.t 34), none⟩]
def zZm.r9 : List Cp := [⟨some 2, .mov (.c (.bool false)), none⟩]
def zZm.r10 : List Cp := [⟨some 36, .mov (.t 3), none⟩, ⟨some 37, .load (some 2) (.t 6), none⟩, ⟨some 38, .look (.cons 0 none (.leaf .s) (.cons 1 none (.leaf .s) .nil)) false (.int .i64 0) (.t 36) (.t 37), none⟩, ⟨some 39, .bin .add (.t 38) (.c (.int .i64 1)), none⟩, ⟨some 40, .mapent (.cons 0 none (.leaf .s) (.cons 1 none (.leaf .s) .nil)) (.int .i64 0) (.t 36) (.t 37), none⟩, ⟨some 41, .ext (.t 40) 1, none⟩, ⟨none, .entst (.t 36) (.t 41) (.t 39), none⟩]
def zZm.r11 : List Cp := [⟨some 42, .bin .add (.t 13) (.c (.int .i64 1)), none⟩, ⟨some 13, .mov (.t 42), none⟩]
def zZm.b12 : Cc := (.seq (.region zZm.r5) (.seq (.cond (.t 14) .skip (.exit 0)) (.seq (.block 1 (.seq (.region zZm.r6) (.seq (.region zZm.r7) (.seq (.seq (.region zZm.r8) (.cond (.t 35) (.seq (.region zZm.r9) .ret) .skip)) (.draw zZm.r10 [[], [], [0, 1], [2], [0, 1, 0, 1], [4], [0, 5, 3, 4, 0, 1, 2, 3, 4, 5]] [0, 3, 5]))))) (.region zZm.r11))))
def zZm.r13 : List Cp := [⟨some 2, .mov (.c (.bool true)), none⟩]
def zZm.c : Cf := ⟨43, [.tmp 2], (.seq (.region zZm.r0) (.seq (.seq (.region zZm.r1) (.cond (.t 9) (.seq (.region zZm.r2) .ret) .skip)) (.seq (.region zZm.r3) (.seq (.seq (.region zZm.r4) (.block 0 (.loop zZm.b12))) (.seq (.region zZm.r13) .ret))))), true⟩
abbrev zZm : V := .fn (.func 73) [] []
abbrev zZm.k : Nat := 73
def zZP.r0 : List Cp := [⟨some 2, .mov (.c (.bool false)), none⟩]
def zZP.r1 : List Cp := [⟨some 5, .mov (.t 0), none⟩, ⟨some 6, .len .l (.t 5), none⟩, ⟨some 7, .mov (.c (.int .i64 0)), none⟩]
def zZP.r2 : List Cp := [⟨some 8, .bin .lss (.t 7) (.t 6), none⟩]
def zZP.r3 : List Cp := [⟨some 9, .iaddr 1 (.t 5) (.t 7), none⟩, ⟨some 10, .load none (.t 9), none⟩, ⟨some 4, .mov (.t 10), none⟩]
def zZP.r4 : List Cp := [⟨some 11, .mov (.t 4), none⟩, ⟨some 12, .len .s (.t 11), none⟩, ⟨some 13, .bin .gtr (.t 12) (.c (.int .i64 1024)), none⟩]
def zZP.r5 : List Cp := [⟨some 2, .mov (.c (.bool false)), none⟩]
def zZP.r6 : List Cp := [⟨some 14, .bin .add (.t 7) (.c (.int .i64 1)), none⟩, ⟨some 7, .mov (.t 14), none⟩]
def zZP.b7 : Cc := (.seq (.region zZP.r2) (.seq (.cond (.t 8) .skip (.exit 0)) (.seq (.block 1 (.seq (.region zZP.r3) (.seq (.region zZP.r4) (.cond (.t 13) (.seq (.region zZP.r5) .ret) .skip)))) (.region zZP.r6))))
def zZP.r8 : List Cp := [⟨some 2, .mov (.c (.bool true)), none⟩]
def zZP.c : Cf := ⟨15, [.tmp 2], (.seq (.region zZP.r0) (.seq (.seq (.region zZP.r1) (.block 0 (.loop zZP.b7))) (.seq (.region zZP.r8) .ret))), true⟩
abbrev zZP : V := .fn (.func 74) [] []
abbrev zZP.k : Nat := 74
def qZm.r0 : List Cp := [⟨some 2, .box (.t 0), none⟩, ⟨some 4, .alloc [.int .u8 0, .str ⟨#[]⟩, .str ⟨#[]⟩, .str ⟨#[]⟩, .str ⟨#[]⟩, .str ⟨#[]⟩, .nils, .nils, .int .i64 0, .nils, .int .i64 0, .int .i64 0, .int .i64 0, .int .u8 0, .bool false, .bool false], none⟩, ⟨some 5, .mov (.c (.bool false)), none⟩]
def qZm.r1 : List Cp := [⟨some 6, .mov (.t 1), none⟩, ⟨some 7, .bin .lss (.t 6) (.c (.int .i64 1)), none⟩, ⟨some 8, .mov (.t 7), none⟩, ⟨some 9, .mov (.t 1), (some (8, false))⟩, ⟨some 10, .faddr 0 (.t 2), (some (8, false))⟩, ⟨some 11, .load none (.t 10), (some (8, false))⟩, ⟨some 12, .len .l (.t 11), (some (8, false))⟩, ⟨some 13, .bin .gtr (.t 9) (.t 12), (some (8, false))⟩, ⟨some 14, .pick (.t 8) (.c (.bool true)) (.t 13), none⟩]
def qZm.r2 : List Cp := [⟨some 15, .build [.int .u8 0, .str ⟨#[]⟩, .str ⟨#[]⟩, .str ⟨#[]⟩, .str ⟨#[]⟩, .str ⟨#[]⟩, .nils, .nils, .int .i64 0, .nils, .int .i64 0, .int .i64 0, .int .i64 0, .int .u8 0, .bool false, .bool false] [], none⟩, ⟨none, .store 16 (.t 4) (.t 15), none⟩, ⟨some 5, .mov (.c (.bool false)), none⟩]
def qZm.r3 : List Cp := [⟨some 16, .faddr 0 (.t 2), none⟩, ⟨some 17, .load none (.t 16), none⟩, ⟨some 18, .mov (.t 1), none⟩, ⟨some 19, .bin .sub (.t 18) (.c (.int .i64 1)), none⟩, ⟨some 20, .iaddr 16 (.t 17) (.t 19), none⟩, ⟨some 21, .load (some 16) (.t 20), none⟩, ⟨none, .store 16 (.t 4) (.t 21), none⟩, ⟨some 5, .mov (.c (.bool true)), none⟩]
def qZm.c : Cf := ⟨22, [.cell 4 (some 16), .tmp 5], (.seq (.region qZm.r0) (.seq (.seq (.region qZm.r1) (.cond (.t 14) (.seq (.region qZm.r2) .ret) .skip)) (.seq (.region qZm.r3) .ret))), true⟩
abbrev qZm : V := .fn (.func 75) [] []
abbrev qZm.k : Nat := 75
def zZS.r0 : List Cp := [⟨some 4, .mov (.c (.bool false)), none⟩]
def zZS.r1 : List Cp := [⟨some 5, .mov (.c (.int .i64 0)), none⟩]
def zZS.r2 : List Cp := [⟨some 8, .mov (.t 0), none⟩, ⟨some 9, .len .l (.t 8), none⟩, ⟨some 10, .mov (.c (.int .i64 0)), none⟩]
def zZS.r3 : List Cp := [⟨some 11, .bin .lss (.t 10) (.t 9), none⟩]
def zZS.r4 : List Cp := [⟨some 12, .iaddr 1 (.t 8) (.t 10), none⟩, ⟨some 13, .load none (.t 12), none⟩, ⟨some 7, .mov (.t 13), none⟩]
def zZS.r5 : List Cp := [⟨some 14, .mov (.t 7), none⟩, ⟨some 15, .mov (.t 1), none⟩, ⟨some 16, .bin .eql (.t 14) (.t 15), none⟩]
def zZS.r6 : List Cp := [⟨some 17, .mov (.t 5), none⟩, ⟨some 18, .bin .add (.t 17) (.c (.int .i64 1)), none⟩, ⟨some 5, .mov (.t 18), none⟩]
def zZS.r7 : List Cp := [⟨some 19, .bin .add (.t 10) (.c (.int .i64 1)), none⟩, ⟨some 10, .mov (.t 19), none⟩]
def zZS.b8 : Cc := (.seq (.region zZS.r3) (.seq (.cond (.t 11) .skip (.exit 0)) (.seq (.block 1 (.seq (.region zZS.r4) (.seq (.region zZS.r5) (.cond (.t 16) (.region zZS.r6) .skip)))) (.region zZS.r7))))
def zZS.r9 : List Cp := [⟨some 20, .mov (.t 5), none⟩, ⟨some 21, .bin .eql (.t 20) (.c (.int .i64 1)), none⟩, ⟨some 4, .mov (.t 21), none⟩]
def zZS.c : Cf := ⟨22, [.tmp 4], (.seq (.region zZS.r0) (.seq (.region zZS.r1) (.seq (.seq (.region zZS.r2) (.block 0 (.loop zZS.b8))) (.seq (.region zZS.r9) .ret)))), true⟩
abbrev zZS : V := .fn (.func 76) [] []
abbrev zZS.k : Nat := 76
def qZz.r0 : List Cp := [⟨some 2, .box (.t 0), none⟩, ⟨some 4, .mov (.c (.int .u8 0)), none⟩]
def qZz.r1 : List Cp := [⟨some 8, .load (some 1) (.t 2), none⟩, ⟨some 9, .mov (.t 1), none⟩, ⟨some 10, .call (.c (.fn (.func 75) [] [])) [(.t 8), (.t 9)], none⟩, ⟨some 7, .mov (.t 10), none⟩, ⟨some 11, .ext (.t 7) 0, none⟩, ⟨some 12, .ext (.t 7) 1, none⟩, ⟨some 5, .alloc [.int .u8 0, .str ⟨#[]⟩, .str ⟨#[]⟩, .str ⟨#[]⟩, .str ⟨#[]⟩, .str ⟨#[]⟩, .nils, .nils, .int .i64 0, .nils, .int .i64 0, .int .i64 0, .int .i64 0, .int .u8 0, .bool false, .bool false], none⟩, ⟨none, .store 16 (.t 5) (.t 11), none⟩, ⟨some 6, .mov (.t 12), none⟩]
def qZz.r2 : List Cp := [⟨some 13, .faddr 0 (.t 5), none⟩, ⟨some 14, .load none (.t 13), none⟩, ⟨some 4, .mov (.t 14), none⟩]
def qZz.c : Cf := ⟨15, [.tmp 4], (.seq (.region qZz.r0) (.seq (.region qZz.r1) (.seq (.region qZz.r2) .ret))), true⟩
abbrev qZz : V := .fn (.func 77) [] []
abbrev qZz.k : Nat := 77
def zZA.r0 : List Cp := [⟨some 3, .box (.t 0), none⟩, ⟨some 5, .box (.t 2), none⟩, ⟨some 6, .mov (.c (.bool false)), none⟩]
def zZA.r1 : List Cp := [⟨some 12, .mkm, none⟩, ⟨some 7, .mov (.t 12), none⟩]
def zZA.r2 : List Cp := [⟨some 13, .faddr 9 (.t 5), none⟩, ⟨some 14, .load none (.t 13), none⟩, ⟨some 15, .len .l (.t 14), none⟩, ⟨some 16, .mov (.c (.int .i64 0)), none⟩]
def zZA.r3 : List Cp := [⟨some 17, .bin .lss (.t 16) (.t 15), none⟩]
def zZA.r4 : List Cp := [⟨some 18, .iaddr 1 (.t 14) (.t 16), none⟩, ⟨some 19, .load none (.t 18), none⟩, ⟨some 9, .mov (.t 19), none⟩]
def zZA.r5 : List Cp := [⟨some 21, .load (some 1) (.t 3), none⟩, ⟨some 22, .mov (.t 9), none⟩, ⟨some 23, .call (.c (.fn (.func 75) [] [])) [(.t 21), (.t 22)], none⟩, ⟨some 20, .mov (.t 23), none⟩, ⟨some 24, .ext (.t 20) 0, none⟩, ⟨some 25, .ext (.t 20) 1, none⟩, ⟨some 10, .alloc [.int .u8 0, .str ⟨#[]⟩, .str ⟨#[]⟩, .str ⟨#[]⟩, .str ⟨#[]⟩, .str ⟨#[]⟩, .nils, .nils, .int .i64 0, .nils, .int .i64 0, .int .i64 0, .int .i64 0, .int .u8 0, .bool false, .bool false], none⟩, ⟨none, .store 16 (.t 10) (.t 24), none⟩, ⟨some 11, .mov (.t 25), none⟩]
def zZA.r6 : List Cp := [⟨some 26, .mov (.t 11), none⟩, ⟨some 27, .un .not (.t 26), none⟩, ⟨some 28, .mov (.t 27), none⟩, ⟨some 29, .mov (.t 7), (some (28, false))⟩, ⟨some 30, .mov (.t 9), (some (28, false))⟩, ⟨some 31, .look (.leaf .i) false (.int .i64 0) (.t 29) (.t 30), (some (28, false))⟩, ⟨some 32, .bin .gtr (.t 31) (.c (.int .i64 0)), (some (28, false))⟩, ⟨some 33, .pick (.t 28) (.c (.bool true)) (.t 32), none⟩, ⟨some 34, .mov (.t 33), none⟩, ⟨some 35, .faddr 8 (.t 10), (some (34, false))⟩, ⟨some 36, .load none (.t 35), (some (34, false))⟩, ⟨some 37, .mov (.t 1), (some (34, false))⟩, ⟨some 38, .bin .neq (.t 36) (.t 37), (some (34, false))⟩, ⟨some 39, .pick (.t 34) (.c (.bool true)) (.t 38), none⟩, ⟨some 40, .mov (.t 39), none⟩, ⟨some 41, .faddr 10 (.t 10), (some (40, false))⟩, ⟨some 42, .load none (.t 41), (some (40, false))⟩, ⟨some 43, .faddr 10 (.t 5), (some (40, false))⟩, ⟨some 44, .load none (.t 43), (some (40, false))⟩, ⟨some 45, .bin .neq (.t 42) (.t 44), (some (40, false))⟩, ⟨some 46, .pick (.t 40) (.c (.bool true)) (.t 45), none⟩]
def zZA.r7 : List Cp := [⟨some 6, .mov (.c (.bool false)), none⟩]
def zZA.r8 : List Cp := [⟨some 47, .mov (.t 7), none⟩, ⟨some 48, .mov (.t 9), none⟩, ⟨some 49, .look (.leaf .i) false (.int .i64 0) (.t 47) (.t 48), none⟩, ⟨some 50, .bin .add (.t 49) (.c (.int .i64 1)), none⟩, ⟨none, .mapup (.leaf .i) (.t 47) (.t 48) (.t 50), none⟩]
def zZA.r9 : List Cp := [⟨some 51, .bin .add (.t 16) (.c (.int .i64 1)), none⟩, ⟨some 16, .mov (.t 51), none⟩]
def zZA.b10 : Cc := (.seq (.region zZA.r3) (.seq (.cond (.t 17) .skip (.exit 0)) (.seq (.block 1 (.seq (.region zZA.r4) (.seq (.region zZA.r5) (.seq (.seq (.region zZA.r6) (.cond (.t 46) (.seq (.region zZA.r7) .ret) .skip)) (.region zZA.r8))))) (.region zZA.r9))))
def zZA.r11 : List Cp := [⟨some 52, .load (some 1) (.t 3), none⟩, ⟨some 53, .load (some 16) (.t 5), none⟩, ⟨some 54, .call (.c (.fn (.func 90) [] [])) [(.t 52), (.t 53)], none⟩, ⟨some 6, .mov (.t 54), none⟩]
def zZA.c : Cf := ⟨55, [.tmp 6], (.seq (.region zZA.r0) (.seq (.region zZA.r1) (.seq (.seq (.region zZA.r2) (.block 0 (.loop zZA.b10))) (.seq (.region zZA.r11) .ret)))), true⟩
abbrev zZA : V := .fn (.func 78) [] []
abbrev zZA.k : Nat := 78
def qZG.r0 : List Cp := [⟨some 2, .mov (.c (.bool false)), none⟩]
def qZG.r1 : List Cp := [⟨some 3, .mov (.t 0), none⟩, ⟨some 4, .call (.c (.fn (.func 82) [] [])) [(.t 3)], none⟩, ⟨some 5, .mov (.t 4), none⟩, ⟨some 6, .mov (.t 0), (some (5, false))⟩, ⟨some 7, .call (.c (.fn (.func 83) [] [])) [(.t 6)], (some (5, false))⟩, ⟨some 8, .pick (.t 5) (.c (.bool true)) (.t 7), none⟩, ⟨some 9, .mov (.t 8), none⟩, ⟨some 10, .mov (.t 0), (some (9, false))⟩, ⟨some 11, .bin .eql (.t 10) (.c (.int .u8 10)), (some (9, false))⟩, ⟨some 12, .pick (.t 9) (.c (.bool true)) (.t 11), none⟩, ⟨some 2, .mov (.t 12), none⟩]
def qZG.c : Cf := ⟨13, [.tmp 2], (.seq (.region qZG.r0) (.seq (.region qZG.r1) .ret)), true⟩
abbrev qZG : V := .fn (.func 79) [] []
abbrev qZG.k : Nat := 79
def zZz.r0 : List Cp := [⟨some 2, .mov (.c (.bool false)), none⟩]
def zZz.r1 : List Cp := [⟨some 5, .mov (.t 0), none⟩, ⟨some 6, .len .l (.t 5), none⟩, ⟨some 7, .bin .gtr (.t 6) (.c (.int .i64 64)), none⟩]
def zZz.r2 : List Cp := [⟨some 2, .mov (.c (.bool false)), none⟩]
def zZz.r3 : List Cp := [⟨some 8, .mov (.t 0), none⟩, ⟨some 9, .len .l (.t 8), none⟩, ⟨some 10, .mov (.c (.int .i64 0)), none⟩]
def zZz.r4 : List Cp := [⟨some 11, .bin .lss (.t 10) (.t 9), none⟩]
def zZz.r5 : List Cp := [⟨some 12, .mov (.t 10), none⟩, ⟨some 13, .iaddr 4 (.t 8) (.t 10), none⟩, ⟨some 14, .load (some 4) (.t 13), none⟩, ⟨some 4, .alloc [.str ⟨#[]⟩, .str ⟨#[]⟩, .str ⟨#[]⟩, .str ⟨#[]⟩], none⟩, ⟨some 3, .mov (.t 12), none⟩, ⟨none, .store 4 (.t 4) (.t 14), none⟩]
def zZz.r6 : List Cp := [⟨some 15, .faddr 0 (.t 4), none⟩, ⟨some 16, .load (some 3) (.t 15), none⟩, ⟨some 17, .call (.c (.fn (.func 81) [] [])) [(.t 16)], none⟩, ⟨some 18, .un .not (.t 17), none⟩, ⟨some 19, .mov (.t 18), none⟩, ⟨some 20, .faddr 3 (.t 4), (some (19, false))⟩, ⟨some 21, .load none (.t 20), (some (19, false))⟩, ⟨some 22, .len .s (.t 21), (some (19, false))⟩, ⟨some 23, .bin .gtr (.t 22) (.c (.int .i64 4096)), (some (19, false))⟩, ⟨some 24, .pick (.t 19) (.c (.bool true)) (.t 23), none⟩, ⟨some 25, .mov (.t 24), none⟩, ⟨some 26, .mov (.t 0), (some (25, false))⟩, ⟨some 27, .mov (.t 3), (some (25, false))⟩, ⟨some 28, .slice .l 4 (.t 26) none (some (.t 27)), (some (25, false))⟩, ⟨some 29, .faddr 0 (.t 4), (some (25, false))⟩, ⟨some 30, .load (some 3) (.t 29), (some (25, false))⟩, ⟨some 31, .call (.c (.fn (.func 91) [] [])) [(.t 28), (.t 30)], (some (25, false))⟩, ⟨some 32, .bin .geq (.t 31) (.c (.int .i64 0)), (some (25, false))⟩, ⟨some 33, .pick (.t 25) (.c (.bool true)) (.t 32), none⟩]
def zZz.r7 : List Cp := [⟨some 2, .mov (.c (.bool false)), none⟩]
def zZz.r8 : List Cp := [⟨some 34, .bin .add (.t 10) (.c (.int .i64 1)), none⟩, ⟨some 10, .mov (.t 34), none⟩]
def zZz.b9 : Cc := (.seq (.region zZz.r4) (.seq (.cond (.t 11) .skip (.exit 0)) (.seq (.block 1 (.seq (.region zZz.r5) (.seq (.draw zZz.r6 [[], [0], [1], [2], [3, 2], [4], [5, 4], [6, 4], [7, 4], [4, 8], [9, 4], [10], [10], [11, 12, 10], [10], [14, 10], [13, 15, 10, 10], [16, 10], [10, 17]] [0, 3, 4, 5, 8, 9, 10, 11, 12, 13, 14, 17, 18]) (.cond (.t 33) (.seq (.region zZz.r7) .ret) .skip)))) (.region zZz.r8))))
def zZz.r10 : List Cp := [⟨some 2, .mov (.c (.bool true)), none⟩]
def zZz.c : Cf := ⟨35, [.tmp 2], (.seq (.region zZz.r0) (.seq (.seq (.region zZz.r1) (.cond (.t 7) (.seq (.region zZz.r2) .ret) .skip)) (.seq (.seq (.region zZz.r3) (.block 0 (.loop zZz.b9))) (.seq (.region zZz.r10) .ret)))), true⟩
abbrev zZz : V := .fn (.func 80) [] []
abbrev zZz.k : Nat := 80
def qZb.r0 : List Cp := [⟨some 1, .box (.t 0), none⟩, ⟨some 2, .mov (.c (.bool false)), none⟩]
def qZb.r1 : List Cp := [⟨some 3, .faddr 2 (.t 1), none⟩, ⟨some 4, .load none (.t 3), none⟩, ⟨some 5, .bin .neq (.t 4) (.c (.str ⟨#[]⟩)), none⟩, ⟨some 6, .mov (.t 5), none⟩, ⟨some 7, .faddr 0 (.t 1), (some (6, true))⟩, ⟨some 8, .load none (.t 7), (some (6, true))⟩, ⟨some 9, .len .s (.t 8), (some (6, true))⟩, ⟨some 10, .bin .leq (.t 9) (.c (.int .i64 1024)), (some (6, true))⟩, ⟨some 11, .pick (.t 6) (.t 10) (.c (.bool false)), none⟩, ⟨some 12, .mov (.t 11), none⟩, ⟨some 13, .faddr 1 (.t 1), (some (12, true))⟩, ⟨some 14, .load none (.t 13), (some (12, true))⟩, ⟨some 15, .len .s (.t 14), (some (12, true))⟩, ⟨some 16, .bin .leq (.t 15) (.c (.int .i64 1024)), (some (12, true))⟩, ⟨some 17, .pick (.t 12) (.t 16) (.c (.bool false)), none⟩, ⟨some 18, .mov (.t 17), none⟩, ⟨some 19, .faddr 2 (.t 1), (some (18, true))⟩, ⟨some 20, .load none (.t 19), (some (18, true))⟩, ⟨some 21, .len .s (.t 20), (some (18, true))⟩, ⟨some 22, .bin .leq (.t 21) (.c (.int .i64 1024)), (some (18, true))⟩, ⟨some 23, .pick (.t 18) (.t 22) (.c (.bool false)), none⟩, ⟨some 24, .mov (.t 23), none⟩, ⟨some 25, .faddr 1 (.t 1), (some (24, true))⟩, ⟨some 26, .load none (.t 25), (some (24, true))⟩, ⟨some 27, .bin .eql (.t 26) (.c (.str ⟨#[]⟩)), (some (24, true))⟩, ⟨some 28, .mov (.t 27), (some (24, true))⟩, ⟨some 29, .faddr 0 (.t 1), (some (28, false))⟩, ⟨some 30, .load none (.t 29), (some (28, false))⟩, ⟨some 31, .bin .neq (.t 30) (.c (.str ⟨#[]⟩)), (some (28, false))⟩, ⟨some 32, .pick (.t 28) (.c (.bool true)) (.t 31), (some (24, true))⟩, ⟨some 33, .pick (.t 24) (.t 32) (.c (.bool false)), none⟩, ⟨some 2, .mov (.t 33), none⟩]
def qZb.c : Cf := ⟨34, [.tmp 2], (.seq (.region qZb.r0) (.seq (.region qZb.r1) .ret)), true⟩
abbrev qZb : V := .fn (.func 81) [] []
abbrev qZb.k : Nat := 81
def qZr.r0 : List Cp := [⟨some 2, .mov (.c (.bool false)), none⟩]
def qZr.r1 : List Cp := [⟨some 3, .mov (.t 0), none⟩, ⟨some 4, .bin .eql (.t 3) (.c (.int .u8 3)), none⟩, ⟨some 5, .mov (.t 4), none⟩, ⟨some 6, .mov (.t 0), (some (5, false))⟩, ⟨some 7, .bin .eql (.t 6) (.c (.int .u8 4)), (some (5, false))⟩, ⟨some 8, .pick (.t 5) (.c (.bool true)) (.t 7), none⟩, ⟨some 9, .mov (.t 8), none⟩, ⟨some 10, .mov (.t 0), (some (9, false))⟩, ⟨some 11, .bin .eql (.t 10) (.c (.int .u8 7)), (some (9, false))⟩, ⟨some 12, .pick (.t 9) (.c (.bool true)) (.t 11), none⟩, ⟨some 13, .mov (.t 12), none⟩, ⟨some 14, .mov (.t 0), (some (13, false))⟩, ⟨some 15, .bin .eql (.t 14) (.c (.int .u8 8)), (some (13, false))⟩, ⟨some 16, .pick (.t 13) (.c (.bool true)) (.t 15), none⟩, ⟨some 2, .mov (.t 16), none⟩]
def qZr.c : Cf := ⟨17, [.tmp 2], (.seq (.region qZr.r0) (.seq (.region qZr.r1) .ret)), true⟩
abbrev qZr : V := .fn (.func 82) [] []
abbrev qZr.k : Nat := 82
def qZs.r0 : List Cp := [⟨some 2, .mov (.c (.bool false)), none⟩]
def qZs.r1 : List Cp := [⟨some 3, .mov (.t 0), none⟩, ⟨some 4, .bin .eql (.t 3) (.c (.int .u8 1)), none⟩, ⟨some 5, .mov (.t 4), none⟩, ⟨some 6, .mov (.t 0), (some (5, false))⟩, ⟨some 7, .bin .eql (.t 6) (.c (.int .u8 9)), (some (5, false))⟩, ⟨some 8, .pick (.t 5) (.c (.bool true)) (.t 7), none⟩, ⟨some 9, .mov (.t 8), none⟩, ⟨some 10, .mov (.t 0), (some (9, false))⟩, ⟨some 11, .bin .eql (.t 10) (.c (.int .u8 11)), (some (9, false))⟩, ⟨some 12, .pick (.t 9) (.c (.bool true)) (.t 11), none⟩, ⟨some 13, .mov (.t 12), none⟩, ⟨some 14, .mov (.t 0), (some (13, false))⟩, ⟨some 15, .bin .eql (.t 14) (.c (.int .u8 12)), (some (13, false))⟩, ⟨some 16, .pick (.t 13) (.c (.bool true)) (.t 15), none⟩, ⟨some 2, .mov (.t 16), none⟩]
def qZs.c : Cf := ⟨17, [.tmp 2], (.seq (.region qZs.r0) (.seq (.region qZs.r1) .ret)), true⟩
abbrev qZs : V := .fn (.func 83) [] []
abbrev qZs.k : Nat := 83
def zZT.r0 : List Cp := [⟨some 4, .mov (.c (.int .i64 0)), none⟩]
def zZT.r1 : List Cp := [⟨some 5, .mov (.c (.int .i64 0)), none⟩]
def zZT.r2 : List Cp := [⟨some 8, .mov (.t 0), none⟩, ⟨some 9, .len .l (.t 8), none⟩, ⟨some 10, .mov (.c (.int .i64 0)), none⟩]
def zZT.r3 : List Cp := [⟨some 11, .bin .lss (.t 10) (.t 9), none⟩]
def zZT.r4 : List Cp := [⟨some 12, .iaddr 1 (.t 8) (.t 10), none⟩, ⟨some 13, .load none (.t 12), none⟩, ⟨some 7, .mov (.t 13), none⟩]
def zZT.r5 : List Cp := [⟨some 14, .mov (.t 7), none⟩, ⟨some 15, .mov (.t 1), none⟩, ⟨some 16, .bin .eql (.t 14) (.t 15), none⟩]
def zZT.r6 : List Cp := [⟨some 17, .mov (.t 5), none⟩, ⟨some 18, .bin .add (.t 17) (.c (.int .i64 1)), none⟩, ⟨some 5, .mov (.t 18), none⟩]
def zZT.r7 : List Cp := [⟨some 19, .bin .add (.t 10) (.c (.int .i64 1)), none⟩, ⟨some 10, .mov (.t 19), none⟩]
def zZT.b8 : Cc := (.seq (.region zZT.r3) (.seq (.cond (.t 11) .skip (.exit 0)) (.seq (.block 1 (.seq (.region zZT.r4) (.seq (.region zZT.r5) (.cond (.t 16) (.region zZT.r6) .skip)))) (.region zZT.r7))))
def zZT.r9 : List Cp := [⟨some 20, .mov (.t 5), none⟩, ⟨some 4, .mov (.t 20), none⟩]
def zZT.c : Cf := ⟨21, [.tmp 4], (.seq (.region zZT.r0) (.seq (.region zZT.r1) (.seq (.seq (.region zZT.r2) (.block 0 (.loop zZT.b8))) (.seq (.region zZT.r9) .ret)))), true⟩
abbrev zZT : V := .fn (.func 84) [] []
abbrev zZT.k : Nat := 84
def qZp.r0 : List Cp := [⟨some 2, .box (.t 0), none⟩, ⟨some 4, .mov (.c (.int .u8 0)), none⟩]
def qZp.r1 : List Cp := [⟨some 8, .load (some 1) (.t 2), none⟩, ⟨some 9, .mov (.t 1), none⟩, ⟨some 10, .call (.c (.fn (.func 58) [] [])) [(.t 8), (.t 9)], none⟩, ⟨some 7, .mov (.t 10), none⟩, ⟨some 11, .ext (.t 7) 0, none⟩, ⟨some 12, .ext (.t 7) 1, none⟩, ⟨some 5, .alloc [.int .u8 0, .str ⟨#[]⟩, .str ⟨#[]⟩, .str ⟨#[]⟩, .str ⟨#[]⟩, .str ⟨#[]⟩, .nils, .nils, .int .i64 0, .nils, .int .i64 0, .int .i64 0, .int .i64 0, .int .u8 0, .bool false, .bool false], none⟩, ⟨none, .store 16 (.t 5) (.t 11), none⟩, ⟨some 6, .mov (.t 12), none⟩]
def qZp.r2 : List Cp := [⟨some 13, .faddr 0 (.t 5), none⟩, ⟨some 14, .load none (.t 13), none⟩, ⟨some 4, .mov (.t 14), none⟩]
def qZp.c : Cf := ⟨15, [.tmp 4], (.seq (.region qZp.r0) (.seq (.region qZp.r1) (.seq (.region qZp.r2) .ret))), true⟩
abbrev qZp : V := .fn (.func 85) [] []
abbrev qZp.k : Nat := 85
def zZg.r0 : List Cp := [⟨some 3, .box (.t 0), none⟩, ⟨some 6, .mov (.c (.bool false)), none⟩]
def zZg.r1 : List Cp := [⟨some 7, .mov (.c (.int .i64 0)), none⟩, ⟨some 8, .mov (.c (.int .i64 0)), none⟩]
def zZg.r2 : List Cp := [⟨some 11, .mov (.t 2), none⟩, ⟨some 12, .len .l (.t 11), none⟩, ⟨some 13, .mov (.c (.int .i64 0)), none⟩]
def zZg.r3 : List Cp := [⟨some 14, .bin .lss (.t 13) (.t 12), none⟩]
def zZg.r4 : List Cp := [⟨some 15, .iaddr 1 (.t 11) (.t 13), none⟩, ⟨some 16, .load none (.t 15), none⟩, ⟨some 10, .mov (.t 16), none⟩]
def zZg.r5 : List Cp := [⟨some 17, .load (some 1) (.t 3), none⟩, ⟨some 18, .mov (.t 10), none⟩, ⟨some 19, .call (.c (.fn (.func 85) [] [])) [(.t 17), (.t 18)], none⟩]
def zZg.r6 : List Cp := [⟨some 21, .bin .eql (.t 19) (.c (.int .u8 1)), none⟩, ⟨some 20, .mov (.t 21), none⟩]
def zZg.r7 : List Cp := [⟨some 22, .mov (.t 7), none⟩, ⟨some 23, .bin .add (.t 22) (.c (.int .i64 1)), none⟩, ⟨some 7, .mov (.t 23), none⟩]
def zZg.r8 : List Cp := [⟨some 25, .bin .eql (.t 19) (.c (.int .u8 3)), none⟩, ⟨some 24, .mov (.t 25), none⟩]
def zZg.r9 : List Cp := [⟨some 26, .bin .eql (.t 19) (.c (.int .u8 4)), none⟩, ⟨some 24, .mov (.t 26), none⟩]
def zZg.r10 : List Cp := [⟨some 27, .mov (.t 1), none⟩, ⟨some 28, .bin .eql (.t 27) (.c (.int .u8 9)), none⟩]
def zZg.r11 : List Cp := [⟨some 6, .mov (.c (.bool false)), none⟩]
def zZg.r12 : List Cp := [⟨some 30, .bin .eql (.t 19) (.c (.int .u8 8)), none⟩, ⟨some 29, .mov (.t 30), none⟩]
def zZg.r13 : List Cp := [⟨some 31, .bin .eql (.t 19) (.c (.int .u8 7)), none⟩, ⟨some 29, .mov (.t 31), none⟩]
def zZg.r14 : List Cp := [⟨some 33, .bin .eql (.t 19) (.c (.int .u8 10)), none⟩, ⟨some 32, .mov (.t 33), none⟩]
def zZg.r15 : List Cp := [⟨some 34, .mov (.t 8), none⟩, ⟨some 35, .bin .add (.t 34) (.c (.int .i64 1)), none⟩, ⟨some 8, .mov (.t 35), none⟩]
def zZg.r16 : List Cp := [⟨some 36, .mov (.t 1), none⟩, ⟨some 37, .bin .neq (.t 36) (.c (.int .u8 9)), none⟩, ⟨some 38, .mov (.t 37), none⟩, ⟨some 39, .mov (.t 7), (some (38, false))⟩, ⟨some 40, .bin .gtr (.t 39) (.c (.int .i64 0)), (some (38, false))⟩, ⟨some 41, .pick (.t 38) (.c (.bool true)) (.t 40), none⟩]
def zZg.r17 : List Cp := [⟨some 6, .mov (.c (.bool false)), none⟩]
def zZg.r18 : List Cp := [⟨some 6, .mov (.c (.bool false)), none⟩]
def zZg.r19 : List Cp := [⟨some 42, .bin .add (.t 13) (.c (.int .i64 1)), none⟩, ⟨some 13, .mov (.t 42), none⟩]
def zZg.b20 : Cc := (.seq (.region zZg.r3) (.seq (.cond (.t 14) .skip (.exit 0)) (.seq (.block 1 (.seq (.region zZg.r4) (.seq (.region zZg.r5) (.block 2 (.seq (.region zZg.r6) (.cond (.t 20) (.region zZg.r7) (.seq (.seq (.region zZg.r8) (.cond (.t 24) .skip (.region zZg.r9))) (.cond (.t 24) (.seq (.region zZg.r10) (.cond (.t 28) (.seq (.region zZg.r11) .ret) .skip)) (.seq (.seq (.region zZg.r12) (.cond (.t 29) .skip (.region zZg.r13))) (.cond (.t 29) .skip (.seq (.region zZg.r14) (.cond (.t 32) (.seq (.region zZg.r15) (.seq (.region zZg.r16) (.cond (.t 41) (.seq (.region zZg.r17) .ret) .skip))) (.seq (.region zZg.r18) .ret))))))))))))) (.region zZg.r19))))
def zZg.r21 : List Cp := [⟨some 43, .mov (.t 1), none⟩, ⟨some 44, .bin .neq (.t 43) (.c (.int .u8 9)), none⟩, ⟨some 45, .mov (.t 44), none⟩, ⟨some 46, .mov (.t 7), (some (45, false))⟩, ⟨some 47, .bin .leq (.t 46) (.c (.int .i64 1)), (some (45, false))⟩, ⟨some 48, .mov (.t 47), (some (45, false))⟩, ⟨some 49, .mov (.t 8), (some (48, true))⟩, ⟨some 50, .bin .leq (.t 49) (.c (.int .i64 1)), (some (48, true))⟩, ⟨some 51, .pick (.t 48) (.t 50) (.c (.bool false)), (some (45, false))⟩, ⟨some 52, .pick (.t 45) (.c (.bool true)) (.t 51), none⟩, ⟨some 6, .mov (.t 52), none⟩]
def zZg.c : Cf := ⟨53, [.tmp 6], (.seq (.region zZg.r0) (.seq (.region zZg.r1) (.seq (.seq (.region zZg.r2) (.block 0 (.loop zZg.b20))) (.seq (.region zZg.r21) .ret)))), true⟩
abbrev zZg : V := .fn (.func 86) [] []
abbrev zZg.k : Nat := 86
def qZq.r0 : List Cp := [⟨some 1, .box (.t 0), none⟩, ⟨some 2, .mov (.c (.int .i64 0)), none⟩]
def qZq.r1 : List Cp := [⟨some 3, .faddr 0 (.t 1), none⟩, ⟨some 4, .load none (.t 3), none⟩, ⟨some 5, .bin .eql (.t 4) (.c (.int .u8 12)), none⟩]
def qZq.r2 : List Cp := [⟨some 6, .faddr 11 (.t 1), none⟩, ⟨some 7, .load none (.t 6), none⟩, ⟨some 2, .mov (.t 7), none⟩]
def qZq.r3 : List Cp := [⟨some 8, .faddr 8 (.t 1), none⟩, ⟨some 9, .load none (.t 8), none⟩, ⟨some 2, .mov (.t 9), none⟩]
def qZq.c : Cf := ⟨10, [.tmp 2], (.seq (.region qZq.r0) (.seq (.seq (.region qZq.r1) (.cond (.t 5) (.seq (.region qZq.r2) .ret) .skip)) (.seq (.region qZq.r3) .ret))), true⟩
abbrev qZq : V := .fn (.func 87) [] []
abbrev qZq.k : Nat := 87
def qZa.r0 : List Cp := [⟨some 1, .box (.t 0), none⟩, ⟨some 2, .mov (.c (.bool false)), none⟩]
def qZa.r1 : List Cp := [⟨some 3, .faddr 2 (.t 1), none⟩, ⟨some 4, .load none (.t 3), none⟩, ⟨some 5, .bin .neq (.t 4) (.c (.str ⟨#[]⟩)), none⟩, ⟨some 6, .mov (.t 5), none⟩, ⟨some 7, .faddr 0 (.t 1), (some (6, true))⟩, ⟨some 8, .load none (.t 7), (some (6, true))⟩, ⟨some 9, .faddr 1 (.t 1), (some (6, true))⟩, ⟨some 10, .load none (.t 9), (some (6, true))⟩, ⟨some 11, .faddr 2 (.t 1), (some (6, true))⟩, ⟨some 12, .load none (.t 11), (some (6, true))⟩, ⟨some 13, .bslice [.str ⟨#[]⟩] 3 1 [(0, (.t 8)), (1, (.t 10)), (2, (.t 12))], (some (6, true))⟩, ⟨some 14, .call (.c (.fn (.func 74) [] [])) [(.t 13)], (some (6, true))⟩, ⟨some 15, .pick (.t 6) (.t 14) (.c (.bool false)), none⟩, ⟨some 16, .mov (.t 15), none⟩, ⟨some 17, .faddr 1 (.t 1), (some (16, true))⟩, ⟨some 18, .load none (.t 17), (some (16, true))⟩, ⟨some 19, .bin .eql (.t 18) (.c (.str ⟨#[]⟩)), (some (16, true))⟩, ⟨some 20, .mov (.t 19), (some (16, true))⟩, ⟨some 21, .faddr 0 (.t 1), (some (20, false))⟩, ⟨some 22, .load none (.t 21), (some (20, false))⟩, ⟨some 23, .bin .neq (.t 22) (.c (.str ⟨#[]⟩)), (some (20, false))⟩, ⟨some 24, .pick (.t 20) (.c (.bool true)) (.t 23), (some (16, true))⟩, ⟨some 25, .pick (.t 16) (.t 24) (.c (.bool false)), none⟩, ⟨some 2, .mov (.t 25), none⟩]
def qZa.c : Cf := ⟨26, [.tmp 2], (.seq (.region qZa.r0) (.seq (.region qZa.r1) .ret)), true⟩
abbrev qZa : V := .fn (.func 88) [] []
abbrev qZa.k : Nat := 88
def qZy.r0 : List Cp := [⟨some 1, .box (.t 0), none⟩, ⟨some 2, .alloc [.str ⟨#[]⟩, .str ⟨#[]⟩], none⟩]
def qZy.r1 : List Cp := [⟨some 3, .faddr 0 (.t 1), none⟩, ⟨some 4, .load none (.t 3), none⟩, ⟨some 5, .faddr 2 (.t 1), none⟩, ⟨some 6, .load none (.t 5), none⟩, ⟨some 7, .build [.str ⟨#[]⟩, .str ⟨#[]⟩] [(0, 1, (.t 4)), (1, 1, (.t 6))], none⟩, ⟨none, .store 2 (.t 2) (.t 7), none⟩]
def qZy.c : Cf := ⟨8, [.cell 2 (some 2)], (.seq (.region qZy.r0) (.seq (.region qZy.r1) .ret)), true⟩
abbrev qZy : V := .fn (.func 89) [] []
abbrev qZy.k : Nat := 89
def zZb.r0 : List Cp := [⟨some 2, .box (.t 0), none⟩, ⟨some 3, .box (.t 1), none⟩, ⟨some 4, .mov (.c (.bool false)), none⟩]
def zZb.r1 : List Cp := [⟨some 10, .faddr 0 (.t 3), none⟩, ⟨some 11, .load none (.t 10), none⟩, ⟨some 12, .bin .eql (.t 11) (.c (.int .u8 9)), none⟩, ⟨some 5, .mov (.t 12), none⟩]
def zZb.r2 : List Cp := [⟨some 6, .mov (.c (.int .i64 0)), none⟩, ⟨some 7, .mov (.c (.int .i64 0)), none⟩]
def zZb.r3 : List Cp := [⟨some 13, .faddr 9 (.t 3), none⟩, ⟨some 14, .load none (.t 13), none⟩, ⟨some 15, .len .l (.t 14), none⟩, ⟨some 16, .mov (.c (.int .i64 0)), none⟩]
def zZb.r4 : List Cp := [⟨some 17, .bin .lss (.t 16) (.t 15), none⟩]
def zZb.r5 : List Cp := [⟨some 18, .iaddr 1 (.t 14) (.t 16), none⟩, ⟨some 19, .load none (.t 18), none⟩, ⟨some 9, .mov (.t 19), none⟩]
def zZb.r6 : List Cp := [⟨some 20, .load (some 1) (.t 2), none⟩, ⟨some 21, .mov (.t 9), none⟩, ⟨some 22, .call (.c (.fn (.func 77) [] [])) [(.t 20), (.t 21)], none⟩]
def zZb.r7 : List Cp := [⟨some 24, .bin .eql (.t 22) (.c (.int .u8 1)), none⟩, ⟨some 23, .mov (.t 24), none⟩]
def zZb.r8 : List Cp := [⟨some 25, .mov (.t 6), none⟩, ⟨some 26, .bin .add (.t 25) (.c (.int .i64 1)), none⟩, ⟨some 6, .mov (.t 26), none⟩]
def zZb.r9 : List Cp := [⟨some 28, .bin .eql (.t 22) (.c (.int .u8 10)), none⟩, ⟨some 27, .mov (.t 28), none⟩]
def zZb.r10 : List Cp := [⟨some 29, .mov (.t 5), none⟩, ⟨some 30, .un .not (.t 29), none⟩, ⟨some 31, .mov (.t 30), none⟩, ⟨some 32, .mov (.t 6), (some (31, false))⟩, ⟨some 33, .bin .gtr (.t 32) (.c (.int .i64 0)), (some (31, false))⟩, ⟨some 34, .pick (.t 31) (.c (.bool true)) (.t 33), none⟩]
def zZb.r11 : List Cp := [⟨some 4, .mov (.c (.bool false)), none⟩]
def zZb.r12 : List Cp := [⟨some 35, .mov (.t 7), none⟩, ⟨some 36, .bin .add (.t 35) (.c (.int .i64 1)), none⟩, ⟨some 7, .mov (.t 36), none⟩]
def zZb.r13 : List Cp := [⟨some 38, .bin .eql (.t 22) (.c (.int .u8 3)), none⟩, ⟨some 37, .mov (.t 38), none⟩]
def zZb.r14 : List Cp := [⟨some 39, .bin .eql (.t 22) (.c (.int .u8 4)), none⟩, ⟨some 37, .mov (.t 39), none⟩]
def zZb.r15 : List Cp := [⟨some 40, .mov (.t 5), none⟩]
def zZb.r16 : List Cp := [⟨some 4, .mov (.c (.bool false)), none⟩]
def zZb.r17 : List Cp := [⟨some 42, .bin .eql (.t 22) (.c (.int .u8 8)), none⟩, ⟨some 41, .mov (.t 42), none⟩]
def zZb.r18 : List Cp := [⟨some 43, .bin .eql (.t 22) (.c (.int .u8 7)), none⟩, ⟨some 41, .mov (.t 43), none⟩]
def zZb.r19 : List Cp := [⟨some 4, .mov (.c (.bool false)), none⟩]
def zZb.r20 : List Cp := [⟨some 44, .bin .add (.t 16) (.c (.int .i64 1)), none⟩, ⟨some 16, .mov (.t 44), none⟩]
def zZb.b21 : Cc := (.seq (.region zZb.r4) (.seq (.cond (.t 17) .skip (.exit 0)) (.seq (.block 1 (.seq (.region zZb.r5) (.seq (.region zZb.r6) (.block 2 (.seq (.region zZb.r7) (.cond (.t 23) (.region zZb.r8) (.seq (.region zZb.r9) (.cond (.t 27) (.seq (.seq (.region zZb.r10) (.cond (.t 34) (.seq (.region zZb.r11) .ret) .skip)) (.region zZb.r12)) (.seq (.seq (.region zZb.r13) (.cond (.t 37) .skip (.region zZb.r14))) (.cond (.t 37) (.seq (.region zZb.r15) (.cond (.t 40) (.seq (.region zZb.r16) .ret) .skip)) (.seq (.seq (.region zZb.r17) (.cond (.t 41) .skip (.region zZb.r18))) (.cond (.t 41) .skip (.seq (.region zZb.r19) .ret))))))))))))) (.region zZb.r20))))
def zZb.r22 : List Cp := [⟨some 45, .mov (.t 5), none⟩, ⟨some 46, .un .not (.t 45), none⟩, ⟨some 47, .mov (.t 46), none⟩, ⟨some 48, .mov (.t 6), (some (47, false))⟩, ⟨some 49, .bin .lss (.t 48) (.c (.int .i64 2)), (some (47, false))⟩, ⟨some 50, .mov (.t 49), (some (47, false))⟩, ⟨some 51, .mov (.t 7), (some (50, true))⟩, ⟨some 52, .bin .lss (.t 51) (.c (.int .i64 2)), (some (50, true))⟩, ⟨some 53, .pick (.t 50) (.t 52) (.c (.bool false)), (some (47, false))⟩, ⟨some 54, .pick (.t 47) (.c (.bool true)) (.t 53), none⟩, ⟨some 4, .mov (.t 54), none⟩]
def zZb.c : Cf := ⟨55, [.tmp 4], (.seq (.region zZb.r0) (.seq (.region zZb.r1) (.seq (.region zZb.r2) (.seq (.seq (.region zZb.r3) (.block 0 (.loop zZb.b21))) (.seq (.region zZb.r22) .ret))))), true⟩
abbrev zZb : V := .fn (.func 90) [] []
abbrev zZb.k : Nat := 90
def zZ5.r0 : List Cp := [⟨some 3, .box (.t 1), none⟩, ⟨some 4, .mov (.c (.int .i64 0)), none⟩]
def zZ5.r1 : List Cp := [⟨some 7, .mov (.t 0), none⟩, ⟨some 8, .len .l (.t 7), none⟩, ⟨some 9, .mov (.c (.int .i64 0)), none⟩]
def zZ5.r2 : List Cp := [⟨some 10, .bin .lss (.t 9) (.t 8), none⟩]
def zZ5.r3 : List Cp := [⟨some 11, .mov (.t 9), none⟩, ⟨some 12, .iaddr 4 (.t 7) (.t 9), none⟩, ⟨some 13, .load (some 4) (.t 12), none⟩, ⟨some 6, .alloc [.str ⟨#[]⟩, .str ⟨#[]⟩, .str ⟨#[]⟩, .str ⟨#[]⟩], none⟩, ⟨some 5, .mov (.t 11), none⟩, ⟨none, .store 4 (.t 6) (.t 13), none⟩]
def zZ5.r4 : List Cp := [⟨some 14, .faddr 0 (.t 6), none⟩, ⟨some 15, .faddr 0 (.t 14), none⟩, ⟨some 16, .load none (.t 15), none⟩, ⟨some 17, .faddr 0 (.t 3), none⟩, ⟨some 18, .load none (.t 17), none⟩, ⟨some 19, .bin .eql (.t 16) (.t 18), none⟩, ⟨some 20, .mov (.t 19), none⟩, ⟨some 21, .faddr 0 (.t 6), (some (20, true))⟩, ⟨some 22, .faddr 2 (.t 21), (some (20, true))⟩, ⟨some 23, .load none (.t 22), (some (20, true))⟩, ⟨some 24, .faddr 2 (.t 3), (some (20, true))⟩, ⟨some 25, .load none (.t 24), (some (20, true))⟩, ⟨some 26, .bin .eql (.t 23) (.t 25), (some (20, true))⟩, ⟨some 27, .pick (.t 20) (.t 26) (.c (.bool false)), none⟩]
def zZ5.r5 : List Cp := [⟨some 28, .mov (.t 5), none⟩, ⟨some 4, .mov (.t 28), none⟩]
def zZ5.r6 : List Cp := [⟨some 29, .bin .add (.t 9) (.c (.int .i64 1)), none⟩, ⟨some 9, .mov (.t 29), none⟩]
def zZ5.b7 : Cc := (.seq (.region zZ5.r2) (.seq (.cond (.t 10) .skip (.exit 0)) (.seq (.block 1 (.seq (.region zZ5.r3) (.seq (.region zZ5.r4) (.cond (.t 27) (.seq (.region zZ5.r5) .ret) .skip)))) (.region zZ5.r6))))
def zZ5.r8 : List Cp := [⟨some 4, .mov (.c (.int .i64 (-1))), none⟩]
def zZ5.c : Cf := ⟨30, [.tmp 4], (.seq (.region zZ5.r0) (.seq (.seq (.region zZ5.r1) (.block 0 (.loop zZ5.b7))) (.seq (.region zZ5.r8) .ret))), true⟩
abbrev zZ5 : V := .fn (.func 91) [] []
abbrev zZ5.k : Nat := 91
def Φ (f : Nat) : Option Cf := if f < 47 then (if f < 25 then (if f < 14 then (if f < 8 then (if f < 5 then (if f < 4 then (if f = 3 then some (zZF.c) else none) else (if f = 4 then some (zZK.c) else none)) else (if f < 6 then (if f = 5 then some (zZG.c) else none) else (if f < 7 then (if f = 6 then some (zZw.c) else none) else (if f = 7 then some (zZj.c) else none)))) else (if f < 11 then (if f < 9 then (if f = 8 then some (zZ1.c) else none) else (if f < 10 then (if f = 9 then some (qZu.c) else none) else (if f = 10 then some (qZH.c) else none))) else (if f < 12 then (if f = 11 then some (zZy.c) else none) else (if f < 13 then (if f = 12 then some (zZE.c) else none) else (if f = 13 then some (zZZ.c) else none))))) else (if f < 19 then (if f < 16 then (if f < 15 then (if f = 14 then some (zZt.c) else none) else (if f = 15 then some (zZC.c) else none)) else (if f < 17 then (if f = 16 then some (qZn.c) else none) else (if f < 18 then (if f = 17 then some (zZu.c) else none) else (if f = 18 then some (qZo.c) else none)))) else (if f < 22 then (if f < 20 then (if f = 19 then some (zZv.c) else none) else (if f < 21 then (if f = 20 then some (qZW.c) else none) else (if f = 21 then some (zZ8.c) else none))) else (if f < 23 then (if f = 22 then some (qZh.c) else none) else (if f < 24 then (if f = 23 then some (zZN.c) else none) else (if f = 24 then some (zZs.c) else none)))))) else (if f < 36 then (if f < 30 then (if f < 27 then (if f < 26 then (if f = 25 then some (zZM.c) else none) else (if f = 26 then some (zZR.c) else none)) else (if f < 28 then (if f = 27 then some (zZL.c) else none) else (if f < 29 then (if f = 28 then some (zZ9.c) else none) else (if f = 29 then some (qZF.c) else none)))) else (if f < 33 then (if f < 31 then (if f = 30 then some (qZl.c) else none) else (if f < 32 then (if f = 31 then some (zZc.c) else none) else (if f = 32 then some (zZd.c) else none))) else (if f < 34 then (if f = 33 then some (qZA.c) else none) else (if f < 35 then (if f = 34 then some (zZa.c) else none) else (if f = 35 then some (zZ2.c) else none))))) else (if f < 41 then (if f < 38 then (if f < 37 then (if f = 36 then some (zZY.c) else none) else (if f = 37 then some (qZi.c) else none)) else (if f < 39 then (if f = 38 then some (qZw.c) else none) else (if f < 40 then (if f = 39 then some (qZO.c) else none) else (if f = 40 then some (qZL.c) else none)))) else (if f < 44 then (if f < 42 then (if f = 41 then some (zZq.c) else none) else (if f < 43 then (if f = 42 then some (zZh.c) else none) else (if f = 43 then some (zZU.c) else none))) else (if f < 45 then (if f = 44 then some (zZB.c) else none) else (if f < 46 then (if f = 45 then some (zZf.c) else none) else (if f = 46 then some (zZx.c) else none))))))) else (if f < 69 then (if f < 58 then (if f < 52 then (if f < 49 then (if f < 48 then (if f = 47 then some (qZC.c) else none) else (if f = 48 then some (zZI.c) else none)) else (if f < 50 then (if f = 49 then some (zZD.c) else none) else (if f < 51 then (if f = 50 then some (zZo.c) else none) else (if f = 51 then some (qZJ.c) else none)))) else (if f < 55 then (if f < 53 then (if f = 52 then some (zZJ.c) else none) else (if f < 54 then (if f = 53 then some (zZV.c) else none) else (if f = 54 then some (qZR.c) else none))) else (if f < 56 then (if f = 55 then some (zZ7.c) else none) else (if f < 57 then (if f = 56 then some (zZ3.c) else none) else (if f = 57 then some (qZD.c) else none))))) else (if f < 63 then (if f < 60 then (if f < 59 then (if f = 58 then some (qZc.c) else none) else (if f = 59 then some (zZk.c) else none)) else (if f < 61 then (if f = 60 then some (zZr.c) else none) else (if f < 62 then (if f = 61 then some (zZp.c) else none) else (if f = 62 then some (zZW.c) else none)))) else (if f < 66 then (if f < 64 then (if f = 63 then some (zZi.c) else none) else (if f < 65 then (if f = 64 then some (zZn.c) else none) else (if f = 65 then some (zZX.c) else none))) else (if f < 67 then (if f = 66 then some (qZt.c) else none) else (if f < 68 then (if f = 67 then some (zZl.c) else none) else (if f = 68 then some (qZk.c) else none)))))) else (if f < 80 then (if f < 74 then (if f < 71 then (if f < 70 then (if f = 69 then some (zZO.c) else none) else (if f = 70 then some (qZe.c) else none)) else (if f < 72 then (if f = 71 then some (zZe.c) else none) else (if f < 73 then (if f = 72 then some (zZH.c) else none) else (if f = 73 then some (zZm.c) else none)))) else (if f < 77 then (if f < 75 then (if f = 74 then some (zZP.c) else none) else (if f < 76 then (if f = 75 then some (qZm.c) else none) else (if f = 76 then some (zZS.c) else none))) else (if f < 78 then (if f = 77 then some (qZz.c) else none) else (if f < 79 then (if f = 78 then some (zZA.c) else none) else (if f = 79 then some (qZG.c) else none))))) else (if f < 86 then (if f < 83 then (if f < 81 then (if f = 80 then some (zZz.c) else none) else (if f < 82 then (if f = 81 then some (qZb.c) else none) else (if f = 82 then some (qZr.c) else none))) else (if f < 84 then (if f = 83 then some (qZs.c) else none) else (if f < 85 then (if f = 84 then some (zZT.c) else none) else (if f = 85 then some (qZp.c) else none)))) else (if f < 89 then (if f < 87 then (if f = 86 then some (zZg.c) else none) else (if f < 88 then (if f = 87 then some (qZq.c) else none) else (if f = 88 then some (qZa.c) else none))) else (if f < 90 then (if f = 89 then some (qZy.c) else none) else (if f < 91 then (if f = 90 then some (zZb.c) else none) else (if f = 91 then some (zZ5.c) else none)))))))
theorem zZF.Φ : Φ 3 = some (zZF.c) := rfl
theorem zZK.Φ : Φ 4 = some (zZK.c) := rfl
theorem zZG.Φ : Φ 5 = some (zZG.c) := rfl
theorem zZw.Φ : Φ 6 = some (zZw.c) := rfl
theorem zZj.Φ : Φ 7 = some (zZj.c) := rfl
theorem zZ1.Φ : Φ 8 = some (zZ1.c) := rfl
theorem qZu.Φ : Φ 9 = some (qZu.c) := rfl
theorem qZH.Φ : Φ 10 = some (qZH.c) := rfl
theorem zZy.Φ : Φ 11 = some (zZy.c) := rfl
theorem zZE.Φ : Φ 12 = some (zZE.c) := rfl
theorem zZZ.Φ : Φ 13 = some (zZZ.c) := rfl
theorem zZt.Φ : Φ 14 = some (zZt.c) := rfl
theorem zZC.Φ : Φ 15 = some (zZC.c) := rfl
theorem qZn.Φ : Φ 16 = some (qZn.c) := rfl
theorem zZu.Φ : Φ 17 = some (zZu.c) := rfl
theorem qZo.Φ : Φ 18 = some (qZo.c) := rfl
theorem zZv.Φ : Φ 19 = some (zZv.c) := rfl
theorem qZW.Φ : Φ 20 = some (qZW.c) := rfl
theorem zZ8.Φ : Φ 21 = some (zZ8.c) := rfl
theorem qZh.Φ : Φ 22 = some (qZh.c) := rfl
theorem zZN.Φ : Φ 23 = some (zZN.c) := rfl
theorem zZs.Φ : Φ 24 = some (zZs.c) := rfl
theorem zZM.Φ : Φ 25 = some (zZM.c) := rfl
theorem zZR.Φ : Φ 26 = some (zZR.c) := rfl
theorem zZL.Φ : Φ 27 = some (zZL.c) := rfl
theorem zZ9.Φ : Φ 28 = some (zZ9.c) := rfl
theorem qZF.Φ : Φ 29 = some (qZF.c) := rfl
theorem qZl.Φ : Φ 30 = some (qZl.c) := rfl
theorem zZc.Φ : Φ 31 = some (zZc.c) := rfl
theorem zZd.Φ : Φ 32 = some (zZd.c) := rfl
theorem qZA.Φ : Φ 33 = some (qZA.c) := rfl
theorem zZa.Φ : Φ 34 = some (zZa.c) := rfl
theorem zZ2.Φ : Φ 35 = some (zZ2.c) := rfl
theorem zZY.Φ : Φ 36 = some (zZY.c) := rfl
theorem qZi.Φ : Φ 37 = some (qZi.c) := rfl
theorem qZw.Φ : Φ 38 = some (qZw.c) := rfl
theorem qZO.Φ : Φ 39 = some (qZO.c) := rfl
theorem qZL.Φ : Φ 40 = some (qZL.c) := rfl
theorem zZq.Φ : Φ 41 = some (zZq.c) := rfl
theorem zZh.Φ : Φ 42 = some (zZh.c) := rfl
theorem zZU.Φ : Φ 43 = some (zZU.c) := rfl
theorem zZB.Φ : Φ 44 = some (zZB.c) := rfl
theorem zZf.Φ : Φ 45 = some (zZf.c) := rfl
theorem zZx.Φ : Φ 46 = some (zZx.c) := rfl
theorem qZC.Φ : Φ 47 = some (qZC.c) := rfl
theorem zZI.Φ : Φ 48 = some (zZI.c) := rfl
theorem zZD.Φ : Φ 49 = some (zZD.c) := rfl
theorem zZo.Φ : Φ 50 = some (zZo.c) := rfl
theorem qZJ.Φ : Φ 51 = some (qZJ.c) := rfl
theorem zZJ.Φ : Φ 52 = some (zZJ.c) := rfl
theorem zZV.Φ : Φ 53 = some (zZV.c) := rfl
theorem qZR.Φ : Φ 54 = some (qZR.c) := rfl
theorem zZ7.Φ : Φ 55 = some (zZ7.c) := rfl
theorem zZ3.Φ : Φ 56 = some (zZ3.c) := rfl
theorem qZD.Φ : Φ 57 = some (qZD.c) := rfl
theorem qZc.Φ : Φ 58 = some (qZc.c) := rfl
theorem zZk.Φ : Φ 59 = some (zZk.c) := rfl
theorem zZr.Φ : Φ 60 = some (zZr.c) := rfl
theorem zZp.Φ : Φ 61 = some (zZp.c) := rfl
theorem zZW.Φ : Φ 62 = some (zZW.c) := rfl
theorem zZi.Φ : Φ 63 = some (zZi.c) := rfl
theorem zZn.Φ : Φ 64 = some (zZn.c) := rfl
theorem zZX.Φ : Φ 65 = some (zZX.c) := rfl
theorem qZt.Φ : Φ 66 = some (qZt.c) := rfl
theorem zZl.Φ : Φ 67 = some (zZl.c) := rfl
theorem qZk.Φ : Φ 68 = some (qZk.c) := rfl
theorem zZO.Φ : Φ 69 = some (zZO.c) := rfl
theorem qZe.Φ : Φ 70 = some (qZe.c) := rfl
theorem zZe.Φ : Φ 71 = some (zZe.c) := rfl
theorem zZH.Φ : Φ 72 = some (zZH.c) := rfl
theorem zZm.Φ : Φ 73 = some (zZm.c) := rfl
theorem zZP.Φ : Φ 74 = some (zZP.c) := rfl
theorem qZm.Φ : Φ 75 = some (qZm.c) := rfl
theorem zZS.Φ : Φ 76 = some (zZS.c) := rfl
theorem qZz.Φ : Φ 77 = some (qZz.c) := rfl
theorem zZA.Φ : Φ 78 = some (zZA.c) := rfl
theorem qZG.Φ : Φ 79 = some (qZG.c) := rfl
theorem zZz.Φ : Φ 80 = some (zZz.c) := rfl
theorem qZb.Φ : Φ 81 = some (qZb.c) := rfl
theorem qZr.Φ : Φ 82 = some (qZr.c) := rfl
theorem qZs.Φ : Φ 83 = some (qZs.c) := rfl
theorem zZT.Φ : Φ 84 = some (zZT.c) := rfl
theorem qZp.Φ : Φ 85 = some (qZp.c) := rfl
theorem zZg.Φ : Φ 86 = some (zZg.c) := rfl
theorem qZq.Φ : Φ 87 = some (qZq.c) := rfl
theorem qZa.Φ : Φ 88 = some (qZa.c) := rfl
theorem qZy.Φ : Φ 89 = some (qZy.c) := rfl
theorem zZb.Φ : Φ 90 = some (zZb.c) := rfl
theorem zZ5.Φ : Φ 91 = some (zZ5.c) := rfl
theorem mixed : Try.prog.follows .mixedOrders = true := by kernel_rfl
theorem zZF.made : cFunc Try.prog zZF.c.pure Try.f3 = some zZF.c := by kernel_rfl
theorem zZF.told : Ev.Told Try.prog 3 zZF.c := zZ4 mixed Try.func3 (by decide +kernel) zZF.made
theorem zZK.made : cFunc Try.prog zZK.c.pure Try.f4 = some zZK.c := by kernel_rfl
theorem zZK.told : Ev.Told Try.prog 4 zZK.c := zZ4 mixed Try.func4 (by decide +kernel) zZK.made
theorem zZG.made : cFunc Try.prog zZG.c.pure Try.f5 = some zZG.c := by kernel_rfl
theorem zZG.told : Ev.Told Try.prog 5 zZG.c := zZ4 mixed Try.func5 (by decide +kernel) zZG.made
theorem zZw.made : cFunc Try.prog zZw.c.pure Try.f6 = some zZw.c := by kernel_rfl
theorem zZw.told : Ev.Told Try.prog 6 zZw.c := zZ4 mixed Try.func6 (by decide +kernel) zZw.made
theorem zZj.made : cFunc Try.prog zZj.c.pure Try.f7 = some zZj.c := by kernel_rfl
theorem zZj.told : Ev.Told Try.prog 7 zZj.c := zZ4 mixed Try.func7 (by decide +kernel) zZj.made
theorem zZ1.made : cFunc Try.prog zZ1.c.pure Try.f8 = some zZ1.c := by kernel_rfl
theorem zZ1.told : Ev.Told Try.prog 8 zZ1.c := zZ4 mixed Try.func8 (by decide +kernel) zZ1.made
theorem qZu.made : cFunc Try.prog qZu.c.pure Try.f9 = some qZu.c := by kernel_rfl
theorem qZu.told : Ev.Told Try.prog 9 qZu.c := zZ4 mixed Try.func9 (by decide +kernel) qZu.made
theorem qZH.made : cFunc Try.prog qZH.c.pure Try.f10 = some qZH.c := by kernel_rfl
theorem qZH.told : Ev.Told Try.prog 10 qZH.c := zZ4 mixed Try.func10 (by decide +kernel) qZH.made
theorem zZy.made : cFunc Try.prog zZy.c.pure Try.f11 = some zZy.c := by kernel_rfl
theorem zZy.told : Ev.Told Try.prog 11 zZy.c := zZ4 mixed Try.func11 (by decide +kernel) zZy.made
theorem zZE.made : cFunc Try.prog zZE.c.pure Try.f12 = some zZE.c := by kernel_rfl
theorem zZE.told : Ev.Told Try.prog 12 zZE.c := zZ4 mixed Try.func12 (by decide +kernel) zZE.made
theorem zZZ.made : cFunc Try.prog zZZ.c.pure Try.f13 = some zZZ.c := by kernel_rfl
theorem zZZ.told : Ev.Told Try.prog 13 zZZ.c := zZ4 mixed Try.func13 (by decide +kernel) zZZ.made
theorem zZt.made : cFunc Try.prog zZt.c.pure Try.f14 = some zZt.c := by kernel_rfl
theorem zZt.told : Ev.Told Try.prog 14 zZt.c := zZ4 mixed Try.func14 (by decide +kernel) zZt.made
theorem zZC.made : cFunc Try.prog zZC.c.pure Try.f15 = some zZC.c := by kernel_rfl
theorem zZC.told : Ev.Told Try.prog 15 zZC.c := zZ4 mixed Try.func15 (by decide +kernel) zZC.made
theorem qZn.made : cFunc Try.prog qZn.c.pure Try.f16 = some qZn.c := by kernel_rfl
theorem qZn.told : Ev.Told Try.prog 16 qZn.c := zZ4 mixed Try.func16 (by decide +kernel) qZn.made
theorem zZu.made : cFunc Try.prog zZu.c.pure Try.f17 = some zZu.c := by kernel_rfl
theorem zZu.told : Ev.Told Try.prog 17 zZu.c := zZ4 mixed Try.func17 (by decide +kernel) zZu.made
theorem qZo.made : cFunc Try.prog qZo.c.pure Try.f18 = some qZo.c := by kernel_rfl
theorem qZo.told : Ev.Told Try.prog 18 qZo.c := zZ4 mixed Try.func18 (by decide +kernel) qZo.made
theorem zZv.made : cFunc Try.prog zZv.c.pure Try.f19 = some zZv.c := by kernel_rfl
theorem zZv.told : Ev.Told Try.prog 19 zZv.c := zZ4 mixed Try.func19 (by decide +kernel) zZv.made
theorem qZW.made : cFunc Try.prog qZW.c.pure Try.f20 = some qZW.c := by kernel_rfl
theorem qZW.told : Ev.Told Try.prog 20 qZW.c := zZ4 mixed Try.func20 (by decide +kernel) qZW.made
theorem zZ8.made : cFunc Try.prog zZ8.c.pure Try.f21 = some zZ8.c := by kernel_rfl
theorem zZ8.told : Ev.Told Try.prog 21 zZ8.c := zZ4 mixed Try.func21 (by decide +kernel) zZ8.made
theorem qZh.made : cFunc Try.prog qZh.c.pure Try.f22 = some qZh.c := by kernel_rfl
theorem qZh.told : Ev.Told Try.prog 22 qZh.c := zZ4 mixed Try.func22 (by decide +kernel) qZh.made
theorem zZN.made : cFunc Try.prog zZN.c.pure Try.f23 = some zZN.c := by kernel_rfl
theorem zZN.told : Ev.Told Try.prog 23 zZN.c := zZ4 mixed Try.func23 (by decide +kernel) zZN.made
theorem zZs.made : cFunc Try.prog zZs.c.pure Try.f24 = some zZs.c := by kernel_rfl
theorem zZs.told : Ev.Told Try.prog 24 zZs.c := zZ4 mixed Try.func24 (by decide +kernel) zZs.made
theorem zZM.made : cFunc Try.prog zZM.c.pure Try.f25 = some zZM.c := by kernel_rfl
theorem zZM.told : Ev.Told Try.prog 25 zZM.c := zZ4 mixed Try.func25 (by decide +kernel) zZM.made
theorem zZR.made : cFunc Try.prog zZR.c.pure Try.f26 = some zZR.c := by kernel_rfl
theorem zZR.told : Ev.Told Try.prog 26 zZR.c := zZ4 mixed Try.func26 (by decide +kernel) zZR.made
theorem zZL.made : cFunc Try.prog zZL.c.pure Try.f27 = some zZL.c := by kernel_rfl
theorem zZL.told : Ev.Told Try.prog 27 zZL.c := zZ4 mixed Try.func27 (by decide +kernel) zZL.made
theorem zZ9.made : cFunc Try.prog zZ9.c.pure Try.f28 = some zZ9.c := by kernel_rfl
theorem zZ9.told : Ev.Told Try.prog 28 zZ9.c := zZ4 mixed Try.func28 (by decide +kernel) zZ9.made
theorem qZF.made : cFunc Try.prog qZF.c.pure Try.f29 = some qZF.c := by kernel_rfl
theorem qZF.told : Ev.Told Try.prog 29 qZF.c := zZ4 mixed Try.func29 (by decide +kernel) qZF.made
theorem qZl.made : cFunc Try.prog qZl.c.pure Try.f30 = some qZl.c := by kernel_rfl
theorem qZl.told : Ev.Told Try.prog 30 qZl.c := zZ4 mixed Try.func30 (by decide +kernel) qZl.made
theorem zZc.made : cFunc Try.prog zZc.c.pure Try.f31 = some zZc.c := by kernel_rfl
theorem zZc.told : Ev.Told Try.prog 31 zZc.c := zZ4 mixed Try.func31 (by decide +kernel) zZc.made
theorem zZd.made : cFunc Try.prog zZd.c.pure Try.f32 = some zZd.c := by kernel_rfl
theorem zZd.told : Ev.Told Try.prog 32 zZd.c := zZ4 mixed Try.func32 (by decide +kernel) zZd.made
theorem qZA.made : cFunc Try.prog qZA.c.pure Try.f33 = some qZA.c := by kernel_rfl
theorem qZA.told : Ev.Told Try.prog 33 qZA.c := zZ4 mixed Try.func33 (by decide +kernel) qZA.made
theorem zZa.made : cFunc Try.prog zZa.c.pure Try.f34 = some zZa.c := by kernel_rfl
theorem zZa.told : Ev.Told Try.prog 34 zZa.c := zZ4 mixed Try.func34 (by decide +kernel) zZa.made
theorem zZ2.made : cFunc Try.prog zZ2.c.pure Try.f35 = some zZ2.c := by kernel_rfl
theorem zZ2.told : Ev.Told Try.prog 35 zZ2.c := zZ4 mixed Try.func35 (by decide +kernel) zZ2.made
theorem zZY.made : cFunc Try.prog zZY.c.pure Try.f36 = some zZY.c := by kernel_rfl
theorem zZY.told : Ev.Told Try.prog 36 zZY.c := zZ4 mixed Try.func36 (by decide +kernel) zZY.made
theorem qZi.made : cFunc Try.prog qZi.c.pure Try.f37 = some qZi.c := by kernel_rfl
theorem qZi.told : Ev.Told Try.prog 37 qZi.c := zZ4 mixed Try.func37 (by decide +kernel) qZi.made
theorem qZw.made : cFunc Try.prog qZw.c.pure Try.f38 = some qZw.c := by kernel_rfl
theorem qZw.told : Ev.Told Try.prog 38 qZw.c := zZ4 mixed Try.func38 (by decide +kernel) qZw.made
theorem qZO.made : cFunc Try.prog qZO.c.pure Try.f39 = some qZO.c := by kernel_rfl
theorem qZO.told : Ev.Told Try.prog 39 qZO.c := zZ4 mixed Try.func39 (by decide +kernel) qZO.made
theorem qZL.made : cFunc Try.prog qZL.c.pure Try.f40 = some qZL.c := by kernel_rfl
theorem qZL.told : Ev.Told Try.prog 40 qZL.c := zZ4 mixed Try.func40 (by decide +kernel) qZL.made
theorem zZq.made : cFunc Try.prog zZq.c.pure Try.f41 = some zZq.c := by kernel_rfl
theorem zZq.told : Ev.Told Try.prog 41 zZq.c := zZ4 mixed Try.func41 (by decide +kernel) zZq.made
theorem zZh.made : cFunc Try.prog zZh.c.pure Try.f42 = some zZh.c := by kernel_rfl
theorem zZh.told : Ev.Told Try.prog 42 zZh.c := zZ4 mixed Try.func42 (by decide +kernel) zZh.made
theorem zZU.made : cFunc Try.prog zZU.c.pure Try.f43 = some zZU.c := by kernel_rfl
theorem zZU.told : Ev.Told Try.prog 43 zZU.c := zZ4 mixed Try.func43 (by decide +kernel) zZU.made
theorem zZB.made : cFunc Try.prog zZB.c.pure Try.f44 = some zZB.c := by kernel_rfl
theorem zZB.told : Ev.Told Try.prog 44 zZB.c := zZ4 mixed Try.func44 (by decide +kernel) zZB.made
theorem zZf.made : cFunc Try.prog zZf.c.pure Try.f45 = some zZf.c := by kernel_rfl
theorem zZf.told : Ev.Told Try.prog 45 zZf.c := zZ4 mixed Try.func45 (by decide +kernel) zZf.made
theorem zZx.made : cFunc Try.prog zZx.c.pure Try.f46 = some zZx.c := by kernel_rfl
theorem zZx.told : Ev.Told Try.prog 46 zZx.c := zZ4 mixed Try.func46 (by decide +kernel) zZx.made
theorem qZC.made : cFunc Try.prog qZC.c.pure Try.f47 = some qZC.c := by kernel_rfl
theorem qZC.told : Ev.Told Try.prog 47 qZC.c := zZ4 mixed Try.func47 (by decide +kernel) qZC.made
theorem zZI.made : cFunc Try.prog zZI.c.pure Try.f48 = some zZI.c := by kernel_rfl
theorem zZI.told : Ev.Told Try.prog 48 zZI.c := zZ4 mixed Try.func48 (by decide +kernel) zZI.made
theorem zZD.made : cFunc Try.prog zZD.c.pure Try.f49 = some zZD.c := by kernel_rfl
theorem zZD.told : Ev.Told Try.prog 49 zZD.c := zZ4 mixed Try.func49 (by decide +kernel) zZD.made
theorem zZo.made : cFunc Try.prog zZo.c.pure Try.f50 = some zZo.c := by kernel_rfl
theorem zZo.told : Ev.Told Try.prog 50 zZo.c := zZ4 mixed Try.func50 (by decide +kernel) zZo.made
theorem qZJ.made : cFunc Try.prog qZJ.c.pure Try.f51 = some qZJ.c := by kernel_rfl
theorem qZJ.told : Ev.Told Try.prog 51 qZJ.c := zZ4 mixed Try.func51 (by decide +kernel) qZJ.made
theorem zZJ.made : cFunc Try.prog zZJ.c.pure Try.f52 = some zZJ.c := by kernel_rfl
theorem zZJ.told : Ev.Told Try.prog 52 zZJ.c := zZ4 mixed Try.func52 (by decide +kernel) zZJ.made
theorem zZV.made : cFunc Try.prog zZV.c.pure Try.f53 = some zZV.c := by kernel_rfl
theorem zZV.told : Ev.Told Try.prog 53 zZV.c := zZ4 mixed Try.func53 (by decide +kernel) zZV.made
theorem qZR.made : cFunc Try.prog qZR.c.pure Try.f54 = some qZR.c := by kernel_rfl
theorem qZR.told : Ev.Told Try.prog 54 qZR.c := zZ4 mixed Try.func54 (by decide +kernel) qZR.made
theorem zZ7.made : cFunc Try.prog zZ7.c.pure Try.f55 = some zZ7.c := by kernel_rfl
theorem zZ7.told : Ev.Told Try.prog 55 zZ7.c := zZ4 mixed Try.func55 (by decide +kernel) zZ7.made
theorem zZ3.made : cFunc Try.prog zZ3.c.pure Try.f56 = some zZ3.c := by kernel_rfl
theorem zZ3.told : Ev.Told Try.prog 56 zZ3.c := zZ4 mixed Try.func56 (by decide +kernel) zZ3.made
theorem qZD.made : cFunc Try.prog qZD.c.pure Try.f57 = some qZD.c := by kernel_rfl
theorem qZD.told : Ev.Told Try.prog 57 qZD.c := zZ4 mixed Try.func57 (by decide +kernel) qZD.made
theorem qZc.made : cFunc Try.prog qZc.c.pure Try.f58 = some qZc.c := by kernel_rfl
theorem qZc.told : Ev.Told Try.prog 58 qZc.c := zZ4 mixed Try.func58 (by decide +kernel) qZc.made
theorem zZk.made : cFunc Try.prog zZk.c.pure Try.f59 = some zZk.c := by kernel_rfl
theorem zZk.told : Ev.Told Try.prog 59 zZk.c := zZ4 mixed Try.func59 (by decide +kernel) zZk.made
theorem zZr.made : cFunc Try.prog zZr.c.pure Try.f60 = some zZr.c := by kernel_rfl
theorem zZr.told : Ev.Told Try.prog 60 zZr.c := zZ4 mixed Try.func60 (by decide +kernel) zZr.made
theorem zZp.made : cFunc Try.prog zZp.c.pure Try.f61 = some zZp.c := by kernel_rfl
theorem zZp.told : Ev.Told Try.prog 61 zZp.c := zZ4 mixed Try.func61 (by decide +kernel) zZp.made
theorem zZW.made : cFunc Try.prog zZW.c.pure Try.f62 = some zZW.c := by kernel_rfl
theorem zZW.told : Ev.Told Try.prog 62 zZW.c := zZ4 mixed Try.func62 (by decide +kernel) zZW.made
theorem zZi.made : cFunc Try.prog zZi.c.pure Try.f63 = some zZi.c := by kernel_rfl
theorem zZi.told : Ev.Told Try.prog 63 zZi.c := zZ4 mixed Try.func63 (by decide +kernel) zZi.made
theorem zZn.made : cFunc Try.prog zZn.c.pure Try.f64 = some zZn.c := by kernel_rfl
theorem zZn.told : Ev.Told Try.prog 64 zZn.c := zZ4 mixed Try.func64 (by decide +kernel) zZn.made
theorem zZX.made : cFunc Try.prog zZX.c.pure Try.f65 = some zZX.c := by kernel_rfl
theorem zZX.told : Ev.Told Try.prog 65 zZX.c := zZ4 mixed Try.func65 (by decide +kernel) zZX.made
theorem qZt.made : cFunc Try.prog qZt.c.pure Try.f66 = some qZt.c := by kernel_rfl
theorem qZt.told : Ev.Told Try.prog 66 qZt.c := zZ4 mixed Try.func66 (by decide +kernel) qZt.made
theorem zZl.made : cFunc Try.prog zZl.c.pure Try.f67 = some zZl.c := by kernel_rfl
theorem zZl.told : Ev.Told Try.prog 67 zZl.c := zZ4 mixed Try.func67 (by decide +kernel) zZl.made
theorem qZk.made : cFunc Try.prog qZk.c.pure Try.f68 = some qZk.c := by kernel_rfl
theorem qZk.told : Ev.Told Try.prog 68 qZk.c := zZ4 mixed Try.func68 (by decide +kernel) qZk.made
theorem zZO.made : cFunc Try.prog zZO.c.pure Try.f69 = some zZO.c := by kernel_rfl
theorem zZO.told : Ev.Told Try.prog 69 zZO.c := zZ4 mixed Try.func69 (by decide +kernel) zZO.made
theorem qZe.made : cFunc Try.prog qZe.c.pure Try.f70 = some qZe.c := by kernel_rfl
theorem qZe.told : Ev.Told Try.prog 70 qZe.c := zZ4 mixed Try.func70 (by decide +kernel) qZe.made
theorem zZe.made : cFunc Try.prog zZe.c.pure Try.f71 = some zZe.c := by kernel_rfl
theorem zZe.told : Ev.Told Try.prog 71 zZe.c := zZ4 mixed Try.func71 (by decide +kernel) zZe.made
theorem zZH.made : cFunc Try.prog zZH.c.pure Try.f72 = some zZH.c := by kernel_rfl
theorem zZH.told : Ev.Told Try.prog 72 zZH.c := zZ4 mixed Try.func72 (by decide +kernel) zZH.made
theorem zZm.made : cFunc Try.prog zZm.c.pure Try.f73 = some zZm.c := by kernel_rfl
theorem zZm.told : Ev.Told Try.prog 73 zZm.c := zZ4 mixed Try.func73 (by decide +kernel) zZm.made
theorem zZP.made : cFunc Try.prog zZP.c.pure Try.f74 = some zZP.c := by kernel_rfl
theorem zZP.told : Ev.Told Try.prog 74 zZP.c := zZ4 mixed Try.func74 (by decide +kernel) zZP.made
theorem qZm.made : cFunc Try.prog qZm.c.pure Try.f75 = some qZm.c := by kernel_rfl
theorem qZm.told : Ev.Told Try.prog 75 qZm.c := zZ4 mixed Try.func75 (by decide +kernel) qZm.made
theorem zZS.made : cFunc Try.prog zZS.c.pure Try.f76 = some zZS.c := by kernel_rfl
theorem zZS.told : Ev.Told Try.prog 76 zZS.c := zZ4 mixed Try.func76 (by decide +kernel) zZS.made
theorem qZz.made : cFunc Try.prog qZz.c.pure Try.f77 = some qZz.c := by kernel_rfl
theorem qZz.told : Ev.Told Try.prog 77 qZz.c := zZ4 mixed Try.func77 (by decide +kernel) qZz.made
theorem zZA.made : cFunc Try.prog zZA.c.pure Try.f78 = some zZA.c := by kernel_rfl
theorem zZA.told : Ev.Told Try.prog 78 zZA.c := zZ4 mixed Try.func78 (by decide +kernel) zZA.made
theorem qZG.made : cFunc Try.prog qZG.c.pure Try.f79 = some qZG.c := by kernel_rfl
theorem qZG.told : Ev.Told Try.prog 79 qZG.c := zZ4 mixed Try.func79 (by decide +kernel) qZG.made
theorem zZz.made : cFunc Try.prog zZz.c.pure Try.f80 = some zZz.c := by kernel_rfl
theorem zZz.told : Ev.Told Try.prog 80 zZz.c := zZ4 mixed Try.func80 (by decide +kernel) zZz.made
theorem qZb.made : cFunc Try.prog qZb.c.pure Try.f81 = some qZb.c := by kernel_rfl
theorem qZb.told : Ev.Told Try.prog 81 qZb.c := zZ4 mixed Try.func81 (by decide +kernel) qZb.made
theorem qZr.made : cFunc Try.prog qZr.c.pure Try.f82 = some qZr.c := by kernel_rfl
theorem qZr.told : Ev.Told Try.prog 82 qZr.c := zZ4 mixed Try.func82 (by decide +kernel) qZr.made
theorem qZs.made : cFunc Try.prog qZs.c.pure Try.f83 = some qZs.c := by kernel_rfl
theorem qZs.told : Ev.Told Try.prog 83 qZs.c := zZ4 mixed Try.func83 (by decide +kernel) qZs.made
theorem zZT.made : cFunc Try.prog zZT.c.pure Try.f84 = some zZT.c := by kernel_rfl
theorem zZT.told : Ev.Told Try.prog 84 zZT.c := zZ4 mixed Try.func84 (by decide +kernel) zZT.made
theorem qZp.made : cFunc Try.prog qZp.c.pure Try.f85 = some qZp.c := by kernel_rfl
theorem qZp.told : Ev.Told Try.prog 85 qZp.c := zZ4 mixed Try.func85 (by decide +kernel) qZp.made
theorem zZg.made : cFunc Try.prog zZg.c.pure Try.f86 = some zZg.c := by kernel_rfl
theorem zZg.told : Ev.Told Try.prog 86 zZg.c := zZ4 mixed Try.func86 (by decide +kernel) zZg.made
theorem qZq.made : cFunc Try.prog qZq.c.pure Try.f87 = some qZq.c := by kernel_rfl
theorem qZq.told : Ev.Told Try.prog 87 qZq.c := zZ4 mixed Try.func87 (by decide +kernel) qZq.made
theorem qZa.made : cFunc Try.prog qZa.c.pure Try.f88 = some qZa.c := by kernel_rfl
theorem qZa.told : Ev.Told Try.prog 88 qZa.c := zZ4 mixed Try.func88 (by decide +kernel) qZa.made
theorem qZy.made : cFunc Try.prog qZy.c.pure Try.f89 = some qZy.c := by kernel_rfl
theorem qZy.told : Ev.Told Try.prog 89 qZy.c := zZ4 mixed Try.func89 (by decide +kernel) qZy.made
theorem zZb.made : cFunc Try.prog zZb.c.pure Try.f90 = some zZb.c := by kernel_rfl
theorem zZb.told : Ev.Told Try.prog 90 zZb.c := zZ4 mixed Try.func90 (by decide +kernel) zZb.made
theorem zZ5.made : cFunc Try.prog zZ5.c.pure Try.f91 = some zZ5.c := by kernel_rfl
theorem zZ5.told : Ev.Told Try.prog 91 zZ5.c := zZ4 mixed Try.func91 (by decide +kernel) zZ5.made
theorem qZf {f k : Nat} {c cf : Cf} (hr : Ev.Told Try.prog k c) (h : (if f = k then some c else none) = some cf) : Ev.Told Try.prog f cf := by
 split at h
 ·rename_i e; subst e; cases h; exact hr
 ·cases h
theorem qZg {f m : Nat} {a b : Option Cf} {cf : Cf} (h : (if f < m then a else b) = some cf) (ha : a = some cf → Ev.Told Try.prog f cf) (hb : b = some cf → Ev.Told Try.prog f cf) : Ev.Told Try.prog f cf := by
 split at h
 ·exact ha h
 ·exact hb h
theorem tells : Tells Try.prog Φ := fun f cf h => qZg h (fun h => qZg h (fun h => qZg h (fun h => qZg h (fun h => qZg h (fun h => qZg h (fun h => qZf zZF.told h) (fun h => qZf zZK.told h)) (fun h => qZg h (fun h => qZf zZG.told h) (fun h => qZg h (fun h => qZf zZw.told h) (fun h => qZf zZj.told h)))) (fun h => qZg h (fun h => qZg h (fun h => qZf zZ1.told h) (fun h => qZg h (fun h => qZf qZu.told h) (fun h => qZf qZH.told h))) (fun h => qZg h (fun h => qZf zZy.told h) (fun h => qZg h (fun h => qZf zZE.told h) (fun h => qZf zZZ.told h))))) (fun h => qZg h (fun h => qZg h (fun h => qZg h (fun h => qZf zZt.told h) (fun h => qZf zZC.told h)) (fun h => qZg h (fun h => qZf qZn.told h) (fun h => qZg h (fun h => qZf zZu.told h) (fun h => qZf qZo.told h)))) (fun h => qZg h (fun h => qZg h (fun h => qZf zZv.told h) (fun h => qZg h (fun h => qZf qZW.told h) (fun h => qZf zZ8.told h))) (fun h => qZg h (fun h => qZf qZh.told h) (fun h => qZg h (fun h => qZf zZN.told h) (fun h => qZf zZs.told h)))))) (fun h => qZg h (fun h => qZg h (fun h => qZg h (fun h => qZg h (fun h => qZf zZM.told h) (fun h => qZf zZR.told h)) (fun h => qZg h (fun h => qZf zZL.told h) (fun h => qZg h (fun h => qZf zZ9.told h) (fun h => qZf qZF.told h)))) (fun h => qZg h (fun h => qZg h (fun h => qZf qZl.told h) (fun h => qZg h (fun h => qZf zZc.told h) (fun h => qZf zZd.told h))) (fun h => qZg h (fun h => qZf qZA.told h) (fun h => qZg h (fun h => qZf zZa.told h) (fun h => qZf zZ2.told h))))) (fun h => qZg h (fun h => qZg h (fun h => qZg h (fun h => qZf zZY.told h) (fun h => qZf qZi.told h)) (fun h => qZg h (fun h => qZf qZw.told h) (fun h => qZg h (fun h => qZf qZO.told h) (fun h => qZf qZL.told h)))) (fun h => qZg h (fun h => qZg h (fun h => qZf zZq.told h) (fun h => qZg h (fun h => qZf zZh.told h) (fun h => qZf zZU.told h))) (fun h => qZg h (fun h => qZf zZB.told h) (fun h => qZg h (fun h => qZf zZf.told h) (fun h => qZf zZx.told h))))))) (fun h => qZg h (fun h => qZg h (fun h => qZg h (fun h => qZg h (fun h => qZg h (fun h => qZf qZC.told h) (fun h => qZf zZI.told h)) (fun h => qZg h (fun h => qZf zZD.told h) (fun h => qZg h (fun h => qZf zZo.told h) (fun h => qZf qZJ.told h)))) (fun h => qZg h (fun h => qZg h (fun h => qZf zZJ.told h) (fun h => qZg h (fun h => qZf zZV.told h) (fun h => qZf qZR.told h))) (fun h => qZg h (fun h => qZf zZ7.told h) (fun h => qZg h (fun h => qZf zZ3.told h) (fun h => qZf qZD.told h))))) (fun h => qZg h (fun h => qZg h (fun h => qZg h (fun h => qZf qZc.told h) (fun h => qZf zZk.told h)) (fun h => qZg h (fun h => qZf zZr.told h) (fun h => qZg h (fun h => qZf zZp.told h) (fun h => qZf zZW.told h)))) (fun h => qZg h (fun h => qZg h (fun h => qZf zZi.told h) (fun h => qZg h (fun h => qZf zZn.told h) (fun h => qZf zZX.told h))) (fun h => qZg h (fun h => qZf qZt.told h) (fun h => qZg h (fun h => qZf zZl.told h) (fun h => qZf qZk.told h)))))) (fun h => qZg h (fun h => qZg h (fun h => qZg h (fun h => qZg h (fun h => qZf zZO.told h) (fun h => qZf qZe.told h)) (fun h => qZg h (fun h => qZf zZe.told h) (fun h => qZg h (fun h => qZf zZH.told h) (fun h => qZf zZm.told h)))) (fun h => qZg h (fun h => qZg h (fun h => qZf zZP.told h) (fun h => qZg h (fun h => qZf qZm.told h) (fun h => qZf zZS.told h))) (fun h => qZg h (fun h => qZf qZz.told h) (fun h => qZg h (fun h => qZf zZA.told h) (fun h => qZf qZG.told h))))) (fun h => qZg h (fun h => qZg h (fun h => qZg h (fun h => qZf zZz.told h) (fun h => qZg h (fun h => qZf qZb.told h) (fun h => qZf qZr.told h))) (fun h => qZg h (fun h => qZf qZs.told h) (fun h => qZg h (fun h => qZf zZT.told h) (fun h => qZf qZp.told h)))) (fun h => qZg h (fun h => qZg h (fun h => qZf zZg.told h) (fun h => qZg h (fun h => qZf qZq.told h) (fun h => qZf qZa.told h))) (fun h => qZg h (fun h => qZf qZy.told h) (fun h => qZg h (fun h => qZf zZb.told h) (fun h => qZf zZ5.told h)))))))
end Go.Proofs.It
