/- PRINTED by cir3.py: the compiled functions, and the table. No conditions. -/
import Derived.Test.YtcfgiajpbjbdpaaDoorChecked
import Derived.Test.YtcfgiajpbjbdpaaDoorEwR
import Derived.Test.YtcfgiajpbjbdpaaDoorSkP
set_option maxHeartbeats 16000000
set_option maxRecDepth 100000
set_option linter.unusedVariables false
set_option linter.unusedSimpArgs false
set_option linter.unusedSectionVars false
namespace Go.Proofs.Sc
open Go Go.Ev
def zZb.r0 : List Cp := [⟨some 4, .mov (.c (.bool false)), none⟩]
def zZb.r1 : List Cp := [⟨some 8, .call (.c (.fn (.func 4) [] [])) [], none⟩, ⟨some 9, .un .not (.t 8), none⟩]
def zZb.r2 : List Cp := [⟨some 4, .mov (.c (.bool false)), none⟩]
def zZb.r3 : List Cp := [⟨some 10, .mov (.t 0), none⟩, ⟨some 11, .call (.c (.fn (.func 5) [] [])) [(.t 10)], none⟩, ⟨some 5, .mov (.t 11), none⟩]
def zZb.r4 : List Cp := [⟨some 13, .mov (.t 5), none⟩, ⟨some 14, .call (.c (.fn (.func 6) [] [])) [(.t 13)], none⟩, ⟨some 12, .mov (.t 14), none⟩, ⟨some 15, .ext (.t 12) 0, none⟩, ⟨some 16, .ext (.t 12) 1, none⟩, ⟨some 6, .mov (.t 15), none⟩, ⟨some 7, .mov (.t 16), none⟩]
def zZb.r5 : List Cp := [⟨some 17, .mov (.t 0), none⟩, ⟨some 18, .bin .eql (.t 17) (.c (.int .u8 0)), none⟩, ⟨some 19, .mov (.t 18), none⟩, ⟨some 20, .mov (.t 0), (some (19, false))⟩, ⟨some 21, .bin .geq (.t 20) (.c (.int .u8 45)), (some (19, false))⟩, ⟨some 22, .pick (.t 19) (.c (.bool true)) (.t 21), none⟩]
def zZb.r6 : List Cp := [⟨some 23, .mov (.t 5), none⟩, ⟨some 24, .bin .eql (.t 23) (.c (.str ⟨#[]⟩)), none⟩, ⟨some 25, .mov (.t 24), none⟩, ⟨some 26, .mov (.t 7), (some (25, true))⟩, ⟨some 27, .un .not (.t 26), (some (25, true))⟩, ⟨some 28, .pick (.t 25) (.t 27) (.c (.bool false)), none⟩, ⟨some 29, .mov (.t 28), none⟩, ⟨some 30, .mov (.t 6), (some (29, true))⟩, ⟨some 31, .bin .eql (.t 30) (.c (.int .u8 0)), (some (29, true))⟩, ⟨some 32, .pick (.t 29) (.t 31) (.c (.bool false)), none⟩, ⟨some 4, .mov (.t 32), none⟩]
def zZb.r7 : List Cp := [⟨some 33, .mov (.t 5), none⟩, ⟨some 34, .bin .neq (.t 33) (.c (.str ⟨#[]⟩)), none⟩, ⟨some 35, .mov (.t 34), none⟩, ⟨some 36, .mov (.t 7), (some (35, true))⟩, ⟨some 37, .pick (.t 35) (.t 36) (.c (.bool false)), none⟩, ⟨some 38, .mov (.t 37), none⟩, ⟨some 39, .mov (.t 6), (some (38, true))⟩, ⟨some 40, .mov (.t 0), (some (38, true))⟩, ⟨some 41, .bin .eql (.t 39) (.t 40), (some (38, true))⟩, ⟨some 42, .pick (.t 38) (.t 41) (.c (.bool false)), none⟩, ⟨some 43, .mov (.t 42), none⟩, ⟨some 44, .mov (.t 0), (some (43, true))⟩, ⟨some 45, .mov (.t 1), (some (43, true))⟩, ⟨some 46, .bin .eql (.t 44) (.t 45), (some (43, true))⟩, ⟨some 47, .mov (.t 46), (some (43, true))⟩, ⟨some 48, .mov (.t 1), (some (47, false))⟩, ⟨some 49, .call (.c (.fn (.func 5) [] [])) [(.t 48)], (some (47, false))⟩, ⟨some 50, .mov (.t 5), (some (47, false))⟩, ⟨some 51, .bin .neq (.t 49) (.t 50), (some (47, false))⟩, ⟨some 52, .pick (.t 47) (.c (.bool true)) (.t 51), (some (43, true))⟩, ⟨some 53, .pick (.t 43) (.t 52) (.c (.bool false)), none⟩, ⟨some 4, .mov (.t 53), none⟩]
def zZb.c : Cf := ⟨54, [.tmp 4], (.seq (.region zZb.r0) (.seq (.seq (.region zZb.r1) (.cond (.t 9) (.seq (.region zZb.r2) .ret) .skip)) (.seq (.region zZb.r3) (.seq (.region zZb.r4) (.seq (.seq (.region zZb.r5) (.cond (.t 22) (.seq (.region zZb.r6) .ret) .skip)) (.seq (.region zZb.r7) .ret)))))), true⟩
abbrev zZb : V := .fn (.func 3) [] []
abbrev zZb.k : Nat := 3
def zZA.r0 : List Cp := [⟨some 0, .mov (.c (.bool false)), none⟩]
def zZA.r1 : List Cp := [⟨some 14, .build [.int .u8 0, .int .i64 0, .int .i64 0, .int .i64 0, .int .i64 0, .int .i64 0, .str ⟨#[]⟩, .str ⟨#[]⟩, .nils, .nils, .nils, .bool false] [(0, 1, (.c (.int .u8 7))), (1, 1, (.c (.int .i64 3))), (2, 1, (.c (.int .i64 1)))], none⟩, ⟨some 15, .call (.c (.fn (.func 7) [] [])) [(.t 14)], none⟩, ⟨some 13, .mov (.t 15), none⟩, ⟨some 16, .ext (.t 13) 0, none⟩, ⟨some 17, .ext (.t 13) 1, none⟩, ⟨some 1, .mov (.t 16), none⟩, ⟨some 2, .mov (.t 17), none⟩]
def zZA.r2 : List Cp := [⟨some 19, .call (.c (.fn (.func 8) [] [])) [(.c (.str ⟨#[102, 117, 101, 108, 32, 49, 48, 10, 109, 97, 105, 110, 10, 115, 105, 103, 110, 97, 108, 10]⟩))], none⟩, ⟨some 18, .mov (.t 19), none⟩, ⟨some 20, .ext (.t 18) 0, none⟩, ⟨some 21, .ext (.t 18) 1, none⟩, ⟨some 22, .ext (.t 18) 2, none⟩, ⟨some 3, .alloc [.nils, .nils, .int .i64 0], none⟩, ⟨none, .store 3 (.t 3) (.t 20), none⟩, ⟨some 4, .mov (.t 21), none⟩, ⟨some 5, .mov (.t 22), none⟩]
def zZA.r3 : List Cp := [⟨some 24, .call (.c (.fn (.func 9) [] [])) [(.c (.str ⟨#[105, 110, 115, 101, 114, 116, 32, 48, 51, 32, 49, 32, 48]⟩))], none⟩, ⟨some 23, .mov (.t 24), none⟩, ⟨some 25, .ext (.t 23) 0, none⟩, ⟨some 26, .ext (.t 23) 1, none⟩, ⟨some 6, .alloc [.int .u8 0, .int .i64 0, .int .i64 0, .int .i64 0, .int .i64 0, .int .i64 0, .str ⟨#[]⟩, .str ⟨#[]⟩, .nils, .nils, .nils, .bool false], none⟩, ⟨none, .store 12 (.t 6) (.t 25), none⟩, ⟨some 7, .mov (.t 26), none⟩]
def zZA.r4 : List Cp := [⟨some 28, .call (.c (.fn (.func 8) [] [])) [(.c (.str ⟨#[102, 117, 101, 108, 32, 49, 10]⟩))], none⟩, ⟨some 27, .mov (.t 28), none⟩, ⟨some 29, .ext (.t 27) 0, none⟩, ⟨some 30, .ext (.t 27) 1, none⟩, ⟨some 31, .ext (.t 27) 2, none⟩, ⟨some 8, .alloc [.nils, .nils, .int .i64 0], none⟩, ⟨none, .store 3 (.t 8) (.t 29), none⟩, ⟨some 9, .mov (.t 30), none⟩, ⟨some 10, .mov (.t 31), none⟩]
def zZA.r5 : List Cp := [⟨some 33, .call (.c (.fn (.func 6) [] [])) [(.c (.str ⟨#[100, 117, 109, 112]⟩))], none⟩, ⟨some 32, .mov (.t 33), none⟩, ⟨some 34, .ext (.t 32) 0, none⟩, ⟨some 35, .ext (.t 32) 1, none⟩, ⟨some 11, .mov (.t 34), none⟩, ⟨some 12, .mov (.t 35), none⟩]
def zZA.r6 : List Cp := [⟨some 36, .mov (.t 2), none⟩, ⟨some 37, .bin .eql (.t 36) (.c (.int .i64 0)), none⟩, ⟨some 38, .mov (.t 37), none⟩, ⟨some 39, .mov (.t 1), (some (38, true))⟩, ⟨some 40, .bin .eql (.t 39) (.c (.str ⟨#[105, 110, 115, 101, 114, 116, 32, 51, 32, 49, 32, 48]⟩)), (some (38, true))⟩, ⟨some 41, .pick (.t 38) (.t 40) (.c (.bool false)), none⟩, ⟨some 42, .mov (.t 41), none⟩, ⟨some 43, .mov (.t 4), (some (42, true))⟩, ⟨some 44, .bin .eql (.t 43) (.c (.int .i64 0)), (some (42, true))⟩, ⟨some 45, .pick (.t 42) (.t 44) (.c (.bool false)), none⟩, ⟨some 46, .mov (.t 45), none⟩, ⟨some 47, .faddr 0 (.t 3), (some (46, true))⟩, ⟨some 48, .load none (.t 47), (some (46, true))⟩, ⟨some 49, .len .l (.t 48), (some (46, true))⟩, ⟨some 50, .bin .eql (.t 49) (.c (.int .i64 1)), (some (46, true))⟩, ⟨some 51, .pick (.t 46) (.t 50) (.c (.bool false)), none⟩, ⟨some 52, .mov (.t 51), none⟩, ⟨some 53, .faddr 2 (.t 3), (some (52, true))⟩, ⟨some 54, .load none (.t 53), (some (52, true))⟩, ⟨some 55, .bin .eql (.t 54) (.c (.int .i64 10)), (some (52, true))⟩, ⟨some 56, .pick (.t 52) (.t 55) (.c (.bool false)), none⟩, ⟨some 57, .mov (.t 56), none⟩, ⟨some 58, .mov (.t 7), (some (57, true))⟩, ⟨some 59, .bin .eql (.t 58) (.c (.int .i64 20)), (some (57, true))⟩, ⟨some 60, .pick (.t 57) (.t 59) (.c (.bool false)), none⟩, ⟨some 61, .mov (.t 60), none⟩, ⟨some 62, .mov (.t 9), (some (61, true))⟩, ⟨some 63, .bin .eql (.t 62) (.c (.int .i64 20)), (some (61, true))⟩, ⟨some 64, .pick (.t 61) (.t 63) (.c (.bool false)), none⟩, ⟨some 65, .mov (.t 64), none⟩, ⟨some 66, .mov (.t 10), (some (65, true))⟩, ⟨some 67, .bin .eql (.t 66) (.c (.int .i64 2)), (some (65, true))⟩, ⟨some 68, .pick (.t 65) (.t 67) (.c (.bool false)), none⟩, ⟨some 69, .mov (.t 68), none⟩, ⟨some 70, .mov (.t 12), (some (69, true))⟩, ⟨some 71, .pick (.t 69) (.t 70) (.c (.bool false)), none⟩, ⟨some 72, .mov (.t 71), none⟩, ⟨some 73, .mov (.t 11), (some (72, true))⟩, ⟨some 74, .bin .eql (.t 73) (.c (.int .u8 44)), (some (72, true))⟩, ⟨some 75, .pick (.t 72) (.t 74) (.c (.bool false)), none⟩, ⟨some 0, .mov (.t 75), none⟩]
def zZA.c : Cf := ⟨76, [.tmp 0], (.seq (.region zZA.r0) (.seq (.region zZA.r1) (.seq (.region zZA.r2) (.seq (.region zZA.r3) (.seq (.region zZA.r4) (.seq (.region zZA.r5) (.seq (.region zZA.r6) .ret))))))), true⟩
abbrev zZA : V := .fn (.func 4) [] []
abbrev zZA.k : Nat := 4
def zZU.r0 : List Cp := [⟨some 2, .mov (.c (.str ⟨#[]⟩)), none⟩]
def zZU.r1 : List Cp := [⟨some 3, .mov (.t 0), none⟩, ⟨some 4, .call (.c (.fn (.func 10) [] [])) [(.t 3)], none⟩, ⟨some 5, .field 0 none (.t 4), none⟩, ⟨some 2, .mov (.t 5), none⟩]
def zZU.c : Cf := ⟨6, [.tmp 2], (.seq (.region zZU.r0) (.seq (.region zZU.r1) .ret)), true⟩
abbrev zZU : V := .fn (.func 5) [] []
abbrev zZU.k : Nat := 5
def zZg.r0 : List Cp := [⟨some 2, .mov (.c (.int .u8 0)), none⟩, ⟨some 3, .mov (.c (.bool false)), none⟩]
def zZg.r1 : List Cp := [⟨some 6, .call (.c (.fn (.func 11) [] [])) [], none⟩, ⟨some 7, .len .l (.t 6), none⟩, ⟨some 8, .mov (.c (.int .i64 0)), none⟩]
def zZg.r2 : List Cp := [⟨some 9, .bin .lss (.t 8) (.t 7), none⟩]
def zZg.r3 : List Cp := [⟨some 10, .mov (.t 8), none⟩, ⟨some 11, .iaddr 2 (.t 6) (.t 8), none⟩, ⟨some 12, .load (some 2) (.t 11), none⟩, ⟨some 5, .alloc [.str ⟨#[]⟩, .str ⟨#[]⟩], none⟩, ⟨some 4, .mov (.t 10), none⟩, ⟨none, .store 2 (.t 5) (.t 12), none⟩]
def zZg.r4 : List Cp := [⟨some 13, .mov (.t 4), none⟩, ⟨some 14, .bin .gtr (.t 13) (.c (.int .i64 0)), none⟩, ⟨some 15, .mov (.t 14), none⟩, ⟨some 16, .faddr 0 (.t 5), (some (15, true))⟩, ⟨some 17, .load none (.t 16), (some (15, true))⟩, ⟨some 18, .mov (.t 0), (some (15, true))⟩, ⟨some 19, .bin .eql (.t 17) (.t 18), (some (15, true))⟩, ⟨some 20, .pick (.t 15) (.t 19) (.c (.bool false)), none⟩]
def zZg.r5 : List Cp := [⟨some 21, .mov (.t 4), none⟩, ⟨some 22, .conv (.int .u8) (.t 21), none⟩, ⟨some 2, .mov (.t 22), none⟩, ⟨some 3, .mov (.c (.bool true)), none⟩]
def zZg.r6 : List Cp := [⟨some 23, .bin .add (.t 8) (.c (.int .i64 1)), none⟩, ⟨some 8, .mov (.t 23), none⟩]
def zZg.b7 : Cc := (.seq (.region zZg.r2) (.seq (.cond (.t 9) .skip (.exit 0)) (.seq (.block 1 (.seq (.region zZg.r3) (.seq (.region zZg.r4) (.cond (.t 20) (.seq (.region zZg.r5) .ret) .skip)))) (.region zZg.r6))))
def zZg.r8 : List Cp := [⟨some 2, .mov (.c (.int .u8 0)), none⟩, ⟨some 3, .mov (.c (.bool false)), none⟩]
def zZg.c : Cf := ⟨24, [.tmp 2, .tmp 3], (.seq (.region zZg.r0) (.seq (.seq (.region zZg.r1) (.block 0 (.loop zZg.b7))) (.seq (.region zZg.r8) .ret))), true⟩
abbrev zZg : V := .fn (.func 6) [] []
abbrev zZg.k : Nat := 6
def zZr.r0 : List Cp := [⟨some 1, .box (.t 0), none⟩, ⟨some 2, .mov (.c (.str ⟨#[]⟩)), none⟩, ⟨some 3, .mov (.c (.int .i64 0)), none⟩]
def zZr.r1 : List Cp := [⟨some 9, .faddr 0 (.t 1), none⟩, ⟨some 10, .load none (.t 9), none⟩, ⟨some 11, .call (.c (.fn (.func 10) [] [])) [(.t 10)], none⟩, ⟨some 4, .alloc [.str ⟨#[]⟩, .str ⟨#[]⟩], none⟩, ⟨none, .store 2 (.t 4) (.t 11), none⟩]
def zZr.r2 : List Cp := [⟨some 12, .faddr 0 (.t 4), none⟩, ⟨some 13, .load none (.t 12), none⟩, ⟨some 14, .bin .eql (.t 13) (.c (.str ⟨#[]⟩)), none⟩]
def zZr.r3 : List Cp := [⟨some 2, .mov (.c (.str ⟨#[]⟩)), none⟩, ⟨some 3, .mov (.c (.int .i64 23)), none⟩]
def zZr.r4 : List Cp := [⟨some 15, .faddr 0 (.t 4), none⟩, ⟨some 16, .load none (.t 15), none⟩, ⟨some 17, .conv .strBytes (.t 16), none⟩, ⟨some 5, .mov (.t 17), none⟩]
def zZr.r5 : List Cp := [⟨some 18, .call (.c (.fn (.func 12) [] [])) [], none⟩, ⟨some 6, .mov (.t 18), none⟩]
def zZr.r6 : List Cp := [⟨some 19, .faddr 1 (.t 4), none⟩, ⟨some 20, .load none (.t 19), none⟩, ⟨some 21, .rngs (.t 20), none⟩]
def zZr.r7 : List Cp := [⟨some 22, .nxt (.t 21), none⟩, ⟨some 23, .ext (.t 22) 0, none⟩]
def zZr.r8 : List Cp := [⟨some 24, .ext (.t 22) 2, none⟩, ⟨some 8, .mov (.t 24), none⟩]
def zZr.r9 : List Cp := [⟨some 25, .mov (.t 5), none⟩, ⟨some 26, .bslice [.int .u8 0] 1 1 [(0, (.c (.int .u8 32)))], none⟩, ⟨some 27, .app 1 1 (.t 25) (.t 26), none⟩, ⟨some 5, .mov (.t 27), none⟩]
def zZr.r10 : List Cp := [⟨some 28, .mov (.t 5), none⟩, ⟨some 29, .mov (.t 6), none⟩, ⟨some 30, .mov (.t 8), none⟩, ⟨some 31, .look (.leaf .i) false (.agg [.nilf, .nilf]) (.t 29) (.t 30), none⟩, ⟨some 32, .field 0 none (.t 31), none⟩, ⟨some 33, .call (.t 32) [(.t 1)], none⟩, ⟨some 34, .app 1 1 (.t 28) (.t 33), none⟩, ⟨some 5, .mov (.t 34), none⟩]
def zZr.r11 : List Cp := [⟨some 35, .mov (.t 5), none⟩, ⟨some 36, .len .l (.t 35), none⟩, ⟨some 37, .bin .gtr (.t 36) (.c (.int .i64 1048576)), none⟩]
def zZr.r12 : List Cp := [⟨some 2, .mov (.c (.str ⟨#[]⟩)), none⟩, ⟨some 3, .mov (.c (.int .i64 4)), none⟩]
def zZr.b13 : Cc := (.seq (.region zZr.r7) (.seq (.cond (.t 23) .skip (.exit 0)) (.block 1 (.seq (.region zZr.r8) (.seq (.region zZr.r9) (.seq (.region zZr.r10) (.seq (.region zZr.r11) (.cond (.t 37) (.seq (.region zZr.r12) .ret) .skip))))))))
def zZr.r14 : List Cp := [⟨some 38, .mov (.t 5), none⟩, ⟨some 39, .conv .bytesStr (.t 38), none⟩, ⟨some 2, .mov (.t 39), none⟩, ⟨some 3, .mov (.c (.int .i64 0)), none⟩]
def zZr.c : Cf := ⟨40, [.tmp 2, .tmp 3], (.seq (.region zZr.r0) (.seq (.region zZr.r1) (.seq (.seq (.region zZr.r2) (.cond (.t 14) (.seq (.region zZr.r3) .ret) .skip)) (.seq (.region zZr.r4) (.seq (.region zZr.r5) (.seq (.seq (.region zZr.r6) (.block 0 (.loop zZr.b13))) (.seq (.region zZr.r14) .ret))))))), true⟩
abbrev zZr : V := .fn (.func 7) [] []
abbrev zZr.k : Nat := 7
def zZB.r0 : List Cp := [⟨some 2, .alloc [.nils, .nils, .int .i64 0], none⟩, ⟨some 3, .mov (.c (.int .i64 0)), none⟩, ⟨some 4, .mov (.c (.int .i64 0)), none⟩]
def zZB.r1 : List Cp := [⟨some 7, .mov (.t 0), none⟩, ⟨some 8, .len .s (.t 7), none⟩, ⟨some 9, .bin .gtr (.t 8) (.c (.int .i64 1048576)), none⟩]
def zZB.r2 : List Cp := [⟨some 10, .build [.nils, .nils, .int .i64 0] [], none⟩, ⟨none, .store 3 (.t 2) (.t 10), none⟩, ⟨some 3, .mov (.c (.int .i64 4)), none⟩, ⟨some 4, .mov (.c (.int .i64 0)), none⟩]
def zZB.r3 : List Cp := [⟨some 11, .mov (.t 0), none⟩, ⟨some 12, .build [.str ⟨#[]⟩, .int .i64 0, .int .i64 0, .int .i64 0] [(0, 1, (.t 11))], none⟩, ⟨some 13, .box (.t 12), none⟩, ⟨some 5, .mov (.t 13), none⟩]
def zZB.r4 : List Cp := [⟨some 14, .mov (.t 5), none⟩, ⟨some 15, .call (.c (.fn (.func 13) [] [])) [(.t 14)], none⟩, ⟨some 6, .alloc [.nils, .nils, .int .i64 0], none⟩, ⟨none, .store 3 (.t 6) (.t 15), none⟩]
def zZB.r5 : List Cp := [⟨some 16, .mov (.t 5), none⟩, ⟨some 17, .nilchk (.t 16), none⟩, ⟨some 18, .faddr 3 (.t 17), none⟩, ⟨some 19, .load none (.t 18), none⟩, ⟨some 20, .bin .neq (.t 19) (.c (.int .i64 0)), none⟩]
def zZB.r6 : List Cp := [⟨some 21, .build [.nils, .nils, .int .i64 0] [], none⟩, ⟨some 22, .mov (.t 5), none⟩, ⟨some 23, .nilchk (.t 22), none⟩, ⟨some 24, .faddr 3 (.t 23), none⟩, ⟨some 25, .load none (.t 24), none⟩, ⟨some 26, .mov (.t 5), none⟩, ⟨some 27, .nilchk (.t 26), none⟩, ⟨some 28, .faddr 1 (.t 27), none⟩, ⟨some 29, .load none (.t 28), none⟩, ⟨none, .store 3 (.t 2) (.t 21), none⟩, ⟨some 3, .mov (.t 25), none⟩, ⟨some 4, .mov (.t 29), none⟩]
def zZB.r7 : List Cp := [⟨some 30, .load (some 3) (.t 6), none⟩, ⟨none, .store 3 (.t 2) (.t 30), none⟩, ⟨some 3, .mov (.c (.int .i64 0)), none⟩, ⟨some 4, .mov (.c (.int .i64 0)), none⟩]
def zZB.c : Cf := ⟨31, [.cell 2 (some 3), .tmp 3, .tmp 4], (.seq (.region zZB.r0) (.seq (.seq (.region zZB.r1) (.cond (.t 9) (.seq (.region zZB.r2) .ret) .skip)) (.seq (.region zZB.r3) (.seq (.region zZB.r4) (.seq (.seq (.region zZB.r5) (.cond (.t 20) (.seq (.draw zZB.r6 [[], [], [1], [2], [3], [], [5], [6], [7], [0, 0], [4, 9, 0, 1, 2, 3, 4, 9], [8, 10, 0, 1, 2, 3, 4, 5, 6, 7, 8, 9, 10]] [0, 1, 2, 3, 5, 6, 7, 10, 11]) .ret) .skip)) (.seq (.region zZB.r7) .ret)))))), true⟩
abbrev zZB : V := .fn (.func 8) [] []
abbrev zZB.k : Nat := 8
def zZw.r0 : List Cp := [⟨some 2, .alloc [.int .u8 0, .int .i64 0, .int .i64 0, .int .i64 0, .int .i64 0, .int .i64 0, .str ⟨#[]⟩, .str ⟨#[]⟩, .nils, .nils, .nils, .bool false], none⟩, ⟨some 3, .mov (.c (.int .i64 0)), none⟩]
def zZw.r1 : List Cp := [⟨some 6, .mov (.t 0), none⟩, ⟨some 7, .len .s (.t 6), none⟩, ⟨some 8, .bin .gtr (.t 7) (.c (.int .i64 1048576)), none⟩]
def zZw.r2 : List Cp := [⟨some 9, .build [.int .u8 0, .int .i64 0, .int .i64 0, .int .i64 0, .int .i64 0, .int .i64 0, .str ⟨#[]⟩, .str ⟨#[]⟩, .nils, .nils, .nils, .bool false] [], none⟩, ⟨none, .store 12 (.t 2) (.t 9), none⟩, ⟨some 3, .mov (.c (.int .i64 4)), none⟩]
def zZw.r3 : List Cp := [⟨some 11, .mov (.t 0), none⟩, ⟨some 12, .call (.c (.fn (.func 14) [] [])) [(.t 11)], none⟩, ⟨some 10, .mov (.t 12), none⟩, ⟨some 13, .ext (.t 10) 0, none⟩, ⟨some 14, .ext (.t 10) 1, none⟩, ⟨some 4, .alloc [.int .u8 0, .int .i64 0, .int .i64 0, .int .i64 0, .int .i64 0, .int .i64 0, .str ⟨#[]⟩, .str ⟨#[]⟩, .nils, .nils, .nils, .bool false], none⟩, ⟨none, .store 12 (.t 4) (.t 13), none⟩, ⟨some 5, .mov (.t 14), none⟩]
def zZw.r4 : List Cp := [⟨some 15, .mov (.t 5), none⟩, ⟨some 16, .un .not (.t 15), none⟩]
def zZw.r5 : List Cp := [⟨some 17, .build [.int .u8 0, .int .i64 0, .int .i64 0, .int .i64 0, .int .i64 0, .int .i64 0, .str ⟨#[]⟩, .str ⟨#[]⟩, .nils, .nils, .nils, .bool false] [], none⟩, ⟨none, .store 12 (.t 2) (.t 17), none⟩, ⟨some 3, .mov (.c (.int .i64 20)), none⟩]
def zZw.r6 : List Cp := [⟨some 18, .load (some 12) (.t 4), none⟩, ⟨none, .store 12 (.t 2) (.t 18), none⟩, ⟨some 3, .mov (.c (.int .i64 0)), none⟩]
def zZw.c : Cf := ⟨19, [.cell 2 (some 12), .tmp 3], (.seq (.region zZw.r0) (.seq (.seq (.region zZw.r1) (.cond (.t 8) (.seq (.region zZw.r2) .ret) .skip)) (.seq (.region zZw.r3) (.seq (.seq (.region zZw.r4) (.cond (.t 16) (.seq (.region zZw.r5) .ret) .skip)) (.seq (.region zZw.r6) .ret))))), true⟩
abbrev zZw : V := .fn (.func 9) [] []
abbrev zZw.k : Nat := 9
def zZK.r0 : List Cp := [⟨some 2, .alloc [.str ⟨#[]⟩, .str ⟨#[]⟩], none⟩]
def zZK.r1 : List Cp := [⟨some 3, .mov (.t 0), none⟩, ⟨some 4, .bin .geq (.t 3) (.c (.int .u8 45)), none⟩]
def zZK.r2 : List Cp := [⟨some 5, .build [.str ⟨#[]⟩, .str ⟨#[]⟩] [], none⟩, ⟨none, .store 2 (.t 2) (.t 5), none⟩]
def zZK.r3 : List Cp := [⟨some 6, .call (.c (.fn (.func 11) [] [])) [], none⟩, ⟨some 7, .mov (.t 0), none⟩, ⟨some 8, .iaddr 2 (.t 6) (.t 7), none⟩, ⟨some 9, .load (some 2) (.t 8), none⟩, ⟨none, .store 2 (.t 2) (.t 9), none⟩]
def zZK.c : Cf := ⟨10, [.cell 2 (some 2)], (.seq (.region zZK.r0) (.seq (.seq (.region zZK.r1) (.cond (.t 4) (.seq (.region zZK.r2) .ret) .skip)) (.seq (.region zZK.r3) .ret))), true⟩
abbrev zZK : V := .fn (.func 10) [] []
abbrev zZK.k : Nat := 10
def zZX.r0 : List Cp := [⟨some 0, .mov (.c (.nils)), none⟩]
def zZX.r1 : List Cp := [⟨some 1, .build [.str ⟨#[]⟩, .str ⟨#[]⟩] [], none⟩, ⟨some 2, .build [.str ⟨#[]⟩, .str ⟨#[]⟩] [(0, 1, (.c (.str ⟨#[101, 108, 101, 109, 101, 110, 116]⟩))), (1, 1, (.c (.str ⟨#[83, 84]⟩)))], none⟩, ⟨some 3, .build [.str ⟨#[]⟩, .str ⟨#[]⟩] [(0, 1, (.c (.str ⟨#[116, 101, 120, 116]⟩))), (1, 1, (.c (.str ⟨#[68]⟩)))], none⟩, ⟨some 4, .build [.str ⟨#[]⟩, .str ⟨#[]⟩] [(0, 1, (.c (.str ⟨#[99, 111, 109, 109, 101, 110, 116]⟩))), (1, 1, (.c (.str ⟨#[68]⟩)))], none⟩, ⟨some 5, .build [.str ⟨#[]⟩, .str ⟨#[]⟩] [(0, 1, (.c (.str ⟨#[102, 114, 97, 103, 109, 101, 110, 116]⟩))), (1, 1, (.c (.str ⟨#[]⟩)))], none⟩, ⟨some 6, .build [.str ⟨#[]⟩, .str ⟨#[]⟩] [(0, 1, (.c (.str ⟨#[99, 108, 111, 110, 101]⟩))), (1, 1, (.c (.str ⟨#[65, 89]⟩)))], none⟩, ⟨some 7, .build [.str ⟨#[]⟩, .str ⟨#[]⟩] [(0, 1, (.c (.str ⟨#[97, 116, 116, 97, 99, 104]⟩))), (1, 1, (.c (.str ⟨#[65, 78, 89]⟩)))], none⟩, ⟨some 8, .build [.str ⟨#[]⟩, .str ⟨#[]⟩] [(0, 1, (.c (.str ⟨#[105, 110, 115, 101, 114, 116]⟩))), (1, 1, (.c (.str ⟨#[65, 66, 67]⟩)))], none⟩, ⟨some 9, .build [.str ⟨#[]⟩, .str ⟨#[]⟩] [(0, 1, (.c (.str ⟨#[114, 101, 112, 108, 97, 99, 101]⟩))), (1, 1, (.c (.str ⟨#[65, 66, 67]⟩)))], none⟩, ⟨some 10, .build [.str ⟨#[]⟩, .str ⟨#[]⟩] [(0, 1, (.c (.str ⟨#[114, 101, 109, 111, 118, 101]⟩))), (1, 1, (.c (.str ⟨#[65, 66]⟩)))], none⟩, ⟨some 11, .build [.str ⟨#[]⟩, .str ⟨#[]⟩] [(0, 1, (.c (.str ⟨#[110, 111, 114, 109, 97, 108, 105, 122, 101]⟩))), (1, 1, (.c (.str ⟨#[65]⟩)))], none⟩, ⟨some 12, .build [.str ⟨#[]⟩, .str ⟨#[]⟩] [(0, 1, (.c (.str ⟨#[99, 111, 110, 116, 101, 110, 116]⟩))), (1, 1, (.c (.str ⟨#[65, 68]⟩)))], none⟩, ⟨some 13, .build [.str ⟨#[]⟩, .str ⟨#[]⟩] [(0, 1, (.c (.str ⟨#[97, 115, 115, 105, 103, 110]⟩))), (1, 1, (.c (.str ⟨#[65, 76]⟩)))], none⟩, ⟨some 14, .build [.str ⟨#[]⟩, .str ⟨#[]⟩] [(0, 1, (.c (.str ⟨#[100, 97, 116, 97]⟩))), (1, 1, (.c (.str ⟨#[65, 78, 77, 68]⟩)))], none⟩, ⟨some 15, .build [.str ⟨#[]⟩, .str ⟨#[]⟩] [(0, 1, (.c (.str ⟨#[115, 112, 108, 105, 116]⟩))), (1, 1, (.c (.str ⟨#[65, 78]⟩)))], none⟩, ⟨some 16, .build [.str ⟨#[]⟩, .str ⟨#[]⟩] [(0, 1, (.c (.str ⟨#[115, 101, 116, 97, 116, 116, 114]⟩))), (1, 1, (.c (.str ⟨#[65, 83, 84]⟩)))], none⟩, ⟨some 17, .build [.str ⟨#[]⟩, .str ⟨#[]⟩] [(0, 1, (.c (.str ⟨#[100, 101, 108, 97, 116, 116, 114]⟩))), (1, 1, (.c (.str ⟨#[65, 83]⟩)))], none⟩, ⟨some 18, .build [.str ⟨#[]⟩, .str ⟨#[]⟩] [(0, 1, (.c (.str ⟨#[116, 111, 103, 103, 108, 101]⟩))), (1, 1, (.c (.str ⟨#[65, 83, 78]⟩)))], none⟩, ⟨some 19, .build [.str ⟨#[]⟩, .str ⟨#[]⟩] [(0, 1, (.c (.str ⟨#[114, 97, 110, 103, 101]⟩))), (1, 1, (.c (.str ⟨#[65, 78, 66, 77]⟩)))], none⟩, ⟨some 20, .build [.str ⟨#[]⟩, .str ⟨#[]⟩] [(0, 1, (.c (.str ⟨#[101, 120, 116, 114, 97, 99, 116]⟩))), (1, 1, (.c (.str ⟨#[65]⟩)))], none⟩, ⟨some 21, .build [.str ⟨#[]⟩, .str ⟨#[]⟩] [(0, 1, (.c (.str ⟨#[101, 114, 97, 115, 101]⟩))), (1, 1, (.c (.str ⟨#[65]⟩)))], none⟩, ⟨some 22, .build [.str ⟨#[]⟩, .str ⟨#[]⟩] [(0, 1, (.c (.str ⟨#[105, 116, 101, 114, 97, 116, 101]⟩))), (1, 1, (.c (.str ⟨#[65, 78]⟩)))], none⟩, ⟨some 23, .build [.str ⟨#[]⟩, .str ⟨#[]⟩] [(0, 1, (.c (.str ⟨#[115, 116, 101, 112]⟩))), (1, 1, (.c (.str ⟨#[65, 89]⟩)))], none⟩, ⟨some 24, .build [.str ⟨#[]⟩, .str ⟨#[]⟩] [(0, 1, (.c (.str ⟨#[111, 98, 115, 101, 114, 118, 101, 114]⟩))), (1, 1, (.c (.str ⟨#[78]⟩)))], none⟩, ⟨some 25, .build [.str ⟨#[]⟩, .str ⟨#[]⟩] [(0, 1, (.c (.str ⟨#[111, 98, 115, 101, 114, 118, 101]⟩))), (1, 1, (.c (.str ⟨#[65, 66, 78]⟩)))], none⟩, ⟨some 26, .build [.str ⟨#[]⟩, .str ⟨#[]⟩] [(0, 1, (.c (.str ⟨#[116, 97, 107, 101]⟩))), (1, 1, (.c (.str ⟨#[65]⟩)))], none⟩, ⟨some 27, .build [.str ⟨#[]⟩, .str ⟨#[]⟩] [(0, 1, (.c (.str ⟨#[100, 105, 115, 99, 111, 110, 110, 101, 99, 116]⟩))), (1, 1, (.c (.str ⟨#[65]⟩)))], none⟩, ⟨some 28, .build [.str ⟨#[]⟩, .str ⟨#[]⟩] [(0, 1, (.c (.str ⟨#[108, 105, 115, 116, 101, 110]⟩))), (1, 1, (.c (.str ⟨#[65, 83, 78, 77, 66]⟩)))], none⟩, ⟨some 29, .build [.str ⟨#[]⟩, .str ⟨#[]⟩] [(0, 1, (.c (.str ⟨#[117, 110, 108, 105, 115, 116, 101, 110]⟩))), (1, 1, (.c (.str ⟨#[65, 83, 78, 77]⟩)))], none⟩, ⟨some 30, .build [.str ⟨#[]⟩, .str ⟨#[]⟩] [(0, 1, (.c (.str ⟨#[100, 105, 115, 112, 97, 116, 99, 104]⟩))), (1, 1, (.c (.str ⟨#[65, 83, 78]⟩)))], none⟩, ⟨some 31, .build [.str ⟨#[]⟩, .str ⟨#[]⟩] [(0, 1, (.c (.str ⟨#[101, 102, 102, 101, 99, 116]⟩))), (1, 1, (.c (.str ⟨#[78]⟩)))], none⟩, ⟨some 32, .build [.str ⟨#[]⟩, .str ⟨#[]⟩] [(0, 1, (.c (.str ⟨#[115, 105, 103, 110, 97, 108]⟩))), (1, 1, (.c (.str ⟨#[]⟩)))], none⟩, ⟨some 33, .build [.str ⟨#[]⟩, .str ⟨#[]⟩] [(0, 1, (.c (.str ⟨#[97, 98, 111, 114, 116]⟩))), (1, 1, (.c (.str ⟨#[65, 78]⟩)))], none⟩, ⟨some 34, .build [.str ⟨#[]⟩, .str ⟨#[]⟩] [(0, 1, (.c (.str ⟨#[97, 110, 121]⟩))), (1, 1, (.c (.str ⟨#[76]⟩)))], none⟩, ⟨some 35, .build [.str ⟨#[]⟩, .str ⟨#[]⟩] [(0, 1, (.c (.str ⟨#[100, 101, 102, 105, 110, 101]⟩))), (1, 1, (.c (.str ⟨#[83, 84, 76, 75]⟩)))], none⟩, ⟨some 36, .build [.str ⟨#[]⟩, .str ⟨#[]⟩] [(0, 1, (.c (.str ⟨#[116, 97, 115, 107]⟩))), (1, 1, (.c (.str ⟨#[78, 77]⟩)))], none⟩, ⟨some 37, .build [.str ⟨#[]⟩, .str ⟨#[]⟩] [(0, 1, (.c (.str ⟨#[109, 105, 99, 114, 111]⟩))), (1, 1, (.c (.str ⟨#[77]⟩)))], none⟩, ⟨some 38, .build [.str ⟨#[]⟩, .str ⟨#[]⟩] [(0, 1, (.c (.str ⟨#[116, 105, 109, 101, 114]⟩))), (1, 1, (.c (.str ⟨#[78, 77]⟩)))], none⟩, ⟨some 39, .build [.str ⟨#[]⟩, .str ⟨#[]⟩] [(0, 1, (.c (.str ⟨#[99, 108, 101, 97, 114]⟩))), (1, 1, (.c (.str ⟨#[65]⟩)))], none⟩, ⟨some 40, .build [.str ⟨#[]⟩, .str ⟨#[]⟩] [(0, 1, (.c (.str ⟨#[116, 105, 99, 107]⟩))), (1, 1, (.c (.str ⟨#[78]⟩)))], none⟩, ⟨some 41, .build [.str ⟨#[]⟩, .str ⟨#[]⟩] [(0, 1, (.c (.str ⟨#[116, 117, 114, 110]⟩))), (1, 1, (.c (.str ⟨#[78]⟩)))], none⟩, ⟨some 42, .build [.str ⟨#[]⟩, .str ⟨#[]⟩] [(0, 1, (.c (.str ⟨#[97, 115, 107]⟩))), (1, 1, (.c (.str ⟨#[65, 78]⟩)))], none⟩, ⟨some 43, .build [.str ⟨#[]⟩, .str ⟨#[]⟩] [(0, 1, (.c (.str ⟨#[103, 101, 116]⟩))), (1, 1, (.c (.str ⟨#[65, 83]⟩)))], none⟩, ⟨some 44, .build [.str ⟨#[]⟩, .str ⟨#[]⟩] [(0, 1, (.c (.str ⟨#[102, 105, 110, 100]⟩))), (1, 1, (.c (.str ⟨#[65, 83]⟩)))], none⟩, ⟨some 45, .build [.str ⟨#[]⟩, .str ⟨#[]⟩] [(0, 1, (.c (.str ⟨#[100, 117, 109, 112]⟩))), (1, 1, (.c (.str ⟨#[65]⟩)))], none⟩, ⟨some 46, .bslice [.str ⟨#[]⟩, .str ⟨#[]⟩] 45 2 [(0, (.t 1)), (1, (.t 2)), (2, (.t 3)), (3, (.t 4)), (4, (.t 5)), (5, (.t 6)), (6, (.t 7)), (7, (.t 8)), (8, (.t 9)), (9, (.t 10)), (10, (.t 11)), (11, (.t 12)), (12, (.t 13)), (13, (.t 14)), (14, (.t 15)), (15, (.t 16)), (16, (.t 17)), (17, (.t 18)), (18, (.t 19)), (19, (.t 20)), (20, (.t 21)), (21, (.t 22)), (22, (.t 23)), (23, (.t 24)), (24, (.t 25)), (25, (.t 26)), (26, (.t 27)), (27, (.t 28)), (28, (.t 29)), (29, (.t 30)), (30, (.t 31)), (31, (.t 32)), (32, (.t 33)), (33, (.t 34)), (34, (.t 35)), (35, (.t 36)), (36, (.t 37)), (37, (.t 38)), (38, (.t 39)), (39, (.t 40)), (40, (.t 41)), (41, (.t 42)), (42, (.t 43)), (43, (.t 44)), (44, (.t 45))], none⟩, ⟨some 0, .mov (.t 46), none⟩]
def zZX.c : Cf := ⟨47, [.tmp 0], (.seq (.region zZX.r0) (.seq (.region zZX.r1) .ret)), true⟩
abbrev zZX : V := .fn (.func 11) [] []
abbrev zZX.k : Nat := 11
def zZ0.r0 : List Cp := [⟨some 0, .mov (.c (.nilm)), none⟩]
def zZ0.r1 : List Cp := [⟨some 1, .mkm, none⟩, ⟨some 2, .call (.c (.fn (.func 15) [] [])) [(.c (.fn (.func 16) [] []))], none⟩, ⟨none, .mapup (.leaf .i) (.t 1) (.c (.int .i32 65)) (.t 2), none⟩, ⟨some 3, .call (.c (.fn (.func 15) [] [])) [(.c (.fn (.func 17) [] []))], none⟩, ⟨none, .mapup (.leaf .i) (.t 1) (.c (.int .i32 66)) (.t 3), none⟩, ⟨some 4, .call (.c (.fn (.func 15) [] [])) [(.c (.fn (.func 18) [] []))], none⟩, ⟨none, .mapup (.leaf .i) (.t 1) (.c (.int .i32 67)) (.t 4), none⟩, ⟨some 5, .call (.c (.fn (.func 15) [] [])) [(.c (.fn (.func 19) [] []))], none⟩, ⟨none, .mapup (.leaf .i) (.t 1) (.c (.int .i32 78)) (.t 5), none⟩, ⟨some 6, .call (.c (.fn (.func 15) [] [])) [(.c (.fn (.func 20) [] []))], none⟩, ⟨none, .mapup (.leaf .i) (.t 1) (.c (.int .i32 77)) (.t 6), none⟩, ⟨some 7, .call (.c (.fn (.func 21) [] [])) [(.c (.fn (.func 22) [] []))], none⟩, ⟨none, .mapup (.leaf .i) (.t 1) (.c (.int .i32 83)) (.t 7), none⟩, ⟨some 8, .call (.c (.fn (.func 21) [] [])) [(.c (.fn (.func 23) [] []))], none⟩, ⟨none, .mapup (.leaf .i) (.t 1) (.c (.int .i32 84)) (.t 8), none⟩, ⟨some 9, .build [.nilf, .nilf] [(0, 1, (.c (.fn (.func 24) [] []))), (1, 1, (.c (.fn (.func 25) [] [])))], none⟩, ⟨none, .mapup (.leaf .i) (.t 1) (.c (.int .i32 68)) (.t 9), none⟩, ⟨some 10, .build [.nilf, .nilf] [(0, 1, (.c (.fn (.func 26) [] []))), (1, 1, (.c (.fn (.func 27) [] [])))], none⟩, ⟨none, .mapup (.leaf .i) (.t 1) (.c (.int .i32 76)) (.t 10), none⟩, ⟨some 11, .build [.nilf, .nilf] [(0, 1, (.c (.fn (.func 28) [] []))), (1, 1, (.c (.fn (.func 29) [] [])))], none⟩, ⟨none, .mapup (.leaf .i) (.t 1) (.c (.int .i32 75)) (.t 11), none⟩, ⟨some 12, .build [.nilf, .nilf] [(0, 1, (.c (.fn (.func 30) [] []))), (1, 1, (.c (.fn (.func 31) [] [])))], none⟩, ⟨none, .mapup (.leaf .i) (.t 1) (.c (.int .i32 89)) (.t 12), none⟩, ⟨some 13, .mov (.t 1), none⟩, ⟨some 0, .mov (.t 13), none⟩]
def zZ0.c : Cf := ⟨14, [.tmp 0], (.seq (.region zZ0.r0) (.seq (.region zZ0.r1) .ret)), false⟩
abbrev zZ0 : V := .fn (.func 12) [] []
abbrev zZ0.k : Nat := 12
def zZa.r0 : List Cp := [⟨some 2, .alloc [.nils, .nils, .int .i64 0], none⟩]
def zZa.r1 : List Cp := [⟨some 3, .alloc [.nils, .nils, .int .i64 0], none⟩]
def zZa.r2 : List Cp := [⟨some 14, .mov (.t 0), none⟩, ⟨some 15, .call (.c (.fn (.func 32) [] [])) [(.t 14)], none⟩, ⟨some 13, .mov (.t 15), none⟩, ⟨some 16, .ext (.t 13) 0, none⟩, ⟨some 17, .ext (.t 13) 1, none⟩, ⟨some 4, .mov (.t 16), none⟩, ⟨some 5, .mov (.t 17), none⟩]
def zZa.r3 : List Cp := [⟨some 19, .mov (.t 4), none⟩, ⟨some 20, .call (.c (.fn (.func 33) [] [])) [(.t 19), (.c (.str ⟨#[102, 117, 101, 108, 32]⟩))], none⟩, ⟨some 18, .mov (.t 20), none⟩, ⟨some 21, .ext (.t 18) 0, none⟩, ⟨some 22, .ext (.t 18) 1, none⟩, ⟨some 6, .mov (.t 21), none⟩, ⟨some 7, .mov (.t 22), none⟩]
def zZa.r4 : List Cp := [⟨some 24, .mov (.t 6), none⟩, ⟨some 25, .call (.c (.fn (.func 34) [] [])) [(.t 24)], none⟩, ⟨some 23, .mov (.t 25), none⟩, ⟨some 26, .ext (.t 23) 0, none⟩, ⟨some 27, .ext (.t 23) 1, none⟩, ⟨some 28, .ext (.t 23) 2, none⟩, ⟨some 8, .mov (.t 26), none⟩, ⟨some 9, .mov (.t 27), none⟩, ⟨some 10, .mov (.t 28), none⟩]
def zZa.r5 : List Cp := [⟨some 29, .mov (.t 7), none⟩, ⟨some 30, .un .not (.t 29), none⟩, ⟨some 31, .mov (.t 30), none⟩, ⟨some 32, .mov (.t 10), (some (31, false))⟩, ⟨some 33, .un .not (.t 32), (some (31, false))⟩, ⟨some 34, .pick (.t 31) (.c (.bool true)) (.t 33), none⟩, ⟨some 35, .mov (.t 34), none⟩, ⟨some 36, .mov (.t 9), (some (35, false))⟩, ⟨some 37, .bin .neq (.t 36) (.c (.str ⟨#[]⟩)), (some (35, false))⟩, ⟨some 38, .pick (.t 35) (.c (.bool true)) (.t 37), none⟩]
def zZa.r6 : List Cp := [⟨some 39, .mov (.t 0), none⟩, ⟨some 40, .nilchk (.t 39), none⟩, ⟨some 41, .faddr 3 (.t 40), none⟩, ⟨none, .store 1 (.t 41) (.c (.int .i64 20)), none⟩]
def zZa.r7 : List Cp := [⟨some 42, .mov (.t 8), none⟩, ⟨some 43, .faddr 2 (.t 3), none⟩, ⟨none, .store 1 (.t 43) (.t 42), none⟩]
def zZa.r8 : List Cp := [⟨some 44, .mov (.t 0), none⟩, ⟨some 45, .nilchk (.t 44), none⟩, ⟨some 46, .faddr 3 (.t 45), none⟩, ⟨some 47, .load none (.t 46), none⟩, ⟨some 48, .bin .eql (.t 47) (.c (.int .i64 0)), none⟩]
def zZa.r9 : List Cp := [⟨some 50, .mov (.t 0), none⟩, ⟨some 51, .call (.c (.fn (.func 32) [] [])) [(.t 50)], none⟩, ⟨some 49, .mov (.t 51), none⟩, ⟨some 52, .ext (.t 49) 0, none⟩, ⟨some 53, .ext (.t 49) 1, none⟩, ⟨some 11, .mov (.t 52), none⟩, ⟨some 12, .mov (.t 53), none⟩]
def zZa.r10 : List Cp := [⟨some 62, .mov (.t 12), none⟩, ⟨some 63, .un .not (.t 62), none⟩, ⟨some 61, .mov (.t 63), none⟩]
def zZa.r11 : List Cp := [⟨some 64, .load (some 3) (.t 3), none⟩, ⟨none, .store 3 (.t 2) (.t 64), none⟩]
def zZa.r12 : List Cp := [⟨some 66, .mov (.t 11), none⟩, ⟨some 67, .bin .eql (.t 66) (.c (.str ⟨#[109, 97, 105, 110]⟩)), none⟩, ⟨some 65, .mov (.t 67), none⟩]
def zZa.r13 : List Cp := [⟨some 68, .mov (.t 0), none⟩, ⟨some 69, .call (.c (.fn (.func 35) [] [])) [(.t 68)], none⟩, ⟨some 70, .faddr 0 (.t 3), none⟩, ⟨none, .store 1 (.t 70) (.t 69), none⟩]
def zZa.r14 : List Cp := [⟨some 71, .load (some 3) (.t 3), none⟩, ⟨none, .store 3 (.t 2) (.t 71), none⟩]
def zZa.r15 : List Cp := [⟨some 73, .mov (.t 11), none⟩, ⟨some 74, .bin .neq (.t 73) (.c (.str ⟨#[112, 114, 111, 103, 114, 97, 109]⟩)), none⟩, ⟨some 72, .mov (.t 74), none⟩]
def zZa.r16 : List Cp := [⟨some 75, .mov (.t 0), none⟩, ⟨some 76, .nilchk (.t 75), none⟩, ⟨some 77, .faddr 3 (.t 76), none⟩, ⟨none, .store 1 (.t 77) (.c (.int .i64 20)), none⟩]
def zZa.r17 : List Cp := [⟨some 79, .faddr 1 (.t 3), none⟩, ⟨some 80, .load none (.t 79), none⟩, ⟨some 81, .len .l (.t 80), none⟩, ⟨some 82, .bin .eql (.t 81) (.c (.int .i64 256)), none⟩, ⟨some 78, .mov (.t 82), none⟩]
def zZa.r18 : List Cp := [⟨some 83, .mov (.t 0), none⟩, ⟨some 84, .nilchk (.t 83), none⟩, ⟨some 85, .faddr 3 (.t 84), none⟩, ⟨none, .store 1 (.t 85) (.c (.int .i64 3)), none⟩]
def zZa.r19 : List Cp := [⟨some 54, .faddr 1 (.t 3), none⟩, ⟨some 55, .load none (.t 54), none⟩, ⟨some 56, .mov (.t 0), none⟩, ⟨some 57, .call (.c (.fn (.func 36) [] [])) [(.t 56)], none⟩, ⟨some 58, .bslice [.nils] 1 1 [(0, (.t 57))], none⟩, ⟨some 59, .app 1 24 (.t 55) (.t 58), none⟩, ⟨some 60, .faddr 1 (.t 3), none⟩, ⟨none, .store 1 (.t 60) (.t 59), none⟩]
def zZa.b20 : Cc := (.seq (.seq (.region zZa.r8) (.cond (.t 48) .skip (.exit 0))) (.block 1 (.seq (.region zZa.r9) (.block 2 (.seq (.region zZa.r10) (.cond (.t 61) (.seq (.region zZa.r11) .ret) (.seq (.region zZa.r12) (.cond (.t 65) (.seq (.region zZa.r13) (.seq (.region zZa.r14) .ret)) (.seq (.region zZa.r15) (.cond (.t 72) (.region zZa.r16) (.seq (.region zZa.r17) (.cond (.t 78) (.region zZa.r18) (.draw zZa.r19 [[], [0], [], [2], [3], [1, 4, 3], [0, 1, 2, 3, 4, 5], [6, 5, 5, 0, 1, 2, 3, 4, 5]] [0, 2, 6])))))))))))))
def zZa.r21 : List Cp := [⟨some 86, .load (some 3) (.t 3), none⟩, ⟨none, .store 3 (.t 2) (.t 86), none⟩]
def zZa.c : Cf := ⟨87, [.cell 2 (some 3)], (.seq (.region zZa.r0) (.seq (.region zZa.r1) (.seq (.region zZa.r2) (.seq (.region zZa.r3) (.seq (.region zZa.r4) (.seq (.seq (.region zZa.r5) (.cond (.t 38) (.region zZa.r6) .skip)) (.seq (.region zZa.r7) (.seq (.block 0 (.loop zZa.b20)) (.seq (.region zZa.r21) .ret))))))))), false⟩
abbrev zZa : V := .fn (.func 13) [] []
abbrev zZa.k : Nat := 13
def zZh.r0 : List Cp := [⟨some 2, .alloc [.int .u8 0, .int .i64 0, .int .i64 0, .int .i64 0, .int .i64 0, .int .i64 0, .str ⟨#[]⟩, .str ⟨#[]⟩, .nils, .nils, .nils, .bool false], none⟩, ⟨some 3, .mov (.c (.bool false)), none⟩]
def zZh.r1 : List Cp := [⟨some 16, .mov (.t 0), none⟩, ⟨some 17, .call (.c (.fn (.func 37) [] [])) [(.t 16), (.c (.str ⟨#[32]⟩))], none⟩, ⟨some 15, .mov (.t 17), none⟩, ⟨some 18, .ext (.t 15) 0, none⟩, ⟨some 19, .ext (.t 15) 1, none⟩, ⟨some 20, .ext (.t 15) 2, none⟩, ⟨some 4, .mov (.t 18), none⟩, ⟨some 5, .mov (.t 19), none⟩, ⟨some 6, .mov (.t 20), none⟩]
def zZh.r2 : List Cp := [⟨some 22, .mov (.t 4), none⟩, ⟨some 23, .call (.c (.fn (.func 6) [] [])) [(.t 22)], none⟩, ⟨some 21, .mov (.t 23), none⟩, ⟨some 24, .ext (.t 21) 0, none⟩, ⟨some 25, .ext (.t 21) 1, none⟩, ⟨some 7, .mov (.t 24), none⟩, ⟨some 8, .mov (.t 25), none⟩]
def zZh.r3 : List Cp := [⟨some 26, .mov (.t 8), none⟩, ⟨some 27, .un .not (.t 26), none⟩]
def zZh.r4 : List Cp := [⟨some 28, .build [.int .u8 0, .int .i64 0, .int .i64 0, .int .i64 0, .int .i64 0, .int .i64 0, .str ⟨#[]⟩, .str ⟨#[]⟩, .nils, .nils, .nils, .bool false] [], none⟩, ⟨none, .store 12 (.t 2) (.t 28), none⟩, ⟨some 3, .mov (.c (.bool false)), none⟩]
def zZh.r5 : List Cp := [⟨some 29, .mov (.t 7), none⟩, ⟨some 30, .build [.int .u8 0, .int .i64 0, .int .i64 0, .int .i64 0, .int .i64 0, .int .i64 0, .str ⟨#[]⟩, .str ⟨#[]⟩, .nils, .nils, .nils, .bool false] [(0, 1, (.t 29))], none⟩, ⟨some 9, .alloc [.int .u8 0, .int .i64 0, .int .i64 0, .int .i64 0, .int .i64 0, .int .i64 0, .str ⟨#[]⟩, .str ⟨#[]⟩, .nils, .nils, .nils, .bool false], none⟩, ⟨none, .store 12 (.t 9) (.t 30), none⟩]
def zZh.r6 : List Cp := [⟨some 31, .mov (.t 0), none⟩, ⟨some 32, .mov (.t 4), none⟩, ⟨some 33, .len .s (.t 32), none⟩, ⟨some 34, .slice .s 1 (.t 31) (some (.t 33)) none, none⟩, ⟨some 0, .mov (.t 34), none⟩]
def zZh.r7 : List Cp := [⟨some 35, .call (.c (.fn (.func 12) [] [])) [], none⟩, ⟨some 10, .mov (.t 35), none⟩]
def zZh.r8 : List Cp := [⟨some 36, .mov (.t 7), none⟩, ⟨some 37, .call (.c (.fn (.func 10) [] [])) [(.t 36)], none⟩, ⟨some 38, .field 1 none (.t 37), none⟩, ⟨some 39, .rngs (.t 38), none⟩]
def zZh.r9 : List Cp := [⟨some 40, .nxt (.t 39), none⟩, ⟨some 41, .ext (.t 40) 0, none⟩]
def zZh.r10 : List Cp := [⟨some 42, .ext (.t 40) 2, none⟩, ⟨some 12, .mov (.t 42), none⟩]
def zZh.r11 : List Cp := [⟨some 44, .mov (.t 0), none⟩, ⟨some 45, .call (.c (.fn (.func 33) [] [])) [(.t 44), (.c (.str ⟨#[32]⟩))], none⟩, ⟨some 43, .mov (.t 45), none⟩, ⟨some 46, .ext (.t 43) 0, none⟩, ⟨some 47, .ext (.t 43) 1, none⟩, ⟨some 13, .mov (.t 46), none⟩, ⟨some 14, .mov (.t 47), none⟩]
def zZh.r12 : List Cp := [⟨some 48, .mov (.t 14), none⟩]
def zZh.r13 : List Cp := [⟨some 50, .mov (.t 10), none⟩, ⟨some 51, .mov (.t 12), none⟩, ⟨some 52, .look (.leaf .i) false (.agg [.nilf, .nilf]) (.t 50) (.t 51), none⟩, ⟨some 53, .field 1 none (.t 52), none⟩, ⟨some 54, .mov (.t 13), none⟩, ⟨some 55, .call (.t 53) [(.t 9), (.t 54)], none⟩, ⟨some 49, .mov (.t 55), none⟩, ⟨some 56, .ext (.t 49) 0, none⟩, ⟨some 57, .ext (.t 49) 1, none⟩, ⟨some 0, .mov (.t 56), none⟩, ⟨some 14, .mov (.t 57), none⟩]
def zZh.r14 : List Cp := [⟨some 58, .mov (.t 14), none⟩, ⟨some 59, .un .not (.t 58), none⟩]
def zZh.r15 : List Cp := [⟨some 60, .build [.int .u8 0, .int .i64 0, .int .i64 0, .int .i64 0, .int .i64 0, .int .i64 0, .str ⟨#[]⟩, .str ⟨#[]⟩, .nils, .nils, .nils, .bool false] [], none⟩, ⟨none, .store 12 (.t 2) (.t 60), none⟩, ⟨some 3, .mov (.c (.bool false)), none⟩]
def zZh.b16 : Cc := (.seq (.region zZh.r9) (.seq (.cond (.t 41) .skip (.exit 0)) (.block 1 (.seq (.region zZh.r10) (.seq (.region zZh.r11) (.seq (.seq (.region zZh.r12) (.cond (.t 48) (.region zZh.r13) .skip)) (.seq (.region zZh.r14) (.cond (.t 59) (.seq (.region zZh.r15) .ret) .skip))))))))
def zZh.r17 : List Cp := [⟨some 61, .load (some 12) (.t 9), none⟩, ⟨some 62, .mov (.t 0), none⟩, ⟨some 63, .bin .eql (.t 62) (.c (.str ⟨#[]⟩)), none⟩, ⟨none, .store 12 (.t 2) (.t 61), none⟩, ⟨some 3, .mov (.t 63), none⟩]
def zZh.c : Cf := ⟨64, [.cell 2 (some 12), .tmp 3], (.seq (.region zZh.r0) (.seq (.region zZh.r1) (.seq (.region zZh.r2) (.seq (.seq (.region zZh.r3) (.cond (.t 27) (.seq (.region zZh.r4) .ret) .skip)) (.seq (.region zZh.r5) (.seq (.region zZh.r6) (.seq (.region zZh.r7) (.seq (.seq (.region zZh.r8) (.block 0 (.loop zZh.b16))) (.seq (.region zZh.r17) .ret))))))))), true⟩
abbrev zZh : V := .fn (.func 14) [] []
abbrev zZh.k : Nat := 14
def qZd.r0 : List Cp := [⟨some 1, .box (.t 0), none⟩, ⟨some 2, .alloc [.nilf, .nilf], none⟩]
def qZd.r1 : List Cp := [⟨some 3, .mkf (.func 38) [] [(.t 1)], none⟩, ⟨some 4, .mkf (.func 40) [] [(.t 1)], none⟩, ⟨some 5, .build [.nilf, .nilf] [(0, 1, (.t 3)), (1, 1, (.t 4))], none⟩, ⟨none, .store 2 (.t 2) (.t 5), none⟩]
def qZd.c : Cf := ⟨6, [.cell 2 (some 2)], (.seq (.region qZd.r0) (.seq (.region qZd.r1) .ret)), false⟩
abbrev qZd : V := .fn (.func 15) [] []
abbrev qZd.k : Nat := 15
def zZM.r0 : List Cp := [⟨some 2, .mov (.c (.nilp)), none⟩]
def zZM.r1 : List Cp := [⟨some 3, .mov (.t 0), none⟩, ⟨some 4, .nilchk (.t 3), none⟩, ⟨some 5, .faddr 1 (.t 4), none⟩, ⟨some 2, .mov (.t 5), none⟩]
def zZM.c : Cf := ⟨6, [.tmp 2], (.seq (.region zZM.r0) (.seq (.region zZM.r1) .ret)), false⟩
abbrev zZM : V := .fn (.func 16) [] []
abbrev zZM.k : Nat := 16
def zZN.r0 : List Cp := [⟨some 2, .mov (.c (.nilp)), none⟩]
def zZN.r1 : List Cp := [⟨some 3, .mov (.t 0), none⟩, ⟨some 4, .nilchk (.t 3), none⟩, ⟨some 5, .faddr 2 (.t 4), none⟩, ⟨some 2, .mov (.t 5), none⟩]
def zZN.c : Cf := ⟨6, [.tmp 2], (.seq (.region zZN.r0) (.seq (.region zZN.r1) .ret)), false⟩
abbrev zZN : V := .fn (.func 17) [] []
abbrev zZN.k : Nat := 17
def zZO.r0 : List Cp := [⟨some 2, .mov (.c (.nilp)), none⟩]
def zZO.r1 : List Cp := [⟨some 3, .mov (.t 0), none⟩, ⟨some 4, .nilchk (.t 3), none⟩, ⟨some 5, .faddr 3 (.t 4), none⟩, ⟨some 2, .mov (.t 5), none⟩]
def zZO.c : Cf := ⟨6, [.tmp 2], (.seq (.region zZO.r0) (.seq (.region zZO.r1) .ret)), false⟩
abbrev zZO : V := .fn (.func 18) [] []
abbrev zZO.k : Nat := 18
def zZP.r0 : List Cp := [⟨some 2, .mov (.c (.nilp)), none⟩]
def zZP.r1 : List Cp := [⟨some 3, .mov (.t 0), none⟩, ⟨some 4, .nilchk (.t 3), none⟩, ⟨some 5, .faddr 4 (.t 4), none⟩, ⟨some 2, .mov (.t 5), none⟩]
def zZP.c : Cf := ⟨6, [.tmp 2], (.seq (.region zZP.r0) (.seq (.region zZP.r1) .ret)), false⟩
abbrev zZP : V := .fn (.func 19) [] []
abbrev zZP.k : Nat := 19
def zZQ.r0 : List Cp := [⟨some 2, .mov (.c (.nilp)), none⟩]
def zZQ.r1 : List Cp := [⟨some 3, .mov (.t 0), none⟩, ⟨some 4, .nilchk (.t 3), none⟩, ⟨some 5, .faddr 5 (.t 4), none⟩, ⟨some 2, .mov (.t 5), none⟩]
def zZQ.c : Cf := ⟨6, [.tmp 2], (.seq (.region zZQ.r0) (.seq (.region zZQ.r1) .ret)), false⟩
abbrev zZQ : V := .fn (.func 20) [] []
abbrev zZQ.k : Nat := 20
def qZb.r0 : List Cp := [⟨some 1, .box (.t 0), none⟩, ⟨some 2, .alloc [.nilf, .nilf], none⟩]
def qZb.r1 : List Cp := [⟨some 3, .mkf (.func 41) [] [(.t 1)], none⟩, ⟨some 4, .mkf (.func 43) [] [(.t 1)], none⟩, ⟨some 5, .build [.nilf, .nilf] [(0, 1, (.t 3)), (1, 1, (.t 4))], none⟩, ⟨none, .store 2 (.t 2) (.t 5), none⟩]
def qZb.c : Cf := ⟨6, [.cell 2 (some 2)], (.seq (.region qZb.r0) (.seq (.region qZb.r1) .ret)), false⟩
abbrev qZb : V := .fn (.func 21) [] []
abbrev qZb.k : Nat := 21
def zZR.r0 : List Cp := [⟨some 2, .mov (.c (.nilp)), none⟩]
def zZR.r1 : List Cp := [⟨some 3, .mov (.t 0), none⟩, ⟨some 4, .nilchk (.t 3), none⟩, ⟨some 5, .faddr 6 (.t 4), none⟩, ⟨some 2, .mov (.t 5), none⟩]
def zZR.c : Cf := ⟨6, [.tmp 2], (.seq (.region zZR.r0) (.seq (.region zZR.r1) .ret)), false⟩
abbrev zZR : V := .fn (.func 22) [] []
abbrev zZR.k : Nat := 22
def zZS.r0 : List Cp := [⟨some 2, .mov (.c (.nilp)), none⟩]
def zZS.r1 : List Cp := [⟨some 3, .mov (.t 0), none⟩, ⟨some 4, .nilchk (.t 3), none⟩, ⟨some 5, .faddr 7 (.t 4), none⟩, ⟨some 2, .mov (.t 5), none⟩]
def zZS.c : Cf := ⟨6, [.tmp 2], (.seq (.region zZS.r0) (.seq (.region zZS.r1) .ret)), false⟩
abbrev zZS : V := .fn (.func 23) [] []
abbrev zZS.k : Nat := 23
def zZI.r0 : List Cp := [⟨some 2, .mov (.c (.str ⟨#[]⟩)), none⟩]
def zZI.r1 : List Cp := [⟨some 3, .mov (.t 0), none⟩, ⟨some 4, .nilchk (.t 3), none⟩, ⟨some 5, .faddr 8 (.t 4), none⟩, ⟨some 6, .load none (.t 5), none⟩, ⟨some 7, .call (.c (.fn (.func 46) [] [])) [(.t 6), (.c (.int .i64 4)), (.c (.int .u8 117))], none⟩, ⟨some 2, .mov (.t 7), none⟩]
def zZI.c : Cf := ⟨8, [.tmp 2], (.seq (.region zZI.r0) (.seq (.region zZI.r1) .ret)), false⟩
abbrev zZI : V := .fn (.func 24) [] []
abbrev zZI.k : Nat := 24
def zZC.r0 : List Cp := [⟨some 4, .mov (.c (.str ⟨#[]⟩)), none⟩, ⟨some 5, .mov (.c (.bool false)), none⟩]
def zZC.r1 : List Cp := [⟨some 10, .mov (.t 1), none⟩, ⟨some 11, .call (.c (.fn (.func 44) [] [])) [(.t 10), (.c (.int .i64 4)), (.c (.int .u8 117))], none⟩, ⟨some 9, .mov (.t 11), none⟩, ⟨some 12, .ext (.t 9) 0, none⟩, ⟨some 13, .ext (.t 9) 1, none⟩, ⟨some 14, .ext (.t 9) 2, none⟩, ⟨some 6, .mov (.t 12), none⟩, ⟨some 7, .mov (.t 13), none⟩, ⟨some 8, .mov (.t 14), none⟩]
def zZC.r2 : List Cp := [⟨some 15, .mov (.t 0), none⟩, ⟨some 16, .mov (.t 6), none⟩, ⟨some 17, .nilchk (.t 15), none⟩, ⟨some 18, .faddr 8 (.t 17), none⟩, ⟨none, .store 1 (.t 18) (.t 16), none⟩]
def zZC.r3 : List Cp := [⟨some 19, .mov (.t 7), none⟩, ⟨some 20, .mov (.t 8), none⟩, ⟨some 4, .mov (.t 19), none⟩, ⟨some 5, .mov (.t 20), none⟩]
def zZC.c : Cf := ⟨21, [.tmp 4, .tmp 5], (.seq (.region zZC.r0) (.seq (.region zZC.r1) (.seq (.region zZC.r2) (.seq (.region zZC.r3) .ret)))), false⟩
abbrev zZC : V := .fn (.func 25) [] []
abbrev zZC.k : Nat := 25
def zZp.r0 : List Cp := [⟨some 2, .mov (.c (.str ⟨#[]⟩)), none⟩]
def zZp.r1 : List Cp := [⟨some 3, .mov (.c (.nils)), none⟩]
def zZp.r2 : List Cp := [⟨some 6, .mov (.t 0), none⟩, ⟨some 7, .nilchk (.t 6), none⟩, ⟨some 8, .faddr 9 (.t 7), none⟩, ⟨some 9, .load none (.t 8), none⟩, ⟨some 10, .len .l (.t 9), none⟩, ⟨some 11, .mov (.c (.int .i64 0)), none⟩]
def zZp.r3 : List Cp := [⟨some 12, .bin .lss (.t 11) (.t 10), none⟩]
def zZp.r4 : List Cp := [⟨some 13, .iaddr 1 (.t 9) (.t 11), none⟩, ⟨some 14, .load none (.t 13), none⟩, ⟨some 5, .mov (.t 14), none⟩]
def zZp.r5 : List Cp := [⟨some 15, .mov (.t 3), none⟩, ⟨some 16, .mov (.t 5), none⟩, ⟨some 17, .call (.c (.fn (.func 39) [] [])) [(.t 16)], none⟩, ⟨some 18, .bslice [.str ⟨#[]⟩] 1 1 [(0, (.t 17))], none⟩, ⟨some 19, .app 1 16 (.t 15) (.t 18), none⟩, ⟨some 3, .mov (.t 19), none⟩]
def zZp.r6 : List Cp := [⟨some 20, .bin .add (.t 11) (.c (.int .i64 1)), none⟩, ⟨some 11, .mov (.t 20), none⟩]
def zZp.b7 : Cc := (.seq (.region zZp.r3) (.seq (.cond (.t 12) .skip (.exit 0)) (.seq (.block 1 (.seq (.region zZp.r4) (.region zZp.r5))) (.region zZp.r6))))
def zZp.r8 : List Cp := [⟨some 21, .mov (.t 3), none⟩, ⟨some 22, .call (.c (.fn (.func 47) [] [])) [(.t 21), (.c (.str ⟨#[32]⟩))], none⟩, ⟨some 23, .bin .add (.c (.str ⟨#[91]⟩)) (.t 22), none⟩, ⟨some 24, .bin .add (.t 23) (.c (.str ⟨#[93]⟩)), none⟩, ⟨some 2, .mov (.t 24), none⟩]
def zZp.c : Cf := ⟨25, [.tmp 2], (.seq (.region zZp.r0) (.seq (.region zZp.r1) (.seq (.seq (.region zZp.r2) (.block 0 (.loop zZp.b7))) (.seq (.region zZp.r8) .ret)))), false⟩
abbrev zZp : V := .fn (.func 26) [] []
abbrev zZp.k : Nat := 26
def zZT.r0 : List Cp := [⟨some 2, .box (.t 0), none⟩, ⟨some 4, .mov (.c (.str ⟨#[]⟩)), none⟩, ⟨some 5, .mov (.c (.bool false)), none⟩]
def zZT.r1 : List Cp := [⟨some 6, .mov (.t 1), none⟩, ⟨some 7, .mkf (.func 49) [] [(.t 2)], none⟩, ⟨some 8, .call (.c (.fn (.func 48) [] [])) [(.t 6), (.t 7)], none⟩, ⟨some 9, .ext (.t 8) 0, none⟩, ⟨some 10, .ext (.t 8) 1, none⟩, ⟨some 4, .mov (.t 9), none⟩, ⟨some 5, .mov (.t 10), none⟩]
def zZT.c : Cf := ⟨11, [.tmp 4, .tmp 5], (.seq (.region zZT.r0) (.seq (.region zZT.r1) .ret)), false⟩
abbrev zZT : V := .fn (.func 27) [] []
abbrev zZT.k : Nat := 27
def zZn.r0 : List Cp := [⟨some 2, .mov (.c (.str ⟨#[]⟩)), none⟩]
def zZn.r1 : List Cp := [⟨some 3, .mov (.c (.nils)), none⟩]
def zZn.r2 : List Cp := [⟨some 6, .mov (.t 0), none⟩, ⟨some 7, .nilchk (.t 6), none⟩, ⟨some 8, .faddr 10 (.t 7), none⟩, ⟨some 9, .load none (.t 8), none⟩, ⟨some 10, .len .l (.t 9), none⟩, ⟨some 11, .mov (.c (.int .i64 0)), none⟩]
def zZn.r3 : List Cp := [⟨some 12, .bin .lss (.t 11) (.t 10), none⟩]
def zZn.r4 : List Cp := [⟨some 13, .iaddr 1 (.t 9) (.t 11), none⟩, ⟨some 14, .load none (.t 13), none⟩, ⟨some 5, .mov (.t 14), none⟩]
def zZn.r5 : List Cp := [⟨some 15, .mov (.t 3), none⟩, ⟨some 16, .mov (.t 5), none⟩, ⟨some 17, .call (.c (.fn (.func 50) [] [])) [(.t 16)], none⟩, ⟨some 18, .call (.c (.fn (.func 46) [] [])) [(.t 17), (.c (.int .i64 2)), (.c (.int .u8 120))], none⟩, ⟨some 19, .bslice [.str ⟨#[]⟩] 1 1 [(0, (.t 18))], none⟩, ⟨some 20, .app 1 16 (.t 15) (.t 19), none⟩, ⟨some 3, .mov (.t 20), none⟩]
def zZn.r6 : List Cp := [⟨some 21, .bin .add (.t 11) (.c (.int .i64 1)), none⟩, ⟨some 11, .mov (.t 21), none⟩]
def zZn.b7 : Cc := (.seq (.region zZn.r3) (.seq (.cond (.t 12) .skip (.exit 0)) (.seq (.block 1 (.seq (.region zZn.r4) (.region zZn.r5))) (.region zZn.r6))))
def zZn.r8 : List Cp := [⟨some 22, .mov (.t 3), none⟩, ⟨some 23, .call (.c (.fn (.func 47) [] [])) [(.t 22), (.c (.str ⟨#[32]⟩))], none⟩, ⟨some 24, .bin .add (.c (.str ⟨#[91]⟩)) (.t 23), none⟩, ⟨some 25, .bin .add (.t 24) (.c (.str ⟨#[93]⟩)), none⟩, ⟨some 2, .mov (.t 25), none⟩]
def zZn.c : Cf := ⟨26, [.tmp 2], (.seq (.region zZn.r0) (.seq (.region zZn.r1) (.seq (.seq (.region zZn.r2) (.block 0 (.loop zZn.b7))) (.seq (.region zZn.r8) .ret)))), false⟩
abbrev zZn : V := .fn (.func 28) [] []
abbrev zZn.k : Nat := 28
def zZH.r0 : List Cp := [⟨some 2, .box (.t 0), none⟩, ⟨some 4, .mov (.c (.str ⟨#[]⟩)), none⟩, ⟨some 5, .mov (.c (.bool false)), none⟩]
def zZH.r1 : List Cp := [⟨some 6, .mov (.t 1), none⟩, ⟨some 7, .mkf (.func 51) [] [(.t 2)], none⟩, ⟨some 8, .call (.c (.fn (.func 48) [] [])) [(.t 6), (.t 7)], none⟩, ⟨some 9, .ext (.t 8) 0, none⟩, ⟨some 10, .ext (.t 8) 1, none⟩, ⟨some 4, .mov (.t 9), none⟩, ⟨some 5, .mov (.t 10), none⟩]
def zZH.c : Cf := ⟨11, [.tmp 4, .tmp 5], (.seq (.region zZH.r0) (.seq (.region zZH.r1) .ret)), false⟩
abbrev zZH : V := .fn (.func 29) [] []
abbrev zZH.k : Nat := 29
def zZD.r0 : List Cp := [⟨some 2, .mov (.c (.str ⟨#[]⟩)), none⟩]
def zZD.r1 : List Cp := [⟨some 3, .mov (.t 0), none⟩, ⟨some 4, .nilchk (.t 3), none⟩, ⟨some 5, .faddr 11 (.t 4), none⟩, ⟨some 6, .load none (.t 5), none⟩]
def zZD.r2 : List Cp := [⟨some 2, .mov (.c (.str ⟨#[121, 101, 115]⟩)), none⟩]
def zZD.r3 : List Cp := [⟨some 2, .mov (.c (.str ⟨#[110, 111]⟩)), none⟩]
def zZD.c : Cf := ⟨7, [.tmp 2], (.seq (.region zZD.r0) (.seq (.seq (.region zZD.r1) (.cond (.t 6) (.seq (.region zZD.r2) .ret) .skip)) (.seq (.region zZD.r3) .ret))), false⟩
abbrev zZD : V := .fn (.func 30) [] []
abbrev zZD.k : Nat := 30
def zZz.r0 : List Cp := [⟨some 4, .mov (.c (.str ⟨#[]⟩)), none⟩, ⟨some 5, .mov (.c (.bool false)), none⟩]
def zZz.r1 : List Cp := [⟨some 9, .mov (.t 1), none⟩, ⟨some 10, .call (.c (.fn (.func 33) [] [])) [(.t 9), (.c (.str ⟨#[121, 101, 115]⟩))], none⟩, ⟨some 8, .mov (.t 10), none⟩, ⟨some 11, .ext (.t 8) 0, none⟩, ⟨some 12, .ext (.t 8) 1, none⟩, ⟨some 6, .mov (.t 11), none⟩, ⟨some 7, .mov (.t 12), none⟩]
def zZz.r2 : List Cp := [⟨some 13, .mov (.t 7), none⟩]
def zZz.r3 : List Cp := [⟨some 14, .mov (.t 0), none⟩, ⟨some 15, .nilchk (.t 14), none⟩, ⟨some 16, .faddr 11 (.t 15), none⟩, ⟨none, .store 1 (.t 16) (.c (.bool true)), none⟩]
def zZz.r4 : List Cp := [⟨some 17, .mov (.t 6), none⟩, ⟨some 4, .mov (.t 17), none⟩, ⟨some 5, .mov (.c (.bool true)), none⟩]
def zZz.r5 : List Cp := [⟨some 18, .mov (.t 1), none⟩, ⟨some 19, .call (.c (.fn (.func 33) [] [])) [(.t 18), (.c (.str ⟨#[110, 111]⟩))], none⟩, ⟨some 20, .ext (.t 19) 0, none⟩, ⟨some 21, .ext (.t 19) 1, none⟩, ⟨some 4, .mov (.t 20), none⟩, ⟨some 5, .mov (.t 21), none⟩]
def zZz.c : Cf := ⟨22, [.tmp 4, .tmp 5], (.seq (.region zZz.r0) (.seq (.region zZz.r1) (.seq (.seq (.region zZz.r2) (.cond (.t 13) (.seq (.region zZz.r3) (.seq (.region zZz.r4) .ret)) .skip)) (.seq (.region zZz.r5) .ret)))), false⟩
abbrev zZz : V := .fn (.func 31) [] []
abbrev zZz.k : Nat := 31
def zZm.r0 : List Cp := [⟨some 2, .mov (.c (.str ⟨#[]⟩)), none⟩, ⟨some 3, .mov (.c (.bool false)), none⟩]
def zZm.r1 : List Cp := [⟨some 7, .mov (.t 0), none⟩, ⟨some 8, .nilchk (.t 7), none⟩, ⟨some 9, .faddr 1 (.t 8), none⟩, ⟨some 10, .load none (.t 9), none⟩, ⟨some 11, .bin .add (.t 10) (.c (.int .i64 1)), none⟩, ⟨some 12, .nilchk (.t 7), none⟩, ⟨some 13, .faddr 1 (.t 12), none⟩, ⟨none, .store 1 (.t 13) (.t 11), none⟩]
def zZm.r2 : List Cp := [⟨some 15, .mov (.t 0), none⟩, ⟨some 16, .nilchk (.t 15), none⟩, ⟨some 17, .faddr 0 (.t 16), none⟩, ⟨some 18, .load none (.t 17), none⟩, ⟨some 19, .call (.c (.fn (.func 37) [] [])) [(.t 18), (.c (.str ⟨#[10]⟩))], none⟩, ⟨some 14, .mov (.t 19), none⟩, ⟨some 20, .ext (.t 14) 0, none⟩, ⟨some 21, .ext (.t 14) 1, none⟩, ⟨some 22, .ext (.t 14) 2, none⟩, ⟨some 4, .mov (.t 20), none⟩, ⟨some 5, .mov (.t 21), none⟩, ⟨some 6, .mov (.t 22), none⟩]
def zZm.r3 : List Cp := [⟨some 23, .mov (.t 6), none⟩, ⟨some 24, .un .not (.t 23), none⟩]
def zZm.r4 : List Cp := [⟨some 25, .mov (.t 0), none⟩, ⟨some 26, .nilchk (.t 25), none⟩, ⟨some 27, .faddr 3 (.t 26), none⟩, ⟨none, .store 1 (.t 27) (.c (.int .i64 20)), none⟩]
def zZm.r5 : List Cp := [⟨some 2, .mov (.c (.str ⟨#[]⟩)), none⟩, ⟨some 3, .mov (.c (.bool false)), none⟩]
def zZm.r6 : List Cp := [⟨some 28, .mov (.t 0), none⟩, ⟨some 29, .mov (.t 5), none⟩, ⟨some 30, .nilchk (.t 28), none⟩, ⟨some 31, .faddr 0 (.t 30), none⟩, ⟨none, .store 1 (.t 31) (.t 29), none⟩]
def zZm.r7 : List Cp := [⟨some 32, .mov (.t 4), none⟩, ⟨some 2, .mov (.t 32), none⟩, ⟨some 3, .mov (.c (.bool true)), none⟩]
def zZm.c : Cf := ⟨33, [.tmp 2, .tmp 3], (.seq (.region zZm.r0) (.seq (.region zZm.r1) (.seq (.region zZm.r2) (.seq (.seq (.region zZm.r3) (.cond (.t 24) (.seq (.region zZm.r4) (.seq (.region zZm.r5) .ret)) .skip)) (.seq (.region zZm.r6) (.seq (.region zZm.r7) .ret)))))), false⟩
abbrev zZm : V := .fn (.func 32) [] []
abbrev zZm.k : Nat := 32
def zZE.r0 : List Cp := [⟨some 4, .mov (.c (.str ⟨#[]⟩)), none⟩, ⟨some 5, .mov (.c (.bool false)), none⟩]
def zZE.r1 : List Cp := [⟨some 6, .mov (.t 0), none⟩, ⟨some 7, .mov (.t 1), none⟩, ⟨some 8, .call (.c (.fn (.func 52) [] [])) [(.t 6), (.t 7)], none⟩, ⟨some 9, .ext (.t 8) 0, none⟩, ⟨some 10, .ext (.t 8) 1, none⟩, ⟨some 4, .mov (.t 9), none⟩, ⟨some 5, .mov (.t 10), none⟩]
def zZE.c : Cf := ⟨11, [.tmp 4, .tmp 5], (.seq (.region zZE.r0) (.seq (.region zZE.r1) .ret)), true⟩
abbrev zZE : V := .fn (.func 33) [] []
abbrev zZE.k : Nat := 33
def zZv.r0 : List Cp := [⟨some 2, .mov (.c (.int .i64 0)), none⟩, ⟨some 3, .mov (.c (.str ⟨#[]⟩)), none⟩, ⟨some 4, .mov (.c (.bool false)), none⟩]
def zZv.r1 : List Cp := [⟨some 5, .mov (.c (.int .i64 0)), none⟩]
def zZv.r2 : List Cp := [⟨some 8, .mov (.t 5), none⟩, ⟨some 9, .mov (.t 0), none⟩, ⟨some 10, .len .s (.t 9), none⟩, ⟨some 11, .bin .lss (.t 8) (.t 10), none⟩, ⟨some 12, .mov (.t 11), none⟩, ⟨some 13, .mov (.t 0), (some (12, true))⟩, ⟨some 14, .mov (.t 5), (some (12, true))⟩, ⟨some 15, .idxS (.t 13) (.t 14), (some (12, true))⟩, ⟨some 16, .bin .geq (.t 15) (.c (.int .u8 48)), (some (12, true))⟩, ⟨some 17, .mov (.t 16), (some (12, true))⟩, ⟨some 18, .mov (.t 0), (some (17, true))⟩, ⟨some 19, .mov (.t 5), (some (17, true))⟩, ⟨some 20, .idxS (.t 18) (.t 19), (some (17, true))⟩, ⟨some 21, .bin .leq (.t 20) (.c (.int .u8 57)), (some (17, true))⟩, ⟨some 22, .pick (.t 17) (.t 21) (.c (.bool false)), (some (12, true))⟩, ⟨some 23, .mov (.t 22), (some (12, true))⟩, ⟨some 24, .mov (.t 5), (some (23, false))⟩, ⟨some 25, .bin .eql (.t 24) (.c (.int .i64 0)), (some (23, false))⟩, ⟨some 26, .mov (.t 25), (some (23, false))⟩, ⟨some 27, .mov (.t 0), (some (26, true))⟩, ⟨some 28, .mov (.t 5), (some (26, true))⟩, ⟨some 29, .idxS (.t 27) (.t 28), (some (26, true))⟩, ⟨some 30, .bin .eql (.t 29) (.c (.int .u8 45)), (some (26, true))⟩, ⟨some 31, .pick (.t 26) (.t 30) (.c (.bool false)), (some (23, false))⟩, ⟨some 32, .pick (.t 23) (.c (.bool true)) (.t 31), (some (12, true))⟩, ⟨some 33, .pick (.t 12) (.t 32) (.c (.bool false)), none⟩]
def zZv.r3 : List Cp := [⟨some 34, .mov (.t 5), none⟩, ⟨some 35, .bin .add (.t 34) (.c (.int .i64 1)), none⟩, ⟨some 5, .mov (.t 35), none⟩]
def zZv.b4 : Cc := (.seq (.seq (.region zZv.r2) (.cond (.t 33) .skip (.exit 0))) (.block 1 (.region zZv.r3)))
def zZv.r5 : List Cp := [⟨some 37, .mov (.t 0), none⟩, ⟨some 38, .mov (.t 5), none⟩, ⟨some 39, .slice .s 1 (.t 37) none (some (.t 38)), none⟩, ⟨some 40, .call (.c (.fn (.func 53) [] [])) [(.t 39)], none⟩, ⟨some 36, .mov (.t 40), none⟩, ⟨some 41, .ext (.t 36) 0, none⟩, ⟨some 42, .ext (.t 36) 1, none⟩, ⟨some 6, .mov (.t 41), none⟩, ⟨some 7, .mov (.t 42), none⟩]
def zZv.r6 : List Cp := [⟨some 43, .mov (.t 7), none⟩, ⟨some 44, .inil true (.t 43), none⟩, ⟨some 45, .mov (.t 44), none⟩, ⟨some 46, .mov (.t 6), (some (45, false))⟩, ⟨some 47, .call (.c (.fn (.func 39) [] [])) [(.t 46)], (some (45, false))⟩, ⟨some 48, .mov (.t 0), (some (45, false))⟩, ⟨some 49, .mov (.t 5), (some (45, false))⟩, ⟨some 50, .slice .s 1 (.t 48) none (some (.t 49)), (some (45, false))⟩, ⟨some 51, .bin .neq (.t 47) (.t 50), (some (45, false))⟩, ⟨some 52, .pick (.t 45) (.c (.bool true)) (.t 51), none⟩]
def zZv.r7 : List Cp := [⟨some 2, .mov (.c (.int .i64 0)), none⟩, ⟨some 3, .mov (.c (.str ⟨#[]⟩)), none⟩, ⟨some 4, .mov (.c (.bool false)), none⟩]
def zZv.r8 : List Cp := [⟨some 53, .mov (.t 6), none⟩, ⟨some 54, .mov (.t 0), none⟩, ⟨some 55, .mov (.t 5), none⟩, ⟨some 56, .slice .s 1 (.t 54) (some (.t 55)) none, none⟩, ⟨some 2, .mov (.t 53), none⟩, ⟨some 3, .mov (.t 56), none⟩, ⟨some 4, .mov (.c (.bool true)), none⟩]
def zZv.c : Cf := ⟨57, [.tmp 2, .tmp 3, .tmp 4], (.seq (.region zZv.r0) (.seq (.region zZv.r1) (.seq (.block 0 (.loop zZv.b4)) (.seq (.region zZv.r5) (.seq (.seq (.draw zZv.r6 [[], [0], [1], [2], [3, 2, 2], [2], [2], [5, 6, 2], [4, 7, 2], [2, 8]] [0, 2, 3, 5, 6, 7, 8, 9]) (.cond (.t 52) (.seq (.region zZv.r7) .ret) .skip)) (.seq (.draw zZv.r8 [[], [], [], [1, 2], [0, 0], [3, 4, 0, 1, 2, 3, 4], [5, 0, 1, 2, 3, 4, 5]] [0, 1, 2, 3, 4, 5, 6]) .ret)))))), true⟩
abbrev zZv : V := .fn (.func 34) [] []
abbrev zZv.k : Nat := 34
def zZf.r0 : List Cp := [⟨some 2, .mov (.c (.nils)), none⟩]
def zZf.r1 : List Cp := [⟨some 3, .mov (.c (.nils)), none⟩]
def zZf.r2 : List Cp := [⟨some 7, .mov (.t 0), none⟩, ⟨some 8, .nilchk (.t 7), none⟩, ⟨some 9, .faddr 0 (.t 8), none⟩, ⟨some 10, .load none (.t 9), none⟩, ⟨some 11, .bin .neq (.t 10) (.c (.str ⟨#[]⟩)), none⟩]
def zZf.r3 : List Cp := [⟨some 13, .mov (.t 0), none⟩, ⟨some 14, .call (.c (.fn (.func 32) [] [])) [(.t 13)], none⟩, ⟨some 12, .mov (.t 14), none⟩, ⟨some 15, .ext (.t 12) 0, none⟩, ⟨some 16, .ext (.t 12) 1, none⟩, ⟨some 4, .mov (.t 15), none⟩, ⟨some 5, .mov (.t 16), none⟩]
def zZf.r4 : List Cp := [⟨some 17, .mov (.t 5), none⟩, ⟨some 18, .un .not (.t 17), none⟩]
def zZf.r5 : List Cp := [⟨some 2, .mov (.c (.nils)), none⟩]
def zZf.r6 : List Cp := [⟨some 20, .mov (.t 0), none⟩, ⟨some 21, .mov (.t 4), none⟩, ⟨some 22, .call (.c (.fn (.func 54) [] [])) [(.t 20), (.t 21)], none⟩, ⟨some 19, .mov (.t 22), none⟩, ⟨some 23, .ext (.t 19) 0, none⟩, ⟨some 24, .ext (.t 19) 1, none⟩, ⟨some 6, .alloc [.int .u8 0, .int .i64 0, .int .i64 0, .int .i64 0, .int .i64 0, .int .i64 0, .str ⟨#[]⟩, .str ⟨#[]⟩, .nils, .nils, .nils, .bool false], none⟩, ⟨none, .store 12 (.t 6) (.t 23), none⟩, ⟨some 5, .mov (.t 24), none⟩]
def zZf.r7 : List Cp := [⟨some 25, .mov (.t 5), none⟩, ⟨some 26, .un .not (.t 25), none⟩]
def zZf.r8 : List Cp := [⟨some 2, .mov (.c (.nils)), none⟩]
def zZf.r9 : List Cp := [⟨some 27, .mov (.t 3), none⟩, ⟨some 28, .load (some 12) (.t 6), none⟩, ⟨some 29, .bslice [.int .u8 0, .int .i64 0, .int .i64 0, .int .i64 0, .int .i64 0, .int .i64 0, .str ⟨#[]⟩, .str ⟨#[]⟩, .nils, .nils, .nils, .bool false] 1 12 [(0, (.t 28))], none⟩, ⟨some 30, .app 12 160 (.t 27) (.t 29), none⟩, ⟨some 3, .mov (.t 30), none⟩]
def zZf.b10 : Cc := (.seq (.seq (.region zZf.r2) (.cond (.t 11) .skip (.exit 0))) (.block 1 (.seq (.region zZf.r3) (.seq (.seq (.region zZf.r4) (.cond (.t 18) (.seq (.region zZf.r5) .ret) .skip)) (.seq (.region zZf.r6) (.seq (.seq (.region zZf.r7) (.cond (.t 26) (.seq (.region zZf.r8) .ret) .skip)) (.region zZf.r9)))))))
def zZf.r11 : List Cp := [⟨some 31, .mov (.t 3), none⟩, ⟨some 2, .mov (.t 31), none⟩]
def zZf.c : Cf := ⟨32, [.tmp 2], (.seq (.region zZf.r0) (.seq (.region zZf.r1) (.seq (.block 0 (.loop zZf.b10)) (.seq (.region zZf.r11) .ret)))), false⟩
abbrev zZf : V := .fn (.func 35) [] []
abbrev zZf.k : Nat := 35
def zZd.r0 : List Cp := [⟨some 2, .mov (.c (.nils)), none⟩]
def zZd.r1 : List Cp := [⟨some 3, .mov (.c (.nils)), none⟩]
def zZd.r2 : List Cp := [⟨some 8, .mov (.t 0), none⟩, ⟨some 9, .call (.c (.fn (.func 32) [] [])) [(.t 8)], none⟩, ⟨some 7, .mov (.t 9), none⟩, ⟨some 10, .ext (.t 7) 0, none⟩, ⟨some 11, .ext (.t 7) 1, none⟩, ⟨some 4, .mov (.t 10), none⟩, ⟨some 5, .mov (.t 11), none⟩]
def zZd.r3 : List Cp := [⟨some 12, .mov (.t 5), none⟩, ⟨some 13, .un .not (.t 12), none⟩, ⟨some 14, .mov (.t 13), none⟩, ⟨some 15, .mov (.t 4), (some (14, false))⟩, ⟨some 16, .bin .eql (.t 15) (.c (.str ⟨#[101, 110, 100]⟩)), (some (14, false))⟩, ⟨some 17, .pick (.t 14) (.c (.bool true)) (.t 16), none⟩]
def zZd.r4 : List Cp := [⟨some 18, .mov (.t 3), none⟩, ⟨some 2, .mov (.t 18), none⟩]
def zZd.r5 : List Cp := [⟨some 20, .mov (.t 0), none⟩, ⟨some 21, .mov (.t 4), none⟩, ⟨some 22, .call (.c (.fn (.func 54) [] [])) [(.t 20), (.t 21)], none⟩, ⟨some 19, .mov (.t 22), none⟩, ⟨some 23, .ext (.t 19) 0, none⟩, ⟨some 24, .ext (.t 19) 1, none⟩, ⟨some 6, .alloc [.int .u8 0, .int .i64 0, .int .i64 0, .int .i64 0, .int .i64 0, .int .i64 0, .str ⟨#[]⟩, .str ⟨#[]⟩, .nils, .nils, .nils, .bool false], none⟩, ⟨none, .store 12 (.t 6) (.t 23), none⟩, ⟨some 5, .mov (.t 24), none⟩]
def zZd.r6 : List Cp := [⟨some 25, .mov (.t 5), none⟩, ⟨some 26, .un .not (.t 25), none⟩]
def zZd.r7 : List Cp := [⟨some 2, .mov (.c (.nils)), none⟩]
def zZd.r8 : List Cp := [⟨some 27, .mov (.t 3), none⟩, ⟨some 28, .load (some 12) (.t 6), none⟩, ⟨some 29, .bslice [.int .u8 0, .int .i64 0, .int .i64 0, .int .i64 0, .int .i64 0, .int .i64 0, .str ⟨#[]⟩, .str ⟨#[]⟩, .nils, .nils, .nils, .bool false] 1 12 [(0, (.t 28))], none⟩, ⟨some 30, .app 12 160 (.t 27) (.t 29), none⟩, ⟨some 3, .mov (.t 30), none⟩]
def zZd.b9 : Cc := (.block 1 (.seq (.region zZd.r2) (.seq (.seq (.region zZd.r3) (.cond (.t 17) (.seq (.region zZd.r4) .ret) .skip)) (.seq (.region zZd.r5) (.seq (.seq (.region zZd.r6) (.cond (.t 26) (.seq (.region zZd.r7) .ret) .skip)) (.region zZd.r8))))))
def zZd.c : Cf := ⟨31, [.tmp 2], (.seq (.region zZd.r0) (.seq (.region zZd.r1) (.block 0 (.loop zZd.b9)))), false⟩
abbrev zZd : V := .fn (.func 36) [] []
abbrev zZd.k : Nat := 36
def qZc.r0 : List Cp := [⟨some 4, .mov (.c (.str ⟨#[]⟩)), none⟩, ⟨some 5, .mov (.c (.str ⟨#[]⟩)), none⟩, ⟨some 6, .mov (.c (.bool false)), none⟩]
def qZc.r1 : List Cp := [⟨some 7, .mov (.t 0), none⟩, ⟨some 8, .mov (.t 1), none⟩, ⟨some 9, .call (.c (.fn (.func 55) [] [])) [(.t 7), (.t 8)], none⟩, ⟨some 10, .ext (.t 9) 0, none⟩, ⟨some 11, .ext (.t 9) 1, none⟩, ⟨some 12, .ext (.t 9) 2, none⟩, ⟨some 4, .mov (.t 10), none⟩, ⟨some 5, .mov (.t 11), none⟩, ⟨some 6, .mov (.t 12), none⟩]
def qZc.c : Cf := ⟨13, [.tmp 4, .tmp 5, .tmp 6], (.seq (.region qZc.r0) (.seq (.region qZc.r1) .ret)), true⟩
abbrev qZc : V := .fn (.func 37) [] []
abbrev qZc.k : Nat := 37
def zZ6.r0 : List Cp := [⟨some 3, .mov (.c (.str ⟨#[]⟩)), none⟩]
def zZ6.r1 : List Cp := [⟨some 4, .load none (.t 1), none⟩, ⟨some 5, .mov (.t 0), none⟩, ⟨some 6, .call (.t 4) [(.t 5)], none⟩, ⟨some 7, .nilchk (.t 6), none⟩, ⟨some 8, .load none (.t 7), none⟩, ⟨some 9, .call (.c (.fn (.func 39) [] [])) [(.t 8)], none⟩, ⟨some 3, .mov (.t 9), none⟩]
def zZ6.c : Cf := ⟨10, [.tmp 3], (.seq (.region zZ6.r0) (.seq (.region zZ6.r1) .ret)), false⟩
abbrev zZ6 : V := .fn (.func 38) [] []
abbrev zZ6.k : Nat := 38
abbrev strconv_Itoa : V := .fn (.func 39) [] []
def zZZ.r0 : List Cp := [⟨some 5, .mov (.c (.str ⟨#[]⟩)), none⟩, ⟨some 6, .mov (.c (.bool false)), none⟩]
def zZZ.r1 : List Cp := [⟨some 8, .load none (.t 2), none⟩, ⟨some 9, .mov (.t 0), none⟩, ⟨some 10, .call (.t 8) [(.t 9)], none⟩, ⟨some 11, .mov (.t 1), none⟩, ⟨some 12, .call (.c (.fn (.func 34) [] [])) [(.t 11)], none⟩, ⟨some 7, .mov (.t 12), none⟩, ⟨some 13, .ext (.t 7) 0, none⟩, ⟨some 14, .ext (.t 7) 1, none⟩, ⟨some 15, .ext (.t 7) 2, none⟩, ⟨some 16, .nilchk (.t 10), none⟩, ⟨none, .store 1 (.t 16) (.t 13), none⟩, ⟨some 5, .mov (.t 14), none⟩, ⟨some 6, .mov (.t 15), none⟩]
def zZZ.r2 : List Cp := [⟨some 17, .mov (.t 5), none⟩, ⟨some 18, .mov (.t 6), none⟩, ⟨some 5, .mov (.t 17), none⟩, ⟨some 6, .mov (.t 18), none⟩]
def zZZ.c : Cf := ⟨19, [.tmp 5, .tmp 6], (.seq (.region zZZ.r0) (.seq (.region zZZ.r1) (.seq (.region zZZ.r2) .ret))), false⟩
abbrev zZZ : V := .fn (.func 40) [] []
abbrev zZZ.k : Nat := 40
def zZ1.r0 : List Cp := [⟨some 3, .mov (.c (.str ⟨#[]⟩)), none⟩]
def zZ1.r1 : List Cp := [⟨some 4, .load none (.t 1), none⟩, ⟨some 5, .mov (.t 0), none⟩, ⟨some 6, .call (.t 4) [(.t 5)], none⟩, ⟨some 7, .nilchk (.t 6), none⟩, ⟨some 8, .load none (.t 7), none⟩, ⟨some 9, .call (.c (.fn (.func 42) [] [])) [(.t 8)], none⟩, ⟨some 3, .mov (.t 9), none⟩]
def zZ1.c : Cf := ⟨10, [.tmp 3], (.seq (.region zZ1.r0) (.seq (.region zZ1.r1) .ret)), false⟩
abbrev zZ1 : V := .fn (.func 41) [] []
abbrev zZ1.k : Nat := 41
def zZ5.r0 : List Cp := [⟨some 2, .mov (.c (.str ⟨#[]⟩)), none⟩]
def zZ5.r1 : List Cp := [⟨some 3, .mov (.t 0), none⟩, ⟨some 4, .call (.c (.fn (.func 50) [] [])) [(.t 3)], none⟩, ⟨some 5, .call (.c (.fn (.func 46) [] [])) [(.t 4), (.c (.int .i64 2)), (.c (.int .u8 120))], none⟩, ⟨some 2, .mov (.t 5), none⟩]
def zZ5.c : Cf := ⟨6, [.tmp 2], (.seq (.region zZ5.r0) (.seq (.region zZ5.r1) .ret)), true⟩
abbrev zZ5 : V := .fn (.func 42) [] []
abbrev zZ5.k : Nat := 42
def zZL.r0 : List Cp := [⟨some 5, .mov (.c (.str ⟨#[]⟩)), none⟩, ⟨some 6, .mov (.c (.bool false)), none⟩]
def zZL.r1 : List Cp := [⟨some 9, .mov (.t 1), none⟩, ⟨some 10, .call (.c (.fn (.func 44) [] [])) [(.t 9), (.c (.int .i64 2)), (.c (.int .u8 120))], none⟩, ⟨some 8, .mov (.t 10), none⟩, ⟨some 11, .ext (.t 8) 0, none⟩, ⟨some 12, .ext (.t 8) 1, none⟩, ⟨some 13, .ext (.t 8) 2, none⟩, ⟨some 7, .mov (.t 11), none⟩, ⟨some 5, .mov (.t 12), none⟩, ⟨some 6, .mov (.t 13), none⟩]
def zZL.r2 : List Cp := [⟨some 14, .load none (.t 2), none⟩, ⟨some 15, .mov (.t 0), none⟩, ⟨some 16, .call (.t 14) [(.t 15)], none⟩, ⟨some 17, .mov (.t 7), none⟩, ⟨some 18, .call (.c (.fn (.func 45) [] [])) [(.t 17)], none⟩, ⟨some 19, .conv .bytesStr (.t 18), none⟩, ⟨some 20, .nilchk (.t 16), none⟩, ⟨none, .store 1 (.t 20) (.t 19), none⟩]
def zZL.r3 : List Cp := [⟨some 21, .mov (.t 5), none⟩, ⟨some 22, .mov (.t 6), none⟩, ⟨some 5, .mov (.t 21), none⟩, ⟨some 6, .mov (.t 22), none⟩]
def zZL.c : Cf := ⟨23, [.tmp 5, .tmp 6], (.seq (.region zZL.r0) (.seq (.region zZL.r1) (.seq (.region zZL.r2) (.seq (.region zZL.r3) .ret)))), false⟩
abbrev zZL : V := .fn (.func 43) [] []
abbrev zZL.k : Nat := 43
def zZc.r0 : List Cp := [⟨some 6, .mov (.c (.nils)), none⟩, ⟨some 7, .mov (.c (.str ⟨#[]⟩)), none⟩, ⟨some 8, .mov (.c (.bool false)), none⟩]
def zZc.r1 : List Cp := [⟨some 14, .mov (.t 0), none⟩, ⟨some 15, .bin .eql (.t 14) (.c (.str ⟨#[]⟩)), none⟩, ⟨some 16, .mov (.t 15), none⟩, ⟨some 17, .mov (.t 0), (some (16, false))⟩, ⟨some 18, .idxS (.t 17) (.c (.int .i64 0)), (some (16, false))⟩, ⟨some 19, .bin .neq (.t 18) (.c (.int .u8 34)), (some (16, false))⟩, ⟨some 20, .pick (.t 16) (.c (.bool true)) (.t 19), none⟩]
def zZc.r2 : List Cp := [⟨some 6, .mov (.c (.nils)), none⟩, ⟨some 7, .mov (.c (.str ⟨#[]⟩)), none⟩, ⟨some 8, .mov (.c (.bool false)), none⟩]
def zZc.r3 : List Cp := [⟨some 9, .mov (.c (.nils)), none⟩]
def zZc.r4 : List Cp := [⟨some 10, .mov (.c (.int .i64 1)), none⟩]
def zZc.r5 : List Cp := [⟨some 21, .mov (.t 10), none⟩, ⟨some 22, .mov (.t 0), none⟩, ⟨some 23, .len .s (.t 22), none⟩, ⟨some 24, .bin .lss (.t 21) (.t 23), none⟩]
def zZc.r6 : List Cp := [⟨some 27, .mov (.t 0), none⟩, ⟨some 28, .mov (.t 10), none⟩, ⟨some 29, .idxS (.t 27) (.t 28), none⟩, ⟨some 30, .conv (.int .u16) (.t 29), none⟩, ⟨some 11, .mov (.t 30), none⟩]
def zZc.r7 : List Cp := [⟨some 32, .mov (.t 11), none⟩, ⟨some 33, .bin .eql (.t 32) (.c (.int .u16 34)), none⟩, ⟨some 31, .mov (.t 33), none⟩]
def zZc.r8 : List Cp := [⟨some 34, .mov (.t 9), none⟩, ⟨some 35, .mov (.t 0), none⟩, ⟨some 36, .mov (.t 10), none⟩, ⟨some 37, .bin .add (.t 36) (.c (.int .i64 1)), none⟩, ⟨some 38, .slice .s 1 (.t 35) (some (.t 37)) none, none⟩, ⟨some 6, .mov (.t 34), none⟩, ⟨some 7, .mov (.t 38), none⟩, ⟨some 8, .mov (.c (.bool true)), none⟩]
def zZc.r9 : List Cp := [⟨some 40, .mov (.t 11), none⟩, ⟨some 41, .call (.c (.fn (.func 57) [] [])) [(.t 40)], none⟩, ⟨some 39, .mov (.t 41), none⟩]
def zZc.r10 : List Cp := [⟨some 42, .mov (.t 9), none⟩, ⟨some 43, .mov (.t 11), none⟩, ⟨some 44, .bslice [.int .u16 0] 1 1 [(0, (.t 43))], none⟩, ⟨some 45, .app 1 2 (.t 42) (.t 44), none⟩, ⟨some 9, .mov (.t 45), none⟩]
def zZc.r11 : List Cp := [⟨some 47, .mov (.t 11), none⟩, ⟨some 48, .bin .neq (.t 47) (.c (.int .u16 92)), none⟩, ⟨some 49, .mov (.t 48), none⟩, ⟨some 50, .mov (.t 10), (some (49, false))⟩, ⟨some 51, .bin .add (.t 50) (.c (.int .i64 1)), (some (49, false))⟩, ⟨some 52, .mov (.t 0), (some (49, false))⟩, ⟨some 53, .len .s (.t 52), (some (49, false))⟩, ⟨some 54, .bin .eql (.t 51) (.t 53), (some (49, false))⟩, ⟨some 55, .pick (.t 49) (.c (.bool true)) (.t 54), none⟩, ⟨some 46, .mov (.t 55), none⟩]
def zZc.r12 : List Cp := [⟨some 6, .mov (.c (.nils)), none⟩, ⟨some 7, .mov (.c (.str ⟨#[]⟩)), none⟩, ⟨some 8, .mov (.c (.bool false)), none⟩]
def zZc.r13 : List Cp := [⟨some 56, .mov (.t 10), none⟩, ⟨some 57, .bin .add (.t 56) (.c (.int .i64 1)), none⟩, ⟨some 10, .mov (.t 57), none⟩]
def zZc.r14 : List Cp := [⟨some 58, .mov (.t 0), none⟩, ⟨some 59, .mov (.t 10), none⟩, ⟨some 60, .idxS (.t 58) (.t 59), none⟩, ⟨some 61, .bin .eql (.t 60) (.c (.int .u8 34)), none⟩, ⟨some 62, .mov (.t 61), none⟩, ⟨some 63, .mov (.t 0), (some (62, false))⟩, ⟨some 64, .mov (.t 10), (some (62, false))⟩, ⟨some 65, .idxS (.t 63) (.t 64), (some (62, false))⟩, ⟨some 66, .bin .eql (.t 65) (.c (.int .u8 92)), (some (62, false))⟩, ⟨some 67, .pick (.t 62) (.c (.bool true)) (.t 66), none⟩]
def zZc.r15 : List Cp := [⟨some 68, .mov (.t 9), none⟩, ⟨some 69, .mov (.t 0), none⟩, ⟨some 70, .mov (.t 10), none⟩, ⟨some 71, .idxS (.t 69) (.t 70), none⟩, ⟨some 72, .conv (.int .u16) (.t 71), none⟩, ⟨some 73, .bslice [.int .u16 0] 1 1 [(0, (.t 72))], none⟩, ⟨some 74, .app 1 2 (.t 68) (.t 73), none⟩, ⟨some 9, .mov (.t 74), none⟩]
def zZc.r16 : List Cp := [⟨some 75, .mov (.t 0), none⟩, ⟨some 76, .mov (.t 10), none⟩, ⟨some 77, .idxS (.t 75) (.t 76), none⟩, ⟨some 78, .mov (.t 2), none⟩, ⟨some 79, .bin .neq (.t 77) (.t 78), none⟩, ⟨some 80, .mov (.t 79), none⟩, ⟨some 81, .mov (.t 10), (some (80, false))⟩, ⟨some 82, .mov (.t 1), (some (80, false))⟩, ⟨some 83, .bin .add (.t 81) (.t 82), (some (80, false))⟩, ⟨some 84, .mov (.t 0), (some (80, false))⟩, ⟨some 85, .len .s (.t 84), (some (80, false))⟩, ⟨some 86, .bin .geq (.t 83) (.t 85), (some (80, false))⟩, ⟨some 87, .pick (.t 80) (.c (.bool true)) (.t 86), none⟩]
def zZc.r17 : List Cp := [⟨some 6, .mov (.c (.nils)), none⟩, ⟨some 7, .mov (.c (.str ⟨#[]⟩)), none⟩, ⟨some 8, .mov (.c (.bool false)), none⟩]
def zZc.r18 : List Cp := [⟨some 11, .mov (.c (.int .u16 0)), none⟩]
def zZc.r19 : List Cp := [⟨some 12, .mov (.c (.int .i64 1)), none⟩]
def zZc.r20 : List Cp := [⟨some 88, .mov (.t 12), none⟩, ⟨some 89, .mov (.t 1), none⟩, ⟨some 90, .bin .leq (.t 88) (.t 89), none⟩]
def zZc.r21 : List Cp := [⟨some 93, .mov (.t 0), none⟩, ⟨some 94, .mov (.t 10), none⟩, ⟨some 95, .mov (.t 12), none⟩, ⟨some 96, .bin .add (.t 94) (.t 95), none⟩, ⟨some 97, .idxS (.t 93) (.t 96), none⟩, ⟨some 98, .call (.c (.fn (.func 58) [] [])) [(.c (.str ⟨#[48, 49, 50, 51, 52, 53, 54, 55, 56, 57, 97, 98, 99, 100, 101, 102]⟩)), (.t 97)], none⟩, ⟨some 13, .mov (.t 98), none⟩]
def zZc.r22 : List Cp := [⟨some 99, .mov (.t 13), none⟩, ⟨some 100, .bin .lss (.t 99) (.c (.int .i64 0)), none⟩]
def zZc.r23 : List Cp := [⟨some 6, .mov (.c (.nils)), none⟩, ⟨some 7, .mov (.c (.str ⟨#[]⟩)), none⟩, ⟨some 8, .mov (.c (.bool false)), none⟩]
def zZc.r24 : List Cp := [⟨some 101, .mov (.t 11), none⟩, ⟨some 102, .bin .shl (.t 101) (.c (.int .u64 4)), none⟩, ⟨some 103, .mov (.t 13), none⟩, ⟨some 104, .conv (.int .u16) (.t 103), none⟩, ⟨some 105, .bin .or (.t 102) (.t 104), none⟩, ⟨some 11, .mov (.t 105), none⟩]
def zZc.r25 : List Cp := [⟨some 91, .mov (.t 12), none⟩, ⟨some 92, .bin .add (.t 91) (.c (.int .i64 1)), none⟩, ⟨some 12, .mov (.t 92), none⟩]
def zZc.b26 : Cc := (.seq (.seq (.region zZc.r20) (.cond (.t 90) .skip (.exit 3))) (.seq (.block 4 (.seq (.region zZc.r21) (.seq (.seq (.region zZc.r22) (.cond (.t 100) (.seq (.region zZc.r23) .ret) .skip)) (.region zZc.r24)))) (.region zZc.r25)))
def zZc.r27 : List Cp := [⟨some 106, .mov (.t 11), none⟩, ⟨some 107, .call (.c (.fn (.func 59) [] [])) [(.t 106)], none⟩]
def zZc.r28 : List Cp := [⟨some 6, .mov (.c (.nils)), none⟩, ⟨some 7, .mov (.c (.str ⟨#[]⟩)), none⟩, ⟨some 8, .mov (.c (.bool false)), none⟩]
def zZc.r29 : List Cp := [⟨some 108, .mov (.t 9), none⟩, ⟨some 109, .mov (.t 11), none⟩, ⟨some 110, .bslice [.int .u16 0] 1 1 [(0, (.t 109))], none⟩, ⟨some 111, .app 1 2 (.t 108) (.t 110), none⟩, ⟨some 9, .mov (.t 111), none⟩]
def zZc.r30 : List Cp := [⟨some 112, .mov (.t 10), none⟩, ⟨some 113, .mov (.t 1), none⟩, ⟨some 114, .bin .add (.t 112) (.t 113), none⟩, ⟨some 10, .mov (.t 114), none⟩]
def zZc.r31 : List Cp := [⟨some 25, .mov (.t 10), none⟩, ⟨some 26, .bin .add (.t 25) (.c (.int .i64 1)), none⟩, ⟨some 10, .mov (.t 26), none⟩]
def zZc.b32 : Cc := (.seq (.seq (.region zZc.r5) (.cond (.t 24) .skip (.exit 0))) (.seq (.block 1 (.seq (.region zZc.r6) (.seq (.block 2 (.seq (.region zZc.r7) (.cond (.t 31) (.seq (.draw zZc.r8 [[], [], [], [2], [1, 3], [0, 0], [4, 5, 0, 1, 2, 3, 4, 5], [6, 0, 1, 2, 3, 4, 5, 6]] [0, 1, 2, 3, 4, 5, 6, 7]) .ret) (.seq (.region zZc.r9) (.cond (.t 39) (.seq (.region zZc.r10) (.exit 1)) (.seq (.region zZc.r11) (.cond (.t 46) (.seq (.region zZc.r12) .ret) .skip))))))) (.seq (.region zZc.r13) (.seq (.seq (.region zZc.r14) (.cond (.t 67) (.seq (.region zZc.r15) (.exit 1)) .skip)) (.seq (.seq (.region zZc.r16) (.cond (.t 87) (.seq (.region zZc.r17) .ret) .skip)) (.seq (.region zZc.r18) (.seq (.seq (.region zZc.r19) (.block 3 (.loop zZc.b26))) (.seq (.seq (.region zZc.r27) (.cond (.t 107) (.seq (.region zZc.r28) .ret) .skip)) (.seq (.region zZc.r29) (.region zZc.r30))))))))))) (.region zZc.r31)))
def zZc.r33 : List Cp := [⟨some 6, .mov (.c (.nils)), none⟩, ⟨some 7, .mov (.c (.str ⟨#[]⟩)), none⟩, ⟨some 8, .mov (.c (.bool false)), none⟩]
def zZc.c : Cf := ⟨115, [.tmp 6, .tmp 7, .tmp 8], (.seq (.region zZc.r0) (.seq (.seq (.region zZc.r1) (.cond (.t 20) (.seq (.region zZc.r2) .ret) .skip)) (.seq (.region zZc.r3) (.seq (.seq (.region zZc.r4) (.block 0 (.loop zZc.b32))) (.seq (.region zZc.r33) .ret))))), true⟩
abbrev zZc : V := .fn (.func 44) [] []
abbrev zZc.k : Nat := 44
def zZu.r0 : List Cp := [⟨some 2, .mov (.c (.nils)), none⟩]
def zZu.r1 : List Cp := [⟨some 3, .mov (.c (.nils)), none⟩]
def zZu.r2 : List Cp := [⟨some 6, .mov (.t 0), none⟩, ⟨some 7, .len .l (.t 6), none⟩, ⟨some 8, .mov (.c (.int .i64 0)), none⟩]
def zZu.r3 : List Cp := [⟨some 9, .bin .lss (.t 8) (.t 7), none⟩]
def zZu.r4 : List Cp := [⟨some 10, .iaddr 1 (.t 6) (.t 8), none⟩, ⟨some 11, .load none (.t 10), none⟩, ⟨some 5, .mov (.t 11), none⟩]
def zZu.r5 : List Cp := [⟨some 12, .mov (.t 3), none⟩, ⟨some 13, .mov (.t 5), none⟩, ⟨some 14, .conv (.int .u8) (.t 13), none⟩, ⟨some 15, .bslice [.int .u8 0] 1 1 [(0, (.t 14))], none⟩, ⟨some 16, .app 1 1 (.t 12) (.t 15), none⟩, ⟨some 3, .mov (.t 16), none⟩]
def zZu.r6 : List Cp := [⟨some 17, .bin .add (.t 8) (.c (.int .i64 1)), none⟩, ⟨some 8, .mov (.t 17), none⟩]
def zZu.b7 : Cc := (.seq (.region zZu.r3) (.seq (.cond (.t 9) .skip (.exit 0)) (.seq (.block 1 (.seq (.region zZu.r4) (.region zZu.r5))) (.region zZu.r6))))
def zZu.r8 : List Cp := [⟨some 18, .mov (.t 3), none⟩, ⟨some 2, .mov (.t 18), none⟩]
def zZu.c : Cf := ⟨19, [.tmp 2], (.seq (.region zZu.r0) (.seq (.region zZu.r1) (.seq (.seq (.region zZu.r2) (.block 0 (.loop zZu.b7))) (.seq (.region zZu.r8) .ret)))), true⟩
abbrev zZu : V := .fn (.func 45) [] []
abbrev zZu.k : Nat := 45
def zZl.r0 : List Cp := [⟨some 6, .mov (.c (.str ⟨#[]⟩)), none⟩]
def zZl.r1 : List Cp := [⟨some 11, .bslice [.int .u8 0] 1 1 [(0, (.c (.int .u8 34)))], none⟩, ⟨some 7, .mov (.t 11), none⟩]
def zZl.r2 : List Cp := [⟨some 12, .mov (.t 0), none⟩, ⟨some 13, .len .l (.t 12), none⟩, ⟨some 14, .mov (.c (.int .i64 0)), none⟩]
def zZl.r3 : List Cp := [⟨some 15, .bin .lss (.t 14) (.t 13), none⟩]
def zZl.r4 : List Cp := [⟨some 16, .iaddr 1 (.t 12) (.t 14), none⟩, ⟨some 17, .load none (.t 16), none⟩, ⟨some 9, .mov (.t 17), none⟩]
def zZl.r5 : List Cp := [⟨some 38, .mov (.t 9), none⟩, ⟨some 39, .call (.c (.fn (.func 57) [] [])) [(.t 38)], none⟩, ⟨some 37, .mov (.t 39), none⟩]
def zZl.r6 : List Cp := [⟨some 40, .mov (.t 7), none⟩, ⟨some 41, .mov (.t 9), none⟩, ⟨some 42, .conv (.int .u8) (.t 41), none⟩, ⟨some 43, .bslice [.int .u8 0] 1 1 [(0, (.t 42))], none⟩, ⟨some 44, .app 1 1 (.t 40) (.t 43), none⟩, ⟨some 7, .mov (.t 44), none⟩]
def zZl.r7 : List Cp := [⟨some 46, .mov (.t 9), none⟩, ⟨some 47, .call (.c (.fn (.func 59) [] [])) [(.t 46)], none⟩, ⟨some 45, .mov (.t 47), none⟩]
def zZl.r8 : List Cp := [⟨some 48, .mov (.t 7), none⟩, ⟨some 49, .mov (.t 9), none⟩, ⟨some 50, .conv (.int .u8) (.t 49), none⟩, ⟨some 51, .bslice [.int .u8 0] 2 1 [(0, (.c (.int .u8 92))), (1, (.t 50))], none⟩, ⟨some 52, .app 1 1 (.t 48) (.t 51), none⟩, ⟨some 7, .mov (.t 52), none⟩]
def zZl.r9 : List Cp := [⟨some 18, .mov (.t 7), none⟩, ⟨some 19, .mov (.t 2), none⟩, ⟨some 20, .bslice [.int .u8 0] 2 1 [(0, (.c (.int .u8 92))), (1, (.t 19))], none⟩, ⟨some 21, .app 1 1 (.t 18) (.t 20), none⟩, ⟨some 7, .mov (.t 21), none⟩]
def zZl.r10 : List Cp := [⟨some 22, .mov (.t 1), none⟩, ⟨some 23, .bin .sub (.t 22) (.c (.int .i64 1)), none⟩, ⟨some 10, .mov (.t 23), none⟩]
def zZl.r11 : List Cp := [⟨some 24, .mov (.t 10), none⟩, ⟨some 25, .bin .geq (.t 24) (.c (.int .i64 0)), none⟩]
def zZl.r12 : List Cp := [⟨some 28, .mov (.t 7), none⟩, ⟨some 29, .mov (.t 9), none⟩, ⟨some 30, .mov (.t 10), none⟩, ⟨some 31, .bin .mul (.c (.int .i64 4)) (.t 30), none⟩, ⟨some 32, .bin .shr (.t 29) (.t 31), none⟩, ⟨some 33, .bin .and (.t 32) (.c (.int .u16 15)), none⟩, ⟨some 34, .idxS (.c (.str ⟨#[48, 49, 50, 51, 52, 53, 54, 55, 56, 57, 97, 98, 99, 100, 101, 102]⟩)) (.t 33), none⟩, ⟨some 35, .bslice [.int .u8 0] 1 1 [(0, (.t 34))], none⟩, ⟨some 36, .app 1 1 (.t 28) (.t 35), none⟩, ⟨some 7, .mov (.t 36), none⟩]
def zZl.r13 : List Cp := [⟨some 26, .mov (.t 10), none⟩, ⟨some 27, .bin .sub (.t 26) (.c (.int .i64 1)), none⟩, ⟨some 10, .mov (.t 27), none⟩]
def zZl.b14 : Cc := (.seq (.seq (.region zZl.r11) (.cond (.t 25) .skip (.exit 3))) (.seq (.block 4 (.region zZl.r12)) (.region zZl.r13)))
def zZl.r15 : List Cp := [⟨some 53, .bin .add (.t 14) (.c (.int .i64 1)), none⟩, ⟨some 14, .mov (.t 53), none⟩]
def zZl.b16 : Cc := (.seq (.region zZl.r3) (.seq (.cond (.t 15) .skip (.exit 0)) (.seq (.block 1 (.seq (.region zZl.r4) (.block 2 (.seq (.region zZl.r5) (.cond (.t 37) (.region zZl.r6) (.seq (.region zZl.r7) (.cond (.t 45) (.region zZl.r8) (.seq (.region zZl.r9) (.seq (.region zZl.r10) (.block 3 (.loop zZl.b14))))))))))) (.region zZl.r15))))
def zZl.r17 : List Cp := [⟨some 54, .mov (.t 7), none⟩, ⟨some 55, .bslice [.int .u8 0] 1 1 [(0, (.c (.int .u8 34)))], none⟩, ⟨some 56, .app 1 1 (.t 54) (.t 55), none⟩, ⟨some 57, .conv .bytesStr (.t 56), none⟩, ⟨some 6, .mov (.t 57), none⟩]
def zZl.c : Cf := ⟨58, [.tmp 6], (.seq (.region zZl.r0) (.seq (.region zZl.r1) (.seq (.seq (.region zZl.r2) (.block 0 (.loop zZl.b16))) (.seq (.region zZl.r17) .ret)))), true⟩
abbrev zZl : V := .fn (.func 46) [] []
abbrev zZl.k : Nat := 46
abbrev strings_Join : V := .fn (.func 47) [] []
def zZo.r0 : List Cp := [⟨some 4, .mov (.c (.str ⟨#[]⟩)), none⟩, ⟨some 5, .mov (.c (.bool false)), none⟩]
def zZo.r1 : List Cp := [⟨some 12, .mov (.t 0), none⟩, ⟨some 13, .call (.c (.fn (.func 33) [] [])) [(.t 12), (.c (.str ⟨#[91]⟩))], none⟩, ⟨some 11, .mov (.t 13), none⟩, ⟨some 14, .ext (.t 11) 0, none⟩, ⟨some 15, .ext (.t 11) 1, none⟩, ⟨some 0, .mov (.t 14), none⟩, ⟨some 6, .mov (.t 15), none⟩]
def zZo.r2 : List Cp := [⟨some 16, .mov (.t 6), none⟩, ⟨some 17, .un .not (.t 16), none⟩]
def zZo.r3 : List Cp := [⟨some 4, .mov (.c (.str ⟨#[]⟩)), none⟩, ⟨some 5, .mov (.c (.bool false)), none⟩]
def zZo.r4 : List Cp := [⟨some 19, .mov (.t 0), none⟩, ⟨some 20, .call (.c (.fn (.func 33) [] [])) [(.t 19), (.c (.str ⟨#[93]⟩))], none⟩, ⟨some 18, .mov (.t 20), none⟩, ⟨some 21, .ext (.t 18) 0, none⟩, ⟨some 22, .ext (.t 18) 1, none⟩, ⟨some 7, .mov (.t 21), none⟩, ⟨some 8, .mov (.t 22), none⟩]
def zZo.r5 : List Cp := [⟨some 23, .mov (.t 8), none⟩]
def zZo.r6 : List Cp := [⟨some 24, .mov (.t 7), none⟩, ⟨some 4, .mov (.t 24), none⟩, ⟨some 5, .mov (.c (.bool true)), none⟩]
def zZo.r7 : List Cp := [⟨some 26, .mov (.t 1), none⟩, ⟨some 27, .mov (.t 0), none⟩, ⟨some 28, .call (.t 26) [(.t 27)], none⟩, ⟨some 25, .mov (.t 28), none⟩, ⟨some 29, .ext (.t 25) 0, none⟩, ⟨some 30, .ext (.t 25) 1, none⟩, ⟨some 0, .mov (.t 29), none⟩, ⟨some 6, .mov (.t 30), none⟩]
def zZo.r8 : List Cp := [⟨some 31, .mov (.t 6), none⟩, ⟨some 32, .un .not (.t 31), none⟩]
def zZo.r9 : List Cp := [⟨some 4, .mov (.c (.str ⟨#[]⟩)), none⟩, ⟨some 5, .mov (.c (.bool false)), none⟩]
def zZo.r10 : List Cp := [⟨some 34, .mov (.t 0), none⟩, ⟨some 35, .call (.c (.fn (.func 33) [] [])) [(.t 34), (.c (.str ⟨#[93]⟩))], none⟩, ⟨some 33, .mov (.t 35), none⟩, ⟨some 36, .ext (.t 33) 0, none⟩, ⟨some 37, .ext (.t 33) 1, none⟩, ⟨some 9, .mov (.t 36), none⟩, ⟨some 10, .mov (.t 37), none⟩]
def zZo.r11 : List Cp := [⟨some 38, .mov (.t 10), none⟩]
def zZo.r12 : List Cp := [⟨some 39, .mov (.t 9), none⟩, ⟨some 4, .mov (.t 39), none⟩, ⟨some 5, .mov (.c (.bool true)), none⟩]
def zZo.r13 : List Cp := [⟨some 41, .mov (.t 0), none⟩, ⟨some 42, .call (.c (.fn (.func 33) [] [])) [(.t 41), (.c (.str ⟨#[32]⟩))], none⟩, ⟨some 40, .mov (.t 42), none⟩, ⟨some 43, .ext (.t 40) 0, none⟩, ⟨some 44, .ext (.t 40) 1, none⟩, ⟨some 0, .mov (.t 43), none⟩, ⟨some 6, .mov (.t 44), none⟩]
def zZo.r14 : List Cp := [⟨some 45, .mov (.t 6), none⟩, ⟨some 46, .un .not (.t 45), none⟩]
def zZo.r15 : List Cp := [⟨some 4, .mov (.c (.str ⟨#[]⟩)), none⟩, ⟨some 5, .mov (.c (.bool false)), none⟩]
def zZo.b16 : Cc := (.block 1 (.seq (.region zZo.r7) (.seq (.seq (.region zZo.r8) (.cond (.t 32) (.seq (.region zZo.r9) .ret) .skip)) (.seq (.seq (.region zZo.r10) (.seq (.region zZo.r11) (.cond (.t 38) (.seq (.region zZo.r12) .ret) .skip))) (.seq (.region zZo.r13) (.seq (.region zZo.r14) (.cond (.t 46) (.seq (.region zZo.r15) .ret) .skip)))))))
def zZo.c : Cf := ⟨47, [.tmp 4, .tmp 5], (.seq (.region zZo.r0) (.seq (.region zZo.r1) (.seq (.seq (.region zZo.r2) (.cond (.t 17) (.seq (.region zZo.r3) .ret) .skip)) (.seq (.seq (.region zZo.r4) (.seq (.region zZo.r5) (.cond (.t 23) (.seq (.region zZo.r6) .ret) .skip))) (.block 0 (.loop zZo.b16)))))), false⟩
abbrev zZo : V := .fn (.func 48) [] []
abbrev zZo.k : Nat := 48
def zZx.r0 : List Cp := [⟨some 3, .mov (.c (.str ⟨#[]⟩)), none⟩, ⟨some 4, .mov (.c (.bool false)), none⟩]
def zZx.r1 : List Cp := [⟨some 9, .mov (.t 0), none⟩, ⟨some 10, .call (.c (.fn (.func 34) [] [])) [(.t 9)], none⟩, ⟨some 8, .mov (.t 10), none⟩, ⟨some 11, .ext (.t 8) 0, none⟩, ⟨some 12, .ext (.t 8) 1, none⟩, ⟨some 13, .ext (.t 8) 2, none⟩, ⟨some 5, .mov (.t 11), none⟩, ⟨some 6, .mov (.t 12), none⟩, ⟨some 7, .mov (.t 13), none⟩]
def zZx.r2 : List Cp := [⟨some 14, .load none (.t 1), none⟩, ⟨some 15, .load none (.t 1), none⟩, ⟨some 16, .nilchk (.t 15), none⟩, ⟨some 17, .faddr 9 (.t 16), none⟩, ⟨some 18, .load none (.t 17), none⟩, ⟨some 19, .mov (.t 5), none⟩, ⟨some 20, .bslice [.int .i64 0] 1 1 [(0, (.t 19))], none⟩, ⟨some 21, .app 1 8 (.t 18) (.t 20), none⟩, ⟨some 22, .nilchk (.t 14), none⟩, ⟨some 23, .faddr 9 (.t 22), none⟩, ⟨none, .store 1 (.t 23) (.t 21), none⟩]
def zZx.r3 : List Cp := [⟨some 24, .mov (.t 6), none⟩, ⟨some 25, .mov (.t 7), none⟩, ⟨some 3, .mov (.t 24), none⟩, ⟨some 4, .mov (.t 25), none⟩]
def zZx.c : Cf := ⟨26, [.tmp 3, .tmp 4], (.seq (.region zZx.r0) (.seq (.region zZx.r1) (.seq (.draw zZx.r2 [[], [], [1], [2], [3], [], [5], [4, 6], [0, 0, 1, 2, 3, 4, 5, 6, 7], [8, 0, 1, 2, 3, 4, 5, 6, 7], [9, 7, 7, 0, 1, 2, 3, 4, 5, 6, 7]] [2, 3, 5, 8, 9]) (.seq (.region zZx.r3) .ret)))), false⟩
abbrev zZx : V := .fn (.func 49) [] []
abbrev zZx.k : Nat := 49
def zZy.r0 : List Cp := [⟨some 2, .mov (.c (.nils)), none⟩]
def zZy.r1 : List Cp := [⟨some 3, .mov (.c (.nils)), none⟩]
def zZy.r2 : List Cp := [⟨some 5, .mov (.t 0), none⟩, ⟨some 6, .len .s (.t 5), none⟩, ⟨some 7, .mov (.c (.int .i64 0)), none⟩]
def zZy.r3 : List Cp := [⟨some 8, .bin .lss (.t 7) (.t 6), none⟩]
def zZy.r4 : List Cp := [⟨some 9, .mov (.t 7), none⟩, ⟨some 4, .mov (.t 9), none⟩]
def zZy.r5 : List Cp := [⟨some 10, .mov (.t 3), none⟩, ⟨some 11, .mov (.t 0), none⟩, ⟨some 12, .mov (.t 4), none⟩, ⟨some 13, .idxS (.t 11) (.t 12), none⟩, ⟨some 14, .conv (.int .u16) (.t 13), none⟩, ⟨some 15, .bslice [.int .u16 0] 1 1 [(0, (.t 14))], none⟩, ⟨some 16, .app 1 2 (.t 10) (.t 15), none⟩, ⟨some 3, .mov (.t 16), none⟩]
def zZy.r6 : List Cp := [⟨some 17, .bin .add (.t 7) (.c (.int .i64 1)), none⟩, ⟨some 7, .mov (.t 17), none⟩]
def zZy.b7 : Cc := (.seq (.region zZy.r3) (.seq (.cond (.t 8) .skip (.exit 0)) (.seq (.block 1 (.seq (.region zZy.r4) (.region zZy.r5))) (.region zZy.r6))))
def zZy.r8 : List Cp := [⟨some 18, .mov (.t 3), none⟩, ⟨some 2, .mov (.t 18), none⟩]
def zZy.c : Cf := ⟨19, [.tmp 2], (.seq (.region zZy.r0) (.seq (.region zZy.r1) (.seq (.seq (.region zZy.r2) (.block 0 (.loop zZy.b7))) (.seq (.region zZy.r8) .ret)))), true⟩
abbrev zZy : V := .fn (.func 50) [] []
abbrev zZy.k : Nat := 50
def zZt.r0 : List Cp := [⟨some 3, .mov (.c (.str ⟨#[]⟩)), none⟩, ⟨some 4, .mov (.c (.bool false)), none⟩]
def zZt.r1 : List Cp := [⟨some 9, .mov (.t 0), none⟩, ⟨some 10, .call (.c (.fn (.func 44) [] [])) [(.t 9), (.c (.int .i64 2)), (.c (.int .u8 120))], none⟩, ⟨some 8, .mov (.t 10), none⟩, ⟨some 11, .ext (.t 8) 0, none⟩, ⟨some 12, .ext (.t 8) 1, none⟩, ⟨some 13, .ext (.t 8) 2, none⟩, ⟨some 5, .mov (.t 11), none⟩, ⟨some 6, .mov (.t 12), none⟩, ⟨some 7, .mov (.t 13), none⟩]
def zZt.r2 : List Cp := [⟨some 14, .load none (.t 1), none⟩, ⟨some 15, .load none (.t 1), none⟩, ⟨some 16, .nilchk (.t 15), none⟩, ⟨some 17, .faddr 10 (.t 16), none⟩, ⟨some 18, .load none (.t 17), none⟩, ⟨some 19, .mov (.t 5), none⟩, ⟨some 20, .call (.c (.fn (.func 45) [] [])) [(.t 19)], none⟩, ⟨some 21, .conv .bytesStr (.t 20), none⟩, ⟨some 22, .bslice [.str ⟨#[]⟩] 1 1 [(0, (.t 21))], none⟩, ⟨some 23, .app 1 16 (.t 18) (.t 22), none⟩, ⟨some 24, .nilchk (.t 14), none⟩, ⟨some 25, .faddr 10 (.t 24), none⟩, ⟨none, .store 1 (.t 25) (.t 23), none⟩]
def zZt.r3 : List Cp := [⟨some 26, .mov (.t 6), none⟩, ⟨some 27, .mov (.t 7), none⟩, ⟨some 3, .mov (.t 26), none⟩, ⟨some 4, .mov (.t 27), none⟩]
def zZt.c : Cf := ⟨28, [.tmp 3, .tmp 4], (.seq (.region zZt.r0) (.seq (.region zZt.r1) (.seq (.draw zZt.r2 [[], [], [1], [2], [3], [], [5], [6], [7], [4, 8, 6], [0, 0, 1, 2, 3, 4, 5, 6, 7, 8, 9], [10, 0, 1, 2, 3, 4, 5, 6, 7, 8, 9], [11, 9, 9, 0, 1, 2, 3, 4, 5, 6, 7, 8, 9]] [2, 3, 5, 10, 11]) (.seq (.region zZt.r3) .ret)))), false⟩
abbrev zZt : V := .fn (.func 51) [] []
abbrev zZt.k : Nat := 51
def zZe.r0 : List Cp := [⟨some 4, .mov (.c (.str ⟨#[]⟩)), none⟩, ⟨some 5, .mov (.c (.bool false)), none⟩]
def zZe.r1 : List Cp := [⟨some 6, .mov (.t 0), none⟩, ⟨some 7, .mov (.t 1), none⟩, ⟨some 8, .call (.c (.fn (.func 63) [] [])) [(.t 6), (.t 7)], none⟩, ⟨some 9, .un .not (.t 8), none⟩]
def zZe.r2 : List Cp := [⟨some 10, .mov (.t 0), none⟩, ⟨some 4, .mov (.t 10), none⟩, ⟨some 5, .mov (.c (.bool false)), none⟩]
def zZe.r3 : List Cp := [⟨some 11, .mov (.t 0), none⟩, ⟨some 12, .mov (.t 1), none⟩, ⟨some 13, .len .s (.t 12), none⟩, ⟨some 14, .slice .s 1 (.t 11) (some (.t 13)) none, none⟩, ⟨some 4, .mov (.t 14), none⟩, ⟨some 5, .mov (.c (.bool true)), none⟩]
def zZe.c : Cf := ⟨15, [.tmp 4, .tmp 5], (.seq (.region zZe.r0) (.seq (.seq (.region zZe.r1) (.cond (.t 9) (.seq (.region zZe.r2) .ret) .skip)) (.seq (.region zZe.r3) .ret))), true⟩
abbrev zZe : V := .fn (.func 52) [] []
abbrev zZe.k : Nat := 52
abbrev vZr : V := .fn (.func 53) [] []
def zZi.r0 : List Cp := [⟨some 4, .alloc [.int .u8 0, .int .i64 0, .int .i64 0, .int .i64 0, .int .i64 0, .int .i64 0, .str ⟨#[]⟩, .str ⟨#[]⟩, .nils, .nils, .nils, .bool false], none⟩, ⟨some 5, .mov (.c (.bool false)), none⟩]
def zZi.r1 : List Cp := [⟨some 9, .mov (.t 1), none⟩, ⟨some 10, .call (.c (.fn (.func 14) [] [])) [(.t 9)], none⟩, ⟨some 8, .mov (.t 10), none⟩, ⟨some 11, .ext (.t 8) 0, none⟩, ⟨some 12, .ext (.t 8) 1, none⟩, ⟨some 6, .alloc [.int .u8 0, .int .i64 0, .int .i64 0, .int .i64 0, .int .i64 0, .int .i64 0, .str ⟨#[]⟩, .str ⟨#[]⟩, .nils, .nils, .nils, .bool false], none⟩, ⟨none, .store 12 (.t 6) (.t 11), none⟩, ⟨some 7, .mov (.t 12), none⟩]
def zZi.r2 : List Cp := [⟨some 13, .mov (.t 0), none⟩, ⟨some 14, .nilchk (.t 13), none⟩, ⟨some 15, .faddr 2 (.t 14), none⟩, ⟨some 16, .load none (.t 15), none⟩, ⟨some 17, .bin .add (.t 16) (.c (.int .i64 1)), none⟩, ⟨some 18, .nilchk (.t 13), none⟩, ⟨some 19, .faddr 2 (.t 18), none⟩, ⟨none, .store 1 (.t 19) (.t 17), none⟩]
def zZi.r3 : List Cp := [⟨some 21, .mov (.t 7), none⟩, ⟨some 22, .un .not (.t 21), none⟩, ⟨some 20, .mov (.t 22), none⟩]
def zZi.r4 : List Cp := [⟨some 23, .mov (.t 0), none⟩, ⟨some 24, .nilchk (.t 23), none⟩, ⟨some 25, .faddr 3 (.t 24), none⟩, ⟨none, .store 1 (.t 25) (.c (.int .i64 20)), none⟩]
def zZi.r5 : List Cp := [⟨some 27, .mov (.t 0), none⟩, ⟨some 28, .nilchk (.t 27), none⟩, ⟨some 29, .faddr 2 (.t 28), none⟩, ⟨some 30, .load none (.t 29), none⟩, ⟨some 31, .bin .gtr (.t 30) (.c (.int .i64 8192)), none⟩, ⟨some 26, .mov (.t 31), none⟩]
def zZi.r6 : List Cp := [⟨some 32, .mov (.t 0), none⟩, ⟨some 33, .nilchk (.t 32), none⟩, ⟨some 34, .faddr 3 (.t 33), none⟩, ⟨none, .store 1 (.t 34) (.c (.int .i64 3)), none⟩]
def zZi.r7 : List Cp := [⟨some 35, .load (some 12) (.t 6), none⟩, ⟨some 36, .mov (.t 0), none⟩, ⟨some 37, .nilchk (.t 36), none⟩, ⟨some 38, .faddr 3 (.t 37), none⟩, ⟨some 39, .load none (.t 38), none⟩, ⟨some 40, .bin .eql (.t 39) (.c (.int .i64 0)), none⟩, ⟨none, .store 12 (.t 4) (.t 35), none⟩, ⟨some 5, .mov (.t 40), none⟩]
def zZi.c : Cf := ⟨41, [.cell 4 (some 12), .tmp 5], (.seq (.region zZi.r0) (.seq (.region zZi.r1) (.seq (.region zZi.r2) (.seq (.block 0 (.seq (.region zZi.r3) (.cond (.t 20) (.region zZi.r4) (.seq (.region zZi.r5) (.cond (.t 26) (.region zZi.r6) .skip))))) (.seq (.draw zZi.r7 [[], [], [1], [2], [3], [4], [0, 0], [5, 6, 0, 1, 2, 3, 4, 5, 6]] [1, 2, 3, 5, 7]) .ret))))), false⟩
abbrev zZi : V := .fn (.func 54) [] []
abbrev zZi.k : Nat := 54
def zZj.r0 : List Cp := [⟨some 4, .mov (.c (.str ⟨#[]⟩)), none⟩, ⟨some 5, .mov (.c (.str ⟨#[]⟩)), none⟩, ⟨some 6, .mov (.c (.bool false)), none⟩]
def zZj.r1 : List Cp := [⟨some 8, .mov (.t 0), none⟩, ⟨some 9, .mov (.t 1), none⟩, ⟨some 10, .call (.c (.fn (.func 66) [] [])) [(.t 8), (.t 9)], none⟩, ⟨some 7, .mov (.t 10), none⟩]
def zZj.r2 : List Cp := [⟨some 11, .mov (.t 7), none⟩, ⟨some 12, .bin .geq (.t 11) (.c (.int .i64 0)), none⟩]
def zZj.r3 : List Cp := [⟨some 13, .mov (.t 0), none⟩, ⟨some 14, .mov (.t 7), none⟩, ⟨some 15, .slice .s 1 (.t 13) none (some (.t 14)), none⟩, ⟨some 16, .mov (.t 0), none⟩, ⟨some 17, .mov (.t 7), none⟩, ⟨some 18, .mov (.t 1), none⟩, ⟨some 19, .len .s (.t 18), none⟩, ⟨some 20, .bin .add (.t 17) (.t 19), none⟩, ⟨some 21, .slice .s 1 (.t 16) (some (.t 20)) none, none⟩, ⟨some 4, .mov (.t 15), none⟩, ⟨some 5, .mov (.t 21), none⟩, ⟨some 6, .mov (.c (.bool true)), none⟩]
def zZj.r4 : List Cp := [⟨some 22, .mov (.t 0), none⟩, ⟨some 4, .mov (.t 22), none⟩, ⟨some 5, .mov (.c (.str ⟨#[]⟩)), none⟩, ⟨some 6, .mov (.c (.bool false)), none⟩]
def zZj.c : Cf := ⟨23, [.tmp 4, .tmp 5, .tmp 6], (.seq (.region zZj.r0) (.seq (.seq (.region zZj.r1) (.seq (.region zZj.r2) (.cond (.t 12) (.seq (.draw zZj.r3 [[], [], [0, 1], [], [], [], [5], [4, 6], [3, 7], [2, 0, 1, 2], [8, 9, 0, 1, 2, 3, 4, 5, 6, 7, 8, 9], [10, 0, 1, 2, 3, 4, 5, 6, 7, 8, 9, 10]] [0, 1, 2, 3, 4, 5, 7, 8, 9, 10, 11]) .ret) .skip))) (.seq (.region zZj.r4) .ret))), true⟩
abbrev zZj : V := .fn (.func 55) [] []
abbrev zZj.k : Nat := 55
def qZa.r0 : List Cp := [⟨some 2, .mov (.c (.bool false)), none⟩]
def qZa.r1 : List Cp := [⟨some 3, .mov (.t 0), none⟩, ⟨some 4, .call (.c (.fn (.func 59) [] [])) [(.t 3)], none⟩, ⟨some 5, .mov (.t 4), none⟩, ⟨some 6, .mov (.t 0), (some (5, true))⟩, ⟨some 7, .bin .neq (.t 6) (.c (.int .u16 34)), (some (5, true))⟩, ⟨some 8, .pick (.t 5) (.t 7) (.c (.bool false)), none⟩, ⟨some 9, .mov (.t 8), none⟩, ⟨some 10, .mov (.t 0), (some (9, true))⟩, ⟨some 11, .bin .neq (.t 10) (.c (.int .u16 92)), (some (9, true))⟩, ⟨some 12, .pick (.t 9) (.t 11) (.c (.bool false)), none⟩, ⟨some 2, .mov (.t 12), none⟩]
def qZa.c : Cf := ⟨13, [.tmp 2], (.seq (.region qZa.r0) (.seq (.region qZa.r1) .ret)), true⟩
abbrev qZa : V := .fn (.func 57) [] []
abbrev qZa.k : Nat := 57
def zZF.r0 : List Cp := [⟨some 4, .mov (.c (.int .i64 0)), none⟩]
def zZF.r1 : List Cp := [⟨some 5, .mov (.t 0), none⟩, ⟨some 6, .mov (.t 1), none⟩, ⟨some 7, .call (.c (.fn (.func 68) [] [])) [(.t 5), (.t 6)], none⟩, ⟨some 4, .mov (.t 7), none⟩]
def zZF.c : Cf := ⟨8, [.tmp 4], (.seq (.region zZF.r0) (.seq (.region zZF.r1) .ret)), true⟩
abbrev zZF : V := .fn (.func 58) [] []
abbrev zZF.k : Nat := 58
def zZ7.r0 : List Cp := [⟨some 2, .mov (.c (.bool false)), none⟩]
def zZ7.r1 : List Cp := [⟨some 3, .mov (.t 0), none⟩, ⟨some 4, .bin .geq (.t 3) (.c (.int .u16 32)), none⟩, ⟨some 5, .mov (.t 4), none⟩, ⟨some 6, .mov (.t 0), (some (5, true))⟩, ⟨some 7, .bin .leq (.t 6) (.c (.int .u16 126)), (some (5, true))⟩, ⟨some 8, .pick (.t 5) (.t 7) (.c (.bool false)), none⟩, ⟨some 2, .mov (.t 8), none⟩]
def zZ7.c : Cf := ⟨9, [.tmp 2], (.seq (.region zZ7.r0) (.seq (.region zZ7.r1) .ret)), true⟩
abbrev zZ7 : V := .fn (.func 59) [] []
abbrev zZ7.k : Nat := 59
def zZk.r0 : List Cp := [⟨some 4, .mov (.c (.bool false)), none⟩]
def zZk.r1 : List Cp := [⟨some 5, .mov (.t 0), none⟩, ⟨some 6, .len .s (.t 5), none⟩, ⟨some 7, .mov (.t 1), none⟩, ⟨some 8, .len .s (.t 7), none⟩, ⟨some 9, .bin .geq (.t 6) (.t 8), none⟩, ⟨some 10, .mov (.t 9), none⟩, ⟨some 11, .mov (.t 0), (some (10, true))⟩, ⟨some 12, .mov (.t 1), (some (10, true))⟩, ⟨some 13, .len .s (.t 12), (some (10, true))⟩, ⟨some 14, .slice .s 1 (.t 11) none (some (.t 13)), (some (10, true))⟩, ⟨some 15, .mov (.t 1), (some (10, true))⟩, ⟨some 16, .bin .eql (.t 14) (.t 15), (some (10, true))⟩, ⟨some 17, .pick (.t 10) (.t 16) (.c (.bool false)), none⟩, ⟨some 4, .mov (.t 17), none⟩]
def zZk.c : Cf := ⟨18, [.tmp 4], (.seq (.region zZk.r0) (.seq (.region zZk.r1) .ret)), true⟩
abbrev zZk : V := .fn (.func 63) [] []
abbrev zZk.k : Nat := 63
abbrev qZj : V := .fn (.func 66) [] []
abbrev qZe : V := .fn (.func 68) [] []
def Φ (f : Nat) : Option Cf := if f < 32 then (if f < 17 then (if f < 10 then (if f < 6 then (if f < 4 then (if f = 3 then some (zZb.c) else none) else (if f < 5 then (if f = 4 then some (zZA.c) else none) else (if f = 5 then some (zZU.c) else none))) else (if f < 8 then (if f < 7 then (if f = 6 then some (zZg.c) else none) else (if f = 7 then some (zZr.c) else none)) else (if f < 9 then (if f = 8 then some (zZB.c) else none) else (if f = 9 then some (zZw.c) else none)))) else (if f < 13 then (if f < 11 then (if f = 10 then some (zZK.c) else none) else (if f < 12 then (if f = 11 then some (zZX.c) else none) else (if f = 12 then some (zZ0.c) else none))) else (if f < 15 then (if f < 14 then (if f = 13 then some (zZa.c) else none) else (if f = 14 then some (zZh.c) else none)) else (if f < 16 then (if f = 15 then some (qZd.c) else none) else (if f = 16 then some (zZM.c) else none))))) else (if f < 24 then (if f < 20 then (if f < 18 then (if f = 17 then some (zZN.c) else none) else (if f < 19 then (if f = 18 then some (zZO.c) else none) else (if f = 19 then some (zZP.c) else none))) else (if f < 22 then (if f < 21 then (if f = 20 then some (zZQ.c) else none) else (if f = 21 then some (qZb.c) else none)) else (if f < 23 then (if f = 22 then some (zZR.c) else none) else (if f = 23 then some (zZS.c) else none)))) else (if f < 28 then (if f < 26 then (if f < 25 then (if f = 24 then some (zZI.c) else none) else (if f = 25 then some (zZC.c) else none)) else (if f < 27 then (if f = 26 then some (zZp.c) else none) else (if f = 27 then some (zZT.c) else none))) else (if f < 30 then (if f < 29 then (if f = 28 then some (zZn.c) else none) else (if f = 29 then some (zZH.c) else none)) else (if f < 31 then (if f = 30 then some (zZD.c) else none) else (if f = 31 then some (zZz.c) else none)))))) else (if f < 47 then (if f < 39 then (if f < 35 then (if f < 33 then (if f = 32 then some (zZm.c) else none) else (if f < 34 then (if f = 33 then some (zZE.c) else none) else (if f = 34 then some (zZv.c) else none))) else (if f < 37 then (if f < 36 then (if f = 35 then some (zZf.c) else none) else (if f = 36 then some (zZd.c) else none)) else (if f < 38 then (if f = 37 then some (qZc.c) else none) else (if f = 38 then some (zZ6.c) else none)))) else (if f < 43 then (if f < 41 then (if f < 40 then (if f = 39 then some (primF1 .itoa) else none) else (if f = 40 then some (zZZ.c) else none)) else (if f < 42 then (if f = 41 then some (zZ1.c) else none) else (if f = 42 then some (zZ5.c) else none))) else (if f < 45 then (if f < 44 then (if f = 43 then some (zZL.c) else none) else (if f = 44 then some (zZc.c) else none)) else (if f < 46 then (if f = 45 then some (zZu.c) else none) else (if f = 46 then some (zZl.c) else none))))) else (if f < 54 then (if f < 50 then (if f < 48 then (if f = 47 then some (primF2 .join) else none) else (if f < 49 then (if f = 48 then some (zZo.c) else none) else (if f = 49 then some (zZx.c) else none))) else (if f < 52 then (if f < 51 then (if f = 50 then some (zZy.c) else none) else (if f = 51 then some (zZt.c) else none)) else (if f < 53 then (if f = 52 then some (zZe.c) else none) else (if f = 53 then some (primF1 (.atoi 109)) else none)))) else (if f < 59 then (if f < 57 then (if f < 55 then (if f = 54 then some (zZi.c) else none) else (if f = 55 then some (zZj.c) else none)) else (if f < 58 then (if f = 57 then some (qZa.c) else none) else (if f = 58 then some (zZF.c) else none))) else (if f < 66 then (if f < 63 then (if f = 59 then some (zZ7.c) else none) else (if f = 63 then some (zZk.c) else none)) else (if f < 68 then (if f = 66 then some (primF2 .sidx) else none) else (if f = 68 then some (primF2 .sbyte) else none))))))
theorem zZb.Φ : Φ 3 = some (zZb.c) := rfl
theorem zZA.Φ : Φ 4 = some (zZA.c) := rfl
theorem zZU.Φ : Φ 5 = some (zZU.c) := rfl
theorem zZg.Φ : Φ 6 = some (zZg.c) := rfl
theorem zZr.Φ : Φ 7 = some (zZr.c) := rfl
theorem zZB.Φ : Φ 8 = some (zZB.c) := rfl
theorem zZw.Φ : Φ 9 = some (zZw.c) := rfl
theorem zZK.Φ : Φ 10 = some (zZK.c) := rfl
theorem zZX.Φ : Φ 11 = some (zZX.c) := rfl
theorem zZ0.Φ : Φ 12 = some (zZ0.c) := rfl
theorem zZa.Φ : Φ 13 = some (zZa.c) := rfl
theorem zZh.Φ : Φ 14 = some (zZh.c) := rfl
theorem qZd.Φ : Φ 15 = some (qZd.c) := rfl
theorem zZM.Φ : Φ 16 = some (zZM.c) := rfl
theorem zZN.Φ : Φ 17 = some (zZN.c) := rfl
theorem zZO.Φ : Φ 18 = some (zZO.c) := rfl
theorem zZP.Φ : Φ 19 = some (zZP.c) := rfl
theorem zZQ.Φ : Φ 20 = some (zZQ.c) := rfl
theorem qZb.Φ : Φ 21 = some (qZb.c) := rfl
theorem zZR.Φ : Φ 22 = some (zZR.c) := rfl
theorem zZS.Φ : Φ 23 = some (zZS.c) := rfl
theorem zZI.Φ : Φ 24 = some (zZI.c) := rfl
theorem zZC.Φ : Φ 25 = some (zZC.c) := rfl
theorem zZp.Φ : Φ 26 = some (zZp.c) := rfl
theorem zZT.Φ : Φ 27 = some (zZT.c) := rfl
theorem zZn.Φ : Φ 28 = some (zZn.c) := rfl
theorem zZH.Φ : Φ 29 = some (zZH.c) := rfl
theorem zZD.Φ : Φ 30 = some (zZD.c) := rfl
theorem zZz.Φ : Φ 31 = some (zZz.c) := rfl
theorem zZm.Φ : Φ 32 = some (zZm.c) := rfl
theorem zZE.Φ : Φ 33 = some (zZE.c) := rfl
theorem zZv.Φ : Φ 34 = some (zZv.c) := rfl
theorem zZf.Φ : Φ 35 = some (zZf.c) := rfl
theorem zZd.Φ : Φ 36 = some (zZd.c) := rfl
theorem qZc.Φ : Φ 37 = some (qZc.c) := rfl
theorem zZ6.Φ : Φ 38 = some (zZ6.c) := rfl
theorem strconv_Itoa.Φ : Φ 39 = some (primF1 .itoa) := rfl
theorem zZZ.Φ : Φ 40 = some (zZZ.c) := rfl
theorem zZ1.Φ : Φ 41 = some (zZ1.c) := rfl
theorem zZ5.Φ : Φ 42 = some (zZ5.c) := rfl
theorem zZL.Φ : Φ 43 = some (zZL.c) := rfl
theorem zZc.Φ : Φ 44 = some (zZc.c) := rfl
theorem zZu.Φ : Φ 45 = some (zZu.c) := rfl
theorem zZl.Φ : Φ 46 = some (zZl.c) := rfl
theorem strings_Join.Φ : Φ 47 = some (primF2 .join) := rfl
theorem zZo.Φ : Φ 48 = some (zZo.c) := rfl
theorem zZx.Φ : Φ 49 = some (zZx.c) := rfl
theorem zZy.Φ : Φ 50 = some (zZy.c) := rfl
theorem zZt.Φ : Φ 51 = some (zZt.c) := rfl
theorem zZe.Φ : Φ 52 = some (zZe.c) := rfl
theorem vZr.Φ : Φ 53 = some (primF1 (.atoi 109)) := rfl
theorem zZi.Φ : Φ 54 = some (zZi.c) := rfl
theorem zZj.Φ : Φ 55 = some (zZj.c) := rfl
theorem qZa.Φ : Φ 57 = some (qZa.c) := rfl
theorem zZF.Φ : Φ 58 = some (zZF.c) := rfl
theorem zZ7.Φ : Φ 59 = some (zZ7.c) := rfl
theorem zZk.Φ : Φ 63 = some (zZk.c) := rfl
theorem qZj.Φ : Φ 66 = some (primF2 .sidx) := rfl
theorem qZe.Φ : Φ 68 = some (primF2 .sbyte) := rfl
end Go.Proofs.Sc
