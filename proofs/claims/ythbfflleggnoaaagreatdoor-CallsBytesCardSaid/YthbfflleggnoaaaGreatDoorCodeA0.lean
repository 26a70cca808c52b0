/- The functions as the VM's code. -/
import Derived.Test.YthbfflleggnoaaaGreatDoorVmEq
set_option linter.unusedVariables false
set_option linter.unusedSimpArgs false
namespace Go.Vm.Tryz
open Go Go.Vm
/-! crannog/crannoglaw13.CallsBytes -/
abbrev r3_1 : List SOper := [
  ⟨some 3, none, .boxL (.t 0)⟩,
  ⟨some 4, none, .boxL (.t 1)⟩,
  ⟨some 5, none, .boxL (.t 2)⟩,
  ⟨some 6, none, .mov (.c (.bool false))⟩]
abbrev r3_2 : List SOper := [
  ⟨some 7, none, .load false true 13 (.t 3)⟩,
  ⟨some 8, none, .bsnap 13 [.t 7]⟩,
  ⟨some 9, none, .build [.int .i64 0, .int .i64 0, .int .i64 0, .int .i64 0, .int .i64 0, .int .i64 0, .int .i64 0, .int .i64 0, .nils, .nils] [(8, 1, .t 8)]⟩,
  ⟨some 10, none, .call false (.c (.func 7 [])) [.t 9]⟩,
  ⟨some 11, none, .un .not (.t 10)⟩,
  ⟨some 12, none, .mov (.t 11)⟩,
  ⟨some 13, some (12, false), .faddr 2 (.t 4)⟩,
  ⟨some 14, some (12, false), .load false false 1 (.t 13)⟩,
  ⟨some 15, some (12, false), .len 1 (.t 14)⟩,
  ⟨some 16, some (12, false), .bin .gtr (.t 15) (.c (.int .i64 100))⟩,
  ⟨some 17, none, .pick (.t 12) (.c (.bool true)) (.t 16)⟩,
  ⟨some 18, none, .mov (.t 17)⟩,
  ⟨some 19, some (18, false), .faddr 2 (.t 5)⟩,
  ⟨some 20, some (18, false), .load false false 1 (.t 19)⟩,
  ⟨some 21, some (18, false), .len 1 (.t 20)⟩,
  ⟨some 22, some (18, false), .bin .gtr (.t 21) (.c (.int .i64 100))⟩,
  ⟨some 23, none, .pick (.t 18) (.c (.bool true)) (.t 22)⟩]
abbrev r3_3 : List SOper := [
  ⟨some 24, none, .call false (.c (.func 8 [])) []⟩,
  ⟨some 6, none, .mov (.t 24)⟩]
abbrev c3_4 : SC := .seq (.ops r3_3) (.ret)
abbrev c3_5 : SC := .cond (.t 23) c3_4 (.skip)
abbrev c3_6 : SC := .seq (.ops r3_2) c3_5
abbrev r3_7 : List SOper := [
  ⟨some 25, none, .load false true 13 (.t 3)⟩,
  ⟨some 26, none, .call true (.c (.func 9 [])) [.t 25]⟩,
  ⟨some 27, none, .load true true 13 (.t 3)⟩,
  ⟨some 28, none, .call false (.c (.func 10 [])) [.t 27]⟩,
  ⟨some 29, none, .bin .eql (.t 26) (.t 28)⟩,
  ⟨some 30, none, .mov (.t 29)⟩,
  ⟨some 31, some (30, true), .load false true 10 (.t 4)⟩,
  ⟨some 32, some (30, true), .load false true 10 (.t 5)⟩,
  ⟨some 33, some (30, true), .call true (.c (.func 11 [])) [.t 31, .t 32]⟩,
  ⟨some 34, some (30, true), .load true true 10 (.t 4)⟩,
  ⟨some 35, some (30, true), .load true true 10 (.t 5)⟩,
  ⟨some 36, some (30, true), .call false (.c (.func 12 [])) [.t 34, .t 35]⟩,
  ⟨some 37, some (30, true), .cmpB false (.t 33) (.t 36)⟩,
  ⟨some 38, none, .pick (.t 30) (.t 37) (.c (.bool false))⟩,
  ⟨some 39, none, .mov (.t 38)⟩,
  ⟨some 40, some (39, true), .load false true 10 (.t 4)⟩,
  ⟨some 41, some (39, true), .load false true 10 (.t 4)⟩,
  ⟨some 42, some (39, true), .call false (.c (.func 11 [])) [.t 40, .t 41]⟩,
  ⟨some 43, none, .pick (.t 39) (.t 42) (.c (.bool false))⟩,
  ⟨some 44, none, .mov (.t 43)⟩,
  ⟨some 45, some (44, true), .call false (.c (.func 8 [])) []⟩,
  ⟨some 46, none, .pick (.t 44) (.t 45) (.c (.bool false))⟩,
  ⟨some 6, none, .mov (.t 46)⟩]
abbrev c3_8 : SC := .seq (.draw 0 [[], [0], [], [1, 2], [3], [4], [5], [5], [6, 7], [5], [5], [8, 9, 10], [11], [12], [13], [14], [14], [15, 16], [17], [18], [19], [20], [21]] r3_7) (.ret)
abbrev c3_9 : SC := .seq c3_6 c3_8
abbrev c3_10 : SC := .seq (.ops r3_1) c3_9
def s3 : SF := ⟨[.t 6], c3_10, false, none, none⟩
/-! crannog/crannogplain.Small -/
abbrev r7_1 : List SOper := [
  ⟨some 1, none, .boxL (.t 0)⟩,
  ⟨some 2, none, .mov (.c (.bool false))⟩]
abbrev r7_2 : List SOper := [
  ⟨some 12, none, .faddr 8 (.t 1)⟩,
  ⟨some 13, none, .load false false 1 (.t 12)⟩,
  ⟨some 14, none, .len 1 (.t 13)⟩,
  ⟨some 15, none, .bin .gtr (.t 14) (.c (.int .i64 120))⟩,
  ⟨some 16, none, .mov (.t 15)⟩,
  ⟨some 17, some (16, false), .faddr 9 (.t 1)⟩,
  ⟨some 18, some (16, false), .load false false 1 (.t 17)⟩,
  ⟨some 19, some (16, false), .len 1 (.t 18)⟩,
  ⟨some 20, some (16, false), .bin .gtr (.t 19) (.c (.int .i64 120))⟩,
  ⟨some 21, none, .pick (.t 16) (.c (.bool true)) (.t 20)⟩]
abbrev r7_3 : List SOper := [
  ⟨some 2, none, .mov (.c (.bool false))⟩]
abbrev c7_4 : SC := .seq (.ops r7_3) (.ret)
abbrev c7_5 : SC := .cond (.t 21) c7_4 (.skip)
abbrev c7_6 : SC := .seq (.ops r7_2) c7_5
abbrev r7_7 : List SOper := [
  ⟨some 3, none, .mov (.c (.int .i64 0))⟩]
abbrev r7_8 : List SOper := [
  ⟨some 22, none, .faddr 8 (.t 1)⟩,
  ⟨some 23, none, .load false false 1 (.t 22)⟩,
  ⟨some 24, none, .len 1 (.t 23)⟩,
  ⟨some 25, none, .mov (.c (.int .i64 0))⟩]
abbrev r7_9 : List SOper := [
  ⟨some 26, none, .bin .lss (.t 25) (.t 24)⟩]
abbrev c7_10 : SC := .cond (.t 26) (.skip) (.exit 0)
abbrev r7_11 : List SOper := [
  ⟨some 27, none, .iaddr none 13 (.t 23) (.t 25)⟩,
  ⟨some 28, none, .load false true 13 (.t 27)⟩,
  ⟨some 5, none, .allocL [.int .i64 0, .int .i64 0, .int .i64 0, .str [], .int .i64 0, .int .i64 0, .int .i64 0, .int .u64 0, .int .i64 0, .int .i64 0, .int .i64 0, .nils, .nils]⟩,
  ⟨none, none, .store 13 (.t 5) (.t 28)⟩]
abbrev r7_12 : List SOper := [
  ⟨some 29, none, .mov (.t 3)⟩,
  ⟨some 30, none, .faddr 3 (.t 5)⟩,
  ⟨some 31, none, .load false false 1 (.t 30)⟩,
  ⟨some 32, none, .len 0 (.t 31)⟩,
  ⟨some 33, none, .minmax false [.t 32, .c (.int .i64 16384)]⟩,
  ⟨some 34, none, .bin .add (.t 29) (.t 33)⟩,
  ⟨some 3, none, .mov (.t 34)⟩]
abbrev r7_13 : List SOper := [
  ⟨some 35, none, .faddr 11 (.t 5)⟩,
  ⟨some 36, none, .load false false 1 (.t 35)⟩,
  ⟨some 37, none, .len 1 (.t 36)⟩,
  ⟨some 38, none, .bin .gtr (.t 37) (.c (.int .i64 120))⟩,
  ⟨some 39, none, .mov (.t 38)⟩,
  ⟨some 40, some (39, false), .faddr 12 (.t 5)⟩,
  ⟨some 41, some (39, false), .load false false 1 (.t 40)⟩,
  ⟨some 42, some (39, false), .len 1 (.t 41)⟩,
  ⟨some 43, some (39, false), .bin .gtr (.t 42) (.c (.int .i64 120))⟩,
  ⟨some 44, none, .pick (.t 39) (.c (.bool true)) (.t 43)⟩]
abbrev r7_14 : List SOper := [
  ⟨some 2, none, .mov (.c (.bool false))⟩]
abbrev c7_15 : SC := .seq (.ops r7_14) (.ret)
abbrev c7_16 : SC := .cond (.t 44) c7_15 (.skip)
abbrev c7_17 : SC := .seq (.ops r7_13) c7_16
abbrev c7_18 : SC := .seq (.ops r7_12) c7_17
abbrev r7_19 : List SOper := [
  ⟨some 45, none, .faddr 11 (.t 5)⟩,
  ⟨some 46, none, .load false false 1 (.t 45)⟩,
  ⟨some 47, none, .len 1 (.t 46)⟩,
  ⟨some 48, none, .mov (.c (.int .i64 0))⟩]
abbrev r7_20 : List SOper := [
  ⟨some 49, none, .bin .lss (.t 48) (.t 47)⟩]
abbrev c7_21 : SC := .cond (.t 49) (.skip) (.exit 2)
abbrev r7_22 : List SOper := [
  ⟨some 50, none, .iaddr none 4 (.t 46) (.t 48)⟩,
  ⟨some 51, none, .load false true 4 (.t 50)⟩,
  ⟨some 7, none, .allocL [.int .i64 0, .int .i64 0, .int .i64 0, .str []]⟩,
  ⟨none, none, .store 4 (.t 7) (.t 51)⟩]
abbrev r7_23 : List SOper := [
  ⟨some 52, none, .mov (.t 3)⟩,
  ⟨some 53, none, .faddr 3 (.t 7)⟩,
  ⟨some 54, none, .load false false 1 (.t 53)⟩,
  ⟨some 55, none, .len 0 (.t 54)⟩,
  ⟨some 56, none, .minmax false [.t 55, .c (.int .i64 16384)]⟩,
  ⟨some 57, none, .bin .add (.c (.int .i64 1)) (.t 56)⟩,
  ⟨some 58, none, .bin .add (.t 52) (.t 57)⟩,
  ⟨some 3, none, .mov (.t 58)⟩]
abbrev c7_24 : SC := .seq (.ops r7_22) (.ops r7_23)
abbrev c7_25 : SC := .block 3 [1, 3, 5, 23, 24, 25, 46, 47, 48] [1, 5] c7_24
abbrev r7_26 : List SOper := [
  ⟨some 59, none, .bin .add (.t 48) (.c (.int .i64 1))⟩,
  ⟨some 48, none, .mov (.t 59)⟩]
abbrev c7_27 : SC := .seq c7_25 (.ops r7_26)
abbrev c7_28 : SC := .seq c7_21 c7_27
abbrev c7_29 : SC := .seq (.ops r7_20) c7_28
abbrev L7_1 : SC := .loop [1, 3, 5, 23, 24, 25, 46, 47, 48] [1, 5] c7_29
abbrev c7_30 : SC := .block 2 [1, 3, 5, 23, 24, 25] [1, 5] L7_1
abbrev c7_31 : SC := .seq (.ops r7_19) c7_30
abbrev r7_32 : List SOper := [
  ⟨some 60, none, .faddr 12 (.t 5)⟩,
  ⟨some 61, none, .load false false 1 (.t 60)⟩,
  ⟨some 62, none, .len 1 (.t 61)⟩,
  ⟨some 63, none, .mov (.c (.int .i64 0))⟩]
abbrev r7_33 : List SOper := [
  ⟨some 64, none, .bin .lss (.t 63) (.t 62)⟩]
abbrev c7_34 : SC := .cond (.t 64) (.skip) (.exit 4)
abbrev r7_35 : List SOper := [
  ⟨some 65, none, .iaddr none 5 (.t 61) (.t 63)⟩,
  ⟨some 66, none, .load false true 5 (.t 65)⟩,
  ⟨some 9, none, .allocL [.str [], .int .i64 0, .int .i64 0, .str [], .bool false]⟩,
  ⟨none, none, .store 5 (.t 9) (.t 66)⟩]
abbrev r7_36 : List SOper := [
  ⟨some 67, none, .mov (.t 3)⟩,
  ⟨some 68, none, .faddr 0 (.t 9)⟩,
  ⟨some 69, none, .load false false 1 (.t 68)⟩,
  ⟨some 70, none, .len 0 (.t 69)⟩,
  ⟨some 71, none, .minmax false [.t 70, .c (.int .i64 16384)]⟩,
  ⟨some 72, none, .bin .add (.c (.int .i64 1)) (.t 71)⟩,
  ⟨some 73, none, .faddr 3 (.t 9)⟩,
  ⟨some 74, none, .load false false 1 (.t 73)⟩,
  ⟨some 75, none, .len 0 (.t 74)⟩,
  ⟨some 76, none, .minmax false [.t 75, .c (.int .i64 16384)]⟩,
  ⟨some 77, none, .bin .add (.t 72) (.t 76)⟩,
  ⟨some 78, none, .bin .add (.t 67) (.t 77)⟩,
  ⟨some 3, none, .mov (.t 78)⟩]
abbrev c7_37 : SC := .seq (.ops r7_35) (.ops r7_36)
abbrev c7_38 : SC := .block 5 [1, 3, 23, 24, 25, 61, 62, 63] [1] c7_37
abbrev r7_39 : List SOper := [
  ⟨some 79, none, .bin .add (.t 63) (.c (.int .i64 1))⟩,
  ⟨some 63, none, .mov (.t 79)⟩]
abbrev c7_40 : SC := .seq c7_38 (.ops r7_39)
abbrev c7_41 : SC := .seq c7_34 c7_40
abbrev c7_42 : SC := .seq (.ops r7_33) c7_41
abbrev L7_2 : SC := .loop [1, 3, 23, 24, 25, 61, 62, 63] [1] c7_42
abbrev c7_43 : SC := .block 4 [1, 3, 23, 24, 25] [1] L7_2
abbrev c7_44 : SC := .seq (.ops r7_32) c7_43
abbrev r7_45 : List SOper := [
  ⟨some 80, none, .mov (.t 3)⟩,
  ⟨some 81, none, .bin .gtr (.t 80) (.c (.int .i64 16384))⟩]
abbrev r7_46 : List SOper := [
  ⟨some 2, none, .mov (.c (.bool false))⟩]
abbrev c7_47 : SC := .seq (.ops r7_46) (.ret)
abbrev c7_48 : SC := .cond (.t 81) c7_47 (.skip)
abbrev c7_49 : SC := .seq (.ops r7_45) c7_48
abbrev c7_50 : SC := .seq c7_44 c7_49
abbrev c7_51 : SC := .seq c7_31 c7_50
abbrev c7_52 : SC := .seq c7_18 c7_51
abbrev c7_53 : SC := .seq (.ops r7_11) c7_52
abbrev c7_54 : SC := .block 1 [1, 3, 23, 24, 25] [1] c7_53
abbrev r7_55 : List SOper := [
  ⟨some 82, none, .bin .add (.t 25) (.c (.int .i64 1))⟩,
  ⟨some 25, none, .mov (.t 82)⟩]
abbrev c7_56 : SC := .seq c7_54 (.ops r7_55)
abbrev c7_57 : SC := .seq c7_10 c7_56
abbrev c7_58 : SC := .seq (.ops r7_9) c7_57
abbrev L7_3 : SC := .loop [1, 3, 23, 24, 25] [1] c7_58
abbrev c7_59 : SC := .block 0 [1, 3] [1] L7_3
abbrev c7_60 : SC := .seq (.ops r7_8) c7_59
abbrev r7_61 : List SOper := [
  ⟨some 83, none, .faddr 9 (.t 1)⟩,
  ⟨some 84, none, .load false false 1 (.t 83)⟩,
  ⟨some 85, none, .len 1 (.t 84)⟩,
  ⟨some 86, none, .mov (.c (.int .i64 0))⟩]
abbrev r7_62 : List SOper := [
  ⟨some 87, none, .bin .lss (.t 86) (.t 85)⟩]
abbrev c7_63 : SC := .cond (.t 87) (.skip) (.exit 6)
abbrev r7_64 : List SOper := [
  ⟨some 88, none, .iaddr none 25 (.t 84) (.t 86)⟩,
  ⟨some 89, none, .load false true 25 (.t 88)⟩,
  ⟨some 11, none, .allocL [.int .i64 0, .int .i64 0, .int .i64 0, .int .i64 0, .int .i64 0, .int .i64 0, .int .i64 0, .int .i64 0, .str [], .int .i64 0, .int .i64 0, .int .i64 0, .int .i64 0, .int .i64 0, .int .i64 0, .int .i64 0, .int .i64 0, .int .i64 0, .int .i64 0, .int .i64 0, .int .i64 0, .int .i64 0, .int .i64 0, .int .i64 0, .int .i64 0]⟩,
  ⟨none, none, .store 25 (.t 11) (.t 89)⟩]
abbrev r7_65 : List SOper := [
  ⟨some 90, none, .mov (.t 3)⟩,
  ⟨some 91, none, .faddr 8 (.t 11)⟩,
  ⟨some 92, none, .load false false 1 (.t 91)⟩,
  ⟨some 93, none, .len 0 (.t 92)⟩,
  ⟨some 94, none, .minmax false [.t 93, .c (.int .i64 16384)]⟩,
  ⟨some 95, none, .bin .add (.t 90) (.t 94)⟩,
  ⟨some 3, none, .mov (.t 95)⟩]
abbrev r7_66 : List SOper := [
  ⟨some 96, none, .mov (.t 3)⟩,
  ⟨some 97, none, .bin .gtr (.t 96) (.c (.int .i64 16384))⟩]
abbrev r7_67 : List SOper := [
  ⟨some 2, none, .mov (.c (.bool false))⟩]
abbrev c7_68 : SC := .seq (.ops r7_67) (.ret)
abbrev c7_69 : SC := .cond (.t 97) c7_68 (.skip)
abbrev c7_70 : SC := .seq (.ops r7_66) c7_69
abbrev c7_71 : SC := .seq (.ops r7_65) c7_70
abbrev c7_72 : SC := .seq (.ops r7_64) c7_71
abbrev c7_73 : SC := .block 7 [3, 84, 85, 86] [] c7_72
abbrev r7_74 : List SOper := [
  ⟨some 98, none, .bin .add (.t 86) (.c (.int .i64 1))⟩,
  ⟨some 86, none, .mov (.t 98)⟩]
abbrev c7_75 : SC := .seq c7_73 (.ops r7_74)
abbrev c7_76 : SC := .seq c7_63 c7_75
abbrev c7_77 : SC := .seq (.ops r7_62) c7_76
abbrev L7_4 : SC := .loop [3, 84, 85, 86] [] c7_77
abbrev c7_78 : SC := .block 6 [] [] L7_4
abbrev c7_79 : SC := .seq (.ops r7_61) c7_78
abbrev r7_80 : List SOper := [
  ⟨some 2, none, .mov (.c (.bool true))⟩]
abbrev c7_81 : SC := .seq (.ops r7_80) (.ret)
abbrev c7_82 : SC := .seq c7_79 c7_81
abbrev c7_83 : SC := .seq c7_60 c7_82
abbrev c7_84 : SC := .seq (.ops r7_7) c7_83
abbrev c7_85 : SC := .seq c7_6 c7_84
abbrev c7_86 : SC := .seq (.ops r7_1) c7_85
def s7 : SF := ⟨[.t 2], c7_86, false, none, none⟩
/-! crannog/crannoglaw13.awake -/
abbrev r8_1 : List SOper := [
  ⟨some 0, none, .mov (.c (.bool false))⟩]
abbrev r8_2 : List SOper := [
  ⟨some 8, none, .call false (.c (.func 31 [])) []⟩,
  ⟨some 1, none, .allocL [.int .i64 0, .int .i64 0, .int .i64 0, .int .i64 0, .int .i64 0, .int .i64 0, .int .i64 0, .int .i64 0, .nils, .nils]⟩,
  ⟨none, none, .store 10 (.t 1) (.t 8)⟩]
abbrev r8_3 : List SOper := [
  ⟨some 10, none, .load false true 10 (.t 1)⟩,
  ⟨some 11, none, .build [.int .i64 0, .str [], .str [], .int .i64 0, .int .i64 0, .str [], .float .f64 0] [(0, 1, .c (.int .i64 1)), (1, 1, .c (.str [47, 97])), (4, 1, .c (.int .i64 448))]⟩,
  ⟨some 12, none, .call false (.c (.func 32 [])) [.t 10, .c (.int .i64 0), .t 11]⟩,
  ⟨some 9, none, .mov (.t 12)⟩,
  ⟨some 13, none, .extract (.t 9) 0⟩,
  ⟨some 14, none, .extract (.t 9) 1⟩,
  ⟨some 2, none, .allocL [.int .i64 0, .str [], .nils, .int .i64 0, .int .i64 0, .int .i64 0, .int .i64 0, .int .u64 0, .int .i64 0, .int .i64 0]⟩,
  ⟨some 3, none, .allocL [.int .i64 0, .int .i64 0, .int .i64 0, .int .i64 0, .int .i64 0, .int .i64 0, .int .i64 0, .int .i64 0, .nils, .nils]⟩,
  ⟨none, none, .store 10 (.t 2) (.t 13)⟩,
  ⟨none, none, .store 10 (.t 3) (.t 14)⟩]
abbrev r8_4 : List SOper := [
  ⟨some 15, none, .load false true 10 (.t 1)⟩,
  ⟨some 16, none, .load false true 10 (.t 3)⟩,
  ⟨some 17, none, .call false (.c (.func 33 [])) [.t 15, .t 16]⟩,
  ⟨none, none, .store 10 (.t 1) (.t 17)⟩]
abbrev r8_5 : List SOper := [
  ⟨some 19, none, .load false true 10 (.t 1)⟩,
  ⟨some 20, none, .build [.int .i64 0, .str [], .str [], .int .i64 0, .int .i64 0, .str [], .float .f64 0] [(0, 1, .c (.int .i64 15)), (1, 1, .c (.str [47]))]⟩,
  ⟨some 21, none, .call false (.c (.func 32 [])) [.t 19, .c (.int .i64 1), .t 20]⟩,
  ⟨some 18, none, .mov (.t 21)⟩,
  ⟨some 22, none, .extract (.t 18) 0⟩,
  ⟨some 23, none, .extract (.t 18) 1⟩,
  ⟨some 4, none, .allocL [.int .i64 0, .str [], .nils, .int .i64 0, .int .i64 0, .int .i64 0, .int .i64 0, .int .u64 0, .int .i64 0, .int .i64 0]⟩,
  ⟨some 5, none, .allocL [.int .i64 0, .int .i64 0, .int .i64 0, .int .i64 0, .int .i64 0, .int .i64 0, .int .i64 0, .int .i64 0, .nils, .nils]⟩,
  ⟨none, none, .store 10 (.t 4) (.t 22)⟩,
  ⟨none, none, .store 10 (.t 5) (.t 23)⟩]
abbrev r8_6 : List SOper := [
  ⟨some 25, none, .load false true 10 (.t 1)⟩,
  ⟨some 26, none, .build [.int .i64 0, .str [], .str [], .int .i64 0, .int .i64 0, .str [], .float .f64 0] [(0, 1, .c (.int .i64 17)), (1, 1, .c (.str [47, 97]))]⟩,
  ⟨some 27, none, .call false (.c (.func 32 [])) [.t 25, .c (.int .i64 1), .t 26]⟩,
  ⟨some 24, none, .mov (.t 27)⟩,
  ⟨some 28, none, .extract (.t 24) 0⟩,
  ⟨some 29, none, .extract (.t 24) 1⟩,
  ⟨some 6, none, .allocL [.int .i64 0, .str [], .nils, .int .i64 0, .int .i64 0, .int .i64 0, .int .i64 0, .int .u64 0, .int .i64 0, .int .i64 0]⟩,
  ⟨some 7, none, .allocL [.int .i64 0, .int .i64 0, .int .i64 0, .int .i64 0, .int .i64 0, .int .i64 0, .int .i64 0, .int .i64 0, .nils, .nils]⟩,
  ⟨none, none, .store 10 (.t 6) (.t 28)⟩,
  ⟨none, none, .store 10 (.t 7) (.t 29)⟩]
abbrev r8_7 : List SOper := [
  ⟨some 30, none, .faddr 0 (.t 2)⟩,
  ⟨some 31, none, .load false false 1 (.t 30)⟩,
  ⟨some 32, none, .bin .eql (.t 31) (.c (.int .i64 0))⟩,
  ⟨some 33, none, .mov (.t 32)⟩,
  ⟨some 34, some (33, true), .faddr 8 (.t 3)⟩,
  ⟨some 35, some (33, true), .load false false 1 (.t 34)⟩,
  ⟨some 36, some (33, true), .len 1 (.t 35)⟩,
  ⟨some 37, some (33, true), .bin .eql (.t 36) (.c (.int .i64 1))⟩,
  ⟨some 38, none, .pick (.t 33) (.t 37) (.c (.bool false))⟩,
  ⟨some 39, none, .mov (.t 38)⟩,
  ⟨some 40, some (39, true), .faddr 9 (.t 3)⟩,
  ⟨some 41, some (39, true), .load false false 1 (.t 40)⟩,
  ⟨some 42, some (39, true), .len 1 (.t 41)⟩,
  ⟨some 43, some (39, true), .bin .eql (.t 42) (.c (.int .i64 1))⟩,
  ⟨some 44, none, .pick (.t 39) (.t 43) (.c (.bool false))⟩,
  ⟨some 45, none, .mov (.t 44)⟩,
  ⟨some 46, some (45, true), .faddr 9 (.t 3)⟩,
  ⟨some 47, some (45, true), .load false false 1 (.t 46)⟩,
  ⟨some 48, some (45, true), .iaddr none 25 (.t 47) (.c (.int .i64 0))⟩,
  ⟨some 49, some (45, true), .faddr 0 (.t 48)⟩,
  ⟨some 50, some (45, true), .load false true 2 (.t 49)⟩,
  ⟨some 51, some (45, true), .build [.int .i64 0, .int .i64 0] [(0, 1, .c (.int .i64 1))]⟩,
  ⟨some 52, some (45, true), .cmpA false [.int .i64, .int .i64] (.t 50) (.t 51)⟩,
  ⟨some 53, none, .pick (.t 45) (.t 52) (.c (.bool false))⟩,
  ⟨some 54, none, .mov (.t 53)⟩,
  ⟨some 55, some (54, true), .faddr 2 (.t 4)⟩,
  ⟨some 56, some (54, true), .load false false 1 (.t 55)⟩,
  ⟨some 57, some (54, true), .bsnap 1 [.c (.str [46, 108, 111, 115, 116]), .c (.str [97])]⟩,
  ⟨some 58, some (54, true), .call false (.c (.func 34 [])) [.t 56, .t 57]⟩,
  ⟨some 59, none, .pick (.t 54) (.t 58) (.c (.bool false))⟩,
  ⟨some 60, none, .mov (.t 59)⟩,
  ⟨some 61, some (60, true), .faddr 3 (.t 6)⟩,
  ⟨some 62, some (60, true), .faddr 2 (.t 61)⟩,
  ⟨some 63, some (60, true), .load false false 1 (.t 62)⟩,
  ⟨some 64, some (60, true), .bin .eql (.t 63) (.c (.int .i64 2))⟩,
  ⟨some 65, none, .pick (.t 60) (.t 64) (.c (.bool false))⟩,
  ⟨some 66, none, .mov (.t 65)⟩,
  ⟨some 67, some (66, true), .faddr 3 (.t 6)⟩,
  ⟨some 68, some (66, true), .faddr 3 (.t 67)⟩,
  ⟨some 69, some (66, true), .load false false 1 (.t 68)⟩,
  ⟨some 70, some (66, true), .bin .eql (.t 69) (.c (.int .i64 448))⟩,
  ⟨some 71, none, .pick (.t 66) (.t 70) (.c (.bool false))⟩,
  ⟨some 0, none, .mov (.t 71)⟩]
abbrev c8_8 : SC := .seq (.ops r8_7) (.ret)
abbrev c8_9 : SC := .seq (.ops r8_6) c8_8
abbrev c8_10 : SC := .seq (.ops r8_5) c8_9
abbrev c8_11 : SC := .seq (.ops r8_4) c8_10
abbrev c8_12 : SC := .seq (.ops r8_3) c8_11
abbrev c8_13 : SC := .seq (.ops r8_2) c8_12
abbrev c8_14 : SC := .seq (.ops r8_1) c8_13
def s8 : SF := ⟨[.t 0], c8_14, false, none, none⟩
/-! crannog/calls.Bytes -/
abbrev r9_1 : List SOper := [
  ⟨some 1, none, .boxL (.t 0)⟩,
  ⟨some 2, none, .mov (.c (.str []))⟩]
abbrev r9_2 : List SOper := [
  ⟨some 6, none, .faddr 8 (.t 1)⟩,
  ⟨some 7, none, .faddr 2 (.t 6)⟩,
  ⟨some 8, none, .load false false 1 (.t 7)⟩,
  ⟨some 9, none, .minmax false [.t 8, .c (.int .i64 1024)]⟩,
  ⟨some 10, none, .minmax true [.c (.int .i64 0), .t 9]⟩,
  ⟨some 11, none, .mkslice none 1 1 (.int .u8 0) (.t 10) (.t 10)⟩,
  ⟨some 3, none, .mov (.t 11)⟩]
abbrev r9_3 : List SOper := [
  ⟨some 12, none, .faddr 11 (.t 1)⟩,
  ⟨some 13, none, .load false false 1 (.t 12)⟩,
  ⟨some 14, none, .len 1 (.t 13)⟩,
  ⟨some 15, none, .mov (.c (.int .i64 0))⟩]
abbrev r9_4 : List SOper := [
  ⟨some 16, none, .bin .lss (.t 15) (.t 14)⟩]
abbrev c9_5 : SC := .cond (.t 16) (.skip) (.exit 0)
abbrev r9_6 : List SOper := [
  ⟨some 17, none, .iaddr none 4 (.t 13) (.t 15)⟩,
  ⟨some 18, none, .load false true 4 (.t 17)⟩,
  ⟨some 5, none, .allocL [.int .i64 0, .int .i64 0, .int .i64 0, .str []]⟩,
  ⟨none, none, .store 4 (.t 5) (.t 18)⟩]
abbrev r9_7 : List SOper := [
  ⟨some 19, none, .faddr 0 (.t 5)⟩,
  ⟨some 20, none, .load false false 1 (.t 19)⟩,
  ⟨some 21, none, .bin .geq (.t 20) (.c (.int .i64 0))⟩,
  ⟨some 22, none, .mov (.t 21)⟩,
  ⟨some 23, some (22, true), .faddr 0 (.t 5)⟩,
  ⟨some 24, some (22, true), .load false false 1 (.t 23)⟩,
  ⟨some 25, some (22, true), .bin .lss (.t 24) (.c (.int .i64 16))⟩,
  ⟨some 26, none, .pick (.t 22) (.t 25) (.c (.bool false))⟩,
  ⟨some 27, none, .mov (.t 26)⟩,
  ⟨some 28, some (27, true), .faddr 0 (.t 5)⟩,
  ⟨some 29, some (27, true), .load false false 1 (.t 28)⟩,
  ⟨some 30, some (27, true), .bin .mul (.t 29) (.c (.int .i64 64))⟩,
  ⟨some 31, some (27, true), .mov (.t 3)⟩,
  ⟨some 32, some (27, true), .len 1 (.t 31)⟩,
  ⟨some 33, some (27, true), .bin .lss (.t 30) (.t 32)⟩,
  ⟨some 34, none, .pick (.t 27) (.t 33) (.c (.bool false))⟩]
abbrev r9_8 : List SOper := [
  ⟨some 35, none, .mov (.t 3)⟩,
  ⟨some 36, none, .faddr 0 (.t 5)⟩,
  ⟨some 37, none, .load false false 1 (.t 36)⟩,
  ⟨some 38, none, .bin .mul (.t 37) (.c (.int .i64 64))⟩,
  ⟨some 39, none, .slice false 1 (.t 35) (some (.t 38)) none none⟩,
  ⟨some 40, none, .faddr 3 (.t 5)⟩,
  ⟨some 41, none, .load false false 1 (.t 40)⟩,
  ⟨some 42, none, .faddr 3 (.t 5)⟩,
  ⟨some 43, none, .load false false 1 (.t 42)⟩,
  ⟨some 44, none, .len 0 (.t 43)⟩,
  ⟨some 45, none, .minmax false [.t 44, .c (.int .i64 64)]⟩,
  ⟨some 46, none, .slice true 1 (.t 41) none (some (.t 45)) none⟩,
  ⟨some 47, none, .copy (.t 39) (.t 46)⟩]
abbrev c9_9 : SC := .cond (.t 34) (.draw 0 [[], [], [1], [2], [0, 3], [], [5], [], [7], [8], [9], [6, 10], [4, 11]] r9_8) (.skip)
abbrev c9_10 : SC := .seq (.ops r9_7) c9_9
abbrev c9_11 : SC := .seq (.ops r9_6) c9_10
abbrev c9_12 : SC := .block 1 [3, 13, 14, 15] [] c9_11
abbrev r9_13 : List SOper := [
  ⟨some 48, none, .bin .add (.t 15) (.c (.int .i64 1))⟩,
  ⟨some 15, none, .mov (.t 48)⟩]
abbrev c9_14 : SC := .seq c9_12 (.ops r9_13)
abbrev c9_15 : SC := .seq c9_5 c9_14
abbrev c9_16 : SC := .seq (.ops r9_4) c9_15
abbrev L9_1 : SC := .loop [3, 13, 14, 15] [] c9_16
abbrev c9_17 : SC := .block 0 [3] [] L9_1
abbrev c9_18 : SC := .seq (.ops r9_3) c9_17
abbrev r9_19 : List SOper := [
  ⟨some 49, none, .mov (.t 3)⟩,
  ⟨some 50, none, .cvBS (.t 49)⟩,
  ⟨some 2, none, .mov (.t 50)⟩]
abbrev c9_20 : SC := .seq (.ops r9_19) (.ret)
abbrev c9_21 : SC := .seq c9_18 c9_20
abbrev c9_22 : SC := .seq (.ops r9_2) c9_21
abbrev c9_23 : SC := .seq (.ops r9_1) c9_22
def s9 : SF := ⟨[.t 2], c9_23, false, none, none⟩
/-! crannog/crannogref13.Bytes -/
abbrev r10_1 : List SOper := [
  ⟨some 1, none, .boxL (.t 0)⟩,
  ⟨some 2, none, .mov (.c (.str []))⟩]
abbrev r10_2 : List SOper := [
  ⟨some 8, none, .faddr 8 (.t 1)⟩,
  ⟨some 9, none, .faddr 2 (.t 8)⟩,
  ⟨some 10, none, .load false false 1 (.t 9)⟩,
  ⟨some 11, none, .minmax false [.t 10, .c (.int .i64 1024)]⟩,
  ⟨some 12, none, .minmax true [.c (.int .i64 0), .t 11]⟩,
  ⟨some 3, none, .mov (.t 12)⟩]
abbrev r10_3 : List SOper := [
  ⟨some 13, none, .mov (.t 3)⟩,
  ⟨some 14, none, .mkslice none 1 1 (.int .u8 0) (.t 13) (.t 13)⟩,
  ⟨some 4, none, .mov (.t 14)⟩]
abbrev r10_4 : List SOper := [
  ⟨some 15, none, .faddr 11 (.t 1)⟩,
  ⟨some 16, none, .load false false 1 (.t 15)⟩,
  ⟨some 17, none, .len 1 (.t 16)⟩,
  ⟨some 18, none, .mov (.c (.int .i64 0))⟩]
abbrev r10_5 : List SOper := [
  ⟨some 19, none, .bin .lss (.t 18) (.t 17)⟩]
abbrev c10_6 : SC := .cond (.t 19) (.skip) (.exit 0)
abbrev r10_7 : List SOper := [
  ⟨some 20, none, .iaddr none 4 (.t 16) (.t 18)⟩,
  ⟨some 21, none, .load false true 4 (.t 20)⟩,
  ⟨some 6, none, .allocL [.int .i64 0, .int .i64 0, .int .i64 0, .str []]⟩,
  ⟨none, none, .store 4 (.t 6) (.t 21)⟩]
abbrev r10_8 : List SOper := [
  ⟨some 22, none, .faddr 3 (.t 6)⟩,
  ⟨some 23, none, .load false false 1 (.t 22)⟩,
  ⟨some 24, none, .len 0 (.t 23)⟩,
  ⟨some 25, none, .minmax false [.t 24, .c (.int .i64 64)]⟩,
  ⟨some 26, none, .mov (.c (.int .i64 0))⟩]
abbrev r10_9 : List SOper := [
  ⟨some 27, none, .bin .lss (.t 26) (.t 25)⟩]
abbrev c10_10 : SC := .cond (.t 27) (.skip) (.exit 2)
abbrev r10_11 : List SOper := [
  ⟨some 28, none, .mov (.t 26)⟩,
  ⟨some 7, none, .mov (.t 28)⟩]
abbrev r10_12 : List SOper := [
  ⟨some 29, none, .faddr 0 (.t 6)⟩,
  ⟨some 30, none, .load false false 1 (.t 29)⟩,
  ⟨some 31, none, .bin .geq (.t 30) (.c (.int .i64 0))⟩,
  ⟨some 32, none, .mov (.t 31)⟩,
  ⟨some 33, some (32, true), .faddr 0 (.t 6)⟩,
  ⟨some 34, some (32, true), .load false false 1 (.t 33)⟩,
  ⟨some 35, some (32, true), .bin .lss (.t 34) (.c (.int .i64 16))⟩,
  ⟨some 36, none, .pick (.t 32) (.t 35) (.c (.bool false))⟩,
  ⟨some 37, none, .mov (.t 36)⟩,
  ⟨some 38, some (37, true), .faddr 0 (.t 6)⟩,
  ⟨some 39, some (37, true), .load false false 1 (.t 38)⟩,
  ⟨some 40, some (37, true), .bin .mul (.c (.int .i64 64)) (.t 39)⟩,
  ⟨some 41, some (37, true), .mov (.t 7)⟩,
  ⟨some 42, some (37, true), .bin .add (.t 40) (.t 41)⟩,
  ⟨some 43, some (37, true), .mov (.t 3)⟩,
  ⟨some 44, some (37, true), .bin .lss (.t 42) (.t 43)⟩,
  ⟨some 45, none, .pick (.t 37) (.t 44) (.c (.bool false))⟩]
abbrev r10_13 : List SOper := [
  ⟨some 46, none, .mov (.t 4)⟩,
  ⟨some 47, none, .faddr 0 (.t 6)⟩,
  ⟨some 48, none, .load false false 1 (.t 47)⟩,
  ⟨some 49, none, .bin .mul (.c (.int .i64 64)) (.t 48)⟩,
  ⟨some 50, none, .mov (.t 7)⟩,
  ⟨some 51, none, .bin .add (.t 49) (.t 50)⟩,
  ⟨some 52, none, .faddr 3 (.t 6)⟩,
  ⟨some 53, none, .load false false 1 (.t 52)⟩,
  ⟨some 54, none, .mov (.t 7)⟩,
  ⟨some 55, none, .index none (.t 53) (.t 54)⟩,
  ⟨some 56, none, .iaddr none 1 (.t 46) (.t 51)⟩,
  ⟨none, none, .store 1 (.t 56) (.t 55)⟩]
abbrev c10_14 : SC := .cond (.t 45) (.draw 0 [[], [], [1], [2], [], [3, 4], [], [6], [], [7, 8], [0, 5, 9], [10]] r10_13) (.skip)
abbrev c10_15 : SC := .seq (.ops r10_12) c10_14
abbrev c10_16 : SC := .seq (.ops r10_11) c10_15
abbrev c10_17 : SC := .block 3 [3, 4, 6, 16, 17, 18, 25, 26] [6] c10_16
abbrev r10_18 : List SOper := [
  ⟨some 57, none, .bin .add (.t 26) (.c (.int .i64 1))⟩,
  ⟨some 26, none, .mov (.t 57)⟩]
abbrev c10_19 : SC := .seq c10_17 (.ops r10_18)
abbrev c10_20 : SC := .seq c10_10 c10_19
abbrev c10_21 : SC := .seq (.ops r10_9) c10_20
abbrev L10_1 : SC := .loop [3, 4, 6, 16, 17, 18, 25, 26] [6] c10_21
abbrev c10_22 : SC := .block 2 [3, 4, 16, 17, 18] [] L10_1
abbrev c10_23 : SC := .seq (.ops r10_8) c10_22
abbrev c10_24 : SC := .seq (.ops r10_7) c10_23
abbrev c10_25 : SC := .block 1 [3, 4, 16, 17, 18] [] c10_24
abbrev r10_26 : List SOper := [
  ⟨some 58, none, .bin .add (.t 18) (.c (.int .i64 1))⟩,
  ⟨some 18, none, .mov (.t 58)⟩]
abbrev c10_27 : SC := .seq c10_25 (.ops r10_26)
abbrev c10_28 : SC := .seq c10_6 c10_27
abbrev c10_29 : SC := .seq (.ops r10_5) c10_28
abbrev L10_2 : SC := .loop [3, 4, 16, 17, 18] [] c10_29
abbrev c10_30 : SC := .block 0 [4] [] L10_2
abbrev c10_31 : SC := .seq (.ops r10_4) c10_30
abbrev r10_32 : List SOper := [
  ⟨some 59, none, .mov (.t 4)⟩,
  ⟨some 60, none, .cvBS (.t 59)⟩,
  ⟨some 2, none, .mov (.t 60)⟩]
abbrev c10_33 : SC := .seq (.ops r10_32) (.ret)
abbrev c10_34 : SC := .seq c10_31 c10_33
abbrev c10_35 : SC := .seq (.ops r10_3) c10_34
abbrev c10_36 : SC := .seq (.ops r10_2) c10_35
abbrev c10_37 : SC := .seq (.ops r10_1) c10_36
def s10 : SF := ⟨[.t 2], c10_37, false, none, none⟩
/-! crannog/calls.Same -/
abbrev r11_1 : List SOper := [
  ⟨some 2, none, .boxL (.t 0)⟩,
  ⟨some 3, none, .boxL (.t 1)⟩,
  ⟨some 4, none, .mov (.c (.bool false))⟩]
abbrev r11_2 : List SOper := [
  ⟨some 5, none, .faddr 0 (.t 2)⟩,
  ⟨some 6, none, .load false false 1 (.t 5)⟩,
  ⟨some 7, none, .faddr 0 (.t 3)⟩,
  ⟨some 8, none, .load false false 1 (.t 7)⟩,
  ⟨some 9, none, .bin .eql (.t 6) (.t 8)⟩,
  ⟨some 10, none, .mov (.t 9)⟩,
  ⟨some 11, some (10, true), .faddr 1 (.t 2)⟩,
  ⟨some 12, some (10, true), .load false false 1 (.t 11)⟩,
  ⟨some 13, some (10, true), .faddr 1 (.t 3)⟩,
  ⟨some 14, some (10, true), .load false false 1 (.t 13)⟩,
  ⟨some 15, some (10, true), .bin .eql (.t 12) (.t 14)⟩,
  ⟨some 16, none, .pick (.t 10) (.t 15) (.c (.bool false))⟩,
  ⟨some 17, none, .mov (.t 16)⟩,
  ⟨some 18, some (17, true), .faddr 2 (.t 2)⟩,
  ⟨some 19, some (17, true), .load false false 1 (.t 18)⟩,
  ⟨some 20, some (17, true), .faddr 2 (.t 3)⟩,
  ⟨some 21, some (17, true), .load false false 1 (.t 20)⟩,
  ⟨some 22, some (17, true), .call false (.c (.func 34 [])) [.t 19, .t 21]⟩,
  ⟨some 23, none, .pick (.t 17) (.t 22) (.c (.bool false))⟩,
  ⟨some 24, none, .mov (.t 23)⟩,
  ⟨some 25, some (24, true), .faddr 3 (.t 2)⟩,
  ⟨some 26, some (24, true), .load false true 7 (.t 25)⟩,
  ⟨some 27, some (24, true), .faddr 3 (.t 3)⟩,
  ⟨some 28, some (24, true), .load false true 7 (.t 27)⟩,
  ⟨some 29, some (24, true), .cmpA false [.int .i64, .int .i64, .int .i64, .int .i64, .int .u64, .int .i64, .int .i64] (.t 26) (.t 28)⟩,
  ⟨some 30, none, .pick (.t 24) (.t 29) (.c (.bool false))⟩,
  ⟨some 4, none, .mov (.t 30)⟩]
abbrev c11_3 : SC := .seq (.ops r11_2) (.ret)
abbrev c11_4 : SC := .seq (.ops r11_1) c11_3
def s11 : SF := ⟨[.t 4], c11_4, false, none, none⟩
/-! crannog/crannogref13.Same -/
abbrev r12_1 : List SOper := [
  ⟨some 2, none, .boxL (.t 0)⟩,
  ⟨some 3, none, .boxL (.t 1)⟩,
  ⟨some 4, none, .mov (.c (.bool false))⟩]
abbrev r12_2 : List SOper := [
  ⟨some 6, none, .faddr 0 (.t 2)⟩,
  ⟨some 7, none, .load false false 1 (.t 6)⟩,
  ⟨some 8, none, .faddr 0 (.t 3)⟩,
  ⟨some 9, none, .load false false 1 (.t 8)⟩,
  ⟨some 10, none, .bin .neq (.t 7) (.t 9)⟩,
  ⟨some 11, none, .mov (.t 10)⟩,
  ⟨some 12, some (11, false), .faddr 1 (.t 2)⟩,
  ⟨some 13, some (11, false), .load false false 1 (.t 12)⟩,
  ⟨some 14, some (11, false), .faddr 1 (.t 3)⟩,
  ⟨some 15, some (11, false), .load false false 1 (.t 14)⟩,
  ⟨some 16, some (11, false), .bin .neq (.t 13) (.t 15)⟩,
  ⟨some 17, none, .pick (.t 11) (.c (.bool true)) (.t 16)⟩,
  ⟨some 18, none, .mov (.t 17)⟩,
  ⟨some 19, some (18, false), .faddr 3 (.t 2)⟩,
  ⟨some 20, some (18, false), .load false true 7 (.t 19)⟩,
  ⟨some 21, some (18, false), .faddr 3 (.t 3)⟩,
  ⟨some 22, some (18, false), .load false true 7 (.t 21)⟩,
  ⟨some 23, some (18, false), .cmpA true [.int .i64, .int .i64, .int .i64, .int .i64, .int .u64, .int .i64, .int .i64] (.t 20) (.t 22)⟩,
  ⟨some 24, none, .pick (.t 18) (.c (.bool true)) (.t 23)⟩,
  ⟨some 25, none, .mov (.t 24)⟩,
  ⟨some 26, some (25, false), .faddr 2 (.t 2)⟩,
  ⟨some 27, some (25, false), .load false false 1 (.t 26)⟩,
  ⟨some 28, some (25, false), .len 1 (.t 27)⟩,
  ⟨some 29, some (25, false), .faddr 2 (.t 3)⟩,
  ⟨some 30, some (25, false), .load false false 1 (.t 29)⟩,
  ⟨some 31, some (25, false), .len 1 (.t 30)⟩,
  ⟨some 32, some (25, false), .bin .neq (.t 28) (.t 31)⟩,
  ⟨some 33, none, .pick (.t 25) (.c (.bool true)) (.t 32)⟩]
abbrev r12_3 : List SOper := [
  ⟨some 4, none, .mov (.c (.bool false))⟩]
abbrev c12_4 : SC := .seq (.ops r12_3) (.ret)
abbrev c12_5 : SC := .cond (.t 33) c12_4 (.skip)
abbrev c12_6 : SC := .seq (.ops r12_2) c12_5
abbrev r12_7 : List SOper := [
  ⟨some 34, none, .faddr 2 (.t 2)⟩,
  ⟨some 35, none, .load false false 1 (.t 34)⟩,
  ⟨some 36, none, .len 1 (.t 35)⟩,
  ⟨some 37, none, .mov (.c (.int .i64 0))⟩]
abbrev r12_8 : List SOper := [
  ⟨some 38, none, .bin .lss (.t 37) (.t 36)⟩]
abbrev c12_9 : SC := .cond (.t 38) (.skip) (.exit 0)
abbrev r12_10 : List SOper := [
  ⟨some 39, none, .mov (.t 37)⟩,
  ⟨some 5, none, .mov (.t 39)⟩]
abbrev r12_11 : List SOper := [
  ⟨some 40, none, .faddr 2 (.t 2)⟩,
  ⟨some 41, none, .load false false 1 (.t 40)⟩,
  ⟨some 42, none, .mov (.t 5)⟩,
  ⟨some 43, none, .iaddr none 1 (.t 41) (.t 42)⟩,
  ⟨some 44, none, .load false false 1 (.t 43)⟩,
  ⟨some 45, none, .faddr 2 (.t 3)⟩,
  ⟨some 46, none, .load false false 1 (.t 45)⟩,
  ⟨some 47, none, .mov (.t 5)⟩,
  ⟨some 48, none, .iaddr none 1 (.t 46) (.t 47)⟩,
  ⟨some 49, none, .load false false 1 (.t 48)⟩,
  ⟨some 50, none, .bin .neq (.t 44) (.t 49)⟩]
abbrev r12_12 : List SOper := [
  ⟨some 4, none, .mov (.c (.bool false))⟩]
abbrev c12_13 : SC := .seq (.ops r12_12) (.ret)
abbrev c12_14 : SC := .cond (.t 50) c12_13 (.skip)
abbrev c12_15 : SC := .seq (.draw 0 [[], [0], [], [1, 2], [3], [], [5], [], [6, 7], [8], [4, 9]] r12_11) c12_14
abbrev c12_16 : SC := .seq (.ops r12_10) c12_15
abbrev c12_17 : SC := .block 1 [2, 3, 36, 37] [2, 3] c12_16
abbrev r12_18 : List SOper := [
  ⟨some 51, none, .bin .add (.t 37) (.c (.int .i64 1))⟩,
  ⟨some 37, none, .mov (.t 51)⟩]
abbrev c12_19 : SC := .seq c12_17 (.ops r12_18)
abbrev c12_20 : SC := .seq c12_9 c12_19
abbrev c12_21 : SC := .seq (.ops r12_8) c12_20
abbrev L12_1 : SC := .loop [2, 3, 36, 37] [2, 3] c12_21
abbrev c12_22 : SC := .block 0 [] [] L12_1
abbrev c12_23 : SC := .seq (.ops r12_7) c12_22
abbrev r12_24 : List SOper := [
  ⟨some 4, none, .mov (.c (.bool true))⟩]
abbrev c12_25 : SC := .seq (.ops r12_24) (.ret)
abbrev c12_26 : SC := .seq c12_23 c12_25
abbrev c12_27 : SC := .seq c12_6 c12_26
abbrev c12_28 : SC := .seq (.ops r12_1) c12_27
def s12 : SF := ⟨[.t 4], c12_28, false, none, none⟩
/-! crannog/facts.Empty -/
abbrev r31_1 : List SOper := [
  ⟨some 0, none, .allocL [.int .i64 0, .int .i64 0, .int .i64 0, .int .i64 0, .int .i64 0, .int .i64 0, .int .i64 0, .int .i64 0, .nils, .nils]⟩]
abbrev r31_2 : List SOper := [
  ⟨some 4, none, .call false (.c (.func 67 [])) [.c (.float .f64 0)]⟩,
  ⟨some 3, none, .mov (.t 4)⟩,
  ⟨some 5, none, .extract (.t 3) 0⟩,
  ⟨some 6, none, .extract (.t 3) 1⟩,
  ⟨some 1, none, .mov (.t 5)⟩,
  ⟨some 2, none, .mov (.t 6)⟩]
abbrev r31_3 : List SOper := [
  ⟨some 7, none, .mov (.t 1)⟩,
  ⟨some 8, none, .build [.int .i64 0, .int .i64 0, .int .i64 0, .int .u64 0] [(2, 1, .c (.int .i64 493)), (3, 1, .t 7)]⟩,
  ⟨some 9, none, .build [.int .i64 0, .int .i64 0, .int .i64 0, .str [], .int .i64 0, .int .i64 0, .int .i64 0, .int .u64 0, .int .i64 0, .int .i64 0, .int .i64 0, .nils, .nils] [(2, 1, .c (.int .i64 2)), (4, 4, .t 8)]⟩,
  ⟨some 10, none, .bsnap 13 [.t 9]⟩,
  ⟨some 11, none, .build [.int .i64 0, .int .i64 0, .int .i64 0, .int .i64 0, .int .i64 0, .int .i64 0, .int .i64 0, .int .i64 0, .nils, .nils] [(8, 1, .t 10)]⟩,
  ⟨none, none, .store 10 (.t 0) (.t 11)⟩]
abbrev c31_4 : SC := .seq (.ops r31_3) (.ret)
abbrev c31_5 : SC := .seq (.ops r31_2) c31_4
abbrev c31_6 : SC := .seq (.ops r31_1) c31_5
def s31 : SF := ⟨[.c 0 true 10], c31_6, false, none, none⟩
/-! crannog/calls.Do -/
abbrev r32_1 : List SOper := [
  ⟨some 9, none, .mkfn 68 [.t 6, .t 7]⟩]
abbrev r32_2 : List SOper := [
  ⟨some 3, none, .boxL (.t 0)⟩,
  ⟨some 5, none, .boxL (.t 2)⟩,
  ⟨some 6, none, .allocH none [.int .i64 0, .str [], .nils, .int .i64 0, .int .i64 0, .int .i64 0, .int .i64 0, .int .u64 0, .int .i64 0, .int .i64 0]⟩,
  ⟨some 7, none, .allocH none [.int .i64 0, .int .i64 0, .int .i64 0, .int .i64 0, .int .i64 0, .int .i64 0, .int .i64 0, .int .i64 0, .nils, .nils]⟩]
abbrev r32_3 : List SOper := [
  ⟨some 10, none, .load false true 10 (.t 3)⟩,
  ⟨some 11, none, .call false (.c (.func 70 [])) [.t 10]⟩,
  ⟨some 12, none, .call false (.c (.func 69 [])) [.t 11]⟩]
abbrev r32_4 : List SOper := [
  ⟨some 13, none, .load true true 10 (.t 3)⟩,
  ⟨some 14, none, .load false true 10 (.t 3)⟩,
  ⟨some 15, none, .call true (.c (.func 71 [])) [.t 14]⟩,
  ⟨some 16, none, .build [.int .i64 0, .int .i64 0, .int .i64 0, .int .i64 0, .int .i64 0, .int .i64 0, .int .i64 0, .int .i64 0, .nils, .nils, .nils, .int .i64 0, .int .i64 0, .int .i64 0, .int .i64 0, .int .i64 0, .int .i64 0, .int .i64 0, .int .i64 0, .int .i64 0, .int .i64 0, .int .i64 0, .nils, .nils] [(0, 10, .t 13), (10, 1, .t 15)]⟩,
  ⟨some 17, none, .boxH none (.t 16)⟩,
  ⟨some 8, none, .mov (.t 17)⟩]
abbrev r32_5 : List SOper := [
  ⟨some 19, none, .mov (.t 8)⟩,
  ⟨some 20, none, .mov (.t 8)⟩,
  ⟨some 21, none, .faddr 0 (.t 3)⟩,
  ⟨some 22, none, .load false true 8 (.t 21)⟩,
  ⟨some 23, none, .mov (.t 1)⟩,
  ⟨some 24, none, .call false (.c (.func 72 [])) [.t 22, .t 23]⟩,
  ⟨some 18, none, .mov (.t 24)⟩,
  ⟨some 25, none, .extract (.t 18) 0⟩,
  ⟨some 26, none, .extract (.t 18) 1⟩,
  ⟨some 27, none, .nilck (.t 19)⟩,
  ⟨some 28, none, .faddr 11 (.t 27)⟩,
  ⟨none, none, .store 2 (.t 28) (.t 25)⟩,
  ⟨some 29, none, .nilck (.t 20)⟩,
  ⟨some 30, none, .faddr 13 (.t 29)⟩,
  ⟨none, none, .store 1 (.t 30) (.t 26)⟩]
abbrev r32_6 : List SOper := [
  ⟨some 31, none, .mov (.t 8)⟩,
  ⟨some 32, none, .load false true 7 (.t 5)⟩,
  ⟨some 33, none, .call false (.c (.func 73 [])) [.t 31, .t 32]⟩,
  ⟨none, none, .store 10 (.t 6) (.t 33)⟩]
abbrev r32_7 : List SOper := [
  ⟨some 34, none, .load false true 10 (.t 6)⟩,
  ⟨some 35, none, .mov (.t 8)⟩,
  ⟨some 36, none, .nilck (.t 35)⟩,
  ⟨some 37, none, .faddr 14 (.t 36)⟩,
  ⟨some 38, none, .loadN 6 true 10 (.t 37)⟩,
  ⟨none, none, .storeA .ptr 10 (.t 6) (.t 34)⟩,
  ⟨none, none, .store 10 (.t 7) (.t 38)⟩]
abbrev c32_8 : SC := .seq (.draw 0 [[], [], [1], [2], [3], [0], [4, 5]] r32_7) (.ret)
abbrev c32_9 : SC := .seq (.ops r32_6) c32_8
abbrev c32_10 : SC := .seq (.ops r32_5) c32_9
abbrev c32_11 : SC := .seq (.draw 0 [[], [], [1], [0, 2], [3], [4]] r32_4) c32_10
abbrev c32_12 : SC := .seq (.ops r32_3) c32_11
abbrev c32_13 : SC := .seq (.ops r32_2) (.ops r32_1)
def s32 : SF := ⟨[.c 6 true 10, .c 7 true 10], .skip, false, some ⟨c32_13, 9, c32_12⟩, none⟩
/-! crannog/join.States -/
abbrev r33_1 : List SOper := [
  ⟨some 2, none, .boxL (.t 0)⟩,
  ⟨some 3, none, .boxL (.t 1)⟩,
  ⟨some 4, none, .allocL [.int .i64 0, .int .i64 0, .int .i64 0, .int .i64 0, .int .i64 0, .int .i64 0, .int .i64 0, .int .i64 0, .nils, .nils]⟩]
abbrev r33_2 : List SOper := [
  ⟨some 8, none, .faddr 0 (.t 2)⟩,
  ⟨some 9, none, .load false true 8 (.t 8)⟩,
  ⟨some 10, none, .faddr 0 (.t 3)⟩,
  ⟨some 11, none, .load false true 8 (.t 10)⟩,
  ⟨some 12, none, .call false (.c (.func 74 [])) [.t 9, .t 11]⟩,
  ⟨some 13, none, .build [.int .i64 0, .int .i64 0, .int .i64 0, .int .i64 0, .int .i64 0, .int .i64 0, .int .i64 0, .int .i64 0, .nils, .nils] [(0, 8, .t 12)]⟩,
  ⟨some 5, none, .allocL [.int .i64 0, .int .i64 0, .int .i64 0, .int .i64 0, .int .i64 0, .int .i64 0, .int .i64 0, .int .i64 0, .nils, .nils]⟩,
  ⟨none, none, .store 10 (.t 5) (.t 13)⟩]
abbrev r33_3 : List SOper := [
  ⟨some 14, none, .faddr 8 (.t 2)⟩,
  ⟨some 15, none, .load false false 1 (.t 14)⟩,
  ⟨some 16, none, .faddr 8 (.t 3)⟩,
  ⟨some 17, none, .load false false 1 (.t 16)⟩,
  ⟨some 18, none, .call false (.c (.func 75 [])) [.t 15, .t 17, .c (.func 76 []), .c (.func 78 [])]⟩,
  ⟨some 19, none, .faddr 8 (.t 5)⟩,
  ⟨none, none, .store 1 (.t 19) (.t 18)⟩]
abbrev r33_4 : List SOper := [
  ⟨some 20, none, .faddr 9 (.t 2)⟩,
  ⟨some 21, none, .load false false 1 (.t 20)⟩,
  ⟨some 22, none, .faddr 9 (.t 3)⟩,
  ⟨some 23, none, .load false false 1 (.t 22)⟩,
  ⟨some 24, none, .call false (.c (.func 79 [])) [.t 21, .t 23, .c (.func 80 []), .c (.func 81 [])]⟩,
  ⟨some 25, none, .faddr 9 (.t 5)⟩,
  ⟨none, none, .store 1 (.t 25) (.t 24)⟩]
abbrev r33_5 : List SOper := [
  ⟨some 26, none, .faddr 8 (.t 5)⟩,
  ⟨some 27, none, .load false false 1 (.t 26)⟩,
  ⟨some 28, none, .len 1 (.t 27)⟩,
  ⟨some 29, none, .mov (.c (.int .i64 0))⟩]
abbrev r33_6 : List SOper := [
  ⟨some 30, none, .bin .lss (.t 29) (.t 28)⟩]
abbrev c33_7 : SC := .cond (.t 30) (.skip) (.exit 0)
abbrev r33_8 : List SOper := [
  ⟨some 31, none, .mov (.t 29)⟩,
  ⟨some 32, none, .iaddr none 13 (.t 27) (.t 29)⟩,
  ⟨some 33, none, .load false true 13 (.t 32)⟩,
  ⟨some 7, none, .allocL [.int .i64 0, .int .i64 0, .int .i64 0, .str [], .int .i64 0, .int .i64 0, .int .i64 0, .int .u64 0, .int .i64 0, .int .i64 0, .int .i64 0, .nils, .nils]⟩,
  ⟨some 6, none, .mov (.t 31)⟩,
  ⟨none, none, .store 13 (.t 7) (.t 33)⟩]
abbrev r33_9 : List SOper := [
  ⟨some 34, none, .faddr 8 (.t 5)⟩,
  ⟨some 35, none, .load true false 1 (.t 34)⟩,
  ⟨some 36, none, .mov (.t 6)⟩,
  ⟨some 37, none, .faddr 8 (.t 5)⟩,
  ⟨some 38, none, .loadA (.loc 5) false 1 (.t 37)⟩,
  ⟨some 39, none, .mov (.t 6)⟩,
  ⟨some 40, none, .faddr 11 (.t 7)⟩,
  ⟨some 41, none, .load false false 1 (.t 40)⟩,
  ⟨some 42, none, .call true (.c (.func 82 [])) [.t 41]⟩,
  ⟨some 43, none, .faddr 12 (.t 7)⟩,
  ⟨some 44, none, .load true false 1 (.t 43)⟩,
  ⟨some 45, none, .call true (.c (.func 83 [])) [.t 44]⟩,
  ⟨some 46, none, .iaddr none 13 (.t 35) (.t 36)⟩,
  ⟨some 47, none, .faddr 11 (.t 46)⟩,
  ⟨none, none, .storeA .eptr 1 (.t 47) (.t 42)⟩,
  ⟨some 48, none, .iaddr none 13 (.t 38) (.t 39)⟩,
  ⟨some 49, none, .faddr 12 (.t 48)⟩,
  ⟨none, none, .store 1 (.t 49) (.t 45)⟩]
abbrev c33_10 : SC := .seq (.ops r33_8) (.draw 0 [[], [0], [], [], [3], [], [], [6], [7], [], [9], [8, 10], [1, 2, 11], [12], [13], [4, 5, 14], [15], [16]] r33_9)
abbrev c33_11 : SC := .block 1 [4, 5, 27, 28, 29] [4, 5] c33_10
abbrev r33_12 : List SOper := [
  ⟨some 50, none, .bin .add (.t 29) (.c (.int .i64 1))⟩,
  ⟨some 29, none, .mov (.t 50)⟩]
abbrev c33_13 : SC := .seq c33_11 (.ops r33_12)
abbrev c33_14 : SC := .seq c33_7 c33_13
abbrev c33_15 : SC := .seq (.ops r33_6) c33_14
abbrev L33_1 : SC := .loop [4, 5, 27, 28, 29] [4, 5] c33_15
abbrev c33_16 : SC := .block 0 [4, 5] [4, 5] L33_1
abbrev c33_17 : SC := .seq (.ops r33_5) c33_16
abbrev r33_18 : List SOper := [
  ⟨some 51, none, .load false true 10 (.t 5)⟩,
  ⟨none, none, .store 10 (.t 4) (.t 51)⟩]
abbrev c33_19 : SC := .seq (.ops r33_18) (.ret)
abbrev c33_20 : SC := .seq c33_17 c33_19
abbrev c33_21 : SC := .seq (.ops r33_4) c33_20
abbrev c33_22 : SC := .seq (.ops r33_3) c33_21
abbrev c33_23 : SC := .seq (.ops r33_2) c33_22
abbrev c33_24 : SC := .seq (.ops r33_1) c33_23
def s33 : SF := ⟨[.c 4 true 10], c33_24, false, none, none⟩
/-! slices.Equal[[]string,string] -/
abbrev r34_1 : List SOper := [
  ⟨some 4, none, .mov (.c (.bool false))⟩]
abbrev r34_2 : List SOper := [
  ⟨some 6, none, .mov (.t 0)⟩,
  ⟨some 7, none, .len 1 (.t 6)⟩,
  ⟨some 8, none, .mov (.t 1)⟩,
  ⟨some 9, none, .len 1 (.t 8)⟩,
  ⟨some 10, none, .bin .neq (.t 7) (.t 9)⟩]
abbrev r34_3 : List SOper := [
  ⟨some 4, none, .mov (.c (.bool false))⟩]
abbrev c34_4 : SC := .seq (.ops r34_3) (.ret)
abbrev c34_5 : SC := .cond (.t 10) c34_4 (.skip)
abbrev c34_6 : SC := .seq (.ops r34_2) c34_5
abbrev r34_7 : List SOper := [
  ⟨some 11, none, .mov (.t 0)⟩,
  ⟨some 12, none, .len 1 (.t 11)⟩,
  ⟨some 13, none, .mov (.c (.int .i64 0))⟩]
abbrev r34_8 : List SOper := [
  ⟨some 14, none, .bin .lss (.t 13) (.t 12)⟩]
abbrev c34_9 : SC := .cond (.t 14) (.skip) (.exit 0)
abbrev r34_10 : List SOper := [
  ⟨some 15, none, .mov (.t 13)⟩,
  ⟨some 5, none, .mov (.t 15)⟩]
abbrev r34_11 : List SOper := [
  ⟨some 16, none, .mov (.t 0)⟩,
  ⟨some 17, none, .mov (.t 5)⟩,
  ⟨some 18, none, .iaddr none 1 (.t 16) (.t 17)⟩,
  ⟨some 19, none, .load false false 1 (.t 18)⟩,
  ⟨some 20, none, .mov (.t 1)⟩,
  ⟨some 21, none, .mov (.t 5)⟩,
  ⟨some 22, none, .iaddr none 1 (.t 20) (.t 21)⟩,
  ⟨some 23, none, .load false false 1 (.t 22)⟩,
  ⟨some 24, none, .bin .neq (.t 19) (.t 23)⟩]
abbrev r34_12 : List SOper := [
  ⟨some 4, none, .mov (.c (.bool false))⟩]
abbrev c34_13 : SC := .seq (.ops r34_12) (.ret)
abbrev c34_14 : SC := .cond (.t 24) c34_13 (.skip)
abbrev c34_15 : SC := .seq (.draw 0 [[], [], [0, 1], [2], [], [], [4, 5], [6], [3, 7]] r34_11) c34_14
abbrev c34_16 : SC := .seq (.ops r34_10) c34_15
abbrev c34_17 : SC := .block 1 [0, 1, 12, 13] [] c34_16
abbrev r34_18 : List SOper := [
  ⟨some 25, none, .bin .add (.t 13) (.c (.int .i64 1))⟩,
  ⟨some 13, none, .mov (.t 25)⟩]
abbrev c34_19 : SC := .seq c34_17 (.ops r34_18)
abbrev c34_20 : SC := .seq c34_9 c34_19
abbrev c34_21 : SC := .seq (.ops r34_8) c34_20
abbrev L34_1 : SC := .loop [0, 1, 12, 13] [] c34_21
abbrev c34_22 : SC := .block 0 [] [] L34_1
abbrev c34_23 : SC := .seq (.ops r34_7) c34_22
abbrev r34_24 : List SOper := [
  ⟨some 4, none, .mov (.c (.bool true))⟩]
abbrev c34_25 : SC := .seq (.ops r34_24) (.ret)
abbrev c34_26 : SC := .seq c34_23 c34_25
abbrev c34_27 : SC := .seq c34_6 c34_26
abbrev c34_28 : SC := .seq (.ops r34_1) c34_27
def s34 : SF := ⟨[.t 4], c34_28, false, none, none⟩
/-! crannog/instant.Of -/
abbrev r67_1 : List SOper := [
  ⟨some 2, none, .mov (.c (.int .u64 0))⟩,
  ⟨some 3, none, .mov (.c (.int .i64 0))⟩]
abbrev r67_2 : List SOper := [
  ⟨some 5, none, .mov (.t 0)⟩,
  ⟨some 6, none, .call false (.c (.func 113 [])) [.t 5]⟩]
abbrev r67_3 : List SOper := [
  ⟨some 2, none, .mov (.c (.int .u64 0))⟩,
  ⟨some 3, none, .mov (.c (.int .i64 202))⟩]
abbrev c67_4 : SC := .seq (.ops r67_3) (.ret)
abbrev c67_5 : SC := .cond (.t 6) c67_4 (.skip)
abbrev c67_6 : SC := .seq (.ops r67_2) c67_5
abbrev r67_7 : List SOper := [
  ⟨some 7, none, .mov (.t 0)⟩,
  ⟨some 8, none, .bin .eql (.t 7) (.c (.float .f64 0))⟩]
abbrev r67_8 : List SOper := [
  ⟨some 2, none, .mov (.c (.int .u64 9223372036854775808))⟩,
  ⟨some 3, none, .mov (.c (.int .i64 0))⟩]
abbrev c67_9 : SC := .seq (.ops r67_8) (.ret)
abbrev c67_10 : SC := .cond (.t 8) c67_9 (.skip)
abbrev c67_11 : SC := .seq (.ops r67_7) c67_10
abbrev r67_12 : List SOper := [
  ⟨some 9, none, .mov (.t 0)⟩,
  ⟨some 10, none, .call false (.c (.func 49 [])) [.t 9]⟩,
  ⟨some 4, none, .mov (.t 10)⟩]
abbrev r67_13 : List SOper := [
  ⟨some 11, none, .mov (.t 4)⟩,
  ⟨some 12, none, .bin .and (.t 11) (.c (.int .u64 9223372036854775808))⟩,
  ⟨some 13, none, .bin .neq (.t 12) (.c (.int .u64 0))⟩]
abbrev r67_14 : List SOper := [
  ⟨some 14, none, .mov (.t 4)⟩,
  ⟨some 15, none, .un .xor (.t 14)⟩,
  ⟨some 2, none, .mov (.t 15)⟩,
  ⟨some 3, none, .mov (.c (.int .i64 0))⟩]
abbrev c67_15 : SC := .seq (.ops r67_14) (.ret)
abbrev c67_16 : SC := .cond (.t 13) c67_15 (.skip)
abbrev c67_17 : SC := .seq (.ops r67_13) c67_16
abbrev r67_18 : List SOper := [
  ⟨some 16, none, .mov (.t 4)⟩,
  ⟨some 17, none, .bin .or (.t 16) (.c (.int .u64 9223372036854775808))⟩,
  ⟨some 2, none, .mov (.t 17)⟩,
  ⟨some 3, none, .mov (.c (.int .i64 0))⟩]
abbrev c67_19 : SC := .seq (.ops r67_18) (.ret)
abbrev c67_20 : SC := .seq c67_17 c67_19
abbrev c67_21 : SC := .seq (.ops r67_12) c67_20
abbrev c67_22 : SC := .seq c67_11 c67_21
abbrev c67_23 : SC := .seq c67_6 c67_22
abbrev c67_24 : SC := .seq (.ops r67_1) c67_23
def s67 : SF := ⟨[.t 2, .t 3], c67_24, false, none, none⟩
/-! crannog/calls.Do$1 -/
abbrev r68_1 : List SOper := [
  ⟨some 7, none, .ifn false (.t 5)⟩]
abbrev r68_2 : List SOper := [
  ⟨some 2, none, .mov (.t 5)⟩]
abbrev r68_3 : List SOper := [
  ⟨some 8, none, .tassert 132 (.t 5)⟩,
  ⟨some 9, none, .extract (.t 8) 1⟩,
  ⟨some 10, none, .extract (.t 8) 0⟩]
abbrev r68_4 : List SOper := [
  ⟨some 3, none, .allocL [.int .i64 0]⟩,
  ⟨none, none, .store 1 (.t 3) (.t 10)⟩]
abbrev r68_5 : List SOper := [
  ⟨some 11, none, .faddr 0 (.t 3)⟩,
  ⟨some 12, none, .load false false 1 (.t 11)⟩,
  ⟨some 13, none, .build [.int .i64 0, .str [], .nils, .int .i64 0, .int .i64 0, .int .i64 0, .int .i64 0, .int .u64 0, .int .i64 0, .int .i64 0] [(0, 1, .t 12)]⟩,
  ⟨some 14, none, .build [.int .i64 0, .int .i64 0, .int .i64 0, .int .i64 0, .int .i64 0, .int .i64 0, .int .i64 0, .int .i64 0, .nils, .nils] []⟩,
  ⟨none, none, .store 10 (.t 0) (.t 13)⟩,
  ⟨none, none, .store 10 (.t 1) (.t 14)⟩]
abbrev c68_6 : SC := .seq (.ops r68_4) (.ops r68_5)
abbrev r68_7 : List SOper := [
  ⟨some 4, none, .mov (.t 5)⟩]
abbrev r68_8 : List SOper := [
  ⟨some 6, none, .mov (.t 4)⟩,
  ⟨none, none, .panic (.t 6)⟩]
abbrev c68_9 : SC := .seq (.ops r68_7) (.ops r68_8)
abbrev c68_10 : SC := .cond (.t 9) c68_6 c68_9
abbrev c68_11 : SC := .seq (.ops r68_3) c68_10
abbrev c68_12 : SC := .cond (.t 7) (.ops r68_2) c68_11
abbrev c68_13 : SC := .seq (.ops r68_1) c68_12
abbrev c68_14 : SC := .block 0 [] [] c68_13
def s68 : SF := ⟨[], .skip, false, none, some ⟨.skip, 5, c68_14⟩⟩
/-! crannog/calls.fine -/
abbrev r69_1 : List SOper := [
  ⟨some 2, none, .mov (.t 0)⟩,
  ⟨some 3, none, .bin .eql (.t 2) (.c (.int .i64 0))⟩,
  ⟨some 4, none, .mov (.t 0)⟩,
  ⟨some 5, none, .call false (.c (.func 114 [])) [.t 3, .t 4]⟩]
def s69 : SF := ⟨[], .ops r69_1, false, none, none⟩
/-! crannog/facts.Check -/
abbrev r70_1 : List SOper := [
  ⟨some 1, none, .boxL (.t 0)⟩,
  ⟨some 2, none, .mov (.c (.int .i64 0))⟩]
abbrev r70_2 : List SOper := [
  ⟨some 10, none, .faddr 0 (.t 1)⟩,
  ⟨some 11, none, .load false true 8 (.t 10)⟩,
  ⟨some 12, none, .call false (.c (.func 115 [])) [.t 11]⟩,
  ⟨some 13, none, .un .not (.t 12)⟩,
  ⟨some 14, none, .mov (.t 13)⟩,
  ⟨some 15, some (14, false), .faddr 8 (.t 1)⟩,
  ⟨some 16, some (14, false), .load false false 1 (.t 15)⟩,
  ⟨some 17, some (14, false), .len 1 (.t 16)⟩,
  ⟨some 18, some (14, false), .bin .lss (.t 17) (.c (.int .i64 1))⟩,
  ⟨some 19, none, .pick (.t 14) (.c (.bool true)) (.t 18)⟩,
  ⟨some 20, none, .mov (.t 19)⟩,
  ⟨some 21, some (20, false), .faddr 8 (.t 1)⟩,
  ⟨some 22, some (20, false), .load false false 1 (.t 21)⟩,
  ⟨some 23, some (20, false), .len 1 (.t 22)⟩,
  ⟨some 24, some (20, false), .bin .gtr (.t 23) (.c (.int .i64 480))⟩,
  ⟨some 25, none, .pick (.t 20) (.c (.bool true)) (.t 24)⟩,
  ⟨some 26, none, .mov (.t 25)⟩,
  ⟨some 27, some (26, false), .faddr 9 (.t 1)⟩,
  ⟨some 28, some (26, false), .load false false 1 (.t 27)⟩,
  ⟨some 29, some (26, false), .len 1 (.t 28)⟩,
  ⟨some 30, some (26, false), .bin .gtr (.t 29) (.c (.int .i64 640))⟩,
  ⟨some 31, none, .pick (.t 26) (.c (.bool true)) (.t 30)⟩]
abbrev r70_3 : List SOper := [
  ⟨some 2, none, .mov (.c (.int .i64 201))⟩]
abbrev c70_4 : SC := .seq (.ops r70_3) (.ret)
abbrev c70_5 : SC := .cond (.t 31) c70_4 (.skip)
abbrev c70_6 : SC := .seq (.ops r70_2) c70_5
abbrev r70_7 : List SOper := [
  ⟨some 32, none, .faddr 8 (.t 1)⟩,
  ⟨some 33, none, .load false false 1 (.t 32)⟩,
  ⟨some 34, none, .call false (.c (.func 116 [])) [.t 33, .c (.func 117 [])]⟩,
  ⟨some 35, none, .un .not (.t 34)⟩,
  ⟨some 36, none, .mov (.t 35)⟩,
  ⟨some 37, some (36, false), .faddr 9 (.t 1)⟩,
  ⟨some 38, some (36, false), .load false false 1 (.t 37)⟩,
  ⟨some 39, some (36, false), .call false (.c (.func 118 [])) [.t 38, .c (.func 119 [])]⟩,
  ⟨some 40, some (36, false), .un .not (.t 39)⟩,
  ⟨some 41, none, .pick (.t 36) (.c (.bool true)) (.t 40)⟩]
abbrev r70_8 : List SOper := [
  ⟨some 2, none, .mov (.c (.int .i64 201))⟩]
abbrev c70_9 : SC := .seq (.ops r70_8) (.ret)
abbrev c70_10 : SC := .cond (.t 41) c70_9 (.skip)
abbrev c70_11 : SC := .seq (.ops r70_7) c70_10
abbrev r70_12 : List SOper := [
  ⟨some 42, none, .load false true 10 (.t 1)⟩,
  ⟨some 43, none, .mkmap none⟩,
  ⟨some 44, none, .mkmap none⟩,
  ⟨some 45, none, .build [.int .i64 0, .int .i64 0, .int .i64 0, .int .i64 0, .int .i64 0, .int .i64 0, .int .i64 0, .int .i64 0, .nils, .nils, .nilm, .nilm] [(0, 10, .t 42), (10, 1, .t 43), (11, 1, .t 44)]⟩,
  ⟨some 46, none, .boxH none (.t 45)⟩,
  ⟨some 3, none, .mov (.t 46)⟩]
abbrev r70_13 : List SOper := [
  ⟨some 47, none, .faddr 8 (.t 1)⟩,
  ⟨some 48, none, .load false false 1 (.t 47)⟩,
  ⟨some 49, none, .len 1 (.t 48)⟩,
  ⟨some 50, none, .mov (.c (.int .i64 0))⟩]
abbrev r70_14 : List SOper := [
  ⟨some 51, none, .bin .lss (.t 50) (.t 49)⟩]
abbrev c70_15 : SC := .cond (.t 51) (.skip) (.exit 0)
abbrev r70_16 : List SOper := [
  ⟨some 52, none, .mov (.t 50)⟩,
  ⟨some 53, none, .iaddr none 13 (.t 48) (.t 50)⟩,
  ⟨some 54, none, .load false true 13 (.t 53)⟩,
  ⟨some 5, none, .allocL [.int .i64 0, .int .i64 0, .int .i64 0, .str [], .int .i64 0, .int .i64 0, .int .i64 0, .int .u64 0, .int .i64 0, .int .i64 0, .int .i64 0, .nils, .nils]⟩,
  ⟨some 4, none, .mov (.t 52)⟩,
  ⟨none, none, .store 13 (.t 5) (.t 54)⟩]
abbrev r70_17 : List SOper := [
  ⟨some 55, none, .mov (.t 3)⟩,
  ⟨some 56, none, .mov (.t 4)⟩,
  ⟨some 57, none, .load false true 13 (.t 5)⟩,
  ⟨some 58, none, .call false (.c (.func 120 [])) [.t 55, .t 56, .t 57]⟩,
  ⟨some 59, none, .un .not (.t 58)⟩]
abbrev r70_18 : List SOper := [
  ⟨some 2, none, .mov (.c (.int .i64 201))⟩]
abbrev c70_19 : SC := .seq (.ops r70_18) (.ret)
abbrev c70_20 : SC := .cond (.t 59) c70_19 (.skip)
abbrev c70_21 : SC := .seq (.ops r70_17) c70_20
abbrev r70_22 : List SOper := [
  ⟨some 60, none, .mov (.t 3)⟩,
  ⟨some 61, none, .nilck (.t 60)⟩,
  ⟨some 62, none, .faddr 10 (.t 61)⟩,
  ⟨some 63, none, .load false false 1 (.t 62)⟩,
  ⟨some 64, none, .faddr 0 (.t 5)⟩,
  ⟨some 65, none, .load false true 2 (.t 64)⟩,
  ⟨some 66, none, .faddr 2 (.t 5)⟩,
  ⟨some 67, none, .load false false 1 (.t 66)⟩,
  ⟨none, none, .mapup (.agg [.int .i64, .int .i64]) (.t 63) (.t 65) (.t 67)⟩]
abbrev c70_23 : SC := .seq c70_21 (.draw 0 [[], [0], [1], [2], [], [4], [], [6], [3, 5, 7]] r70_22)
abbrev c70_24 : SC := .seq (.ops r70_16) c70_23
abbrev c70_25 : SC := .block 1 [1, 3, 48, 49, 50] [1] c70_24
abbrev r70_26 : List SOper := [
  ⟨some 68, none, .bin .add (.t 50) (.c (.int .i64 1))⟩,
  ⟨some 50, none, .mov (.t 68)⟩]
abbrev c70_27 : SC := .seq c70_25 (.ops r70_26)
abbrev c70_28 : SC := .seq c70_15 c70_27
abbrev c70_29 : SC := .seq (.ops r70_14) c70_28
abbrev L70_1 : SC := .loop [1, 3, 48, 49, 50] [1] c70_29
abbrev c70_30 : SC := .block 0 [1, 3] [1] L70_1
abbrev c70_31 : SC := .seq (.ops r70_13) c70_30
abbrev r70_32 : List SOper := [
  ⟨some 69, none, .faddr 9 (.t 1)⟩,
  ⟨some 70, none, .load false false 1 (.t 69)⟩,
  ⟨some 71, none, .len 1 (.t 70)⟩,
  ⟨some 72, none, .mov (.c (.int .i64 0))⟩]
abbrev r70_33 : List SOper := [
  ⟨some 73, none, .bin .lss (.t 72) (.t 71)⟩]
abbrev c70_34 : SC := .cond (.t 73) (.skip) (.exit 2)
abbrev r70_35 : List SOper := [
  ⟨some 74, none, .iaddr none 25 (.t 70) (.t 72)⟩,
  ⟨some 75, none, .load false true 25 (.t 74)⟩,
  ⟨some 7, none, .allocL [.int .i64 0, .int .i64 0, .int .i64 0, .int .i64 0, .int .i64 0, .int .i64 0, .int .i64 0, .int .i64 0, .str [], .int .i64 0, .int .i64 0, .int .i64 0, .int .i64 0, .int .i64 0, .int .i64 0, .int .i64 0, .int .i64 0, .int .i64 0, .int .i64 0, .int .i64 0, .int .i64 0, .int .i64 0, .int .i64 0, .int .i64 0, .int .i64 0]⟩,
  ⟨none, none, .store 25 (.t 7) (.t 75)⟩]
abbrev r70_36 : List SOper := [
  ⟨some 76, none, .mov (.t 3)⟩,
  ⟨some 77, none, .load false true 25 (.t 7)⟩,
  ⟨some 78, none, .call false (.c (.func 121 [])) [.t 76, .t 77]⟩,
  ⟨some 79, none, .un .not (.t 78)⟩]
abbrev r70_37 : List SOper := [
  ⟨some 2, none, .mov (.c (.int .i64 201))⟩]
abbrev c70_38 : SC := .seq (.ops r70_37) (.ret)
abbrev c70_39 : SC := .cond (.t 79) c70_38 (.skip)
abbrev c70_40 : SC := .seq (.ops r70_36) c70_39
abbrev c70_41 : SC := .seq (.ops r70_35) c70_40
abbrev c70_42 : SC := .block 3 [1, 3, 70, 71, 72] [1] c70_41
abbrev r70_43 : List SOper := [
  ⟨some 80, none, .bin .add (.t 72) (.c (.int .i64 1))⟩,
  ⟨some 72, none, .mov (.t 80)⟩]
abbrev c70_44 : SC := .seq c70_42 (.ops r70_43)
abbrev c70_45 : SC := .seq c70_34 c70_44
abbrev c70_46 : SC := .seq (.ops r70_33) c70_45
abbrev L70_2 : SC := .loop [1, 3, 70, 71, 72] [1] c70_46
abbrev c70_47 : SC := .block 2 [1, 3] [1] L70_2
abbrev c70_48 : SC := .seq (.ops r70_32) c70_47
abbrev r70_49 : List SOper := [
  ⟨some 81, none, .faddr 8 (.t 1)⟩,
  ⟨some 82, none, .load false false 1 (.t 81)⟩,
  ⟨some 83, none, .slice false 13 (.t 82) (some (.c (.int .i64 1))) none none⟩,
  ⟨some 84, none, .len 1 (.t 83)⟩,
  ⟨some 85, none, .mov (.c (.int .i64 0))⟩]
abbrev r70_50 : List SOper := [
  ⟨some 86, none, .bin .lss (.t 85) (.t 84)⟩]
abbrev c70_51 : SC := .cond (.t 86) (.skip) (.exit 4)
abbrev r70_52 : List SOper := [
  ⟨some 87, none, .iaddr none 13 (.t 83) (.t 85)⟩,
  ⟨some 88, none, .load false true 13 (.t 87)⟩,
  ⟨some 9, none, .allocL [.int .i64 0, .int .i64 0, .int .i64 0, .str [], .int .i64 0, .int .i64 0, .int .i64 0, .int .u64 0, .int .i64 0, .int .i64 0, .int .i64 0, .nils, .nils]⟩,
  ⟨none, none, .store 13 (.t 9) (.t 88)⟩]
abbrev r70_53 : List SOper := [
  ⟨some 89, none, .faddr 2 (.t 9)⟩,
  ⟨some 90, none, .load false false 1 (.t 89)⟩,
  ⟨some 91, none, .bin .eql (.t 90) (.c (.int .i64 2))⟩,
  ⟨some 92, none, .mov (.t 91)⟩,
  ⟨some 93, some (92, true), .mov (.t 3)⟩,
  ⟨some 94, some (92, true), .nilck (.t 93)⟩,
  ⟨some 95, some (92, true), .faddr 11 (.t 94)⟩,
  ⟨some 96, some (92, true), .load false false 1 (.t 95)⟩,
  ⟨some 97, some (92, true), .faddr 0 (.t 9)⟩,
  ⟨some 98, some (92, true), .load false true 2 (.t 97)⟩,
  ⟨some 99, some (92, true), .lookup (.agg [.int .i64, .int .i64]) (.int .i64 0) false (.t 96) (.t 98)⟩,
  ⟨some 100, some (92, true), .bin .eql (.t 99) (.c (.int .i64 0))⟩,
  ⟨some 101, none, .pick (.t 92) (.t 100) (.c (.bool false))⟩]
abbrev r70_54 : List SOper := [
  ⟨some 2, none, .mov (.c (.int .i64 201))⟩]
abbrev c70_55 : SC := .seq (.ops r70_54) (.ret)
abbrev c70_56 : SC := .cond (.t 101) c70_55 (.skip)
abbrev c70_57 : SC := .seq (.draw 0 [[], [0], [1], [2], [3], [4], [5], [6], [3], [8], [7, 9], [10], [11]] r70_53) c70_56
abbrev c70_58 : SC := .seq (.ops r70_52) c70_57
abbrev c70_59 : SC := .block 5 [3, 83, 84, 85] [] c70_58
abbrev r70_60 : List SOper := [
  ⟨some 102, none, .bin .add (.t 85) (.c (.int .i64 1))⟩,
  ⟨some 85, none, .mov (.t 102)⟩]
abbrev c70_61 : SC := .seq c70_59 (.ops r70_60)
abbrev c70_62 : SC := .seq c70_51 c70_61
abbrev c70_63 : SC := .seq (.ops r70_50) c70_62
abbrev L70_3 : SC := .loop [3, 83, 84, 85] [] c70_63
abbrev c70_64 : SC := .block 4 [] [] L70_3
abbrev c70_65 : SC := .seq (.ops r70_49) c70_64
abbrev r70_66 : List SOper := [
  ⟨some 2, none, .mov (.c (.int .i64 0))⟩]
abbrev c70_67 : SC := .seq (.ops r70_66) (.ret)
abbrev c70_68 : SC := .seq c70_65 c70_67
abbrev c70_69 : SC := .seq c70_48 c70_68
abbrev c70_70 : SC := .seq c70_31 c70_69
abbrev c70_71 : SC := .seq (.ops r70_12) c70_70
abbrev c70_72 : SC := .seq c70_11 c70_71
abbrev c70_73 : SC := .seq c70_6 c70_72
abbrev c70_74 : SC := .seq (.ops r70_1) c70_73
def s70 : SF := ⟨[.t 2], c70_74, false, none, none⟩
/-! crannog/view.Shown -/
abbrev r71_1 : List SOper := [
  ⟨some 1, none, .boxL (.t 0)⟩,
  ⟨some 2, none, .mov (.c (.nils))⟩]
abbrev r71_2 : List SOper := [
  ⟨some 13, none, .load false true 10 (.t 1)⟩,
  ⟨some 14, none, .call false (.c (.func 70 [])) [.t 13]⟩,
  ⟨some 15, none, .bin .neq (.t 14) (.c (.int .i64 0))⟩]
abbrev r71_3 : List SOper := [
  ⟨some 2, none, .mov (.c (.nils))⟩]
abbrev c71_4 : SC := .seq (.ops r71_3) (.ret)
abbrev c71_5 : SC := .cond (.t 15) c71_4 (.skip)
abbrev c71_6 : SC := .seq (.ops r71_2) c71_5
abbrev r71_7 : List SOper := [
  ⟨some 16, none, .faddr 9 (.t 1)⟩,
  ⟨some 17, none, .load true false 1 (.t 16)⟩,
  ⟨some 18, none, .mkmap (some 0)⟩,
  ⟨some 19, none, .faddr 9 (.t 1)⟩,
  ⟨some 20, none, .load true false 1 (.t 19)⟩,
  ⟨some 21, none, .len 1 (.t 20)⟩,
  ⟨some 22, none, .mkslice (some 1) 1 1 (.bool false) (.t 21) (.t 21)⟩,
  ⟨some 23, none, .faddr 9 (.t 1)⟩,
  ⟨some 24, none, .load true false 1 (.t 23)⟩,
  ⟨some 25, none, .len 1 (.t 24)⟩,
  ⟨some 26, none, .mkslice (some 2) 1 1 (.bool false) (.t 25) (.t 25)⟩,
  ⟨some 27, none, .build [.nils, .nilm, .nils, .nils] [(0, 1, .t 17), (1, 1, .t 18), (2, 1, .t 22), (3, 1, .t 26)]⟩,
  ⟨some 28, none, .boxH none (.t 27)⟩,
  ⟨some 3, none, .mov (.t 28)⟩]
abbrev r71_8 : List SOper := [
  ⟨some 29, none, .faddr 9 (.t 1)⟩,
  ⟨some 30, none, .load false false 1 (.t 29)⟩,
  ⟨some 31, none, .len 1 (.t 30)⟩,
  ⟨some 32, none, .mov (.c (.int .i64 0))⟩]
abbrev r71_9 : List SOper := [
  ⟨some 33, none, .bin .lss (.t 32) (.t 31)⟩]
abbrev c71_10 : SC := .cond (.t 33) (.skip) (.exit 0)
abbrev r71_11 : List SOper := [
  ⟨some 34, none, .mov (.t 32)⟩,
  ⟨some 35, none, .iaddr none 25 (.t 30) (.t 32)⟩,
  ⟨some 36, none, .load false true 25 (.t 35)⟩,
  ⟨some 5, none, .allocL [.int .i64 0, .int .i64 0, .int .i64 0, .int .i64 0, .int .i64 0, .int .i64 0, .int .i64 0, .int .i64 0, .str [], .int .i64 0, .int .i64 0, .int .i64 0, .int .i64 0, .int .i64 0, .int .i64 0, .int .i64 0, .int .i64 0, .int .i64 0, .int .i64 0, .int .i64 0, .int .i64 0, .int .i64 0, .int .i64 0, .int .i64 0, .int .i64 0]⟩,
  ⟨some 4, none, .mov (.t 34)⟩,
  ⟨none, none, .store 25 (.t 5) (.t 36)⟩]
abbrev r71_12 : List SOper := [
  ⟨some 38, none, .load false true 10 (.t 1)⟩,
  ⟨some 39, none, .faddr 2 (.t 5)⟩,
  ⟨some 40, none, .load false true 2 (.t 39)⟩,
  ⟨some 41, none, .call false (.c (.func 122 [])) [.t 38, .t 40]⟩,
  ⟨some 37, none, .mov (.t 41)⟩,
  ⟨some 42, none, .extract (.t 37) 0⟩,
  ⟨some 43, none, .extract (.t 37) 1⟩,
  ⟨some 6, none, .allocL [.int .i64 0, .int .i64 0, .int .i64 0, .str [], .int .i64 0, .int .i64 0, .int .i64 0, .int .u64 0, .int .i64 0, .int .i64 0, .int .i64 0, .nils, .nils]⟩,
  ⟨none, none, .store 13 (.t 6) (.t 42)⟩,
  ⟨some 7, none, .mov (.t 43)⟩]
abbrev r71_13 : List SOper := [
  ⟨some 44, none, .faddr 2 (.t 6)⟩,
  ⟨some 45, none, .load false false 1 (.t 44)⟩,
  ⟨some 46, none, .bin .eql (.t 45) (.c (.int .i64 2))⟩]
abbrev r71_14 : List SOper := [
  ⟨some 47, none, .mov (.t 3)⟩,
  ⟨some 48, none, .nilck (.t 47)⟩,
  ⟨some 49, none, .faddr 1 (.t 48)⟩,
  ⟨some 50, none, .load false false 1 (.t 49)⟩,
  ⟨some 51, none, .faddr 2 (.t 5)⟩,
  ⟨some 52, none, .load false true 2 (.t 51)⟩,
  ⟨some 53, none, .mov (.t 4)⟩,
  ⟨none, none, .mapup (.agg [.int .i64, .int .i64]) (.t 50) (.t 52) (.t 53)⟩]
abbrev c71_15 : SC := .cond (.t 46) (.draw 0 [[], [0], [1], [2], [], [4], [], [3, 5, 6]] r71_14) (.skip)
abbrev c71_16 : SC := .seq (.ops r71_13) c71_15
abbrev c71_17 : SC := .seq (.ops r71_12) c71_16
abbrev c71_18 : SC := .seq (.ops r71_11) c71_17
abbrev c71_19 : SC := .block 1 [1, 3, 30, 31, 32] [1] c71_18
abbrev r71_20 : List SOper := [
  ⟨some 54, none, .bin .add (.t 32) (.c (.int .i64 1))⟩,
  ⟨some 32, none, .mov (.t 54)⟩]
abbrev c71_21 : SC := .seq c71_19 (.ops r71_20)
abbrev c71_22 : SC := .seq c71_10 c71_21
abbrev c71_23 : SC := .seq (.ops r71_9) c71_22
abbrev L71_1 : SC := .loop [1, 3, 30, 31, 32] [1] c71_23
abbrev c71_24 : SC := .block 0 [1, 3] [1] L71_1
abbrev c71_25 : SC := .seq (.ops r71_8) c71_24
abbrev r71_26 : List SOper := [
  ⟨some 55, none, .faddr 9 (.t 1)⟩,
  ⟨some 56, none, .load false false 1 (.t 55)⟩,
  ⟨some 57, none, .len 1 (.t 56)⟩,
  ⟨some 58, none, .mov (.c (.int .i64 0))⟩]
abbrev r71_27 : List SOper := [
  ⟨some 59, none, .bin .lss (.t 58) (.t 57)⟩]
abbrev c71_28 : SC := .cond (.t 59) (.skip) (.exit 2)
abbrev r71_29 : List SOper := [
  ⟨some 60, none, .mov (.t 58)⟩,
  ⟨some 61, none, .iaddr none 25 (.t 56) (.t 58)⟩,
  ⟨some 62, none, .load false true 25 (.t 61)⟩,
  ⟨some 9, none, .allocL [.int .i64 0, .int .i64 0, .int .i64 0, .int .i64 0, .int .i64 0, .int .i64 0, .int .i64 0, .int .i64 0, .str [], .int .i64 0, .int .i64 0, .int .i64 0, .int .i64 0, .int .i64 0, .int .i64 0, .int .i64 0, .int .i64 0, .int .i64 0, .int .i64 0, .int .i64 0, .int .i64 0, .int .i64 0, .int .i64 0, .int .i64 0, .int .i64 0]⟩,
  ⟨some 8, none, .mov (.t 60)⟩,
  ⟨none, none, .store 25 (.t 9) (.t 62)⟩]
abbrev r71_30 : List SOper := [
  ⟨some 63, none, .load false true 25 (.t 9)⟩,
  ⟨some 64, none, .call false (.c (.func 123 [])) [.t 63]⟩]
abbrev r71_31 : List SOper := [
  ⟨some 65, none, .mov (.t 3)⟩,
  ⟨some 66, none, .mov (.t 8)⟩,
  ⟨some 67, none, .call false (.c (.func 124 [])) [.t 65, .t 66]⟩]
abbrev c71_32 : SC := .cond (.t 64) (.ops r71_31) (.skip)
abbrev c71_33 : SC := .seq (.ops r71_30) c71_32
abbrev c71_34 : SC := .seq (.ops r71_29) c71_33
abbrev c71_35 : SC := .block 3 [1, 3, 56, 57, 58] [1] c71_34
abbrev r71_36 : List SOper := [
  ⟨some 68, none, .bin .add (.t 58) (.c (.int .i64 1))⟩,
  ⟨some 58, none, .mov (.t 68)⟩]
abbrev c71_37 : SC := .seq c71_35 (.ops r71_36)
abbrev c71_38 : SC := .seq c71_28 c71_37
abbrev c71_39 : SC := .seq (.ops r71_27) c71_38
abbrev L71_2 : SC := .loop [1, 3, 56, 57, 58] [1] c71_39
abbrev c71_40 : SC := .block 2 [1, 3] [1] L71_2
abbrev c71_41 : SC := .seq (.ops r71_26) c71_40
abbrev r71_42 : List SOper := [
  ⟨some 69, none, .mov (.t 3)⟩,
  ⟨some 70, none, .call false (.c (.func 125 [])) [.t 69]⟩]
abbrev r71_43 : List SOper := [
  ⟨some 71, none, .mov (.t 3)⟩,
  ⟨some 72, none, .call false (.c (.func 126 [])) [.t 71]⟩]
abbrev r71_44 : List SOper := [
  ⟨some 10, none, .mov (.c (.nils))⟩]
abbrev r71_45 : List SOper := [
  ⟨some 73, none, .faddr 9 (.t 1)⟩,
  ⟨some 74, none, .load false false 1 (.t 73)⟩,
  ⟨some 75, none, .len 1 (.t 74)⟩,
  ⟨some 76, none, .mov (.c (.int .i64 0))⟩]
abbrev r71_46 : List SOper := [
  ⟨some 77, none, .bin .lss (.t 76) (.t 75)⟩]
abbrev c71_47 : SC := .cond (.t 77) (.skip) (.exit 4)
abbrev r71_48 : List SOper := [
  ⟨some 78, none, .mov (.t 76)⟩,
  ⟨some 79, none, .iaddr none 25 (.t 74) (.t 76)⟩,
  ⟨some 80, none, .load false true 25 (.t 79)⟩,
  ⟨some 12, none, .allocL [.int .i64 0, .int .i64 0, .int .i64 0, .int .i64 0, .int .i64 0, .int .i64 0, .int .i64 0, .int .i64 0, .str [], .int .i64 0, .int .i64 0, .int .i64 0, .int .i64 0, .int .i64 0, .int .i64 0, .int .i64 0, .int .i64 0, .int .i64 0, .int .i64 0, .int .i64 0, .int .i64 0, .int .i64 0, .int .i64 0, .int .i64 0, .int .i64 0]⟩,
  ⟨some 11, none, .mov (.t 78)⟩,
  ⟨none, none, .store 25 (.t 12) (.t 80)⟩]
abbrev r71_49 : List SOper := [
  ⟨some 94, none, .mov (.t 3)⟩,
  ⟨some 95, none, .nilck (.t 94)⟩,
  ⟨some 96, none, .faddr 2 (.t 95)⟩,
  ⟨some 97, none, .load false false 1 (.t 96)⟩,
  ⟨some 98, none, .mov (.t 11)⟩,
  ⟨some 99, none, .iaddr none 1 (.t 97) (.t 98)⟩,
  ⟨some 100, none, .load false false 1 (.t 99)⟩,
  ⟨some 101, none, .un .not (.t 100)⟩,
  ⟨some 93, none, .mov (.t 101)⟩]
abbrev r71_50 : List SOper := [
  ⟨some 103, none, .mov (.t 3)⟩,
  ⟨some 104, none, .nilck (.t 103)⟩,
  ⟨some 105, none, .faddr 3 (.t 104)⟩,
  ⟨some 106, none, .load false false 1 (.t 105)⟩,
  ⟨some 107, none, .mov (.t 11)⟩,
  ⟨some 108, none, .iaddr none 1 (.t 106) (.t 107)⟩,
  ⟨some 109, none, .load false false 1 (.t 108)⟩,
  ⟨some 102, none, .mov (.t 109)⟩]
abbrev r71_51 : List SOper := [
  ⟨some 110, none, .mov (.t 10)⟩,
  ⟨some 111, none, .faddr 0 (.t 12)⟩,
  ⟨some 112, none, .load true true 2 (.t 111)⟩,
  ⟨some 113, none, .faddr 2 (.t 12)⟩,
  ⟨some 114, none, .load true true 2 (.t 113)⟩,
  ⟨some 115, none, .call true (.c (.func 127 [])) []⟩,
  ⟨some 116, none, .faddr 0 (.t 12)⟩,
  ⟨some 117, none, .load true true 2 (.t 116)⟩,
  ⟨some 118, none, .call true (.c (.func 128 [])) [.t 117]⟩,
  ⟨some 119, none, .build [.int .i64 0, .int .i64 0, .int .i64 0, .int .i64 0, .int .i64 0, .int .i64 0, .str [], .bool false] [(0, 2, .t 112), (2, 2, .t 114), (4, 2, .t 115), (6, 1, .t 118), (7, 1, .c (.bool true))]⟩,
  ⟨some 120, none, .bsnap 8 [.t 119]⟩,
  ⟨some 121, none, .append 8 72 (.t 110) (.t 120)⟩,
  ⟨some 10, none, .mov (.t 121)⟩]
abbrev r71_52 : List SOper := [
  ⟨some 81, none, .mov (.t 10)⟩,
  ⟨some 82, none, .faddr 0 (.t 12)⟩,
  ⟨some 83, none, .load false true 2 (.t 82)⟩,
  ⟨some 84, none, .faddr 2 (.t 12)⟩,
  ⟨some 85, none, .load false true 2 (.t 84)⟩,
  ⟨some 86, none, .faddr 6 (.t 12)⟩,
  ⟨some 87, none, .load false true 2 (.t 86)⟩,
  ⟨some 88, none, .faddr 8 (.t 12)⟩,
  ⟨some 89, none, .load false false 1 (.t 88)⟩,
  ⟨some 90, none, .build [.int .i64 0, .int .i64 0, .int .i64 0, .int .i64 0, .int .i64 0, .int .i64 0, .str [], .bool false] [(0, 2, .t 83), (2, 2, .t 85), (4, 2, .t 87), (6, 1, .t 89)]⟩,
  ⟨some 91, none, .bsnap 8 [.t 90]⟩,
  ⟨some 92, none, .append 8 72 (.t 81) (.t 91)⟩,
  ⟨some 10, none, .mov (.t 92)⟩]
abbrev c71_53 : SC := .cond (.t 102) (.draw 0 [[], [], [1], [], [3], [], [], [6], [5, 7], [2, 4, 8], [9], [0, 10], [11]] r71_51) (.ops r71_52)
abbrev c71_54 : SC := .seq (.ops r71_50) c71_53
abbrev c71_55 : SC := .cond (.t 93) (.skip) c71_54
abbrev c71_56 : SC := .seq (.ops r71_49) c71_55
abbrev c71_57 : SC := .block 6 [3, 10, 74, 75, 76] [] c71_56
abbrev c71_58 : SC := .seq (.ops r71_48) c71_57
abbrev c71_59 : SC := .block 5 [3, 10, 74, 75, 76] [] c71_58
abbrev r71_60 : List SOper := [
  ⟨some 122, none, .bin .add (.t 76) (.c (.int .i64 1))⟩,
  ⟨some 76, none, .mov (.t 122)⟩]
abbrev c71_61 : SC := .seq c71_59 (.ops r71_60)
abbrev c71_62 : SC := .seq c71_47 c71_61
abbrev c71_63 : SC := .seq (.ops r71_46) c71_62
abbrev L71_3 : SC := .loop [3, 10, 74, 75, 76] [] c71_63
abbrev c71_64 : SC := .block 4 [10] [] L71_3
abbrev c71_65 : SC := .seq (.ops r71_45) c71_64
abbrev r71_66 : List SOper := [
  ⟨some 123, none, .mov (.t 10)⟩,
  ⟨some 124, none, .call false (.c (.func 129 [])) [.t 123, .c (.func 130 [])]⟩]
abbrev r71_67 : List SOper := [
  ⟨some 125, none, .mov (.t 10)⟩,
  ⟨some 2, none, .mov (.t 125)⟩]
abbrev c71_68 : SC := .seq (.ops r71_67) (.ret)
abbrev c71_69 : SC := .seq (.ops r71_66) c71_68
abbrev c71_70 : SC := .seq c71_65 c71_69
abbrev c71_71 : SC := .seq (.ops r71_44) c71_70
abbrev c71_72 : SC := .seq (.ops r71_43) c71_71
abbrev c71_73 : SC := .seq (.ops r71_42) c71_72
abbrev c71_74 : SC := .seq c71_41 c71_73
abbrev c71_75 : SC := .seq c71_25 c71_74
abbrev c71_76 : SC := .seq (.draw 3 [[], [0], [], [], [3], [4], [5], [], [7], [8], [9], [1, 2, 6, 10], [11], [12]] r71_7) c71_75
abbrev c71_77 : SC := .seq c71_6 c71_76
abbrev c71_78 : SC := .seq (.ops r71_1) c71_77
def s71 : SF := ⟨[.t 2], c71_78, false, none, none⟩
/-! crannog/vector.Next -/
abbrev r72_1 : List SOper := [
  ⟨some 2, none, .boxL (.t 0)⟩,
  ⟨some 4, none, .allocL [.int .i64 0, .int .i64 0]⟩,
  ⟨some 5, none, .mov (.c (.int .i64 0))⟩]
abbrev r72_2 : List SOper := [
  ⟨some 9, none, .mov (.t 1)⟩,
  ⟨some 10, none, .bin .lss (.t 9) (.c (.int .i64 0))⟩,
  ⟨some 11, none, .mov (.t 10)⟩,
  ⟨some 12, some (11, false), .mov (.t 1)⟩,
  ⟨some 13, some (11, false), .bin .geq (.t 12) (.c (.int .i64 8))⟩,
  ⟨some 14, none, .pick (.t 11) (.c (.bool true)) (.t 13)⟩,
  ⟨some 15, none, .mov (.t 14)⟩,
  ⟨some 16, some (15, false), .load false true 8 (.t 2)⟩,
  ⟨some 17, some (15, false), .call false (.c (.func 115 [])) [.t 16]⟩,
  ⟨some 18, some (15, false), .un .not (.t 17)⟩,
  ⟨some 19, none, .pick (.t 15) (.c (.bool true)) (.t 18)⟩]
abbrev r72_3 : List SOper := [
  ⟨some 20, none, .build [.int .i64 0, .int .i64 0] []⟩,
  ⟨none, none, .store 2 (.t 4) (.t 20)⟩,
  ⟨some 5, none, .mov (.c (.int .i64 22))⟩]
abbrev c72_4 : SC := .seq (.ops r72_3) (.ret)
abbrev c72_5 : SC := .cond (.t 19) c72_4 (.skip)
abbrev c72_6 : SC := .seq (.ops r72_2) c72_5
abbrev r72_7 : List SOper := [
  ⟨some 21, none, .mov (.t 1)⟩,
  ⟨some 22, none, .build [.int .i64 0, .int .i64 0] [(1, 1, .t 21)]⟩,
  ⟨some 6, none, .allocL [.int .i64 0, .int .i64 0]⟩,
  ⟨none, none, .store 2 (.t 6) (.t 22)⟩]
abbrev r72_8 : List SOper := [
  ⟨some 23, none, .load false true 8 (.t 2)⟩,
  ⟨some 24, none, .mov (.c (.int .i64 0))⟩]
abbrev r72_9 : List SOper := [
  ⟨some 25, none, .bin .lss (.t 24) (.c (.int .i64 8))⟩]
abbrev c72_10 : SC := .cond (.t 25) (.skip) (.exit 0)
abbrev r72_11 : List SOper := [
  ⟨some 26, none, .index (some (8, 1, false)) (.t 23) (.t 24)⟩,
  ⟨some 8, none, .mov (.t 26)⟩]
abbrev r72_12 : List SOper := [
  ⟨some 27, none, .faddr 0 (.t 6)⟩,
  ⟨some 28, none, .load false false 1 (.t 27)⟩,
  ⟨some 29, none, .mov (.t 8)⟩,
  ⟨some 30, none, .minmax true [.t 28, .t 29]⟩,
  ⟨some 31, none, .faddr 0 (.t 6)⟩,
  ⟨none, none, .store 1 (.t 31) (.t 30)⟩]
abbrev c72_13 : SC := .seq (.ops r72_11) (.ops r72_12)
abbrev c72_14 : SC := .block 1 [4, 6, 23, 24] [4, 6] c72_13
abbrev r72_15 : List SOper := [
  ⟨some 32, none, .bin .add (.t 24) (.c (.int .i64 1))⟩,
  ⟨some 24, none, .mov (.t 32)⟩]
abbrev c72_16 : SC := .seq c72_14 (.ops r72_15)
abbrev c72_17 : SC := .seq c72_10 c72_16
abbrev c72_18 : SC := .seq (.ops r72_9) c72_17
abbrev L72_1 : SC := .loop [4, 6, 23, 24] [4, 6] c72_18
abbrev c72_19 : SC := .block 0 [4, 6] [4, 6] L72_1
abbrev c72_20 : SC := .seq (.ops r72_8) c72_19
abbrev r72_21 : List SOper := [
  ⟨some 33, none, .faddr 0 (.t 6)⟩,
  ⟨some 34, none, .load false false 1 (.t 33)⟩,
  ⟨some 35, none, .bin .geq (.t 34) (.c (.int .i64 1099511627776))⟩]
abbrev r72_22 : List SOper := [
  ⟨some 36, none, .build [.int .i64 0, .int .i64 0] []⟩,
  ⟨none, none, .store 2 (.t 4) (.t 36)⟩,
  ⟨some 5, none, .mov (.c (.int .i64 75))⟩]
abbrev c72_23 : SC := .seq (.ops r72_22) (.ret)
abbrev c72_24 : SC := .cond (.t 35) c72_23 (.skip)
abbrev c72_25 : SC := .seq (.ops r72_21) c72_24
abbrev r72_26 : List SOper := [
  ⟨some 37, none, .faddr 0 (.t 6)⟩,
  ⟨some 38, none, .load false false 1 (.t 37)⟩,
  ⟨some 39, none, .bin .add (.t 38) (.c (.int .i64 1))⟩,
  ⟨some 40, none, .faddr 0 (.t 6)⟩,
  ⟨none, none, .store 1 (.t 40) (.t 39)⟩]
abbrev r72_27 : List SOper := [
  ⟨some 41, none, .load false true 2 (.t 6)⟩,
  ⟨none, none, .store 2 (.t 4) (.t 41)⟩,
  ⟨some 5, none, .mov (.c (.int .i64 0))⟩]
abbrev c72_28 : SC := .seq (.ops r72_27) (.ret)
abbrev c72_29 : SC := .seq (.ops r72_26) c72_28
abbrev c72_30 : SC := .seq c72_25 c72_29
abbrev c72_31 : SC := .seq c72_20 c72_30
abbrev c72_32 : SC := .seq (.ops r72_7) c72_31
abbrev c72_33 : SC := .seq c72_6 c72_32
abbrev c72_34 : SC := .seq (.ops r72_1) c72_33
def s72 : SF := ⟨[.c 4 true 2, .t 5], c72_34, false, none, none⟩
/-! (*crannog/calls.desk).call -/
abbrev r73_1 : List SOper := [
  ⟨some 3, none, .boxL (.t 1)⟩,
  ⟨some 4, none, .allocL [.int .i64 0, .str [], .nils, .int .i64 0, .int .i64 0, .int .i64 0, .int .i64 0, .int .u64 0, .int .i64 0, .int .i64 0]⟩]
abbrev r73_2 : List SOper := [
  ⟨some 5, none, .faddr 0 (.t 3)⟩,
  ⟨some 6, none, .load false false 1 (.t 5)⟩]
abbrev r73_3 : List SOper := [
  ⟨some 11, none, .bin .eql (.t 6) (.c (.int .i64 1))⟩,
  ⟨some 10, none, .mov (.t 11)⟩]
abbrev r73_4 : List SOper := [
  ⟨some 12, none, .bin .eql (.t 6) (.c (.int .i64 2))⟩,
  ⟨some 10, none, .mov (.t 12)⟩]
abbrev r73_5 : List SOper := [
  ⟨some 13, none, .bin .eql (.t 6) (.c (.int .i64 4))⟩,
  ⟨some 10, none, .mov (.t 13)⟩]
abbrev c73_6 : SC := .cond (.t 10) (.skip) (.ops r73_5)
abbrev c73_7 : SC := .seq (.ops r73_4) c73_6
abbrev c73_8 : SC := .cond (.t 10) (.skip) c73_7
abbrev c73_9 : SC := .seq (.ops r73_3) c73_8
abbrev r73_10 : List SOper := [
  ⟨some 14, none, .mov (.t 0)⟩,
  ⟨some 15, none, .load false true 7 (.t 3)⟩,
  ⟨some 16, none, .call false (.c (.func 132 [])) [.t 14, .t 15]⟩]
abbrev r73_11 : List SOper := [
  ⟨some 18, none, .bin .eql (.t 6) (.c (.int .i64 3))⟩,
  ⟨some 17, none, .mov (.t 18)⟩]
abbrev r73_12 : List SOper := [
  ⟨some 19, none, .mov (.t 0)⟩,
  ⟨some 20, none, .load false true 7 (.t 3)⟩,
  ⟨some 21, none, .call false (.c (.func 133 [])) [.t 19, .t 20]⟩]
abbrev r73_13 : List SOper := [
  ⟨some 23, none, .bin .eql (.t 6) (.c (.int .i64 5))⟩,
  ⟨some 22, none, .mov (.t 23)⟩]
abbrev r73_14 : List SOper := [
  ⟨some 24, none, .bin .eql (.t 6) (.c (.int .i64 6))⟩,
  ⟨some 22, none, .mov (.t 24)⟩]
abbrev c73_15 : SC := .cond (.t 22) (.skip) (.ops r73_14)
abbrev c73_16 : SC := .seq (.ops r73_13) c73_15
abbrev r73_17 : List SOper := [
  ⟨some 25, none, .mov (.t 0)⟩,
  ⟨some 26, none, .load false true 7 (.t 3)⟩,
  ⟨some 27, none, .call false (.c (.func 134 [])) [.t 25, .t 26]⟩]
abbrev r73_18 : List SOper := [
  ⟨some 29, none, .bin .eql (.t 6) (.c (.int .i64 7))⟩,
  ⟨some 28, none, .mov (.t 29)⟩]
abbrev r73_19 : List SOper := [
  ⟨some 30, none, .mov (.t 0)⟩,
  ⟨some 31, none, .load false true 7 (.t 3)⟩,
  ⟨some 32, none, .call false (.c (.func 135 [])) [.t 30, .t 31]⟩]
abbrev r73_20 : List SOper := [
  ⟨some 34, none, .bin .eql (.t 6) (.c (.int .i64 8))⟩,
  ⟨some 33, none, .mov (.t 34)⟩]
abbrev r73_21 : List SOper := [
  ⟨some 35, none, .bin .eql (.t 6) (.c (.int .i64 9))⟩,
  ⟨some 33, none, .mov (.t 35)⟩]
abbrev c73_22 : SC := .cond (.t 33) (.skip) (.ops r73_21)
abbrev c73_23 : SC := .seq (.ops r73_20) c73_22
abbrev r73_24 : List SOper := [
  ⟨some 36, none, .mov (.t 0)⟩,
  ⟨some 37, none, .load false true 7 (.t 3)⟩,
  ⟨some 38, none, .call false (.c (.func 136 [])) [.t 36, .t 37]⟩]
abbrev r73_25 : List SOper := [
  ⟨some 40, none, .bin .eql (.t 6) (.c (.int .i64 10))⟩,
  ⟨some 39, none, .mov (.t 40)⟩]
abbrev r73_26 : List SOper := [
  ⟨some 41, none, .bin .eql (.t 6) (.c (.int .i64 11))⟩,
  ⟨some 39, none, .mov (.t 41)⟩]
abbrev c73_27 : SC := .cond (.t 39) (.skip) (.ops r73_26)
abbrev c73_28 : SC := .seq (.ops r73_25) c73_27
abbrev r73_29 : List SOper := [
  ⟨some 42, none, .mov (.t 0)⟩,
  ⟨some 43, none, .load false true 7 (.t 3)⟩,
  ⟨some 44, none, .call false (.c (.func 137 [])) [.t 42, .t 43]⟩]
abbrev r73_30 : List SOper := [
  ⟨some 46, none, .bin .eql (.t 6) (.c (.int .i64 12))⟩,
  ⟨some 45, none, .mov (.t 46)⟩]
abbrev r73_31 : List SOper := [
  ⟨some 47, none, .bin .eql (.t 6) (.c (.int .i64 13))⟩,
  ⟨some 45, none, .mov (.t 47)⟩]
abbrev c73_32 : SC := .cond (.t 45) (.skip) (.ops r73_31)
abbrev c73_33 : SC := .seq (.ops r73_30) c73_32
abbrev r73_34 : List SOper := [
  ⟨some 48, none, .mov (.t 0)⟩,
  ⟨some 49, none, .load false true 7 (.t 3)⟩,
  ⟨some 50, none, .call false (.c (.func 138 [])) [.t 48, .t 49]⟩]
abbrev r73_35 : List SOper := [
  ⟨some 7, none, .mov (.t 0)⟩,
  ⟨some 8, none, .load false true 7 (.t 3)⟩,
  ⟨some 9, none, .call false (.c (.func 139 [])) [.t 7, .t 8]⟩,
  ⟨none, none, .store 10 (.t 4) (.t 9)⟩]
abbrev c73_36 : SC := .seq (.ops r73_35) (.ret)
abbrev c73_37 : SC := .cond (.t 45) (.ops r73_34) c73_36
abbrev c73_38 : SC := .seq c73_33 c73_37
abbrev c73_39 : SC := .cond (.t 39) (.ops r73_29) c73_38
abbrev c73_40 : SC := .seq c73_28 c73_39
abbrev c73_41 : SC := .cond (.t 33) (.ops r73_24) c73_40
abbrev c73_42 : SC := .seq c73_23 c73_41
abbrev c73_43 : SC := .cond (.t 28) (.ops r73_19) c73_42
abbrev c73_44 : SC := .seq (.ops r73_18) c73_43
abbrev c73_45 : SC := .cond (.t 22) (.ops r73_17) c73_44
abbrev c73_46 : SC := .seq c73_16 c73_45
abbrev c73_47 : SC := .cond (.t 17) (.ops r73_12) c73_46
abbrev c73_48 : SC := .seq (.ops r73_11) c73_47
abbrev c73_49 : SC := .cond (.t 10) (.ops r73_10) c73_48
abbrev c73_50 : SC := .seq c73_9 c73_49
abbrev c73_51 : SC := .block 0 [4] [4] c73_50
abbrev c73_52 : SC := .seq (.ops r73_2) c73_51
abbrev r73_53 : List SOper := [
  ⟨some 51, none, .build [.int .i64 0, .str [], .nils, .int .i64 0, .int .i64 0, .int .i64 0, .int .i64 0, .int .u64 0, .int .i64 0, .int .i64 0] []⟩,
  ⟨none, none, .store 10 (.t 4) (.t 51)⟩]
abbrev c73_54 : SC := .seq (.ops r73_53) (.ret)
abbrev c73_55 : SC := .seq c73_52 c73_54
abbrev c73_56 : SC := .seq (.ops r73_1) c73_55
def s73 : SF := ⟨[.c 4 true 10], c73_56, false, none, none⟩
/-! crannog/vector.Join -/
abbrev r74_1 : List SOper := [
  ⟨some 2, none, .boxL (.t 0)⟩,
  ⟨some 3, none, .boxL (.t 1)⟩,
  ⟨some 4, none, .allocL [.int .i64 0, .int .i64 0, .int .i64 0, .int .i64 0, .int .i64 0, .int .i64 0, .int .i64 0, .int .i64 0]⟩]
abbrev r74_2 : List SOper := [
  ⟨some 7, none, .load false true 8 (.t 3)⟩,
  ⟨some 8, none, .mov (.c (.int .i64 0))⟩]
abbrev r74_3 : List SOper := [
  ⟨some 9, none, .bin .lss (.t 8) (.c (.int .i64 8))⟩]
abbrev c74_4 : SC := .cond (.t 9) (.skip) (.exit 0)
abbrev r74_5 : List SOper := [
  ⟨some 10, none, .mov (.t 8)⟩,
  ⟨some 11, none, .index (some (8, 1, false)) (.t 7) (.t 8)⟩,
  ⟨some 5, none, .mov (.t 10)⟩,
  ⟨some 6, none, .mov (.t 11)⟩]
abbrev r74_6 : List SOper := [
  ⟨some 12, none, .mov (.t 5)⟩,
  ⟨some 13, none, .mov (.t 5)⟩,
  ⟨some 14, none, .iaddr (some 8) 1 (.t 2) (.t 13)⟩,
  ⟨some 15, none, .load false false 1 (.t 14)⟩,
  ⟨some 16, none, .mov (.t 6)⟩,
  ⟨some 17, none, .minmax true [.t 15, .t 16]⟩,
  ⟨some 18, none, .iaddr (some 8) 1 (.t 2) (.t 12)⟩,
  ⟨none, none, .store 1 (.t 18) (.t 17)⟩]
abbrev c74_7 : SC := .seq (.ops r74_5) (.ops r74_6)
abbrev c74_8 : SC := .block 1 [2, 4, 7, 8] [2, 4] c74_7
abbrev r74_9 : List SOper := [
  ⟨some 19, none, .bin .add (.t 8) (.c (.int .i64 1))⟩,
  ⟨some 8, none, .mov (.t 19)⟩]
abbrev c74_10 : SC := .seq c74_8 (.ops r74_9)
abbrev c74_11 : SC := .seq c74_4 c74_10
abbrev c74_12 : SC := .seq (.ops r74_3) c74_11
abbrev L74_1 : SC := .loop [2, 4, 7, 8] [2, 4] c74_12
abbrev c74_13 : SC := .block 0 [2, 4] [2, 4] L74_1
abbrev c74_14 : SC := .seq (.ops r74_2) c74_13
abbrev r74_15 : List SOper := [
  ⟨some 20, none, .load false true 8 (.t 2)⟩,
  ⟨none, none, .store 8 (.t 4) (.t 20)⟩]
abbrev c74_16 : SC := .seq (.ops r74_15) (.ret)
abbrev c74_17 : SC := .seq c74_14 c74_16
abbrev c74_18 : SC := .seq (.ops r74_1) c74_17
def s74 : SF := ⟨[.c 4 true 8], c74_18, false, none, none⟩
/-! crannog/join.merged[crannog/api.Inode] -/
abbrev r75_1 : List SOper := [
  ⟨some 8, none, .mov (.c (.nils))⟩]
abbrev r75_2 : List SOper := [
  ⟨some 9, none, .mov (.c (.nils))⟩]
abbrev r75_3 : List SOper := [
  ⟨some 14, none, .mov (.t 0)⟩,
  ⟨some 15, none, .mov (.t 1)⟩,
  ⟨some 16, none, .bsnap 1 [.t 14, .t 15]⟩,
  ⟨some 17, none, .call false (.c (.func 140 [])) [.t 16]⟩,
  ⟨some 10, none, .mov (.t 17)⟩]
abbrev r75_4 : List SOper := [
  ⟨some 18, none, .mov (.t 10)⟩,
  ⟨some 19, none, .mov (.t 2)⟩,
  ⟨some 20, none, .call false (.c (.func 141 [])) [.t 18, .t 19]⟩]
abbrev r75_5 : List SOper := [
  ⟨some 21, none, .mov (.t 10)⟩,
  ⟨some 22, none, .len 1 (.t 21)⟩,
  ⟨some 23, none, .mov (.c (.int .i64 0))⟩]
abbrev r75_6 : List SOper := [
  ⟨some 24, none, .bin .lss (.t 23) (.t 22)⟩]
abbrev c75_7 : SC := .cond (.t 24) (.skip) (.exit 0)
abbrev r75_8 : List SOper := [
  ⟨some 25, none, .iaddr none 13 (.t 21) (.t 23)⟩,
  ⟨some 26, none, .load false true 13 (.t 25)⟩,
  ⟨some 12, none, .allocL [.int .i64 0, .int .i64 0, .int .i64 0, .str [], .int .i64 0, .int .i64 0, .int .i64 0, .int .u64 0, .int .i64 0, .int .i64 0, .int .i64 0, .nils, .nils]⟩,
  ⟨none, none, .store 13 (.t 12) (.t 26)⟩]
abbrev r75_9 : List SOper := [
  ⟨some 27, none, .mov (.t 9)⟩,
  ⟨some 28, none, .len 1 (.t 27)⟩,
  ⟨some 13, none, .mov (.t 28)⟩]
abbrev r75_10 : List SOper := [
  ⟨some 29, none, .mov (.t 13)⟩,
  ⟨some 30, none, .bin .gtr (.t 29) (.c (.int .i64 0))⟩,
  ⟨some 31, none, .mov (.t 30)⟩,
  ⟨some 32, some (31, true), .mov (.t 2)⟩,
  ⟨some 33, some (31, true), .mov (.t 9)⟩,
  ⟨some 34, some (31, true), .mov (.t 13)⟩,
  ⟨some 35, some (31, true), .bin .sub (.t 34) (.c (.int .i64 1))⟩,
  ⟨some 36, some (31, true), .iaddr none 13 (.t 33) (.t 35)⟩,
  ⟨some 37, some (31, true), .load false true 13 (.t 36)⟩,
  ⟨some 38, some (31, true), .load false true 13 (.t 12)⟩,
  ⟨some 39, some (31, true), .call false (.t 32) [.t 37, .t 38]⟩,
  ⟨some 40, some (31, true), .bin .eql (.t 39) (.c (.int .i64 0))⟩,
  ⟨some 41, none, .pick (.t 31) (.t 40) (.c (.bool false))⟩]
abbrev r75_11 : List SOper := [
  ⟨some 42, none, .mov (.t 9)⟩,
  ⟨some 43, none, .mov (.t 13)⟩,
  ⟨some 44, none, .bin .sub (.t 43) (.c (.int .i64 1))⟩,
  ⟨some 45, none, .mov (.t 3)⟩,
  ⟨some 46, none, .mov (.t 9)⟩,
  ⟨some 47, none, .mov (.t 13)⟩,
  ⟨some 48, none, .bin .sub (.t 47) (.c (.int .i64 1))⟩,
  ⟨some 49, none, .iaddr none 13 (.t 46) (.t 48)⟩,
  ⟨some 50, none, .load false true 13 (.t 49)⟩,
  ⟨some 51, none, .load false true 13 (.t 12)⟩,
  ⟨some 52, none, .call false (.t 45) [.t 50, .t 51]⟩,
  ⟨some 53, none, .iaddr none 13 (.t 42) (.t 44)⟩,
  ⟨none, none, .store 13 (.t 53) (.t 52)⟩]
abbrev c75_12 : SC := .seq (.draw 0 [[], [], [1], [], [], [], [5], [4, 6], [7], [], [3, 8, 9], [0, 2, 10], [11]] r75_11) (.exit 1)
abbrev c75_13 : SC := .cond (.t 41) c75_12 (.skip)
abbrev c75_14 : SC := .seq (.draw 0 [[], [0], [1], [2], [2], [2], [5], [4, 6], [7], [2], [3, 8, 9], [10], [11]] r75_10) c75_13
abbrev c75_15 : SC := .seq (.ops r75_9) c75_14
abbrev r75_16 : List SOper := [
  ⟨some 54, none, .mov (.t 9)⟩,
  ⟨some 55, none, .load false true 13 (.t 12)⟩,
  ⟨some 56, none, .bsnap 13 [.t 55]⟩,
  ⟨some 57, none, .append 13 144 (.t 54) (.t 56)⟩,
  ⟨some 9, none, .mov (.t 57)⟩]
abbrev c75_17 : SC := .seq c75_15 (.ops r75_16)
abbrev c75_18 : SC := .seq (.ops r75_8) c75_17
abbrev c75_19 : SC := .block 1 [2, 3, 9, 21, 22, 23] [] c75_18
abbrev r75_20 : List SOper := [
  ⟨some 58, none, .bin .add (.t 23) (.c (.int .i64 1))⟩,
  ⟨some 23, none, .mov (.t 58)⟩]
abbrev c75_21 : SC := .seq c75_19 (.ops r75_20)
abbrev c75_22 : SC := .seq c75_7 c75_21
abbrev c75_23 : SC := .seq (.ops r75_6) c75_22
abbrev L75_1 : SC := .loop [2, 3, 9, 21, 22, 23] [] c75_23
abbrev c75_24 : SC := .block 0 [9] [] L75_1
abbrev c75_25 : SC := .seq (.ops r75_5) c75_24
abbrev r75_26 : List SOper := [
  ⟨some 59, none, .mov (.t 9)⟩,
  ⟨some 8, none, .mov (.t 59)⟩]
abbrev c75_27 : SC := .seq (.ops r75_26) (.ret)
abbrev c75_28 : SC := .seq c75_25 c75_27
abbrev c75_29 : SC := .seq (.ops r75_4) c75_28
abbrev c75_30 : SC := .seq (.ops r75_3) c75_29
abbrev c75_31 : SC := .seq (.ops r75_2) c75_30
abbrev c75_32 : SC := .seq (.ops r75_1) c75_31
def s75 : SF := ⟨[.t 8], c75_32, true, none, none⟩
/-! crannog/join.States$1 -/
abbrev r76_1 : List SOper := [
  ⟨some 2, none, .boxL (.t 0)⟩,
  ⟨some 3, none, .boxL (.t 1)⟩,
  ⟨some 4, none, .mov (.c (.int .i64 0))⟩]
abbrev r76_2 : List SOper := [
  ⟨some 5, none, .faddr 0 (.t 2)⟩,
  ⟨some 6, none, .load false true 2 (.t 5)⟩,
  ⟨some 7, none, .faddr 0 (.t 3)⟩,
  ⟨some 8, none, .load false true 2 (.t 7)⟩,
  ⟨some 9, none, .call false (.c (.func 77 [])) [.t 6, .t 8]⟩,
  ⟨some 4, none, .mov (.t 9)⟩]
abbrev c76_3 : SC := .seq (.ops r76_2) (.ret)
abbrev c76_4 : SC := .seq (.ops r76_1) c76_3
def s76 : SF := ⟨[.t 4], c76_4, false, none, none⟩
/-! crannog/join.stamps -/
abbrev r77_1 : List SOper := [
  ⟨some 2, none, .boxL (.t 0)⟩,
  ⟨some 3, none, .boxL (.t 1)⟩,
  ⟨some 4, none, .mov (.c (.int .i64 0))⟩]
abbrev r77_2 : List SOper := [
  ⟨some 5, none, .faddr 0 (.t 2)⟩,
  ⟨some 6, none, .load false false 1 (.t 5)⟩,
  ⟨some 7, none, .faddr 0 (.t 3)⟩,
  ⟨some 8, none, .load false false 1 (.t 7)⟩,
  ⟨some 9, none, .call true (.c (.func 143 [])) [.t 6, .t 8]⟩,
  ⟨some 10, none, .faddr 1 (.t 2)⟩,
  ⟨some 11, none, .load true false 1 (.t 10)⟩,
  ⟨some 12, none, .faddr 1 (.t 3)⟩,
  ⟨some 13, none, .load true false 1 (.t 12)⟩,
  ⟨some 14, none, .call false (.c (.func 143 [])) [.t 11, .t 13]⟩,
  ⟨some 15, none, .bsnap 1 [.t 9, .t 14]⟩,
  ⟨some 16, none, .call false (.c (.func 142 [])) [.t 15]⟩,
  ⟨some 4, none, .mov (.t 16)⟩]
abbrev c77_3 : SC := .seq (.draw 0 [[], [0], [], [2], [1, 3], [], [5], [], [7], [4, 6, 8], [9], [10], [11]] r77_2) (.ret)
abbrev c77_4 : SC := .seq (.ops r77_1) c77_3
def s77 : SF := ⟨[.t 4], c77_4, false, none, none⟩
/-! crannog/join.merged[crannog/api.Link] -/
abbrev r79_1 : List SOper := [
  ⟨some 8, none, .mov (.c (.nils))⟩]
abbrev r79_2 : List SOper := [
  ⟨some 9, none, .mov (.c (.nils))⟩]
abbrev r79_3 : List SOper := [
  ⟨some 14, none, .mov (.t 0)⟩,
  ⟨some 15, none, .mov (.t 1)⟩,
  ⟨some 16, none, .bsnap 1 [.t 14, .t 15]⟩,
  ⟨some 17, none, .call false (.c (.func 150 [])) [.t 16]⟩,
  ⟨some 10, none, .mov (.t 17)⟩]
abbrev r79_4 : List SOper := [
  ⟨some 18, none, .mov (.t 10)⟩,
  ⟨some 19, none, .mov (.t 2)⟩,
  ⟨some 20, none, .call false (.c (.func 151 [])) [.t 18, .t 19]⟩]
abbrev r79_5 : List SOper := [
  ⟨some 21, none, .mov (.t 10)⟩,
  ⟨some 22, none, .len 1 (.t 21)⟩,
  ⟨some 23, none, .mov (.c (.int .i64 0))⟩]
abbrev r79_6 : List SOper := [
  ⟨some 24, none, .bin .lss (.t 23) (.t 22)⟩]
abbrev c79_7 : SC := .cond (.t 24) (.skip) (.exit 0)
abbrev r79_8 : List SOper := [
  ⟨some 25, none, .iaddr none 25 (.t 21) (.t 23)⟩,
  ⟨some 26, none, .load false true 25 (.t 25)⟩,
  ⟨some 12, none, .allocL [.int .i64 0, .int .i64 0, .int .i64 0, .int .i64 0, .int .i64 0, .int .i64 0, .int .i64 0, .int .i64 0, .str [], .int .i64 0, .int .i64 0, .int .i64 0, .int .i64 0, .int .i64 0, .int .i64 0, .int .i64 0, .int .i64 0, .int .i64 0, .int .i64 0, .int .i64 0, .int .i64 0, .int .i64 0, .int .i64 0, .int .i64 0, .int .i64 0]⟩,
  ⟨none, none, .store 25 (.t 12) (.t 26)⟩]
abbrev r79_9 : List SOper := [
  ⟨some 27, none, .mov (.t 9)⟩,
  ⟨some 28, none, .len 1 (.t 27)⟩,
  ⟨some 13, none, .mov (.t 28)⟩]
abbrev r79_10 : List SOper := [
  ⟨some 29, none, .mov (.t 13)⟩,
  ⟨some 30, none, .bin .gtr (.t 29) (.c (.int .i64 0))⟩,
  ⟨some 31, none, .mov (.t 30)⟩,
  ⟨some 32, some (31, true), .mov (.t 2)⟩,
  ⟨some 33, some (31, true), .mov (.t 9)⟩,
  ⟨some 34, some (31, true), .mov (.t 13)⟩,
  ⟨some 35, some (31, true), .bin .sub (.t 34) (.c (.int .i64 1))⟩,
  ⟨some 36, some (31, true), .iaddr none 25 (.t 33) (.t 35)⟩,
  ⟨some 37, some (31, true), .load false true 25 (.t 36)⟩,
  ⟨some 38, some (31, true), .load false true 25 (.t 12)⟩,
  ⟨some 39, some (31, true), .call false (.t 32) [.t 37, .t 38]⟩,
  ⟨some 40, some (31, true), .bin .eql (.t 39) (.c (.int .i64 0))⟩,
  ⟨some 41, none, .pick (.t 31) (.t 40) (.c (.bool false))⟩]
abbrev r79_11 : List SOper := [
  ⟨some 42, none, .mov (.t 9)⟩,
  ⟨some 43, none, .mov (.t 13)⟩,
  ⟨some 44, none, .bin .sub (.t 43) (.c (.int .i64 1))⟩,
  ⟨some 45, none, .mov (.t 3)⟩,
  ⟨some 46, none, .mov (.t 9)⟩,
  ⟨some 47, none, .mov (.t 13)⟩,
  ⟨some 48, none, .bin .sub (.t 47) (.c (.int .i64 1))⟩,
  ⟨some 49, none, .iaddr none 25 (.t 46) (.t 48)⟩,
  ⟨some 50, none, .load false true 25 (.t 49)⟩,
  ⟨some 51, none, .load false true 25 (.t 12)⟩,
  ⟨some 52, none, .call false (.t 45) [.t 50, .t 51]⟩,
  ⟨some 53, none, .iaddr none 25 (.t 42) (.t 44)⟩,
  ⟨none, none, .store 25 (.t 53) (.t 52)⟩]
abbrev c79_12 : SC := .seq (.draw 0 [[], [], [1], [], [], [], [5], [4, 6], [7], [], [3, 8, 9], [0, 2, 10], [11]] r79_11) (.exit 1)
abbrev c79_13 : SC := .cond (.t 41) c79_12 (.skip)
abbrev c79_14 : SC := .seq (.draw 0 [[], [0], [1], [2], [2], [2], [5], [4, 6], [7], [2], [3, 8, 9], [10], [11]] r79_10) c79_13
abbrev c79_15 : SC := .seq (.ops r79_9) c79_14
abbrev r79_16 : List SOper := [
  ⟨some 54, none, .mov (.t 9)⟩,
  ⟨some 55, none, .load false true 25 (.t 12)⟩,
  ⟨some 56, none, .bsnap 25 [.t 55]⟩,
  ⟨some 57, none, .append 25 208 (.t 54) (.t 56)⟩,
  ⟨some 9, none, .mov (.t 57)⟩]
abbrev c79_17 : SC := .seq c79_15 (.ops r79_16)
abbrev c79_18 : SC := .seq (.ops r79_8) c79_17
abbrev c79_19 : SC := .block 1 [2, 3, 9, 21, 22, 23] [] c79_18
abbrev r79_20 : List SOper := [
  ⟨some 58, none, .bin .add (.t 23) (.c (.int .i64 1))⟩,
  ⟨some 23, none, .mov (.t 58)⟩]
abbrev c79_21 : SC := .seq c79_19 (.ops r79_20)
abbrev c79_22 : SC := .seq c79_7 c79_21
abbrev c79_23 : SC := .seq (.ops r79_6) c79_22
abbrev L79_1 : SC := .loop [2, 3, 9, 21, 22, 23] [] c79_23
abbrev c79_24 : SC := .block 0 [9] [] L79_1
abbrev c79_25 : SC := .seq (.ops r79_5) c79_24
abbrev r79_26 : List SOper := [
  ⟨some 59, none, .mov (.t 9)⟩,
  ⟨some 8, none, .mov (.t 59)⟩]
abbrev c79_27 : SC := .seq (.ops r79_26) (.ret)
abbrev c79_28 : SC := .seq c79_25 c79_27
abbrev c79_29 : SC := .seq (.ops r79_4) c79_28
abbrev c79_30 : SC := .seq (.ops r79_3) c79_29
abbrev c79_31 : SC := .seq (.ops r79_2) c79_30
abbrev c79_32 : SC := .seq (.ops r79_1) c79_31
def s79 : SF := ⟨[.t 8], c79_32, true, none, none⟩
/-! crannog/join.listed -/
abbrev r82_1 : List SOper := [
  ⟨some 2, none, .mov (.c (.nils))⟩]
abbrev r82_2 : List SOper := [
  ⟨some 3, none, .mov (.t 0)⟩,
  ⟨some 4, none, .call false (.c (.func 155 [])) [.t 3, .c (.nils), .c (.func 156 []), .c (.func 157 [])]⟩,
  ⟨some 2, none, .mov (.t 4)⟩]
abbrev c82_3 : SC := .seq (.ops r82_2) (.ret)
abbrev c82_4 : SC := .seq (.ops r82_1) c82_3
def s82 : SF := ⟨[.t 2], c82_4, false, none, none⟩
/-! crannog/join.named -/
abbrev r83_1 : List SOper := [
  ⟨some 2, none, .mov (.c (.nils))⟩]
abbrev r83_2 : List SOper := [
  ⟨some 3, none, .mov (.t 0)⟩,
  ⟨some 4, none, .call false (.c (.func 160 [])) [.t 3, .c (.nils), .c (.func 161 []), .c (.func 163 [])]⟩,
  ⟨some 2, none, .mov (.t 4)⟩]
abbrev c83_3 : SC := .seq (.ops r83_2) (.ret)
abbrev c83_4 : SC := .seq (.ops r83_1) c83_3
def s83 : SF := ⟨[.t 2], c83_4, false, none, none⟩
/-! crannog/names.Split -/
abbrev r84_1 : List SOper := [
  ⟨some 2, none, .mov (.c (.nils))⟩,
  ⟨some 3, none, .mov (.c (.int .i64 0))⟩]
abbrev r84_2 : List SOper := [
  ⟨some 8, none, .mov (.t 0)⟩,
  ⟨some 9, none, .len 0 (.t 8)⟩,
  ⟨some 10, none, .bin .gtr (.t 9) (.c (.int .i64 120))⟩]
abbrev r84_3 : List SOper := [
  ⟨some 2, none, .mov (.c (.nils))⟩,
  ⟨some 3, none, .mov (.c (.int .i64 36))⟩]
abbrev c84_4 : SC := .seq (.ops r84_3) (.ret)
abbrev c84_5 : SC := .cond (.t 10) c84_4 (.skip)
abbrev c84_6 : SC := .seq (.ops r84_2) c84_5
abbrev r84_7 : List SOper := [
  ⟨some 11, none, .mov (.t 0)⟩,
  ⟨some 12, none, .bin .eql (.t 11) (.c (.str []))⟩,
  ⟨some 13, none, .mov (.t 12)⟩,
  ⟨some 14, some (13, false), .mov (.t 0)⟩,
  ⟨some 15, some (13, false), .index none (.t 14) (.c (.int .i64 0))⟩,
  ⟨some 16, some (13, false), .bin .neq (.t 15) (.c (.int .u8 47))⟩,
  ⟨some 17, none, .pick (.t 13) (.c (.bool true)) (.t 16)⟩]
abbrev r84_8 : List SOper := [
  ⟨some 2, none, .mov (.c (.nils))⟩,
  ⟨some 3, none, .mov (.c (.int .i64 22))⟩]
abbrev c84_9 : SC := .seq (.ops r84_8) (.ret)
abbrev c84_10 : SC := .cond (.t 17) c84_9 (.skip)
abbrev c84_11 : SC := .seq (.ops r84_7) c84_10
abbrev r84_12 : List SOper := [
  ⟨some 18, none, .mov (.t 0)⟩,
  ⟨some 19, none, .bin .eql (.t 18) (.c (.str [47]))⟩]
abbrev r84_13 : List SOper := [
  ⟨some 2, none, .mov (.c (.nils))⟩,
  ⟨some 3, none, .mov (.c (.int .i64 0))⟩]
abbrev c84_14 : SC := .seq (.ops r84_13) (.ret)
abbrev c84_15 : SC := .cond (.t 19) c84_14 (.skip)
abbrev c84_16 : SC := .seq (.ops r84_12) c84_15
abbrev r84_17 : List SOper := [
  ⟨some 20, none, .mov (.t 0)⟩,
  ⟨some 21, none, .slice true 1 (.t 20) (some (.c (.int .i64 1))) none none⟩,
  ⟨some 22, none, .call false (.c (.func 166 [])) [.t 21, .c (.str [47])]⟩,
  ⟨some 4, none, .mov (.t 22)⟩]
abbrev r84_18 : List SOper := [
  ⟨some 23, none, .mov (.t 4)⟩,
  ⟨some 24, none, .len 1 (.t 23)⟩,
  ⟨some 25, none, .bin .gtr (.t 24) (.c (.int .i64 8))⟩]
abbrev r84_19 : List SOper := [
  ⟨some 2, none, .mov (.c (.nils))⟩,
  ⟨some 3, none, .mov (.c (.int .i64 36))⟩]
abbrev c84_20 : SC := .seq (.ops r84_19) (.ret)
abbrev c84_21 : SC := .cond (.t 25) c84_20 (.skip)
abbrev c84_22 : SC := .seq (.ops r84_18) c84_21
abbrev r84_23 : List SOper := [
  ⟨some 26, none, .mov (.t 4)⟩,
  ⟨some 27, none, .len 1 (.t 26)⟩,
  ⟨some 28, none, .mov (.c (.int .i64 0))⟩]
abbrev r84_24 : List SOper := [
  ⟨some 29, none, .bin .lss (.t 28) (.t 27)⟩]
abbrev c84_25 : SC := .cond (.t 29) (.skip) (.exit 0)
abbrev r84_26 : List SOper := [
  ⟨some 30, none, .iaddr none 1 (.t 26) (.t 28)⟩,
  ⟨some 31, none, .load false false 1 (.t 30)⟩,
  ⟨some 6, none, .mov (.t 31)⟩]
abbrev r84_27 : List SOper := [
  ⟨some 32, none, .mov (.t 6)⟩,
  ⟨some 33, none, .call false (.c (.func 167 [])) [.t 32]⟩,
  ⟨some 7, none, .mov (.t 33)⟩]
abbrev r84_28 : List SOper := [
  ⟨some 34, none, .mov (.t 7)⟩,
  ⟨some 35, none, .bin .neq (.t 34) (.c (.int .i64 0))⟩]
abbrev r84_29 : List SOper := [
  ⟨some 36, none, .mov (.t 7)⟩,
  ⟨some 2, none, .mov (.c (.nils))⟩,
  ⟨some 3, none, .mov (.t 36)⟩]
abbrev c84_30 : SC := .seq (.ops r84_29) (.ret)
abbrev c84_31 : SC := .cond (.t 35) c84_30 (.skip)
abbrev c84_32 : SC := .seq (.ops r84_28) c84_31
abbrev c84_33 : SC := .seq (.ops r84_27) c84_32
abbrev c84_34 : SC := .seq (.ops r84_26) c84_33
abbrev c84_35 : SC := .block 1 [4, 26, 27, 28] [] c84_34
abbrev r84_36 : List SOper := [
  ⟨some 37, none, .bin .add (.t 28) (.c (.int .i64 1))⟩,
  ⟨some 28, none, .mov (.t 37)⟩]
abbrev c84_37 : SC := .seq c84_35 (.ops r84_36)
abbrev c84_38 : SC := .seq c84_25 c84_37
abbrev c84_39 : SC := .seq (.ops r84_24) c84_38
abbrev L84_1 : SC := .loop [4, 26, 27, 28] [] c84_39
abbrev c84_40 : SC := .block 0 [4] [] L84_1
abbrev c84_41 : SC := .seq (.ops r84_23) c84_40
abbrev r84_42 : List SOper := [
  ⟨some 38, none, .mov (.t 4)⟩,
  ⟨some 2, none, .mov (.t 38)⟩,
  ⟨some 3, none, .mov (.c (.int .i64 0))⟩]
abbrev c84_43 : SC := .seq (.ops r84_42) (.ret)
abbrev c84_44 : SC := .seq c84_41 c84_43
abbrev c84_45 : SC := .seq c84_22 c84_44
abbrev c84_46 : SC := .seq (.ops r84_17) c84_45
abbrev c84_47 : SC := .seq c84_16 c84_46
abbrev c84_48 : SC := .seq c84_11 c84_47
abbrev c84_49 : SC := .seq c84_6 c84_48
abbrev c84_50 : SC := .seq (.ops r84_1) c84_49
def s84 : SF := ⟨[.t 2, .t 3], c84_50, false, none, none⟩
/-! crannog/view.Walk -/
abbrev r85_1 : List SOper := [
  ⟨some 3, none, .boxL (.t 0)⟩,
  ⟨some 6, none, .mov (.c (.nils))⟩,
  ⟨some 7, none, .mov (.c (.int .i64 0))⟩]
abbrev r85_2 : List SOper := [
  ⟨some 8, none, .mov (.c (.nils))⟩]
abbrev r85_3 : List SOper := [
  ⟨some 14, none, .build [.int .i64 0, .int .i64 0] []⟩,
  ⟨some 9, none, .allocL [.int .i64 0, .int .i64 0]⟩,
  ⟨none, none, .store 2 (.t 9) (.t 14)⟩]
abbrev r85_4 : List SOper := [
  ⟨some 15, none, .mov (.t 2)⟩,
  ⟨some 16, none, .len 1 (.t 15)⟩,
  ⟨some 17, none, .mov (.c (.int .i64 0))⟩]
abbrev r85_5 : List SOper := [
  ⟨some 18, none, .bin .lss (.t 17) (.t 16)⟩]
abbrev c85_6 : SC := .cond (.t 18) (.skip) (.exit 0)
abbrev r85_7 : List SOper := [
  ⟨some 19, none, .mov (.t 17)⟩,
  ⟨some 20, none, .iaddr none 1 (.t 15) (.t 17)⟩,
  ⟨some 21, none, .load false false 1 (.t 20)⟩,
  ⟨some 10, none, .mov (.t 19)⟩,
  ⟨some 11, none, .mov (.t 21)⟩]
abbrev r85_8 : List SOper := [
  ⟨some 22, none, .mov (.t 10)⟩,
  ⟨some 23, none, .bin .gtr (.t 22) (.c (.int .i64 0))⟩,
  ⟨some 24, none, .mov (.t 23)⟩,
  ⟨some 25, some (24, true), .load false true 10 (.t 3)⟩,
  ⟨some 26, some (24, true), .load false true 2 (.t 9)⟩,
  ⟨some 27, some (24, true), .call false (.c (.func 86 [])) [.t 25, .t 26]⟩,
  ⟨some 28, some (24, true), .bin .neq (.t 27) (.c (.int .i64 2))⟩,
  ⟨some 29, none, .pick (.t 24) (.t 28) (.c (.bool false))⟩]
abbrev r85_9 : List SOper := [
  ⟨some 6, none, .mov (.c (.nils))⟩,
  ⟨some 7, none, .mov (.c (.int .i64 20))⟩]
abbrev c85_10 : SC := .seq (.ops r85_9) (.ret)
abbrev c85_11 : SC := .cond (.t 29) c85_10 (.skip)
abbrev c85_12 : SC := .seq (.ops r85_8) c85_11
abbrev r85_13 : List SOper := [
  ⟨some 31, none, .mov (.t 1)⟩,
  ⟨some 32, none, .load false true 2 (.t 9)⟩,
  ⟨some 33, none, .mov (.t 11)⟩,
  ⟨some 34, none, .call false (.c (.func 168 [])) [.t 31, .t 32, .t 33]⟩,
  ⟨some 30, none, .mov (.t 34)⟩,
  ⟨some 35, none, .extract (.t 30) 0⟩,
  ⟨some 36, none, .extract (.t 30) 1⟩,
  ⟨some 12, none, .allocL [.int .i64 0, .int .i64 0, .int .i64 0, .int .i64 0, .int .i64 0, .int .i64 0, .str [], .bool false]⟩,
  ⟨none, none, .store 8 (.t 12) (.t 35)⟩,
  ⟨some 13, none, .mov (.t 36)⟩]
abbrev r85_14 : List SOper := [
  ⟨some 37, none, .mov (.t 13)⟩,
  ⟨some 38, none, .un .not (.t 37)⟩]
abbrev r85_15 : List SOper := [
  ⟨some 6, none, .mov (.c (.nils))⟩,
  ⟨some 7, none, .mov (.c (.int .i64 2))⟩]
abbrev c85_16 : SC := .seq (.ops r85_15) (.ret)
abbrev c85_17 : SC := .cond (.t 38) c85_16 (.skip)
abbrev c85_18 : SC := .seq (.ops r85_14) c85_17
abbrev r85_19 : List SOper := [
  ⟨some 39, none, .mov (.t 8)⟩,
  ⟨some 40, none, .load false true 8 (.t 12)⟩,
  ⟨some 41, none, .bsnap 8 [.t 40]⟩,
  ⟨some 42, none, .append 8 72 (.t 39) (.t 41)⟩,
  ⟨some 43, none, .faddr 2 (.t 12)⟩,
  ⟨some 44, none, .loadA (.loc 12) true 2 (.t 43)⟩,
  ⟨some 8, none, .mov (.t 42)⟩,
  ⟨none, none, .store 2 (.t 9) (.t 44)⟩]
abbrev c85_20 : SC := .seq c85_18 (.draw 0 [[], [], [1], [0, 2], [], [4], [3], [5, 6]] r85_19)
abbrev c85_21 : SC := .seq (.ops r85_13) c85_20
abbrev c85_22 : SC := .seq c85_12 c85_21
abbrev c85_23 : SC := .seq (.ops r85_7) c85_22
abbrev c85_24 : SC := .block 1 [1, 3, 8, 9, 15, 16, 17] [3, 9] c85_23
abbrev r85_25 : List SOper := [
  ⟨some 45, none, .bin .add (.t 17) (.c (.int .i64 1))⟩,
  ⟨some 17, none, .mov (.t 45)⟩]
abbrev c85_26 : SC := .seq c85_24 (.ops r85_25)
abbrev c85_27 : SC := .seq c85_6 c85_26
abbrev c85_28 : SC := .seq (.ops r85_5) c85_27
abbrev L85_1 : SC := .loop [1, 3, 8, 9, 15, 16, 17] [3, 9] c85_28
abbrev c85_29 : SC := .block 0 [8] [] L85_1
abbrev c85_30 : SC := .seq (.ops r85_4) c85_29
abbrev r85_31 : List SOper := [
  ⟨some 46, none, .mov (.t 8)⟩,
  ⟨some 6, none, .mov (.t 46)⟩,
  ⟨some 7, none, .mov (.c (.int .i64 0))⟩]
abbrev c85_32 : SC := .seq (.ops r85_31) (.ret)
abbrev c85_33 : SC := .seq c85_30 c85_32
abbrev c85_34 : SC := .seq (.ops r85_3) c85_33
abbrev c85_35 : SC := .seq (.ops r85_2) c85_34
abbrev c85_36 : SC := .seq (.ops r85_1) c85_35
def s85 : SF := ⟨[.t 6, .t 7], c85_36, false, none, none⟩
/-! crannog/view.Kind -/
abbrev r86_1 : List SOper := [
  ⟨some 2, none, .boxL (.t 0)⟩,
  ⟨some 3, none, .boxL (.t 1)⟩,
  ⟨some 4, none, .mov (.c (.int .i64 0))⟩]
abbrev r86_2 : List SOper := [
  ⟨some 7, none, .load true true 2 (.t 3)⟩,
  ⟨some 8, none, .call true (.c (.func 127 [])) []⟩,
  ⟨some 9, none, .cmpA false [.int .i64, .int .i64] (.t 7) (.t 8)⟩]
abbrev r86_3 : List SOper := [
  ⟨some 4, none, .mov (.c (.int .i64 2))⟩]
abbrev c86_4 : SC := .seq (.ops r86_3) (.ret)
abbrev c86_5 : SC := .cond (.t 9) c86_4 (.skip)
abbrev c86_6 : SC := .seq (.draw 0 [[], [], [0, 1]] r86_2) c86_5
abbrev r86_7 : List SOper := [
  ⟨some 11, none, .load false true 10 (.t 2)⟩,
  ⟨some 12, none, .load false true 2 (.t 3)⟩,
  ⟨some 13, none, .call false (.c (.func 122 [])) [.t 11, .t 12]⟩,
  ⟨some 10, none, .mov (.t 13)⟩,
  ⟨some 14, none, .extract (.t 10) 0⟩,
  ⟨some 15, none, .extract (.t 10) 1⟩,
  ⟨some 5, none, .allocL [.int .i64 0, .int .i64 0, .int .i64 0, .str [], .int .i64 0, .int .i64 0, .int .i64 0, .int .u64 0, .int .i64 0, .int .i64 0, .int .i64 0, .nils, .nils]⟩,
  ⟨none, none, .store 13 (.t 5) (.t 14)⟩,
  ⟨some 6, none, .mov (.t 15)⟩]
abbrev r86_8 : List SOper := [
  ⟨some 16, none, .faddr 2 (.t 5)⟩,
  ⟨some 17, none, .load false false 1 (.t 16)⟩,
  ⟨some 4, none, .mov (.t 17)⟩]
abbrev c86_9 : SC := .seq (.ops r86_8) (.ret)
abbrev c86_10 : SC := .seq (.ops r86_7) c86_9
abbrev c86_11 : SC := .seq c86_6 c86_10
abbrev c86_12 : SC := .seq (.ops r86_1) c86_11
def s86 : SF := ⟨[.t 4], c86_12, false, none, none⟩
/-! crannog/instant.Good -/
abbrev r89_1 : List SOper := [
  ⟨some 2, none, .mov (.c (.bool false))⟩]
abbrev r89_2 : List SOper := [
  ⟨some 6, none, .mov (.t 0)⟩,
  ⟨some 7, none, .call false (.c (.func 90 [])) [.t 6]⟩,
  ⟨some 8, none, .call false (.c (.func 67 [])) [.t 7]⟩,
  ⟨some 5, none, .mov (.t 8)⟩,
  ⟨some 9, none, .extract (.t 5) 0⟩,
  ⟨some 10, none, .extract (.t 5) 1⟩,
  ⟨some 3, none, .mov (.t 9)⟩,
  ⟨some 4, none, .mov (.t 10)⟩]
abbrev r89_3 : List SOper := [
  ⟨some 11, none, .mov (.t 4)⟩,
  ⟨some 12, none, .bin .eql (.t 11) (.c (.int .i64 0))⟩,
  ⟨some 13, none, .mov (.t 12)⟩,
  ⟨some 14, some (13, true), .mov (.t 3)⟩,
  ⟨some 15, some (13, true), .mov (.t 0)⟩,
  ⟨some 16, some (13, true), .bin .eql (.t 14) (.t 15)⟩,
  ⟨some 17, none, .pick (.t 13) (.t 16) (.c (.bool false))⟩,
  ⟨some 2, none, .mov (.t 17)⟩]
abbrev c89_4 : SC := .seq (.ops r89_3) (.ret)
abbrev c89_5 : SC := .seq (.ops r89_2) c89_4
abbrev c89_6 : SC := .seq (.ops r89_1) c89_5
def s89 : SF := ⟨[.t 2], c89_6, false, none, none⟩
/-! crannog/instant.back -/
abbrev r90_1 : List SOper := [
  ⟨some 2, none, .mov (.c (.float .f64 0))⟩]
abbrev r90_2 : List SOper := [
  ⟨some 3, none, .mov (.t 0)⟩,
  ⟨some 4, none, .bin .and (.t 3) (.c (.int .u64 9223372036854775808))⟩,
  ⟨some 5, none, .bin .neq (.t 4) (.c (.int .u64 0))⟩]
abbrev r90_3 : List SOper := [
  ⟨some 6, none, .mov (.t 0)⟩,
  ⟨some 7, none, .bin .andNot (.t 6) (.c (.int .u64 9223372036854775808))⟩,
  ⟨some 8, none, .call false (.c (.func 91 [])) [.t 7]⟩,
  ⟨some 2, none, .mov (.t 8)⟩]
abbrev c90_4 : SC := .seq (.ops r90_3) (.ret)
abbrev c90_5 : SC := .cond (.t 5) c90_4 (.skip)
abbrev c90_6 : SC := .seq (.ops r90_2) c90_5
abbrev r90_7 : List SOper := [
  ⟨some 9, none, .mov (.t 0)⟩,
  ⟨some 10, none, .un .xor (.t 9)⟩,
  ⟨some 11, none, .call false (.c (.func 91 [])) [.t 10]⟩,
  ⟨some 2, none, .mov (.t 11)⟩]
abbrev c90_8 : SC := .seq (.ops r90_7) (.ret)
abbrev c90_9 : SC := .seq c90_6 c90_8
abbrev c90_10 : SC := .seq (.ops r90_1) c90_9
def s90 : SF := ⟨[.t 2], c90_10, false, none, none⟩
/-! math.IsNaN -/
abbrev r113_1 : List SOper := [
  ⟨some 2, none, .mov (.c (.bool false))⟩]
abbrev r113_2 : List SOper := [
  ⟨some 3, none, .mov (.t 0)⟩,
  ⟨some 4, none, .mov (.t 0)⟩,
  ⟨some 5, none, .bin .neq (.t 3) (.t 4)⟩,
  ⟨some 2, none, .mov (.t 5)⟩]
abbrev c113_3 : SC := .seq (.ops r113_2) (.ret)
abbrev c113_4 : SC := .seq (.ops r113_1) c113_3
def s113 : SF := ⟨[.t 2], c113_4, false, none, none⟩
/-! crannog/calls.need -/
abbrev r114_1 : List SOper := [
  ⟨some 4, none, .mov (.t 0)⟩,
  ⟨some 5, none, .un .not (.t 4)⟩]
abbrev r114_2 : List SOper := [
  ⟨some 6, none, .mov (.t 1)⟩,
  ⟨some 7, none, .build [.int .i64 0] [(0, 1, .t 6)]⟩,
  ⟨some 8, none, .mkif 132 (.t 7)⟩,
  ⟨none, none, .panic (.t 8)⟩]
abbrev c114_3 : SC := .cond (.t 5) (.ops r114_2) (.skip)
abbrev c114_4 : SC := .seq (.ops r114_1) c114_3
def s114 : SF := ⟨[], c114_4, false, none, none⟩
/-! crannog/vector.Good -/
abbrev r115_1 : List SOper := [
  ⟨some 1, none, .boxL (.t 0)⟩,
  ⟨some 2, none, .mov (.c (.bool false))⟩]
abbrev r115_2 : List SOper := [
  ⟨some 5, none, .load false true 8 (.t 1)⟩,
  ⟨some 6, none, .mov (.c (.int .i64 0))⟩]
abbrev r115_3 : List SOper := [
  ⟨some 7, none, .bin .lss (.t 6) (.c (.int .i64 8))⟩]
abbrev c115_4 : SC := .cond (.t 7) (.skip) (.exit 0)
abbrev r115_5 : List SOper := [
  ⟨some 8, none, .index (some (8, 1, false)) (.t 5) (.t 6)⟩,
  ⟨some 4, none, .mov (.t 8)⟩]
abbrev r115_6 : List SOper := [
  ⟨some 9, none, .mov (.t 4)⟩,
  ⟨some 10, none, .bin .lss (.t 9) (.c (.int .i64 0))⟩,
  ⟨some 11, none, .mov (.t 10)⟩,
  ⟨some 12, some (11, false), .mov (.t 4)⟩,
  ⟨some 13, some (11, false), .bin .gtr (.t 12) (.c (.int .i64 1099511627776))⟩,
  ⟨some 14, none, .pick (.t 11) (.c (.bool true)) (.t 13)⟩]
abbrev r115_7 : List SOper := [
  ⟨some 2, none, .mov (.c (.bool false))⟩]
abbrev c115_8 : SC := .seq (.ops r115_7) (.ret)
abbrev c115_9 : SC := .cond (.t 14) c115_8 (.skip)
abbrev c115_10 : SC := .seq (.ops r115_6) c115_9
abbrev c115_11 : SC := .seq (.ops r115_5) c115_10
abbrev c115_12 : SC := .block 1 [5, 6] [] c115_11
abbrev r115_13 : List SOper := [
  ⟨some 15, none, .bin .add (.t 6) (.c (.int .i64 1))⟩,
  ⟨some 6, none, .mov (.t 15)⟩]
abbrev c115_14 : SC := .seq c115_12 (.ops r115_13)
abbrev c115_15 : SC := .seq c115_4 c115_14
abbrev c115_16 : SC := .seq (.ops r115_3) c115_15
abbrev L115_1 : SC := .loop [5, 6] [] c115_16
abbrev c115_17 : SC := .block 0 [] [] L115_1
abbrev c115_18 : SC := .seq (.ops r115_2) c115_17
abbrev r115_19 : List SOper := [
  ⟨some 2, none, .mov (.c (.bool true))⟩]
abbrev c115_20 : SC := .seq (.ops r115_19) (.ret)
abbrev c115_21 : SC := .seq c115_18 c115_20
abbrev c115_22 : SC := .seq (.ops r115_1) c115_21
def s115 : SF := ⟨[.t 2], c115_22, false, none, none⟩
/-! crannog/facts.rises[crannog/api.Inode] -/
abbrev r116_1 : List SOper := [
  ⟨some 4, none, .mov (.c (.bool false))⟩]
abbrev r116_2 : List SOper := [
  ⟨some 6, none, .mov (.t 0)⟩,
  ⟨some 7, none, .len 1 (.t 6)⟩,
  ⟨some 8, none, .mov (.c (.int .i64 0))⟩]
abbrev r116_3 : List SOper := [
  ⟨some 9, none, .bin .lss (.t 8) (.t 7)⟩]
abbrev c116_4 : SC := .cond (.t 9) (.skip) (.exit 0)
abbrev r116_5 : List SOper := [
  ⟨some 10, none, .mov (.t 8)⟩,
  ⟨some 5, none, .mov (.t 10)⟩]
abbrev r116_6 : List SOper := [
  ⟨some 11, none, .mov (.t 5)⟩,
  ⟨some 12, none, .bin .gtr (.t 11) (.c (.int .i64 0))⟩,
  ⟨some 13, none, .mov (.t 12)⟩,
  ⟨some 14, some (13, true), .mov (.t 1)⟩,
  ⟨some 15, some (13, true), .mov (.t 0)⟩,
  ⟨some 16, some (13, true), .mov (.t 5)⟩,
  ⟨some 17, some (13, true), .bin .sub (.t 16) (.c (.int .i64 1))⟩,
  ⟨some 18, some (13, true), .iaddr none 13 (.t 15) (.t 17)⟩,
  ⟨some 19, some (13, true), .load false true 13 (.t 18)⟩,
  ⟨some 20, some (13, true), .call true (.t 14) [.t 19]⟩,
  ⟨some 21, some (13, true), .mov (.t 1)⟩,
  ⟨some 22, some (13, true), .mov (.t 0)⟩,
  ⟨some 23, some (13, true), .mov (.t 5)⟩,
  ⟨some 24, some (13, true), .iaddr none 13 (.t 22) (.t 23)⟩,
  ⟨some 25, some (13, true), .load false true 13 (.t 24)⟩,
  ⟨some 26, some (13, true), .call false (.t 21) [.t 25]⟩,
  ⟨some 27, some (13, true), .call false (.c (.func 131 [])) [.t 20, .t 26]⟩,
  ⟨some 28, some (13, true), .un .not (.t 27)⟩,
  ⟨some 29, none, .pick (.t 13) (.t 28) (.c (.bool false))⟩]
abbrev r116_7 : List SOper := [
  ⟨some 4, none, .mov (.c (.bool false))⟩]
abbrev c116_8 : SC := .seq (.ops r116_7) (.ret)
abbrev c116_9 : SC := .cond (.t 29) c116_8 (.skip)
abbrev c116_10 : SC := .seq (.draw 0 [[], [0], [1], [2], [2], [2], [5], [4, 6], [7], [3, 8], [2], [2], [2], [11, 12], [13], [9, 10, 14], [15], [16], [17]] r116_6) c116_9
abbrev c116_11 : SC := .seq (.ops r116_5) c116_10
abbrev c116_12 : SC := .block 1 [0, 1, 7, 8] [] c116_11
abbrev r116_13 : List SOper := [
  ⟨some 30, none, .bin .add (.t 8) (.c (.int .i64 1))⟩,
  ⟨some 8, none, .mov (.t 30)⟩]
abbrev c116_14 : SC := .seq c116_12 (.ops r116_13)
abbrev c116_15 : SC := .seq c116_4 c116_14
abbrev c116_16 : SC := .seq (.ops r116_3) c116_15
abbrev L116_1 : SC := .loop [0, 1, 7, 8] [] c116_16
abbrev c116_17 : SC := .block 0 [] [] L116_1
abbrev c116_18 : SC := .seq (.ops r116_2) c116_17
abbrev r116_19 : List SOper := [
  ⟨some 4, none, .mov (.c (.bool true))⟩]
abbrev c116_20 : SC := .seq (.ops r116_19) (.ret)
abbrev c116_21 : SC := .seq c116_18 c116_20
abbrev c116_22 : SC := .seq (.ops r116_1) c116_21
def s116 : SF := ⟨[.t 4], c116_22, false, none, none⟩
/-! crannog/facts.Check$1 -/
abbrev r117_1 : List SOper := [
  ⟨some 1, none, .boxL (.t 0)⟩,
  ⟨some 2, none, .allocL [.int .i64 0, .int .i64 0]⟩]
abbrev r117_2 : List SOper := [
  ⟨some 3, none, .faddr 0 (.t 1)⟩,
  ⟨some 4, none, .load false true 2 (.t 3)⟩,
  ⟨none, none, .store 2 (.t 2) (.t 4)⟩]
abbrev c117_3 : SC := .seq (.ops r117_2) (.ret)
abbrev c117_4 : SC := .seq (.ops r117_1) c117_3
def s117 : SF := ⟨[.c 2 true 2], c117_4, false, none, none⟩
/-! crannog/facts.rises[crannog/api.Link] -/
abbrev r118_1 : List SOper := [
  ⟨some 4, none, .mov (.c (.bool false))⟩]
abbrev r118_2 : List SOper := [
  ⟨some 6, none, .mov (.t 0)⟩,
  ⟨some 7, none, .len 1 (.t 6)⟩,
  ⟨some 8, none, .mov (.c (.int .i64 0))⟩]
abbrev r118_3 : List SOper := [
  ⟨some 9, none, .bin .lss (.t 8) (.t 7)⟩]
abbrev c118_4 : SC := .cond (.t 9) (.skip) (.exit 0)
abbrev r118_5 : List SOper := [
  ⟨some 10, none, .mov (.t 8)⟩,
  ⟨some 5, none, .mov (.t 10)⟩]
abbrev r118_6 : List SOper := [
  ⟨some 11, none, .mov (.t 5)⟩,
  ⟨some 12, none, .bin .gtr (.t 11) (.c (.int .i64 0))⟩,
  ⟨some 13, none, .mov (.t 12)⟩,
  ⟨some 14, some (13, true), .mov (.t 1)⟩,
  ⟨some 15, some (13, true), .mov (.t 0)⟩,
  ⟨some 16, some (13, true), .mov (.t 5)⟩,
  ⟨some 17, some (13, true), .bin .sub (.t 16) (.c (.int .i64 1))⟩,
  ⟨some 18, some (13, true), .iaddr none 25 (.t 15) (.t 17)⟩,
  ⟨some 19, some (13, true), .load false true 25 (.t 18)⟩,
  ⟨some 20, some (13, true), .call true (.t 14) [.t 19]⟩,
  ⟨some 21, some (13, true), .mov (.t 1)⟩,
  ⟨some 22, some (13, true), .mov (.t 0)⟩,
  ⟨some 23, some (13, true), .mov (.t 5)⟩,
  ⟨some 24, some (13, true), .iaddr none 25 (.t 22) (.t 23)⟩,
  ⟨some 25, some (13, true), .load false true 25 (.t 24)⟩,
  ⟨some 26, some (13, true), .call false (.t 21) [.t 25]⟩,
  ⟨some 27, some (13, true), .call false (.c (.func 131 [])) [.t 20, .t 26]⟩,
  ⟨some 28, some (13, true), .un .not (.t 27)⟩,
  ⟨some 29, none, .pick (.t 13) (.t 28) (.c (.bool false))⟩]
abbrev r118_7 : List SOper := [
  ⟨some 4, none, .mov (.c (.bool false))⟩]
abbrev c118_8 : SC := .seq (.ops r118_7) (.ret)
abbrev c118_9 : SC := .cond (.t 29) c118_8 (.skip)
abbrev c118_10 : SC := .seq (.draw 0 [[], [0], [1], [2], [2], [2], [5], [4, 6], [7], [3, 8], [2], [2], [2], [11, 12], [13], [9, 10, 14], [15], [16], [17]] r118_6) c118_9
abbrev c118_11 : SC := .seq (.ops r118_5) c118_10
abbrev c118_12 : SC := .block 1 [0, 1, 7, 8] [] c118_11
abbrev r118_13 : List SOper := [
  ⟨some 30, none, .bin .add (.t 8) (.c (.int .i64 1))⟩,
  ⟨some 8, none, .mov (.t 30)⟩]
abbrev c118_14 : SC := .seq c118_12 (.ops r118_13)
abbrev c118_15 : SC := .seq c118_4 c118_14
abbrev c118_16 : SC := .seq (.ops r118_3) c118_15
abbrev L118_1 : SC := .loop [0, 1, 7, 8] [] c118_16
abbrev c118_17 : SC := .block 0 [] [] L118_1
abbrev c118_18 : SC := .seq (.ops r118_2) c118_17
abbrev r118_19 : List SOper := [
  ⟨some 4, none, .mov (.c (.bool true))⟩]
abbrev c118_20 : SC := .seq (.ops r118_19) (.ret)
abbrev c118_21 : SC := .seq c118_18 c118_20
abbrev c118_22 : SC := .seq (.ops r118_1) c118_21
def s118 : SF := ⟨[.t 4], c118_22, false, none, none⟩
/-! (*crannog/facts.maker).inode -/
abbrev r120_1 : List SOper := [
  ⟨some 5, none, .boxL (.t 2)⟩,
  ⟨some 6, none, .mov (.c (.bool false))⟩]
abbrev r120_2 : List SOper := [
  ⟨some 7, none, .mov (.t 1)⟩,
  ⟨some 8, none, .bin .eql (.t 7) (.c (.int .i64 0))⟩]
abbrev r120_3 : List SOper := [
  ⟨some 9, none, .faddr 0 (.t 5)⟩,
  ⟨some 10, none, .load false true 2 (.t 9)⟩,
  ⟨some 11, none, .build [.int .i64 0, .int .i64 0] []⟩,
  ⟨some 12, none, .cmpA true [.int .i64, .int .i64] (.t 10) (.t 11)⟩,
  ⟨some 13, none, .mov (.t 12)⟩,
  ⟨some 14, some (13, false), .faddr 2 (.t 5)⟩,
  ⟨some 15, some (13, false), .load false false 1 (.t 14)⟩,
  ⟨some 16, some (13, false), .bin .neq (.t 15) (.c (.int .i64 2))⟩,
  ⟨some 17, none, .pick (.t 13) (.c (.bool true)) (.t 16)⟩]
abbrev r120_4 : List SOper := [
  ⟨some 6, none, .mov (.c (.bool false))⟩]
abbrev c120_5 : SC := .seq (.ops r120_4) (.ret)
abbrev c120_6 : SC := .cond (.t 17) c120_5 (.skip)
abbrev c120_7 : SC := .seq (.ops r120_3) c120_6
abbrev r120_8 : List SOper := [
  ⟨some 18, none, .mov (.t 0)⟩,
  ⟨some 19, none, .faddr 0 (.t 5)⟩,
  ⟨some 20, none, .load false true 2 (.t 19)⟩,
  ⟨some 21, none, .call false (.c (.func 180 [])) [.t 18, .t 20]⟩,
  ⟨some 22, none, .un .not (.t 21)⟩]
abbrev r120_9 : List SOper := [
  ⟨some 6, none, .mov (.c (.bool false))⟩]
abbrev c120_10 : SC := .seq (.ops r120_9) (.ret)
abbrev c120_11 : SC := .cond (.t 22) c120_10 (.skip)
abbrev c120_12 : SC := .seq (.ops r120_8) c120_11
abbrev c120_13 : SC := .cond (.t 8) c120_7 c120_12
abbrev c120_14 : SC := .seq (.ops r120_2) c120_13
abbrev r120_15 : List SOper := [
  ⟨some 23, none, .faddr 2 (.t 5)⟩,
  ⟨some 24, none, .load false false 1 (.t 23)⟩,
  ⟨some 25, none, .bin .lss (.t 24) (.c (.int .i64 1))⟩,
  ⟨some 26, none, .mov (.t 25)⟩,
  ⟨some 27, some (26, false), .faddr 2 (.t 5)⟩,
  ⟨some 28, some (26, false), .load false false 1 (.t 27)⟩,
  ⟨some 29, some (26, false), .bin .gtr (.t 28) (.c (.int .i64 3))⟩,
  ⟨some 30, none, .pick (.t 26) (.c (.bool true)) (.t 29)⟩,
  ⟨some 31, none, .mov (.t 30)⟩,
  ⟨some 32, some (31, false), .faddr 2 (.t 5)⟩,
  ⟨some 33, some (31, false), .load false false 1 (.t 32)⟩,
  ⟨some 34, some (31, false), .bin .eql (.t 33) (.c (.int .i64 3))⟩,
  ⟨some 35, some (31, false), .faddr 3 (.t 5)⟩,
  ⟨some 36, some (31, false), .load false false 1 (.t 35)⟩,
  ⟨some 37, some (31, false), .bin .neq (.t 36) (.c (.str []))⟩,
  ⟨some 38, some (31, false), .cmpB true (.t 34) (.t 37)⟩,
  ⟨some 39, none, .pick (.t 31) (.c (.bool true)) (.t 38)⟩,
  ⟨some 40, none, .mov (.t 39)⟩,
  ⟨some 41, some (40, false), .faddr 3 (.t 5)⟩,
  ⟨some 42, some (40, false), .load false false 1 (.t 41)⟩,
  ⟨some 43, some (40, false), .len 0 (.t 42)⟩,
  ⟨some 44, some (40, false), .bin .gtr (.t 43) (.c (.int .i64 120))⟩,
  ⟨some 45, none, .pick (.t 40) (.c (.bool true)) (.t 44)⟩]
abbrev r120_16 : List SOper := [
  ⟨some 6, none, .mov (.c (.bool false))⟩]
abbrev c120_17 : SC := .seq (.ops r120_16) (.ret)
abbrev c120_18 : SC := .cond (.t 45) c120_17 (.skip)
abbrev c120_19 : SC := .seq (.ops r120_15) c120_18
abbrev r120_20 : List SOper := [
  ⟨some 46, none, .mov (.t 0)⟩,
  ⟨some 47, none, .load false true 13 (.t 5)⟩,
  ⟨some 48, none, .call false (.c (.func 181 [])) [.t 46, .t 47]⟩,
  ⟨some 49, none, .mov (.t 48)⟩,
  ⟨some 50, some (49, true), .mov (.t 0)⟩,
  ⟨some 51, some (49, true), .load false true 13 (.t 5)⟩,
  ⟨some 52, some (49, true), .call false (.c (.func 182 [])) [.t 50, .t 51]⟩,
  ⟨some 53, none, .pick (.t 49) (.t 52) (.c (.bool false))⟩,
  ⟨some 54, none, .mov (.t 53)⟩,
  ⟨some 55, some (54, true), .mov (.t 0)⟩,
  ⟨some 56, some (54, true), .load false true 13 (.t 5)⟩,
  ⟨some 57, some (54, true), .call false (.c (.func 183 [])) [.t 55, .t 56]⟩,
  ⟨some 58, none, .pick (.t 54) (.t 57) (.c (.bool false))⟩,
  ⟨some 6, none, .mov (.t 58)⟩]
abbrev c120_21 : SC := .seq (.ops r120_20) (.ret)
abbrev c120_22 : SC := .seq c120_19 c120_21
abbrev c120_23 : SC := .seq c120_14 c120_22
abbrev c120_24 : SC := .seq (.ops r120_1) c120_23
def s120 : SF := ⟨[.t 6], c120_24, false, none, none⟩
/-! (*crannog/facts.maker).link -/
abbrev r121_1 : List SOper := [
  ⟨some 3, none, .boxL (.t 1)⟩,
  ⟨some 4, none, .mov (.c (.bool false))⟩]
abbrev r121_2 : List SOper := [
  ⟨some 5, none, .mov (.t 0)⟩,
  ⟨some 6, none, .faddr 0 (.t 3)⟩,
  ⟨some 7, none, .load false true 2 (.t 6)⟩,
  ⟨some 8, none, .call false (.c (.func 180 [])) [.t 5, .t 7]⟩,
  ⟨some 9, none, .un .not (.t 8)⟩,
  ⟨some 10, none, .mov (.t 9)⟩,
  ⟨some 11, some (10, false), .mov (.t 0)⟩,
  ⟨some 12, some (10, false), .faddr 4 (.t 3)⟩,
  ⟨some 13, some (10, false), .load false true 2 (.t 12)⟩,
  ⟨some 14, some (10, false), .call false (.c (.func 180 [])) [.t 11, .t 13]⟩,
  ⟨some 15, some (10, false), .un .not (.t 14)⟩,
  ⟨some 16, none, .pick (.t 10) (.c (.bool true)) (.t 15)⟩,
  ⟨some 17, none, .mov (.t 16)⟩,
  ⟨some 18, some (17, false), .faddr 8 (.t 3)⟩,
  ⟨some 19, some (17, false), .load false false 1 (.t 18)⟩,
  ⟨some 20, some (17, false), .call false (.c (.func 167 [])) [.t 19]⟩,
  ⟨some 21, some (17, false), .bin .neq (.t 20) (.c (.int .i64 0))⟩,
  ⟨some 22, none, .pick (.t 17) (.c (.bool true)) (.t 21)⟩,
  ⟨some 23, none, .mov (.t 22)⟩,
  ⟨some 24, some (23, false), .faddr 2 (.t 3)⟩,
  ⟨some 25, some (23, false), .load false true 2 (.t 24)⟩,
  ⟨some 26, some (23, false), .build [.int .i64 0, .int .i64 0] []⟩,
  ⟨some 27, some (23, false), .cmpA false [.int .i64, .int .i64] (.t 25) (.t 26)⟩,
  ⟨some 28, none, .pick (.t 23) (.c (.bool true)) (.t 27)⟩,
  ⟨some 29, none, .mov (.t 28)⟩,
  ⟨some 30, some (29, false), .mov (.t 0)⟩,
  ⟨some 31, some (29, false), .nilck (.t 30)⟩,
  ⟨some 32, some (29, false), .faddr 10 (.t 31)⟩,
  ⟨some 33, some (29, false), .load false false 1 (.t 32)⟩,
  ⟨some 34, some (29, false), .faddr 2 (.t 3)⟩,
  ⟨some 35, some (29, false), .load false true 2 (.t 34)⟩,
  ⟨some 36, some (29, false), .lookup (.agg [.int .i64, .int .i64]) (.int .i64 0) false (.t 33) (.t 35)⟩,
  ⟨some 37, some (29, false), .bin .eql (.t 36) (.c (.int .i64 0))⟩,
  ⟨some 38, none, .pick (.t 29) (.c (.bool true)) (.t 37)⟩,
  ⟨some 39, none, .mov (.t 38)⟩,
  ⟨some 40, some (39, false), .mov (.t 0)⟩,
  ⟨some 41, some (39, false), .nilck (.t 40)⟩,
  ⟨some 42, some (39, false), .faddr 10 (.t 41)⟩,
  ⟨some 43, some (39, false), .load false false 1 (.t 42)⟩,
  ⟨some 44, some (39, false), .faddr 6 (.t 3)⟩,
  ⟨some 45, some (39, false), .load false true 2 (.t 44)⟩,
  ⟨some 46, some (39, false), .lookup (.agg [.int .i64, .int .i64]) (.int .i64 0) false (.t 43) (.t 45)⟩,
  ⟨some 47, some (39, false), .bin .neq (.t 46) (.c (.int .i64 2))⟩,
  ⟨some 48, none, .pick (.t 39) (.c (.bool true)) (.t 47)⟩]
abbrev r121_3 : List SOper := [
  ⟨some 4, none, .mov (.c (.bool false))⟩]
abbrev c121_4 : SC := .seq (.ops r121_3) (.ret)
abbrev c121_5 : SC := .cond (.t 48) c121_4 (.skip)
abbrev c121_6 : SC := .seq (.draw 0 [[], [], [1], [0, 2], [3], [4], [5], [5], [7], [6, 8], [9], [10], [11], [12], [13], [14], [15], [16], [17], [18], [19], [18], [20, 21], [22], [23], [24], [25], [26], [27], [24], [29], [28, 30], [31], [32], [33], [34], [35], [36], [37], [34], [39], [38, 40], [41], [42]] r121_2) c121_5
abbrev r121_7 : List SOper := [
  ⟨some 49, none, .faddr 6 (.t 3)⟩,
  ⟨some 50, none, .load false true 2 (.t 49)⟩,
  ⟨some 51, none, .build [.int .i64 0, .int .i64 0] []⟩,
  ⟨some 52, none, .cmpA false [.int .i64, .int .i64] (.t 50) (.t 51)⟩,
  ⟨some 53, none, .mov (.t 52)⟩,
  ⟨some 54, some (53, true), .faddr 8 (.t 3)⟩,
  ⟨some 55, some (53, true), .load false false 1 (.t 54)⟩,
  ⟨some 56, some (53, true), .bin .eql (.t 55) (.c (.str [46, 108, 111, 115, 116]))⟩,
  ⟨some 57, none, .pick (.t 53) (.t 56) (.c (.bool false))⟩]
abbrev r121_8 : List SOper := [
  ⟨some 4, none, .mov (.c (.bool false))⟩]
abbrev c121_9 : SC := .seq (.ops r121_8) (.ret)
abbrev c121_10 : SC := .cond (.t 57) c121_9 (.skip)
abbrev c121_11 : SC := .seq (.ops r121_7) c121_10
abbrev r121_12 : List SOper := [
  ⟨some 58, none, .mov (.t 0)⟩,
  ⟨some 59, none, .nilck (.t 58)⟩,
  ⟨some 60, none, .faddr 10 (.t 59)⟩,
  ⟨some 61, none, .load false false 1 (.t 60)⟩,
  ⟨some 62, none, .faddr 2 (.t 3)⟩,
  ⟨some 63, none, .load false true 2 (.t 62)⟩,
  ⟨some 64, none, .lookup (.agg [.int .i64, .int .i64]) (.int .i64 0) false (.t 61) (.t 63)⟩,
  ⟨some 65, none, .bin .eql (.t 64) (.c (.int .i64 2))⟩]
abbrev r121_13 : List SOper := [
  ⟨some 66, none, .mov (.t 0)⟩,
  ⟨some 67, none, .nilck (.t 66)⟩,
  ⟨some 68, none, .faddr 11 (.t 67)⟩,
  ⟨some 69, none, .load false false 1 (.t 68)⟩,
  ⟨some 70, none, .faddr 2 (.t 3)⟩,
  ⟨some 71, none, .load false true 2 (.t 70)⟩,
  ⟨some 72, none, .lookup (.agg [.int .i64, .int .i64]) (.int .i64 0) false (.t 69) (.t 71)⟩,
  ⟨some 73, none, .bin .add (.t 72) (.c (.int .i64 1))⟩,
  ⟨some 74, none, .mapent (.agg [.int .i64, .int .i64]) (.int .i64 0) (.t 69) (.t 71)⟩,
  ⟨some 75, none, .extract (.t 74) 1⟩,
  ⟨none, none, .entst (.t 69) (.t 75) (.t 73)⟩]
abbrev r121_14 : List SOper := [
  ⟨some 76, none, .mov (.t 0)⟩,
  ⟨some 77, none, .nilck (.t 76)⟩,
  ⟨some 78, none, .faddr 11 (.t 77)⟩,
  ⟨some 79, none, .load false false 1 (.t 78)⟩,
  ⟨some 80, none, .faddr 2 (.t 3)⟩,
  ⟨some 81, none, .load false true 2 (.t 80)⟩,
  ⟨some 82, none, .lookup (.agg [.int .i64, .int .i64]) (.int .i64 0) false (.t 79) (.t 81)⟩,
  ⟨some 83, none, .bin .gtr (.t 82) (.c (.int .i64 1))⟩]
abbrev r121_15 : List SOper := [
  ⟨some 4, none, .mov (.c (.bool false))⟩]
abbrev c121_16 : SC := .seq (.ops r121_15) (.ret)
abbrev c121_17 : SC := .cond (.t 83) c121_16 (.skip)
abbrev c121_18 : SC := .seq (.draw 0 [[], [0], [1], [2], [], [4], [3, 5], [6]] r121_14) c121_17
abbrev c121_19 : SC := .seq (.draw 0 [[], [0], [1], [2], [], [4], [3, 5], [6], [3, 5], [8], [7, 9]] r121_13) c121_18
abbrev c121_20 : SC := .cond (.t 65) c121_19 (.skip)
abbrev c121_21 : SC := .seq (.draw 0 [[], [0], [1], [2], [], [4], [3, 5], [6]] r121_12) c121_20
abbrev r121_22 : List SOper := [
  ⟨some 84, none, .faddr 9 (.t 3)⟩,
  ⟨some 85, none, .load false true 8 (.t 84)⟩,
  ⟨some 86, none, .faddr 0 (.t 3)⟩,
  ⟨some 87, none, .load false true 2 (.t 86)⟩,
  ⟨some 88, none, .call false (.c (.func 184 [])) [.t 85, .t 87]⟩,
  ⟨some 89, none, .mov (.t 88)⟩,
  ⟨some 90, some (89, true), .faddr 9 (.t 3)⟩,
  ⟨some 91, some (89, true), .load false true 8 (.t 90)⟩,
  ⟨some 92, some (89, true), .call false (.c (.func 115 [])) [.t 91]⟩,
  ⟨some 93, none, .pick (.t 89) (.t 92) (.c (.bool false))⟩,
  ⟨some 94, none, .mov (.t 93)⟩,
  ⟨some 95, some (94, true), .faddr 17 (.t 3)⟩,
  ⟨some 96, some (94, true), .load false true 8 (.t 95)⟩,
  ⟨some 97, some (94, true), .call false (.c (.func 115 [])) [.t 96]⟩,
  ⟨some 98, none, .pick (.t 94) (.t 97) (.c (.bool false))⟩,
  ⟨some 99, none, .mov (.t 98)⟩,
  ⟨some 100, some (99, true), .faddr 9 (.t 3)⟩,
  ⟨some 101, some (99, true), .load false true 8 (.t 100)⟩,
  ⟨some 102, some (99, true), .mov (.t 0)⟩,
  ⟨some 103, some (99, true), .nilck (.t 102)⟩,
  ⟨some 104, some (99, true), .faddr 0 (.t 103)⟩,
  ⟨some 105, some (99, true), .faddr 0 (.t 104)⟩,
  ⟨some 106, some (99, true), .load false true 8 (.t 105)⟩,
  ⟨some 107, some (99, true), .call false (.c (.func 185 [])) [.t 101, .t 106]⟩,
  ⟨some 108, none, .pick (.t 99) (.t 107) (.c (.bool false))⟩,
  ⟨some 109, none, .mov (.t 108)⟩,
  ⟨some 110, some (109, true), .faddr 17 (.t 3)⟩,
  ⟨some 111, some (109, true), .load false true 8 (.t 110)⟩,
  ⟨some 112, some (109, true), .mov (.t 0)⟩,
  ⟨some 113, some (109, true), .nilck (.t 112)⟩,
  ⟨some 114, some (109, true), .faddr 0 (.t 113)⟩,
  ⟨some 115, some (109, true), .faddr 0 (.t 114)⟩,
  ⟨some 116, some (109, true), .load false true 8 (.t 115)⟩,
  ⟨some 117, some (109, true), .call false (.c (.func 185 [])) [.t 111, .t 116]⟩,
  ⟨some 118, none, .pick (.t 109) (.t 117) (.c (.bool false))⟩,
  ⟨some 4, none, .mov (.t 118)⟩]
abbrev c121_23 : SC := .seq (.draw 0 [[], [0], [], [2], [1, 3], [4], [5], [6], [7], [8], [9], [10], [11], [12], [13], [14], [15], [16], [15], [18], [19], [20], [21], [17, 22], [23], [24], [25], [26], [25], [28], [29], [30], [31], [27, 32], [33], [34]] r121_22) (.ret)
abbrev c121_24 : SC := .seq c121_21 c121_23
abbrev c121_25 : SC := .seq c121_11 c121_24
abbrev c121_26 : SC := .seq c121_6 c121_25
abbrev c121_27 : SC := .seq (.ops r121_1) c121_26
def s121 : SF := ⟨[.t 4], c121_27, false, none, none⟩
/-! crannog/facts.Node -/
abbrev r122_1 : List SOper := [
  ⟨some 2, none, .boxL (.t 0)⟩,
  ⟨some 3, none, .boxL (.t 1)⟩,
  ⟨some 4, none, .allocL [.int .i64 0, .int .i64 0, .int .i64 0, .str [], .int .i64 0, .int .i64 0, .int .i64 0, .int .u64 0, .int .i64 0, .int .i64 0, .int .i64 0, .nils, .nils]⟩,
  ⟨some 5, none, .mov (.c (.bool false))⟩]
abbrev r122_2 : List SOper := [
  ⟨some 8, none, .faddr 8 (.t 2)⟩,
  ⟨some 9, none, .load false false 1 (.t 8)⟩,
  ⟨some 10, none, .len 1 (.t 9)⟩,
  ⟨some 11, none, .mov (.c (.int .i64 0))⟩]
abbrev r122_3 : List SOper := [
  ⟨some 12, none, .bin .lss (.t 11) (.t 10)⟩]
abbrev c122_4 : SC := .cond (.t 12) (.skip) (.exit 0)
abbrev r122_5 : List SOper := [
  ⟨some 13, none, .iaddr none 13 (.t 9) (.t 11)⟩,
  ⟨some 14, none, .load false true 13 (.t 13)⟩,
  ⟨some 7, none, .allocL [.int .i64 0, .int .i64 0, .int .i64 0, .str [], .int .i64 0, .int .i64 0, .int .i64 0, .int .u64 0, .int .i64 0, .int .i64 0, .int .i64 0, .nils, .nils]⟩,
  ⟨none, none, .store 13 (.t 7) (.t 14)⟩]
abbrev r122_6 : List SOper := [
  ⟨some 15, none, .faddr 0 (.t 7)⟩,
  ⟨some 16, none, .load false true 2 (.t 15)⟩,
  ⟨some 17, none, .load false true 2 (.t 3)⟩,
  ⟨some 18, none, .cmpA false [.int .i64, .int .i64] (.t 16) (.t 17)⟩]
abbrev r122_7 : List SOper := [
  ⟨some 19, none, .load false true 13 (.t 7)⟩,
  ⟨none, none, .store 13 (.t 4) (.t 19)⟩,
  ⟨some 5, none, .mov (.c (.bool true))⟩]
abbrev c122_8 : SC := .seq (.ops r122_7) (.ret)
abbrev c122_9 : SC := .cond (.t 18) c122_8 (.skip)
abbrev c122_10 : SC := .seq (.ops r122_6) c122_9
abbrev c122_11 : SC := .seq (.ops r122_5) c122_10
abbrev c122_12 : SC := .block 1 [3, 4, 9, 10, 11] [3, 4] c122_11
abbrev r122_13 : List SOper := [
  ⟨some 20, none, .bin .add (.t 11) (.c (.int .i64 1))⟩,
  ⟨some 11, none, .mov (.t 20)⟩]
abbrev c122_14 : SC := .seq c122_12 (.ops r122_13)
abbrev c122_15 : SC := .seq c122_4 c122_14
abbrev c122_16 : SC := .seq (.ops r122_3) c122_15
abbrev L122_1 : SC := .loop [3, 4, 9, 10, 11] [3, 4] c122_16
abbrev c122_17 : SC := .block 0 [4] [4] L122_1
abbrev c122_18 : SC := .seq (.ops r122_2) c122_17
abbrev r122_19 : List SOper := [
  ⟨some 21, none, .build [.int .i64 0, .int .i64 0, .int .i64 0, .str [], .int .i64 0, .int .i64 0, .int .i64 0, .int .u64 0, .int .i64 0, .int .i64 0, .int .i64 0, .nils, .nils] []⟩,
  ⟨none, none, .store 13 (.t 4) (.t 21)⟩,
  ⟨some 5, none, .mov (.c (.bool false))⟩]
abbrev c122_20 : SC := .seq (.ops r122_19) (.ret)
abbrev c122_21 : SC := .seq c122_18 c122_20
abbrev c122_22 : SC := .seq (.ops r122_1) c122_21
def s122 : SF := ⟨[.c 4 true 13, .t 5], c122_22, false, none, none⟩
/-! crannog/join.Alive -/
abbrev r123_1 : List SOper := [
  ⟨some 1, none, .boxL (.t 0)⟩,
  ⟨some 2, none, .mov (.c (.bool false))⟩]
abbrev r123_2 : List SOper := [
  ⟨some 3, none, .faddr 9 (.t 1)⟩,
  ⟨some 4, none, .load false true 8 (.t 3)⟩,
  ⟨some 5, none, .faddr 17 (.t 1)⟩,
  ⟨some 6, none, .load false true 8 (.t 5)⟩,
  ⟨some 7, none, .call false (.c (.func 185 [])) [.t 4, .t 6]⟩,
  ⟨some 8, none, .un .not (.t 7)⟩,
  ⟨some 2, none, .mov (.t 8)⟩]
abbrev c123_3 : SC := .seq (.ops r123_2) (.ret)
abbrev c123_4 : SC := .seq (.ops r123_1) c123_3
def s123 : SF := ⟨[.t 2], c123_4, false, none, none⟩
/-! (*crannog/view.sight).rise -/
abbrev r124_1 : List SOper := [
  ⟨some 4, none, .mov (.c (.bool true))⟩]
abbrev r124_2 : List SOper := [
  ⟨some 5, none, .mov (.t 4)⟩,
  ⟨some 6, none, .mov (.t 5)⟩,
  ⟨some 7, some (6, true), .mov (.t 0)⟩,
  ⟨some 8, some (6, true), .nilck (.t 7)⟩,
  ⟨some 9, some (6, true), .faddr 2 (.t 8)⟩,
  ⟨some 10, some (6, true), .load false false 1 (.t 9)⟩,
  ⟨some 11, some (6, true), .mov (.t 1)⟩,
  ⟨some 12, some (6, true), .iaddr none 1 (.t 10) (.t 11)⟩,
  ⟨some 13, some (6, true), .load false false 1 (.t 12)⟩,
  ⟨some 14, some (6, true), .un .not (.t 13)⟩,
  ⟨some 15, none, .pick (.t 6) (.t 14) (.c (.bool false))⟩]
abbrev c124_3 : SC := .cond (.t 15) (.skip) (.exit 0)
abbrev c124_4 : SC := .seq (.ops r124_2) c124_3
abbrev r124_5 : List SOper := [
  ⟨some 16, none, .mov (.t 0)⟩,
  ⟨some 17, none, .nilck (.t 16)⟩,
  ⟨some 18, none, .faddr 2 (.t 17)⟩,
  ⟨some 19, none, .load false false 1 (.t 18)⟩,
  ⟨some 20, none, .mov (.t 1)⟩,
  ⟨some 21, none, .iaddr none 1 (.t 19) (.t 20)⟩,
  ⟨none, none, .store 1 (.t 21) (.c (.bool true))⟩]
abbrev r124_6 : List SOper := [
  ⟨some 23, none, .mov (.t 0)⟩,
  ⟨some 24, none, .nilck (.t 23)⟩,
  ⟨some 25, none, .faddr 1 (.t 24)⟩,
  ⟨some 26, none, .load false false 1 (.t 25)⟩,
  ⟨some 27, none, .mov (.t 0)⟩,
  ⟨some 28, none, .nilck (.t 27)⟩,
  ⟨some 29, none, .faddr 0 (.t 28)⟩,
  ⟨some 30, none, .load false false 1 (.t 29)⟩,
  ⟨some 31, none, .mov (.t 1)⟩,
  ⟨some 32, none, .iaddr none 25 (.t 30) (.t 31)⟩,
  ⟨some 33, none, .faddr 6 (.t 32)⟩,
  ⟨some 34, none, .load false true 2 (.t 33)⟩,
  ⟨some 35, none, .lookup (.agg [.int .i64, .int .i64]) (.int .i64 0) true (.t 26) (.t 34)⟩,
  ⟨some 22, none, .mov (.t 35)⟩,
  ⟨some 36, none, .extract (.t 22) 0⟩,
  ⟨some 37, none, .extract (.t 22) 1⟩,
  ⟨some 1, none, .mov (.t 36)⟩,
  ⟨some 4, none, .mov (.t 37)⟩]
abbrev c124_7 : SC := .seq (.ops r124_5) (.draw 0 [[], [0], [1], [2], [], [4], [5], [6], [], [7, 8], [9], [10], [3, 11], [12], [13], [13], [14], [15, 16]] r124_6)
abbrev c124_8 : SC := .block 1 [0, 1, 4] [] c124_7
abbrev c124_9 : SC := .seq c124_4 c124_8
abbrev L124_1 : SC := .loop [0, 1, 4] [] c124_9
abbrev c124_10 : SC := .block 0 [] [] L124_1
abbrev c124_11 : SC := .seq (.ops r124_1) c124_10
def s124 : SF := ⟨[], c124_11, false, none, none⟩
/-! (*crannog/view.sight).rounds -/
abbrev r125_1 : List SOper := [
  ⟨some 6, none, .mov (.t 0)⟩,
  ⟨some 7, none, .nilck (.t 6)⟩,
  ⟨some 8, none, .faddr 0 (.t 7)⟩,
  ⟨some 9, none, .load false false 1 (.t 8)⟩,
  ⟨some 10, none, .len 1 (.t 9)⟩,
  ⟨some 11, none, .mkslice none 8 1 (.int .i64 0) (.t 10) (.t 10)⟩,
  ⟨some 2, none, .mov (.t 11)⟩]
abbrev r125_2 : List SOper := [
  ⟨some 12, none, .mov (.t 0)⟩,
  ⟨some 13, none, .nilck (.t 12)⟩,
  ⟨some 14, none, .faddr 0 (.t 13)⟩,
  ⟨some 15, none, .load false false 1 (.t 14)⟩,
  ⟨some 16, none, .len 1 (.t 15)⟩,
  ⟨some 17, none, .mov (.c (.int .i64 0))⟩]
abbrev r125_3 : List SOper := [
  ⟨some 18, none, .bin .lss (.t 17) (.t 16)⟩]
abbrev c125_4 : SC := .cond (.t 18) (.skip) (.exit 0)
abbrev r125_5 : List SOper := [
  ⟨some 19, none, .mov (.t 17)⟩,
  ⟨some 3, none, .mov (.t 19)⟩]
abbrev r125_6 : List SOper := [
  ⟨some 20, none, .mov (.t 3)⟩,
  ⟨some 21, none, .mov (.t 0)⟩,
  ⟨some 22, none, .nilck (.t 21)⟩,
  ⟨some 23, none, .faddr 2 (.t 22)⟩,
  ⟨some 24, none, .load false false 1 (.t 23)⟩,
  ⟨some 25, none, .mov (.t 3)⟩,
  ⟨some 26, none, .iaddr none 1 (.t 24) (.t 25)⟩,
  ⟨some 27, none, .load false false 1 (.t 26)⟩,
  ⟨some 4, none, .mov (.t 20)⟩,
  ⟨some 5, none, .mov (.t 27)⟩]
abbrev r125_7 : List SOper := [
  ⟨some 28, none, .mov (.t 5)⟩,
  ⟨some 29, none, .mov (.t 28)⟩,
  ⟨some 30, some (29, true), .mov (.t 2)⟩,
  ⟨some 31, some (29, true), .mov (.t 4)⟩,
  ⟨some 32, some (29, true), .iaddr none 1 (.t 30) (.t 31)⟩,
  ⟨some 33, some (29, true), .load false false 1 (.t 32)⟩,
  ⟨some 34, some (29, true), .bin .eql (.t 33) (.c (.int .i64 0))⟩,
  ⟨some 35, none, .pick (.t 29) (.t 34) (.c (.bool false))⟩]
abbrev c125_8 : SC := .cond (.t 35) (.skip) (.exit 2)
abbrev c125_9 : SC := .seq (.ops r125_7) c125_8
abbrev r125_10 : List SOper := [
  ⟨some 36, none, .mov (.t 2)⟩,
  ⟨some 37, none, .mov (.t 4)⟩,
  ⟨some 38, none, .mov (.t 3)⟩,
  ⟨some 39, none, .bin .add (.t 38) (.c (.int .i64 1))⟩,
  ⟨some 40, none, .iaddr none 1 (.t 36) (.t 37)⟩,
  ⟨none, none, .store 1 (.t 40) (.t 39)⟩]
abbrev r125_11 : List SOper := [
  ⟨some 42, none, .mov (.t 0)⟩,
  ⟨some 43, none, .nilck (.t 42)⟩,
  ⟨some 44, none, .faddr 1 (.t 43)⟩,
  ⟨some 45, none, .load false false 1 (.t 44)⟩,
  ⟨some 46, none, .mov (.t 0)⟩,
  ⟨some 47, none, .nilck (.t 46)⟩,
  ⟨some 48, none, .faddr 0 (.t 47)⟩,
  ⟨some 49, none, .load false false 1 (.t 48)⟩,
  ⟨some 50, none, .mov (.t 4)⟩,
  ⟨some 51, none, .iaddr none 25 (.t 49) (.t 50)⟩,
  ⟨some 52, none, .faddr 6 (.t 51)⟩,
  ⟨some 53, none, .load false true 2 (.t 52)⟩,
  ⟨some 54, none, .lookup (.agg [.int .i64, .int .i64]) (.int .i64 0) true (.t 45) (.t 53)⟩,
  ⟨some 41, none, .mov (.t 54)⟩,
  ⟨some 55, none, .extract (.t 41) 0⟩,
  ⟨some 56, none, .extract (.t 41) 1⟩,
  ⟨some 4, none, .mov (.t 55)⟩,
  ⟨some 5, none, .mov (.t 56)⟩]
abbrev c125_12 : SC := .seq (.ops r125_10) (.draw 0 [[], [0], [1], [2], [], [4], [5], [6], [], [7, 8], [9], [10], [3, 11], [12], [13], [13], [14], [15, 16]] r125_11)
abbrev c125_13 : SC := .block 3 [0, 2, 3, 4, 5, 16, 17] [] c125_12
abbrev c125_14 : SC := .seq c125_9 c125_13
abbrev L125_1 : SC := .loop [0, 2, 3, 4, 5, 16, 17] [] c125_14
abbrev c125_15 : SC := .block 2 [0, 2, 3, 4, 5, 16, 17] [] L125_1
abbrev r125_16 : List SOper := [
  ⟨some 57, none, .mov (.t 5)⟩,
  ⟨some 58, none, .mov (.t 57)⟩,
  ⟨some 59, some (58, true), .mov (.t 2)⟩,
  ⟨some 60, some (58, true), .mov (.t 4)⟩,
  ⟨some 61, some (58, true), .iaddr none 1 (.t 59) (.t 60)⟩,
  ⟨some 62, some (58, true), .load false false 1 (.t 61)⟩,
  ⟨some 63, some (58, true), .mov (.t 3)⟩,
  ⟨some 64, some (58, true), .bin .add (.t 63) (.c (.int .i64 1))⟩,
  ⟨some 65, some (58, true), .bin .eql (.t 62) (.t 64)⟩,
  ⟨some 66, none, .pick (.t 58) (.t 65) (.c (.bool false))⟩]
abbrev r125_17 : List SOper := [
  ⟨some 67, none, .mov (.t 0)⟩,
  ⟨some 68, none, .nilck (.t 67)⟩,
  ⟨some 69, none, .faddr 3 (.t 68)⟩,
  ⟨some 70, none, .load false false 1 (.t 69)⟩,
  ⟨some 71, none, .mov (.t 0)⟩,
  ⟨some 72, none, .mov (.t 4)⟩,
  ⟨some 73, none, .call true (.c (.func 186 [])) [.t 71, .t 72]⟩,
  ⟨some 74, none, .iaddr none 1 (.t 70) (.t 73)⟩,
  ⟨none, none, .store 1 (.t 74) (.c (.bool true))⟩]
abbrev c125_18 : SC := .cond (.t 66) (.draw 0 [[], [0], [1], [2], [], [], [4, 5], [3, 6], [7]] r125_17) (.skip)
abbrev c125_19 : SC := .seq (.ops r125_16) c125_18
abbrev c125_20 : SC := .seq c125_15 c125_19
abbrev c125_21 : SC := .seq (.draw 0 [[], [], [1], [2], [3], [], [4, 5], [6], [0], [7, 8]] r125_6) c125_20
abbrev c125_22 : SC := .seq (.ops r125_5) c125_21
abbrev c125_23 : SC := .block 1 [0, 2, 16, 17] [] c125_22
abbrev r125_24 : List SOper := [
  ⟨some 75, none, .bin .add (.t 17) (.c (.int .i64 1))⟩,
  ⟨some 17, none, .mov (.t 75)⟩]
abbrev c125_25 : SC := .seq c125_23 (.ops r125_24)
abbrev c125_26 : SC := .seq c125_4 c125_25
abbrev c125_27 : SC := .seq (.ops r125_3) c125_26
abbrev L125_2 : SC := .loop [0, 2, 16, 17] [] c125_27
abbrev c125_28 : SC := .block 0 [] [] L125_2
abbrev c125_29 : SC := .seq (.ops r125_2) c125_28
abbrev c125_30 : SC := .seq (.ops r125_1) c125_29
def s125 : SF := ⟨[], c125_30, false, none, none⟩
/-! (*crannog/view.sight).clashes -/
abbrev r126_1 : List SOper := [
  ⟨some 12, none, .mkmap none⟩,
  ⟨some 2, none, .mov (.t 12)⟩]
abbrev r126_2 : List SOper := [
  ⟨some 13, none, .mov (.t 0)⟩,
  ⟨some 14, none, .nilck (.t 13)⟩,
  ⟨some 15, none, .faddr 0 (.t 14)⟩,
  ⟨some 16, none, .load false false 1 (.t 15)⟩,
  ⟨some 17, none, .len 1 (.t 16)⟩,
  ⟨some 18, none, .mov (.c (.int .i64 0))⟩]
abbrev r126_3 : List SOper := [
  ⟨some 19, none, .bin .lss (.t 18) (.t 17)⟩]
abbrev c126_4 : SC := .cond (.t 19) (.skip) (.exit 0)
abbrev r126_5 : List SOper := [
  ⟨some 20, none, .mov (.t 18)⟩,
  ⟨some 21, none, .iaddr none 25 (.t 16) (.t 18)⟩,
  ⟨some 22, none, .load false true 25 (.t 21)⟩,
  ⟨some 4, none, .allocL [.int .i64 0, .int .i64 0, .int .i64 0, .int .i64 0, .int .i64 0, .int .i64 0, .int .i64 0, .int .i64 0, .str [], .int .i64 0, .int .i64 0, .int .i64 0, .int .i64 0, .int .i64 0, .int .i64 0, .int .i64 0, .int .i64 0, .int .i64 0, .int .i64 0, .int .i64 0, .int .i64 0, .int .i64 0, .int .i64 0, .int .i64 0, .int .i64 0]⟩,
  ⟨some 3, none, .mov (.t 20)⟩,
  ⟨none, none, .store 25 (.t 4) (.t 22)⟩]
abbrev r126_6 : List SOper := [
  ⟨some 23, none, .mov (.t 0)⟩,
  ⟨some 24, none, .nilck (.t 23)⟩,
  ⟨some 25, none, .faddr 2 (.t 24)⟩,
  ⟨some 26, none, .load false false 1 (.t 25)⟩,
  ⟨some 27, none, .mov (.t 3)⟩,
  ⟨some 28, none, .iaddr none 1 (.t 26) (.t 27)⟩,
  ⟨some 29, none, .load false false 1 (.t 28)⟩,
  ⟨some 30, none, .un .not (.t 29)⟩,
  ⟨some 31, none, .mov (.t 30)⟩,
  ⟨some 32, some (31, false), .mov (.t 0)⟩,
  ⟨some 33, some (31, false), .nilck (.t 32)⟩,
  ⟨some 34, some (31, false), .faddr 3 (.t 33)⟩,
  ⟨some 35, some (31, false), .load false false 1 (.t 34)⟩,
  ⟨some 36, some (31, false), .mov (.t 3)⟩,
  ⟨some 37, some (31, false), .iaddr none 1 (.t 35) (.t 36)⟩,
  ⟨some 38, some (31, false), .load false false 1 (.t 37)⟩,
  ⟨some 39, none, .pick (.t 31) (.c (.bool true)) (.t 38)⟩]
abbrev c126_7 : SC := .cond (.t 39) (.exit 1) (.skip)
abbrev c126_8 : SC := .seq (.ops r126_6) c126_7
abbrev r126_9 : List SOper := [
  ⟨some 40, none, .faddr 6 (.t 4)⟩,
  ⟨some 41, none, .load false true 2 (.t 40)⟩,
  ⟨some 42, none, .faddr 8 (.t 4)⟩,
  ⟨some 43, none, .load false false 1 (.t 42)⟩,
  ⟨some 44, none, .build [.int .i64 0, .int .i64 0, .str []] [(0, 2, .t 41), (2, 1, .t 43)]⟩,
  ⟨some 5, none, .allocL [.int .i64 0, .int .i64 0, .str []]⟩,
  ⟨none, none, .store 3 (.t 5) (.t 44)⟩]
abbrev r126_10 : List SOper := [
  ⟨some 46, none, .mov (.t 2)⟩,
  ⟨some 47, none, .load false true 3 (.t 5)⟩,
  ⟨some 48, none, .lookup (.agg [.int .i64, .int .i64, .str]) (.int .i64 0) true (.t 46) (.t 47)⟩,
  ⟨some 45, none, .mov (.t 48)⟩,
  ⟨some 49, none, .extract (.t 45) 0⟩,
  ⟨some 50, none, .extract (.t 45) 1⟩,
  ⟨some 6, none, .mov (.t 49)⟩,
  ⟨some 7, none, .mov (.t 50)⟩]
abbrev r126_11 : List SOper := [
  ⟨some 51, none, .mov (.t 7)⟩,
  ⟨some 52, none, .un .not (.t 51)⟩,
  ⟨some 53, none, .mov (.t 52)⟩,
  ⟨some 54, some (53, false), .mov (.t 0)⟩,
  ⟨some 55, some (53, false), .mov (.t 3)⟩,
  ⟨some 56, some (53, false), .mov (.t 6)⟩,
  ⟨some 57, some (53, false), .call false (.c (.func 187 [])) [.t 54, .t 55, .t 56]⟩,
  ⟨some 58, none, .pick (.t 53) (.c (.bool true)) (.t 57)⟩]
abbrev r126_12 : List SOper := [
  ⟨some 59, none, .mov (.t 2)⟩,
  ⟨some 60, none, .load false true 3 (.t 5)⟩,
  ⟨some 61, none, .mov (.t 3)⟩,
  ⟨none, none, .mapup (.agg [.int .i64, .int .i64, .str]) (.t 59) (.t 60) (.t 61)⟩]
abbrev c126_13 : SC := .cond (.t 58) (.ops r126_12) (.skip)
abbrev c126_14 : SC := .seq (.ops r126_11) c126_13
abbrev c126_15 : SC := .seq (.ops r126_10) c126_14
abbrev c126_16 : SC := .seq (.ops r126_9) c126_15
abbrev c126_17 : SC := .seq c126_8 c126_16
abbrev c126_18 : SC := .seq (.ops r126_5) c126_17
abbrev c126_19 : SC := .block 1 [0, 2, 16, 17, 18] [] c126_18
abbrev r126_20 : List SOper := [
  ⟨some 62, none, .bin .add (.t 18) (.c (.int .i64 1))⟩,
  ⟨some 18, none, .mov (.t 62)⟩]
abbrev c126_21 : SC := .seq c126_19 (.ops r126_20)
abbrev c126_22 : SC := .seq c126_4 c126_21
abbrev c126_23 : SC := .seq (.ops r126_3) c126_22
abbrev L126_1 : SC := .loop [0, 2, 16, 17, 18] [] c126_23
abbrev c126_24 : SC := .block 0 [0, 2] [] L126_1
abbrev c126_25 : SC := .seq (.ops r126_2) c126_24
abbrev r126_26 : List SOper := [
  ⟨some 63, none, .mov (.t 0)⟩,
  ⟨some 64, none, .nilck (.t 63)⟩,
  ⟨some 65, none, .faddr 0 (.t 64)⟩,
  ⟨some 66, none, .load false false 1 (.t 65)⟩,
  ⟨some 67, none, .len 1 (.t 66)⟩,
  ⟨some 68, none, .mov (.c (.int .i64 0))⟩]
abbrev r126_27 : List SOper := [
  ⟨some 69, none, .bin .lss (.t 68) (.t 67)⟩]
abbrev c126_28 : SC := .cond (.t 69) (.skip) (.exit 2)
abbrev r126_29 : List SOper := [
  ⟨some 70, none, .mov (.t 68)⟩,
  ⟨some 71, none, .iaddr none 25 (.t 66) (.t 68)⟩,
  ⟨some 72, none, .load false true 25 (.t 71)⟩,
  ⟨some 9, none, .allocL [.int .i64 0, .int .i64 0, .int .i64 0, .int .i64 0, .int .i64 0, .int .i64 0, .int .i64 0, .int .i64 0, .str [], .int .i64 0, .int .i64 0, .int .i64 0, .int .i64 0, .int .i64 0, .int .i64 0, .int .i64 0, .int .i64 0, .int .i64 0, .int .i64 0, .int .i64 0, .int .i64 0, .int .i64 0, .int .i64 0, .int .i64 0, .int .i64 0]⟩,
  ⟨some 8, none, .mov (.t 70)⟩,
  ⟨none, none, .store 25 (.t 9) (.t 72)⟩]
abbrev r126_30 : List SOper := [
  ⟨some 74, none, .mov (.t 2)⟩,
  ⟨some 75, none, .faddr 6 (.t 9)⟩,
  ⟨some 76, none, .load false true 2 (.t 75)⟩,
  ⟨some 77, none, .faddr 8 (.t 9)⟩,
  ⟨some 78, none, .load false false 1 (.t 77)⟩,
  ⟨some 79, none, .build [.int .i64 0, .int .i64 0, .str []] [(0, 2, .t 76), (2, 1, .t 78)]⟩,
  ⟨some 80, none, .lookup (.agg [.int .i64, .int .i64, .str]) (.int .i64 0) true (.t 74) (.t 79)⟩,
  ⟨some 73, none, .mov (.t 80)⟩,
  ⟨some 81, none, .extract (.t 73) 0⟩,
  ⟨some 82, none, .extract (.t 73) 1⟩,
  ⟨some 10, none, .mov (.t 81)⟩,
  ⟨some 11, none, .mov (.t 82)⟩]
abbrev r126_31 : List SOper := [
  ⟨some 83, none, .mov (.t 0)⟩,
  ⟨some 84, none, .nilck (.t 83)⟩,
  ⟨some 85, none, .faddr 2 (.t 84)⟩,
  ⟨some 86, none, .load false false 1 (.t 85)⟩,
  ⟨some 87, none, .mov (.t 8)⟩,
  ⟨some 88, none, .iaddr none 1 (.t 86) (.t 87)⟩,
  ⟨some 89, none, .load false false 1 (.t 88)⟩,
  ⟨some 90, none, .mov (.t 89)⟩,
  ⟨some 91, some (90, true), .mov (.t 0)⟩,
  ⟨some 92, some (90, true), .nilck (.t 91)⟩,
  ⟨some 93, some (90, true), .faddr 3 (.t 92)⟩,
  ⟨some 94, some (90, true), .load false false 1 (.t 93)⟩,
  ⟨some 95, some (90, true), .mov (.t 8)⟩,
  ⟨some 96, some (90, true), .iaddr none 1 (.t 94) (.t 95)⟩,
  ⟨some 97, some (90, true), .load false false 1 (.t 96)⟩,
  ⟨some 98, some (90, true), .un .not (.t 97)⟩,
  ⟨some 99, none, .pick (.t 90) (.t 98) (.c (.bool false))⟩,
  ⟨some 100, none, .mov (.t 99)⟩,
  ⟨some 101, some (100, true), .mov (.t 11)⟩,
  ⟨some 102, none, .pick (.t 100) (.t 101) (.c (.bool false))⟩,
  ⟨some 103, none, .mov (.t 102)⟩,
  ⟨some 104, some (103, true), .mov (.t 10)⟩,
  ⟨some 105, some (103, true), .mov (.t 8)⟩,
  ⟨some 106, some (103, true), .bin .neq (.t 104) (.t 105)⟩,
  ⟨some 107, none, .pick (.t 103) (.t 106) (.c (.bool false))⟩]
abbrev r126_32 : List SOper := [
  ⟨some 108, none, .mov (.t 0)⟩,
  ⟨some 109, none, .nilck (.t 108)⟩,
  ⟨some 110, none, .faddr 3 (.t 109)⟩,
  ⟨some 111, none, .load false false 1 (.t 110)⟩,
  ⟨some 112, none, .mov (.t 8)⟩,
  ⟨some 113, none, .iaddr none 1 (.t 111) (.t 112)⟩,
  ⟨none, none, .store 1 (.t 113) (.c (.bool true))⟩]
abbrev c126_33 : SC := .cond (.t 107) (.ops r126_32) (.skip)
abbrev c126_34 : SC := .seq (.ops r126_31) c126_33
abbrev c126_35 : SC := .seq (.ops r126_30) c126_34
abbrev c126_36 : SC := .seq (.ops r126_29) c126_35
abbrev c126_37 : SC := .block 3 [0, 2, 66, 67, 68] [] c126_36
abbrev r126_38 : List SOper := [
  ⟨some 114, none, .bin .add (.t 68) (.c (.int .i64 1))⟩,
  ⟨some 68, none, .mov (.t 114)⟩]
abbrev c126_39 : SC := .seq c126_37 (.ops r126_38)
abbrev c126_40 : SC := .seq c126_28 c126_39
abbrev c126_41 : SC := .seq (.ops r126_27) c126_40
abbrev L126_2 : SC := .loop [0, 2, 66, 67, 68] [] c126_41
abbrev c126_42 : SC := .block 2 [] [] L126_2
abbrev c126_43 : SC := .seq (.ops r126_26) c126_42
abbrev c126_44 : SC := .seq c126_25 c126_43
abbrev c126_45 : SC := .seq (.ops r126_1) c126_44
def s126 : SF := ⟨[], c126_45, false, none, none⟩
/-! crannog/view.Lost -/
abbrev r127_1 : List SOper := [
  ⟨some 0, none, .allocL [.int .i64 0, .int .i64 0]⟩]
abbrev r127_2 : List SOper := [
  ⟨some 1, none, .build [.int .i64 0, .int .i64 0] [(1, 1, .c (.int .i64 1))]⟩,
  ⟨none, none, .store 2 (.t 0) (.t 1)⟩]
abbrev c127_3 : SC := .seq (.ops r127_2) (.ret)
abbrev c127_4 : SC := .seq (.ops r127_1) c127_3
def s127 : SF := ⟨[.c 0 true 2], c127_4, false, none, none⟩
/-! slices.SortFunc[[]crannog/api.Shown,crannog/api.Shown] -/
abbrev r129_1 : List SOper := [
  ⟨some 5, none, .mov (.t 0)⟩,
  ⟨some 6, none, .len 1 (.t 5)⟩,
  ⟨some 4, none, .mov (.t 6)⟩]
abbrev r129_2 : List SOper := [
  ⟨some 7, none, .mov (.t 0)⟩,
  ⟨some 8, none, .mov (.t 4)⟩,
  ⟨some 9, none, .mov (.t 4)⟩,
  ⟨some 10, none, .cvI .u64 (.t 9)⟩,
  ⟨some 11, none, .call false (.c (.func 189 [])) [.t 10]⟩,
  ⟨some 12, none, .mov (.t 1)⟩,
  ⟨some 13, none, .call false (.c (.func 188 [])) [.t 7, .c (.int .i64 0), .t 8, .t 11, .t 12]⟩]
abbrev c129_3 : SC := .seq (.ops r129_1) (.ops r129_2)
def s129 : SF := ⟨[], c129_3, false, none, none⟩
/-! crannog/vector.Less -/
abbrev r131_1 : List SOper := [
  ⟨some 2, none, .boxL (.t 0)⟩,
  ⟨some 3, none, .boxL (.t 1)⟩,
  ⟨some 4, none, .mov (.c (.bool false))⟩]
abbrev r131_2 : List SOper := [
  ⟨some 5, none, .faddr 0 (.t 2)⟩,
  ⟨some 6, none, .load false false 1 (.t 5)⟩,
  ⟨some 7, none, .faddr 0 (.t 3)⟩,
  ⟨some 8, none, .load false false 1 (.t 7)⟩,
  ⟨some 9, none, .bin .neq (.t 6) (.t 8)⟩]
abbrev r131_3 : List SOper := [
  ⟨some 10, none, .faddr 0 (.t 2)⟩,
  ⟨some 11, none, .load false false 1 (.t 10)⟩,
  ⟨some 12, none, .faddr 0 (.t 3)⟩,
  ⟨some 13, none, .load false false 1 (.t 12)⟩,
  ⟨some 14, none, .bin .lss (.t 11) (.t 13)⟩,
  ⟨some 4, none, .mov (.t 14)⟩]
abbrev c131_4 : SC := .seq (.ops r131_3) (.ret)
abbrev c131_5 : SC := .cond (.t 9) c131_4 (.skip)
abbrev c131_6 : SC := .seq (.ops r131_2) c131_5
abbrev r131_7 : List SOper := [
  ⟨some 15, none, .faddr 1 (.t 2)⟩,
  ⟨some 16, none, .load false false 1 (.t 15)⟩,
  ⟨some 17, none, .faddr 1 (.t 3)⟩,
  ⟨some 18, none, .load false false 1 (.t 17)⟩,
  ⟨some 19, none, .bin .lss (.t 16) (.t 18)⟩,
  ⟨some 4, none, .mov (.t 19)⟩]
abbrev c131_8 : SC := .seq (.ops r131_7) (.ret)
abbrev c131_9 : SC := .seq c131_6 c131_8
abbrev c131_10 : SC := .seq (.ops r131_1) c131_9
def s131 : SF := ⟨[.t 4], c131_10, false, none, none⟩
/-! (*crannog/calls.desk).make -/
abbrev r132_1 : List SOper := [
  ⟨some 3, none, .boxL (.t 1)⟩]
abbrev r132_2 : List SOper := [
  ⟨some 8, none, .mov (.t 0)⟩,
  ⟨some 9, none, .faddr 1 (.t 3)⟩,
  ⟨some 10, none, .load false false 1 (.t 9)⟩,
  ⟨some 11, none, .call false (.c (.func 190 [])) [.t 8, .t 10]⟩,
  ⟨some 7, none, .mov (.t 11)⟩,
  ⟨some 12, none, .extract (.t 7) 0⟩,
  ⟨some 13, none, .extract (.t 7) 1⟩,
  ⟨some 4, none, .allocL [.nils, .int .i64 0, .int .i64 0]⟩,
  ⟨none, none, .store 3 (.t 4) (.t 12)⟩,
  ⟨some 5, none, .mov (.t 13)⟩]
abbrev r132_3 : List SOper := [
  ⟨some 14, none, .mov (.t 0)⟩,
  ⟨some 15, none, .load false true 3 (.t 4)⟩,
  ⟨some 16, none, .mov (.t 5)⟩,
  ⟨some 17, none, .call false (.c (.func 191 [])) [.t 14, .t 15, .t 16]⟩]
abbrev r132_4 : List SOper := [
  ⟨some 18, none, .mov (.t 0)⟩,
  ⟨some 19, none, .nilck (.t 18)⟩,
  ⟨some 20, none, .faddr 11 (.t 19)⟩,
  ⟨some 21, none, .loadA .ptr true 2 (.t 20)⟩,
  ⟨some 22, none, .mov (.t 0)⟩,
  ⟨some 23, none, .nilck (.t 22)⟩,
  ⟨some 24, none, .faddr 11 (.t 23)⟩,
  ⟨some 25, none, .loadA .ptr true 2 (.t 24)⟩,
  ⟨some 26, none, .faddr 4 (.t 3)⟩,
  ⟨some 27, none, .loadA (.loc 3) false 1 (.t 26)⟩,
  ⟨some 28, none, .loadA (.loc 3) true 7 (.t 3)⟩,
  ⟨some 29, none, .call true (.c (.func 192 [])) [.t 28]⟩,
  ⟨some 30, none, .build [.int .i64 0, .int .i64 0, .int .i64 0, .int .u64 0] [(0, 2, .t 25), (2, 1, .t 27), (3, 1, .t 29)]⟩,
  ⟨some 31, none, .build [.int .i64 0, .int .i64 0, .int .i64 0, .str [], .int .i64 0, .int .i64 0, .int .i64 0, .int .u64 0, .int .i64 0, .int .i64 0, .int .i64 0, .nils, .nils] [(0, 2, .t 21), (4, 4, .t 30)]⟩,
  ⟨some 6, none, .allocL [.int .i64 0, .int .i64 0, .int .i64 0, .str [], .int .i64 0, .int .i64 0, .int .i64 0, .int .u64 0, .int .i64 0, .int .i64 0, .int .i64 0, .nils, .nils]⟩,
  ⟨none, none, .store 13 (.t 6) (.t 31)⟩]
abbrev r132_5 : List SOper := [
  ⟨some 32, none, .faddr 4 (.t 3)⟩,
  ⟨some 33, none, .load false false 1 (.t 32)⟩,
  ⟨some 34, none, .bin .geq (.t 33) (.c (.int .i64 0))⟩,
  ⟨some 35, none, .mov (.t 34)⟩,
  ⟨some 36, some (35, true), .faddr 4 (.t 3)⟩,
  ⟨some 37, some (35, true), .load false false 1 (.t 36)⟩,
  ⟨some 38, some (35, true), .bin .leq (.t 37) (.c (.int .i64 511))⟩,
  ⟨some 39, none, .pick (.t 35) (.t 38) (.c (.bool false))⟩,
  ⟨some 40, none, .call false (.c (.func 114 [])) [.t 39, .c (.int .i64 22)]⟩]
abbrev r132_6 : List SOper := [
  ⟨some 41, none, .faddr 0 (.t 3)⟩,
  ⟨some 42, none, .load false false 1 (.t 41)⟩]
abbrev r132_7 : List SOper := [
  ⟨some 57, none, .bin .eql (.t 42) (.c (.int .i64 1))⟩,
  ⟨some 56, none, .mov (.t 57)⟩]
abbrev r132_8 : List SOper := [
  ⟨some 58, none, .faddr 2 (.t 6)⟩,
  ⟨none, none, .store 1 (.t 58) (.c (.int .i64 2))⟩]
abbrev r132_9 : List SOper := [
  ⟨some 60, none, .bin .eql (.t 42) (.c (.int .i64 2))⟩,
  ⟨some 59, none, .mov (.t 60)⟩]
abbrev r132_10 : List SOper := [
  ⟨some 61, none, .mov (.t 0)⟩,
  ⟨some 62, none, .nilck (.t 61)⟩,
  ⟨some 63, none, .faddr 11 (.t 62)⟩,
  ⟨some 64, none, .loadA .ptr true 2 (.t 63)⟩,
  ⟨some 65, none, .faddr 2 (.t 6)⟩,
  ⟨none, none, .storeA (.loc 6) 1 (.t 65) (.c (.int .i64 1))⟩,
  ⟨some 66, none, .faddr 8 (.t 6)⟩,
  ⟨some 67, none, .faddr 0 (.t 66)⟩,
  ⟨none, none, .store 2 (.t 67) (.t 64)⟩]
abbrev r132_11 : List SOper := [
  ⟨some 43, none, .faddr 2 (.t 3)⟩,
  ⟨some 44, none, .loadA (.loc 3) false 1 (.t 43)⟩,
  ⟨some 45, none, .faddr 2 (.t 6)⟩,
  ⟨none, none, .storeA (.loc 6) 1 (.t 45) (.c (.int .i64 3))⟩,
  ⟨some 46, none, .faddr 3 (.t 6)⟩,
  ⟨none, none, .store 1 (.t 46) (.t 44)⟩]
abbrev r132_12 : List SOper := [
  ⟨some 47, none, .faddr 2 (.t 3)⟩,
  ⟨some 48, none, .load false false 1 (.t 47)⟩,
  ⟨some 49, none, .bin .neq (.t 48) (.c (.str []))⟩,
  ⟨some 50, none, .call false (.c (.func 114 [])) [.t 49, .c (.int .i64 22)]⟩]
abbrev r132_13 : List SOper := [
  ⟨some 51, none, .faddr 2 (.t 3)⟩,
  ⟨some 52, none, .load false false 1 (.t 51)⟩,
  ⟨some 53, none, .len 0 (.t 52)⟩,
  ⟨some 54, none, .bin .leq (.t 53) (.c (.int .i64 120))⟩,
  ⟨some 55, none, .call false (.c (.func 114 [])) [.t 54, .c (.int .i64 36)]⟩]
abbrev c132_14 : SC := .seq (.ops r132_12) (.ops r132_13)
abbrev c132_15 : SC := .seq (.draw 0 [[], [0], [], [2], [1, 3], [4]] r132_11) c132_14
abbrev c132_16 : SC := .cond (.t 59) (.draw 0 [[], [0], [1], [2], [], [4], [3, 5], [6], [7]] r132_10) c132_15
abbrev c132_17 : SC := .seq (.ops r132_9) c132_16
abbrev c132_18 : SC := .cond (.t 56) (.ops r132_8) c132_17
abbrev c132_19 : SC := .seq (.ops r132_7) c132_18
abbrev c132_20 : SC := .block 0 [0, 4, 5, 6] [4, 6] c132_19
abbrev c132_21 : SC := .seq (.ops r132_6) c132_20
abbrev r132_22 : List SOper := [
  ⟨some 68, none, .mov (.t 0)⟩,
  ⟨some 69, none, .call false (.c (.func 193 [])) [.t 68, .c (.int .i64 1)]⟩]
abbrev r132_23 : List SOper := [
  ⟨some 70, none, .mov (.t 0)⟩,
  ⟨some 71, none, .call false (.c (.func 194 [])) [.t 70]⟩]
abbrev r132_24 : List SOper := [
  ⟨some 72, none, .mov (.t 0)⟩,
  ⟨some 73, none, .load false true 13 (.t 6)⟩,
  ⟨some 74, none, .bsnap 13 [.t 73]⟩,
  ⟨some 75, none, .nilck (.t 72)⟩,
  ⟨some 76, none, .faddr 14 (.t 75)⟩,
  ⟨some 77, none, .faddr 8 (.t 76)⟩,
  ⟨none, none, .store 1 (.t 77) (.t 74)⟩]
abbrev r132_25 : List SOper := [
  ⟨some 78, none, .mov (.t 0)⟩,
  ⟨some 79, none, .load false true 3 (.t 4)⟩,
  ⟨some 80, none, .mov (.t 5)⟩,
  ⟨some 81, none, .mov (.t 0)⟩,
  ⟨some 82, none, .nilck (.t 81)⟩,
  ⟨some 83, none, .faddr 11 (.t 82)⟩,
  ⟨some 84, none, .load false true 2 (.t 83)⟩,
  ⟨some 85, none, .call false (.c (.func 195 [])) [.t 78, .t 79, .t 80, .t 84]⟩]
abbrev c132_26 : SC := .seq (.ops r132_24) (.draw 0 [[], [], [], [], [3], [4], [5], [0, 1, 2, 6]] r132_25)
abbrev c132_27 : SC := .seq (.ops r132_23) c132_26
abbrev c132_28 : SC := .seq (.ops r132_22) c132_27
abbrev c132_29 : SC := .seq c132_21 c132_28
abbrev c132_30 : SC := .seq (.ops r132_5) c132_29
abbrev c132_31 : SC := .seq (.draw 0 [[], [0], [1], [2], [], [4], [5], [6], [], [8], [], [10], [7, 9, 11], [3, 12], [], [13, 14]] r132_4) c132_30
abbrev c132_32 : SC := .seq (.ops r132_3) c132_31
abbrev c132_33 : SC := .seq (.ops r132_2) c132_32
abbrev c132_34 : SC := .seq (.ops r132_1) c132_33
def s132 : SF := ⟨[], c132_34, false, none, none⟩
/-! (*crannog/calls.desk).ask -/
abbrev r139_1 : List SOper := [
  ⟨some 3, none, .boxL (.t 1)⟩,
  ⟨some 4, none, .allocL [.int .i64 0, .str [], .nils, .int .i64 0, .int .i64 0, .int .i64 0, .int .i64 0, .int .u64 0, .int .i64 0, .int .i64 0]⟩]
abbrev r139_2 : List SOper := [
  ⟨some 10, none, .faddr 0 (.t 3)⟩,
  ⟨some 11, none, .load false false 1 (.t 10)⟩]
abbrev r139_3 : List SOper := [
  ⟨some 13, none, .bin .eql (.t 11) (.c (.int .i64 14))⟩,
  ⟨some 12, none, .mov (.t 13)⟩]
abbrev r139_4 : List SOper := [
  ⟨some 15, none, .mov (.t 0)⟩,
  ⟨some 16, none, .faddr 1 (.t 3)⟩,
  ⟨some 17, none, .load false false 1 (.t 16)⟩,
  ⟨some 18, none, .call false (.c (.func 209 [])) [.t 15, .t 17]⟩,
  ⟨some 14, none, .mov (.t 18)⟩,
  ⟨some 19, none, .extract (.t 14) 0⟩,
  ⟨some 20, none, .extract (.t 14) 1⟩,
  ⟨some 5, none, .allocL [.nils, .int .i64 0, .int .i64 0]⟩,
  ⟨some 6, none, .allocL [.int .i64 0, .int .i64 0, .int .i64 0, .str [], .int .i64 0, .int .i64 0, .int .i64 0, .int .u64 0, .int .i64 0, .int .i64 0, .int .i64 0, .nils, .nils]⟩,
  ⟨none, none, .store 3 (.t 5) (.t 19)⟩,
  ⟨none, none, .store 13 (.t 6) (.t 20)⟩]
abbrev r139_5 : List SOper := [
  ⟨some 21, none, .faddr 3 (.t 3)⟩,
  ⟨some 22, none, .load false false 1 (.t 21)⟩,
  ⟨some 23, none, .bin .geq (.t 22) (.c (.int .i64 0))⟩,
  ⟨some 24, none, .mov (.t 23)⟩,
  ⟨some 25, some (24, true), .faddr 4 (.t 3)⟩,
  ⟨some 26, some (24, true), .load false false 1 (.t 25)⟩,
  ⟨some 27, some (24, true), .bin .geq (.t 26) (.c (.int .i64 0))⟩,
  ⟨some 28, none, .pick (.t 24) (.t 27) (.c (.bool false))⟩,
  ⟨some 29, none, .call false (.c (.func 114 [])) [.t 28, .c (.int .i64 22)]⟩]
abbrev r139_6 : List SOper := [
  ⟨some 30, none, .load false true 13 (.t 6)⟩,
  ⟨some 31, none, .call false (.c (.func 9 [])) [.t 30]⟩,
  ⟨some 7, none, .mov (.t 31)⟩]
abbrev r139_7 : List SOper := [
  ⟨some 32, none, .mov (.t 7)⟩,
  ⟨some 33, none, .mov (.t 7)⟩,
  ⟨some 34, none, .len 0 (.t 33)⟩,
  ⟨some 35, none, .faddr 3 (.t 3)⟩,
  ⟨some 36, none, .load false false 1 (.t 35)⟩,
  ⟨some 37, none, .minmax false [.t 34, .t 36]⟩,
  ⟨some 38, none, .slice true 1 (.t 32) (some (.t 37)) none none⟩,
  ⟨some 7, none, .mov (.t 38)⟩]
abbrev r139_8 : List SOper := [
  ⟨some 39, none, .mov (.t 7)⟩,
  ⟨some 40, none, .mov (.t 7)⟩,
  ⟨some 41, none, .len 0 (.t 40)⟩,
  ⟨some 42, none, .faddr 4 (.t 3)⟩,
  ⟨some 43, none, .load false false 1 (.t 42)⟩,
  ⟨some 44, none, .minmax false [.t 41, .t 43]⟩,
  ⟨some 45, none, .slice true 1 (.t 39) none (some (.t 44)) none⟩,
  ⟨some 46, none, .build [.int .i64 0, .str [], .nils, .int .i64 0, .int .i64 0, .int .i64 0, .int .i64 0, .int .u64 0, .int .i64 0, .int .i64 0] [(1, 1, .t 45)]⟩,
  ⟨none, none, .store 10 (.t 4) (.t 46)⟩]
abbrev c139_9 : SC := .seq (.ops r139_8) (.ret)
abbrev c139_10 : SC := .seq (.ops r139_7) c139_9
abbrev c139_11 : SC := .seq (.ops r139_6) c139_10
abbrev c139_12 : SC := .seq (.ops r139_5) c139_11
abbrev c139_13 : SC := .seq (.ops r139_4) c139_12
abbrev r139_14 : List SOper := [
  ⟨some 48, none, .bin .eql (.t 11) (.c (.int .i64 15))⟩,
  ⟨some 47, none, .mov (.t 48)⟩]
abbrev r139_15 : List SOper := [
  ⟨some 49, none, .mov (.t 0)⟩,
  ⟨some 50, none, .faddr 1 (.t 3)⟩,
  ⟨some 51, none, .load false false 1 (.t 50)⟩,
  ⟨some 52, none, .call false (.c (.func 196 [])) [.t 49, .t 51]⟩,
  ⟨some 8, none, .allocL [.nils, .int .i64 0, .int .i64 0]⟩,
  ⟨none, none, .store 3 (.t 8) (.t 52)⟩]
abbrev r139_16 : List SOper := [
  ⟨some 53, none, .mov (.t 0)⟩,
  ⟨some 54, none, .load false true 3 (.t 8)⟩,
  ⟨some 55, none, .call false (.c (.func 197 [])) [.t 53, .t 54]⟩,
  ⟨some 56, none, .bin .eql (.t 55) (.c (.int .i64 2))⟩,
  ⟨some 57, none, .call false (.c (.func 114 [])) [.t 56, .c (.int .i64 20)]⟩]
abbrev r139_17 : List SOper := [
  ⟨some 58, none, .mov (.t 0)⟩,
  ⟨some 59, none, .load false true 3 (.t 8)⟩,
  ⟨some 60, none, .call false (.c (.func 214 [])) [.t 58, .t 59]⟩,
  ⟨some 61, none, .build [.int .i64 0, .str [], .nils, .int .i64 0, .int .i64 0, .int .i64 0, .int .i64 0, .int .u64 0, .int .i64 0, .int .i64 0] [(2, 1, .t 60)]⟩,
  ⟨none, none, .store 10 (.t 4) (.t 61)⟩]
abbrev c139_18 : SC := .seq (.ops r139_17) (.ret)
abbrev c139_19 : SC := .seq (.ops r139_16) c139_18
abbrev c139_20 : SC := .seq (.ops r139_15) c139_19
abbrev r139_21 : List SOper := [
  ⟨some 63, none, .bin .eql (.t 11) (.c (.int .i64 16))⟩,
  ⟨some 62, none, .mov (.t 63)⟩]
abbrev r139_22 : List SOper := [
  ⟨some 64, none, .mov (.t 0)⟩,
  ⟨some 65, none, .faddr 1 (.t 3)⟩,
  ⟨some 66, none, .load false false 1 (.t 65)⟩,
  ⟨some 67, none, .call false (.c (.func 196 [])) [.t 64, .t 66]⟩,
  ⟨some 9, none, .allocL [.nils, .int .i64 0, .int .i64 0]⟩,
  ⟨none, none, .store 3 (.t 9) (.t 67)⟩]
abbrev r139_23 : List SOper := [
  ⟨some 68, none, .mov (.t 0)⟩,
  ⟨some 69, none, .load false true 3 (.t 9)⟩,
  ⟨some 70, none, .call false (.c (.func 197 [])) [.t 68, .t 69]⟩,
  ⟨some 71, none, .bin .eql (.t 70) (.c (.int .i64 3))⟩,
  ⟨some 72, none, .call false (.c (.func 114 [])) [.t 71, .c (.int .i64 22)]⟩]
abbrev r139_24 : List SOper := [
  ⟨some 73, none, .mov (.t 0)⟩,
  ⟨some 74, none, .load false true 3 (.t 9)⟩,
  ⟨some 75, none, .call false (.c (.func 211 [])) [.t 73, .t 74]⟩,
  ⟨some 76, none, .field false 3 1 (.t 75)⟩,
  ⟨some 77, none, .build [.int .i64 0, .str [], .nils, .int .i64 0, .int .i64 0, .int .i64 0, .int .i64 0, .int .u64 0, .int .i64 0, .int .i64 0] [(1, 1, .t 76)]⟩,
  ⟨none, none, .store 10 (.t 4) (.t 77)⟩]
abbrev c139_25 : SC := .seq (.ops r139_24) (.ret)
abbrev c139_26 : SC := .seq (.ops r139_23) c139_25
abbrev c139_27 : SC := .seq (.ops r139_22) c139_26
abbrev r139_28 : List SOper := [
  ⟨some 79, none, .bin .eql (.t 11) (.c (.int .i64 17))⟩,
  ⟨some 78, none, .mov (.t 79)⟩]
abbrev r139_29 : List SOper := [
  ⟨some 80, none, .mov (.t 0)⟩,
  ⟨some 81, none, .mov (.t 0)⟩,
  ⟨some 82, none, .faddr 1 (.t 3)⟩,
  ⟨some 83, none, .load false false 1 (.t 82)⟩,
  ⟨some 84, none, .call false (.c (.func 196 [])) [.t 81, .t 83]⟩,
  ⟨some 85, none, .call false (.c (.func 215 [])) [.t 80, .t 84]⟩,
  ⟨some 86, none, .build [.int .i64 0, .str [], .nils, .int .i64 0, .int .i64 0, .int .i64 0, .int .i64 0, .int .u64 0, .int .i64 0, .int .i64 0] [(3, 7, .t 85)]⟩,
  ⟨none, none, .store 10 (.t 4) (.t 86)⟩]
abbrev c139_30 : SC := .seq (.ops r139_29) (.ret)
abbrev r139_31 : List SOper := [
  ⟨some 88, none, .bin .eql (.t 11) (.c (.int .i64 18))⟩,
  ⟨some 87, none, .mov (.t 88)⟩]
abbrev r139_32 : List SOper := [
  ⟨some 89, none, .bin .eql (.t 11) (.c (.int .i64 19))⟩,
  ⟨some 87, none, .mov (.t 89)⟩]
abbrev c139_33 : SC := .cond (.t 87) (.skip) (.ops r139_32)
abbrev c139_34 : SC := .seq (.ops r139_31) c139_33
abbrev r139_35 : List SOper := [
  ⟨some 90, none, .mov (.t 0)⟩,
  ⟨some 91, none, .load false true 7 (.t 3)⟩,
  ⟨some 92, none, .call false (.c (.func 216 [])) [.t 90, .t 91]⟩,
  ⟨none, none, .store 10 (.t 4) (.t 92)⟩]
abbrev c139_36 : SC := .seq (.ops r139_35) (.ret)
abbrev c139_37 : SC := .cond (.t 87) c139_36 (.skip)
abbrev c139_38 : SC := .seq c139_34 c139_37
abbrev c139_39 : SC := .cond (.t 78) c139_30 c139_38
abbrev c139_40 : SC := .seq (.ops r139_28) c139_39
abbrev c139_41 : SC := .cond (.t 62) c139_27 c139_40
abbrev c139_42 : SC := .seq (.ops r139_21) c139_41
abbrev c139_43 : SC := .cond (.t 47) c139_20 c139_42
abbrev c139_44 : SC := .seq (.ops r139_14) c139_43
abbrev c139_45 : SC := .cond (.t 12) c139_13 c139_44
abbrev c139_46 : SC := .seq (.ops r139_3) c139_45
abbrev c139_47 : SC := .block 0 [4] [4] c139_46
abbrev c139_48 : SC := .seq (.ops r139_2) c139_47
abbrev r139_49 : List SOper := [
  ⟨some 93, none, .build [.int .i64 0] [(0, 1, .c (.int .i64 22))]⟩,
  ⟨some 94, none, .mkif 132 (.t 93)⟩,
  ⟨none, none, .panic (.t 94)⟩]
abbrev c139_50 : SC := .seq c139_48 (.ops r139_49)
abbrev c139_51 : SC := .seq (.ops r139_1) c139_50
def s139 : SF := ⟨[.c 4 true 10], c139_51, false, none, none⟩
/-! slices.Concat[[]crannog/api.Inode,crannog/api.Inode] -/
abbrev r140_1 : List SOper := [
  ⟨some 2, none, .mov (.c (.nils))⟩]
abbrev r140_2 : List SOper := [
  ⟨some 3, none, .mov (.c (.int .i64 0))⟩]
abbrev r140_3 : List SOper := [
  ⟨some 9, none, .mov (.t 0)⟩,
  ⟨some 10, none, .len 1 (.t 9)⟩,
  ⟨some 11, none, .mov (.c (.int .i64 0))⟩]
abbrev r140_4 : List SOper := [
  ⟨some 12, none, .bin .lss (.t 11) (.t 10)⟩]
abbrev c140_5 : SC := .cond (.t 12) (.skip) (.exit 0)
abbrev r140_6 : List SOper := [
  ⟨some 13, none, .iaddr none 1 (.t 9) (.t 11)⟩,
  ⟨some 14, none, .load false false 1 (.t 13)⟩,
  ⟨some 5, none, .mov (.t 14)⟩]
abbrev r140_7 : List SOper := [
  ⟨some 15, none, .mov (.t 3)⟩,
  ⟨some 16, none, .mov (.t 5)⟩,
  ⟨some 17, none, .len 1 (.t 16)⟩,
  ⟨some 18, none, .bin .add (.t 15) (.t 17)⟩,
  ⟨some 3, none, .mov (.t 18)⟩]
abbrev r140_8 : List SOper := [
  ⟨some 19, none, .mov (.t 3)⟩,
  ⟨some 20, none, .bin .lss (.t 19) (.c (.int .i64 0))⟩]
abbrev r140_9 : List SOper := [
  ⟨some 21, none, .mkif 9 (.c (.str [108, 101, 110, 32, 111, 117, 116, 32, 111, 102, 32, 114, 97, 110, 103, 101]))⟩,
  ⟨none, none, .panic (.t 21)⟩]
abbrev c140_10 : SC := .cond (.t 20) (.ops r140_9) (.skip)
abbrev c140_11 : SC := .seq (.ops r140_8) c140_10
abbrev c140_12 : SC := .seq (.ops r140_7) c140_11
abbrev c140_13 : SC := .seq (.ops r140_6) c140_12
abbrev c140_14 : SC := .block 1 [0, 3, 9, 10, 11] [] c140_13
abbrev r140_15 : List SOper := [
  ⟨some 22, none, .bin .add (.t 11) (.c (.int .i64 1))⟩,
  ⟨some 11, none, .mov (.t 22)⟩]
abbrev c140_16 : SC := .seq c140_14 (.ops r140_15)
abbrev c140_17 : SC := .seq c140_5 c140_16
abbrev c140_18 : SC := .seq (.ops r140_4) c140_17
abbrev L140_1 : SC := .loop [0, 3, 9, 10, 11] [] c140_18
abbrev c140_19 : SC := .block 0 [0, 3] [] L140_1
abbrev c140_20 : SC := .seq (.ops r140_3) c140_19
abbrev r140_21 : List SOper := [
  ⟨some 23, none, .mov (.t 3)⟩,
  ⟨some 24, none, .call false (.c (.func 217 [])) [.c (.nils), .t 23]⟩,
  ⟨some 6, none, .mov (.t 24)⟩]
abbrev r140_22 : List SOper := [
  ⟨some 25, none, .mov (.t 0)⟩,
  ⟨some 26, none, .len 1 (.t 25)⟩,
  ⟨some 27, none, .mov (.c (.int .i64 0))⟩]
abbrev r140_23 : List SOper := [
  ⟨some 28, none, .bin .lss (.t 27) (.t 26)⟩]
abbrev c140_24 : SC := .cond (.t 28) (.skip) (.exit 2)
abbrev r140_25 : List SOper := [
  ⟨some 29, none, .iaddr none 1 (.t 25) (.t 27)⟩,
  ⟨some 30, none, .load false false 1 (.t 29)⟩,
  ⟨some 8, none, .mov (.t 30)⟩]
abbrev r140_26 : List SOper := [
  ⟨some 31, none, .mov (.t 6)⟩,
  ⟨some 32, none, .mov (.t 8)⟩,
  ⟨some 33, none, .append 13 144 (.t 31) (.t 32)⟩,
  ⟨some 6, none, .mov (.t 33)⟩]
abbrev c140_27 : SC := .seq (.ops r140_25) (.ops r140_26)
abbrev c140_28 : SC := .block 3 [6, 25, 26, 27] [] c140_27
abbrev r140_29 : List SOper := [
  ⟨some 34, none, .bin .add (.t 27) (.c (.int .i64 1))⟩,
  ⟨some 27, none, .mov (.t 34)⟩]
abbrev c140_30 : SC := .seq c140_28 (.ops r140_29)
abbrev c140_31 : SC := .seq c140_24 c140_30
abbrev c140_32 : SC := .seq (.ops r140_23) c140_31
abbrev L140_2 : SC := .loop [6, 25, 26, 27] [] c140_32
abbrev c140_33 : SC := .block 2 [6] [] L140_2
abbrev c140_34 : SC := .seq (.ops r140_22) c140_33
abbrev r140_35 : List SOper := [
  ⟨some 35, none, .mov (.t 6)⟩,
  ⟨some 2, none, .mov (.t 35)⟩]
abbrev c140_36 : SC := .seq (.ops r140_35) (.ret)
abbrev c140_37 : SC := .seq c140_34 c140_36
abbrev c140_38 : SC := .seq (.ops r140_21) c140_37
abbrev c140_39 : SC := .seq c140_20 c140_38
abbrev c140_40 : SC := .seq (.ops r140_2) c140_39
abbrev c140_41 : SC := .seq (.ops r140_1) c140_40
def s140 : SF := ⟨[.t 2], c140_41, true, none, none⟩
/-! slices.SortStableFunc[[]crannog/api.Inode,crannog/api.Inode] -/
abbrev r141_1 : List SOper := [
  ⟨some 4, none, .mov (.t 0)⟩,
  ⟨some 5, none, .mov (.t 0)⟩,
  ⟨some 6, none, .len 1 (.t 5)⟩,
  ⟨some 7, none, .mov (.t 1)⟩,
  ⟨some 8, none, .call false (.c (.func 218 [])) [.t 4, .t 6, .t 7]⟩]
def s141 : SF := ⟨[], .ops r141_1, false, none, none⟩
/-! cmp.Or[int] -/
abbrev r142_1 : List SOper := [
  ⟨some 2, none, .mov (.c (.int .i64 0))⟩]
abbrev r142_2 : List SOper := [
  ⟨some 3, none, .mov (.c (.int .i64 0))⟩]
abbrev r142_3 : List SOper := [
  ⟨some 6, none, .mov (.t 0)⟩,
  ⟨some 7, none, .len 1 (.t 6)⟩,
  ⟨some 8, none, .mov (.c (.int .i64 0))⟩]
abbrev r142_4 : List SOper := [
  ⟨some 9, none, .bin .lss (.t 8) (.t 7)⟩]
abbrev c142_5 : SC := .cond (.t 9) (.skip) (.exit 0)
abbrev r142_6 : List SOper := [
  ⟨some 10, none, .iaddr none 1 (.t 6) (.t 8)⟩,
  ⟨some 11, none, .load false false 1 (.t 10)⟩,
  ⟨some 5, none, .mov (.t 11)⟩]
abbrev r142_7 : List SOper := [
  ⟨some 12, none, .mov (.t 5)⟩,
  ⟨some 13, none, .mov (.t 3)⟩,
  ⟨some 14, none, .bin .neq (.t 12) (.t 13)⟩]
abbrev r142_8 : List SOper := [
  ⟨some 15, none, .mov (.t 5)⟩,
  ⟨some 2, none, .mov (.t 15)⟩]
abbrev c142_9 : SC := .seq (.ops r142_8) (.ret)
abbrev c142_10 : SC := .cond (.t 14) c142_9 (.skip)
abbrev c142_11 : SC := .seq (.ops r142_7) c142_10
abbrev c142_12 : SC := .seq (.ops r142_6) c142_11
abbrev c142_13 : SC := .block 1 [3, 6, 7, 8] [] c142_12
abbrev r142_14 : List SOper := [
  ⟨some 16, none, .bin .add (.t 8) (.c (.int .i64 1))⟩,
  ⟨some 8, none, .mov (.t 16)⟩]
abbrev c142_15 : SC := .seq c142_13 (.ops r142_14)
abbrev c142_16 : SC := .seq c142_5 c142_15
abbrev c142_17 : SC := .seq (.ops r142_4) c142_16
abbrev L142_1 : SC := .loop [3, 6, 7, 8] [] c142_17
abbrev c142_18 : SC := .block 0 [3] [] L142_1
abbrev c142_19 : SC := .seq (.ops r142_3) c142_18
abbrev r142_20 : List SOper := [
  ⟨some 17, none, .mov (.t 3)⟩,
  ⟨some 2, none, .mov (.t 17)⟩]
abbrev c142_21 : SC := .seq (.ops r142_20) (.ret)
abbrev c142_22 : SC := .seq c142_19 c142_21
abbrev c142_23 : SC := .seq (.ops r142_2) c142_22
abbrev c142_24 : SC := .seq (.ops r142_1) c142_23
def s142 : SF := ⟨[.t 2], c142_24, false, none, none⟩
/-! cmp.Compare[int] -/
abbrev r143_1 : List SOper := [
  ⟨some 4, none, .mov (.c (.int .i64 0))⟩]
abbrev r143_2 : List SOper := [
  ⟨some 7, none, .mov (.t 0)⟩,
  ⟨some 8, none, .call false (.c (.func 219 [])) [.t 7]⟩,
  ⟨some 5, none, .mov (.t 8)⟩]
abbrev r143_3 : List SOper := [
  ⟨some 9, none, .mov (.t 1)⟩,
  ⟨some 10, none, .call false (.c (.func 219 [])) [.t 9]⟩,
  ⟨some 6, none, .mov (.t 10)⟩]
abbrev r143_4 : List SOper := [
  ⟨some 11, none, .mov (.t 5)⟩]
abbrev r143_5 : List SOper := [
  ⟨some 12, none, .mov (.t 6)⟩]
abbrev r143_6 : List SOper := [
  ⟨some 4, none, .mov (.c (.int .i64 0))⟩]
abbrev c143_7 : SC := .seq (.ops r143_6) (.ret)
abbrev c143_8 : SC := .cond (.t 12) c143_7 (.skip)
abbrev c143_9 : SC := .seq (.ops r143_5) c143_8
abbrev r143_10 : List SOper := [
  ⟨some 4, none, .mov (.c (.int .i64 (-1)))⟩]
abbrev c143_11 : SC := .seq (.ops r143_10) (.ret)
abbrev c143_12 : SC := .seq c143_9 c143_11
abbrev c143_13 : SC := .cond (.t 11) c143_12 (.skip)
abbrev c143_14 : SC := .seq (.ops r143_4) c143_13
abbrev r143_15 : List SOper := [
  ⟨some 13, none, .mov (.t 6)⟩]
abbrev r143_16 : List SOper := [
  ⟨some 4, none, .mov (.c (.int .i64 1))⟩]
abbrev c143_17 : SC := .seq (.ops r143_16) (.ret)
abbrev c143_18 : SC := .cond (.t 13) c143_17 (.skip)
abbrev c143_19 : SC := .seq (.ops r143_15) c143_18
abbrev r143_20 : List SOper := [
  ⟨some 14, none, .mov (.t 0)⟩,
  ⟨some 15, none, .mov (.t 1)⟩,
  ⟨some 16, none, .bin .lss (.t 14) (.t 15)⟩]
abbrev r143_21 : List SOper := [
  ⟨some 4, none, .mov (.c (.int .i64 (-1)))⟩]
abbrev c143_22 : SC := .seq (.ops r143_21) (.ret)
abbrev c143_23 : SC := .cond (.t 16) c143_22 (.skip)
abbrev c143_24 : SC := .seq (.ops r143_20) c143_23
abbrev r143_25 : List SOper := [
  ⟨some 17, none, .mov (.t 0)⟩,
  ⟨some 18, none, .mov (.t 1)⟩,
  ⟨some 19, none, .bin .gtr (.t 17) (.t 18)⟩]
abbrev r143_26 : List SOper := [
  ⟨some 4, none, .mov (.c (.int .i64 1))⟩]
abbrev c143_27 : SC := .seq (.ops r143_26) (.ret)
abbrev c143_28 : SC := .cond (.t 19) c143_27 (.skip)
abbrev c143_29 : SC := .seq (.ops r143_25) c143_28
abbrev r143_30 : List SOper := [
  ⟨some 4, none, .mov (.c (.int .i64 0))⟩]
abbrev c143_31 : SC := .seq (.ops r143_30) (.ret)
abbrev c143_32 : SC := .seq c143_29 c143_31
abbrev c143_33 : SC := .seq c143_24 c143_32
abbrev c143_34 : SC := .seq c143_19 c143_33
abbrev c143_35 : SC := .seq c143_14 c143_34
abbrev c143_36 : SC := .seq (.ops r143_3) c143_35
abbrev c143_37 : SC := .seq (.ops r143_2) c143_36
abbrev c143_38 : SC := .seq (.ops r143_1) c143_37
def s143 : SF := ⟨[.t 4], c143_38, false, none, none⟩
/-! slices.Concat[[]crannog/api.Piece,crannog/api.Piece] -/
abbrev r148_1 : List SOper := [
  ⟨some 2, none, .mov (.c (.nils))⟩]
abbrev r148_2 : List SOper := [
  ⟨some 3, none, .mov (.c (.int .i64 0))⟩]
abbrev r148_3 : List SOper := [
  ⟨some 9, none, .mov (.t 0)⟩,
  ⟨some 10, none, .len 1 (.t 9)⟩,
  ⟨some 11, none, .mov (.c (.int .i64 0))⟩]
abbrev r148_4 : List SOper := [
  ⟨some 12, none, .bin .lss (.t 11) (.t 10)⟩]
abbrev c148_5 : SC := .cond (.t 12) (.skip) (.exit 0)
abbrev r148_6 : List SOper := [
  ⟨some 13, none, .iaddr none 1 (.t 9) (.t 11)⟩,
  ⟨some 14, none, .load false false 1 (.t 13)⟩,
  ⟨some 5, none, .mov (.t 14)⟩]
abbrev r148_7 : List SOper := [
  ⟨some 15, none, .mov (.t 3)⟩,
  ⟨some 16, none, .mov (.t 5)⟩,
  ⟨some 17, none, .len 1 (.t 16)⟩,
  ⟨some 18, none, .bin .add (.t 15) (.t 17)⟩,
  ⟨some 3, none, .mov (.t 18)⟩]
abbrev r148_8 : List SOper := [
  ⟨some 19, none, .mov (.t 3)⟩,
  ⟨some 20, none, .bin .lss (.t 19) (.c (.int .i64 0))⟩]
abbrev r148_9 : List SOper := [
  ⟨some 21, none, .mkif 9 (.c (.str [108, 101, 110, 32, 111, 117, 116, 32, 111, 102, 32, 114, 97, 110, 103, 101]))⟩,
  ⟨none, none, .panic (.t 21)⟩]
abbrev c148_10 : SC := .cond (.t 20) (.ops r148_9) (.skip)
abbrev c148_11 : SC := .seq (.ops r148_8) c148_10
abbrev c148_12 : SC := .seq (.ops r148_7) c148_11
abbrev c148_13 : SC := .seq (.ops r148_6) c148_12
abbrev c148_14 : SC := .block 1 [0, 3, 9, 10, 11] [] c148_13
abbrev r148_15 : List SOper := [
  ⟨some 22, none, .bin .add (.t 11) (.c (.int .i64 1))⟩,
  ⟨some 11, none, .mov (.t 22)⟩]
abbrev c148_16 : SC := .seq c148_14 (.ops r148_15)
abbrev c148_17 : SC := .seq c148_5 c148_16
abbrev c148_18 : SC := .seq (.ops r148_4) c148_17
abbrev L148_1 : SC := .loop [0, 3, 9, 10, 11] [] c148_18
abbrev c148_19 : SC := .block 0 [0, 3] [] L148_1
abbrev c148_20 : SC := .seq (.ops r148_3) c148_19
abbrev r148_21 : List SOper := [
  ⟨some 23, none, .mov (.t 3)⟩,
  ⟨some 24, none, .call false (.c (.func 221 [])) [.c (.nils), .t 23]⟩,
  ⟨some 6, none, .mov (.t 24)⟩]
abbrev r148_22 : List SOper := [
  ⟨some 25, none, .mov (.t 0)⟩,
  ⟨some 26, none, .len 1 (.t 25)⟩,
  ⟨some 27, none, .mov (.c (.int .i64 0))⟩]
abbrev r148_23 : List SOper := [
  ⟨some 28, none, .bin .lss (.t 27) (.t 26)⟩]
abbrev c148_24 : SC := .cond (.t 28) (.skip) (.exit 2)
abbrev r148_25 : List SOper := [
  ⟨some 29, none, .iaddr none 1 (.t 25) (.t 27)⟩,
  ⟨some 30, none, .load false false 1 (.t 29)⟩,
  ⟨some 8, none, .mov (.t 30)⟩]
abbrev r148_26 : List SOper := [
  ⟨some 31, none, .mov (.t 6)⟩,
  ⟨some 32, none, .mov (.t 8)⟩,
  ⟨some 33, none, .append 4 40 (.t 31) (.t 32)⟩,
  ⟨some 6, none, .mov (.t 33)⟩]
abbrev c148_27 : SC := .seq (.ops r148_25) (.ops r148_26)
abbrev c148_28 : SC := .block 3 [6, 25, 26, 27] [] c148_27
abbrev r148_29 : List SOper := [
  ⟨some 34, none, .bin .add (.t 27) (.c (.int .i64 1))⟩,
  ⟨some 27, none, .mov (.t 34)⟩]
abbrev c148_30 : SC := .seq c148_28 (.ops r148_29)
abbrev c148_31 : SC := .seq c148_24 c148_30
abbrev c148_32 : SC := .seq (.ops r148_23) c148_31
abbrev L148_2 : SC := .loop [6, 25, 26, 27] [] c148_32
abbrev c148_33 : SC := .block 2 [6] [] L148_2
abbrev c148_34 : SC := .seq (.ops r148_22) c148_33
abbrev r148_35 : List SOper := [
  ⟨some 35, none, .mov (.t 6)⟩,
  ⟨some 2, none, .mov (.t 35)⟩]
abbrev c148_36 : SC := .seq (.ops r148_35) (.ret)
abbrev c148_37 : SC := .seq c148_34 c148_36
abbrev c148_38 : SC := .seq (.ops r148_21) c148_37
abbrev c148_39 : SC := .seq c148_20 c148_38
abbrev c148_40 : SC := .seq (.ops r148_2) c148_39
abbrev c148_41 : SC := .seq (.ops r148_1) c148_40
def s148 : SF := ⟨[.t 2], c148_41, true, none, none⟩
/-! slices.Concat[[]crannog/api.Xattr,crannog/api.Xattr] -/
abbrev r149_1 : List SOper := [
  ⟨some 2, none, .mov (.c (.nils))⟩]
abbrev r149_2 : List SOper := [
  ⟨some 3, none, .mov (.c (.int .i64 0))⟩]
abbrev r149_3 : List SOper := [
  ⟨some 9, none, .mov (.t 0)⟩,
  ⟨some 10, none, .len 1 (.t 9)⟩,
  ⟨some 11, none, .mov (.c (.int .i64 0))⟩]
abbrev r149_4 : List SOper := [
  ⟨some 12, none, .bin .lss (.t 11) (.t 10)⟩]
abbrev c149_5 : SC := .cond (.t 12) (.skip) (.exit 0)
abbrev r149_6 : List SOper := [
  ⟨some 13, none, .iaddr none 1 (.t 9) (.t 11)⟩,
  ⟨some 14, none, .load false false 1 (.t 13)⟩,
  ⟨some 5, none, .mov (.t 14)⟩]
abbrev r149_7 : List SOper := [
  ⟨some 15, none, .mov (.t 3)⟩,
  ⟨some 16, none, .mov (.t 5)⟩,
  ⟨some 17, none, .len 1 (.t 16)⟩,
  ⟨some 18, none, .bin .add (.t 15) (.t 17)⟩,
  ⟨some 3, none, .mov (.t 18)⟩]
abbrev r149_8 : List SOper := [
  ⟨some 19, none, .mov (.t 3)⟩,
  ⟨some 20, none, .bin .lss (.t 19) (.c (.int .i64 0))⟩]
abbrev r149_9 : List SOper := [
  ⟨some 21, none, .mkif 9 (.c (.str [108, 101, 110, 32, 111, 117, 116, 32, 111, 102, 32, 114, 97, 110, 103, 101]))⟩,
  ⟨none, none, .panic (.t 21)⟩]
abbrev c149_10 : SC := .cond (.t 20) (.ops r149_9) (.skip)
abbrev c149_11 : SC := .seq (.ops r149_8) c149_10
abbrev c149_12 : SC := .seq (.ops r149_7) c149_11
abbrev c149_13 : SC := .seq (.ops r149_6) c149_12
abbrev c149_14 : SC := .block 1 [0, 3, 9, 10, 11] [] c149_13
abbrev r149_15 : List SOper := [
  ⟨some 22, none, .bin .add (.t 11) (.c (.int .i64 1))⟩,
  ⟨some 11, none, .mov (.t 22)⟩]
abbrev c149_16 : SC := .seq c149_14 (.ops r149_15)
abbrev c149_17 : SC := .seq c149_5 c149_16
abbrev c149_18 : SC := .seq (.ops r149_4) c149_17
abbrev L149_1 : SC := .loop [0, 3, 9, 10, 11] [] c149_18
abbrev c149_19 : SC := .block 0 [0, 3] [] L149_1
abbrev c149_20 : SC := .seq (.ops r149_3) c149_19
abbrev r149_21 : List SOper := [
  ⟨some 23, none, .mov (.t 3)⟩,
  ⟨some 24, none, .call false (.c (.func 222 [])) [.c (.nils), .t 23]⟩,
  ⟨some 6, none, .mov (.t 24)⟩]
abbrev r149_22 : List SOper := [
  ⟨some 25, none, .mov (.t 0)⟩,
  ⟨some 26, none, .len 1 (.t 25)⟩,
  ⟨some 27, none, .mov (.c (.int .i64 0))⟩]
abbrev r149_23 : List SOper := [
  ⟨some 28, none, .bin .lss (.t 27) (.t 26)⟩]
abbrev c149_24 : SC := .cond (.t 28) (.skip) (.exit 2)
abbrev r149_25 : List SOper := [
  ⟨some 29, none, .iaddr none 1 (.t 25) (.t 27)⟩,
  ⟨some 30, none, .load false false 1 (.t 29)⟩,
  ⟨some 8, none, .mov (.t 30)⟩]
abbrev r149_26 : List SOper := [
  ⟨some 31, none, .mov (.t 6)⟩,
  ⟨some 32, none, .mov (.t 8)⟩,
  ⟨some 33, none, .append 5 56 (.t 31) (.t 32)⟩,
  ⟨some 6, none, .mov (.t 33)⟩]
abbrev c149_27 : SC := .seq (.ops r149_25) (.ops r149_26)
abbrev c149_28 : SC := .block 3 [6, 25, 26, 27] [] c149_27
abbrev r149_29 : List SOper := [
  ⟨some 34, none, .bin .add (.t 27) (.c (.int .i64 1))⟩,
  ⟨some 27, none, .mov (.t 34)⟩]
abbrev c149_30 : SC := .seq c149_28 (.ops r149_29)
abbrev c149_31 : SC := .seq c149_24 c149_30
abbrev c149_32 : SC := .seq (.ops r149_23) c149_31
abbrev L149_2 : SC := .loop [6, 25, 26, 27] [] c149_32
abbrev c149_33 : SC := .block 2 [6] [] L149_2
abbrev c149_34 : SC := .seq (.ops r149_22) c149_33
abbrev r149_35 : List SOper := [
  ⟨some 35, none, .mov (.t 6)⟩,
  ⟨some 2, none, .mov (.t 35)⟩]
abbrev c149_36 : SC := .seq (.ops r149_35) (.ret)
abbrev c149_37 : SC := .seq c149_34 c149_36
abbrev c149_38 : SC := .seq (.ops r149_21) c149_37
abbrev c149_39 : SC := .seq c149_20 c149_38
abbrev c149_40 : SC := .seq (.ops r149_2) c149_39
abbrev c149_41 : SC := .seq (.ops r149_1) c149_40
def s149 : SF := ⟨[.t 2], c149_41, true, none, none⟩
/-! slices.Concat[[]crannog/api.Link,crannog/api.Link] -/
abbrev r150_1 : List SOper := [
  ⟨some 2, none, .mov (.c (.nils))⟩]
abbrev r150_2 : List SOper := [
  ⟨some 3, none, .mov (.c (.int .i64 0))⟩]
abbrev r150_3 : List SOper := [
  ⟨some 9, none, .mov (.t 0)⟩,
  ⟨some 10, none, .len 1 (.t 9)⟩,
  ⟨some 11, none, .mov (.c (.int .i64 0))⟩]
abbrev r150_4 : List SOper := [
  ⟨some 12, none, .bin .lss (.t 11) (.t 10)⟩]
abbrev c150_5 : SC := .cond (.t 12) (.skip) (.exit 0)
abbrev r150_6 : List SOper := [
  ⟨some 13, none, .iaddr none 1 (.t 9) (.t 11)⟩,
  ⟨some 14, none, .load false false 1 (.t 13)⟩,
  ⟨some 5, none, .mov (.t 14)⟩]
abbrev r150_7 : List SOper := [
  ⟨some 15, none, .mov (.t 3)⟩,
  ⟨some 16, none, .mov (.t 5)⟩,
  ⟨some 17, none, .len 1 (.t 16)⟩,
  ⟨some 18, none, .bin .add (.t 15) (.t 17)⟩,
  ⟨some 3, none, .mov (.t 18)⟩]
abbrev r150_8 : List SOper := [
  ⟨some 19, none, .mov (.t 3)⟩,
  ⟨some 20, none, .bin .lss (.t 19) (.c (.int .i64 0))⟩]
abbrev r150_9 : List SOper := [
  ⟨some 21, none, .mkif 9 (.c (.str [108, 101, 110, 32, 111, 117, 116, 32, 111, 102, 32, 114, 97, 110, 103, 101]))⟩,
  ⟨none, none, .panic (.t 21)⟩]
abbrev c150_10 : SC := .cond (.t 20) (.ops r150_9) (.skip)
abbrev c150_11 : SC := .seq (.ops r150_8) c150_10
abbrev c150_12 : SC := .seq (.ops r150_7) c150_11
abbrev c150_13 : SC := .seq (.ops r150_6) c150_12
abbrev c150_14 : SC := .block 1 [0, 3, 9, 10, 11] [] c150_13
abbrev r150_15 : List SOper := [
  ⟨some 22, none, .bin .add (.t 11) (.c (.int .i64 1))⟩,
  ⟨some 11, none, .mov (.t 22)⟩]
abbrev c150_16 : SC := .seq c150_14 (.ops r150_15)
abbrev c150_17 : SC := .seq c150_5 c150_16
abbrev c150_18 : SC := .seq (.ops r150_4) c150_17
abbrev L150_1 : SC := .loop [0, 3, 9, 10, 11] [] c150_18
abbrev c150_19 : SC := .block 0 [0, 3] [] L150_1
abbrev c150_20 : SC := .seq (.ops r150_3) c150_19
abbrev r150_21 : List SOper := [
  ⟨some 23, none, .mov (.t 3)⟩,
  ⟨some 24, none, .call false (.c (.func 223 [])) [.c (.nils), .t 23]⟩,
  ⟨some 6, none, .mov (.t 24)⟩]
abbrev r150_22 : List SOper := [
  ⟨some 25, none, .mov (.t 0)⟩,
  ⟨some 26, none, .len 1 (.t 25)⟩,
  ⟨some 27, none, .mov (.c (.int .i64 0))⟩]
abbrev r150_23 : List SOper := [
  ⟨some 28, none, .bin .lss (.t 27) (.t 26)⟩]
abbrev c150_24 : SC := .cond (.t 28) (.skip) (.exit 2)
abbrev r150_25 : List SOper := [
  ⟨some 29, none, .iaddr none 1 (.t 25) (.t 27)⟩,
  ⟨some 30, none, .load false false 1 (.t 29)⟩,
  ⟨some 8, none, .mov (.t 30)⟩]
abbrev r150_26 : List SOper := [
  ⟨some 31, none, .mov (.t 6)⟩,
  ⟨some 32, none, .mov (.t 8)⟩,
  ⟨some 33, none, .append 25 208 (.t 31) (.t 32)⟩,
  ⟨some 6, none, .mov (.t 33)⟩]
abbrev c150_27 : SC := .seq (.ops r150_25) (.ops r150_26)
abbrev c150_28 : SC := .block 3 [6, 25, 26, 27] [] c150_27
abbrev r150_29 : List SOper := [
  ⟨some 34, none, .bin .add (.t 27) (.c (.int .i64 1))⟩,
  ⟨some 27, none, .mov (.t 34)⟩]
abbrev c150_30 : SC := .seq c150_28 (.ops r150_29)
abbrev c150_31 : SC := .seq c150_24 c150_30
abbrev c150_32 : SC := .seq (.ops r150_23) c150_31
abbrev L150_2 : SC := .loop [6, 25, 26, 27] [] c150_32
abbrev c150_33 : SC := .block 2 [6] [] L150_2
abbrev c150_34 : SC := .seq (.ops r150_22) c150_33
abbrev r150_35 : List SOper := [
  ⟨some 35, none, .mov (.t 6)⟩,
  ⟨some 2, none, .mov (.t 35)⟩]
abbrev c150_36 : SC := .seq (.ops r150_35) (.ret)
abbrev c150_37 : SC := .seq c150_34 c150_36
abbrev c150_38 : SC := .seq (.ops r150_21) c150_37
abbrev c150_39 : SC := .seq c150_20 c150_38
abbrev c150_40 : SC := .seq (.ops r150_2) c150_39
abbrev c150_41 : SC := .seq (.ops r150_1) c150_40
def s150 : SF := ⟨[.t 2], c150_41, true, none, none⟩
/-! slices.SortStableFunc[[]crannog/api.Link,crannog/api.Link] -/
abbrev r151_1 : List SOper := [
  ⟨some 4, none, .mov (.t 0)⟩,
  ⟨some 5, none, .mov (.t 0)⟩,
  ⟨some 6, none, .len 1 (.t 5)⟩,
  ⟨some 7, none, .mov (.t 1)⟩,
  ⟨some 8, none, .call false (.c (.func 224 [])) [.t 4, .t 6, .t 7]⟩]
def s151 : SF := ⟨[], .ops r151_1, false, none, none⟩
/-! crannog/join.merged[crannog/api.Piece] -/
abbrev r155_1 : List SOper := [
  ⟨some 8, none, .mov (.c (.nils))⟩]
abbrev r155_2 : List SOper := [
  ⟨some 9, none, .mov (.c (.nils))⟩]
abbrev r155_3 : List SOper := [
  ⟨some 14, none, .mov (.t 0)⟩,
  ⟨some 15, none, .mov (.t 1)⟩,
  ⟨some 16, none, .bsnap 1 [.t 14, .t 15]⟩,
  ⟨some 17, none, .call false (.c (.func 148 [])) [.t 16]⟩,
  ⟨some 10, none, .mov (.t 17)⟩]
abbrev r155_4 : List SOper := [
  ⟨some 18, none, .mov (.t 10)⟩,
  ⟨some 19, none, .mov (.t 2)⟩,
  ⟨some 20, none, .call false (.c (.func 225 [])) [.t 18, .t 19]⟩]
abbrev r155_5 : List SOper := [
  ⟨some 21, none, .mov (.t 10)⟩,
  ⟨some 22, none, .len 1 (.t 21)⟩,
  ⟨some 23, none, .mov (.c (.int .i64 0))⟩]
abbrev r155_6 : List SOper := [
  ⟨some 24, none, .bin .lss (.t 23) (.t 22)⟩]
abbrev c155_7 : SC := .cond (.t 24) (.skip) (.exit 0)
abbrev r155_8 : List SOper := [
  ⟨some 25, none, .iaddr none 4 (.t 21) (.t 23)⟩,
  ⟨some 26, none, .load false true 4 (.t 25)⟩,
  ⟨some 12, none, .allocL [.int .i64 0, .int .i64 0, .int .i64 0, .str []]⟩,
  ⟨none, none, .store 4 (.t 12) (.t 26)⟩]
abbrev r155_9 : List SOper := [
  ⟨some 27, none, .mov (.t 9)⟩,
  ⟨some 28, none, .len 1 (.t 27)⟩,
  ⟨some 13, none, .mov (.t 28)⟩]
abbrev r155_10 : List SOper := [
  ⟨some 29, none, .mov (.t 13)⟩,
  ⟨some 30, none, .bin .gtr (.t 29) (.c (.int .i64 0))⟩,
  ⟨some 31, none, .mov (.t 30)⟩,
  ⟨some 32, some (31, true), .mov (.t 2)⟩,
  ⟨some 33, some (31, true), .mov (.t 9)⟩,
  ⟨some 34, some (31, true), .mov (.t 13)⟩,
  ⟨some 35, some (31, true), .bin .sub (.t 34) (.c (.int .i64 1))⟩,
  ⟨some 36, some (31, true), .iaddr none 4 (.t 33) (.t 35)⟩,
  ⟨some 37, some (31, true), .load false true 4 (.t 36)⟩,
  ⟨some 38, some (31, true), .load false true 4 (.t 12)⟩,
  ⟨some 39, some (31, true), .call false (.t 32) [.t 37, .t 38]⟩,
  ⟨some 40, some (31, true), .bin .eql (.t 39) (.c (.int .i64 0))⟩,
  ⟨some 41, none, .pick (.t 31) (.t 40) (.c (.bool false))⟩]
abbrev r155_11 : List SOper := [
  ⟨some 42, none, .mov (.t 9)⟩,
  ⟨some 43, none, .mov (.t 13)⟩,
  ⟨some 44, none, .bin .sub (.t 43) (.c (.int .i64 1))⟩,
  ⟨some 45, none, .mov (.t 3)⟩,
  ⟨some 46, none, .mov (.t 9)⟩,
  ⟨some 47, none, .mov (.t 13)⟩,
  ⟨some 48, none, .bin .sub (.t 47) (.c (.int .i64 1))⟩,
  ⟨some 49, none, .iaddr none 4 (.t 46) (.t 48)⟩,
  ⟨some 50, none, .load false true 4 (.t 49)⟩,
  ⟨some 51, none, .load false true 4 (.t 12)⟩,
  ⟨some 52, none, .call false (.t 45) [.t 50, .t 51]⟩,
  ⟨some 53, none, .iaddr none 4 (.t 42) (.t 44)⟩,
  ⟨none, none, .store 4 (.t 53) (.t 52)⟩]
abbrev c155_12 : SC := .seq (.draw 0 [[], [], [1], [], [], [], [5], [4, 6], [7], [], [3, 8, 9], [0, 2, 10], [11]] r155_11) (.exit 1)
abbrev c155_13 : SC := .cond (.t 41) c155_12 (.skip)
abbrev c155_14 : SC := .seq (.draw 0 [[], [0], [1], [2], [2], [2], [5], [4, 6], [7], [2], [3, 8, 9], [10], [11]] r155_10) c155_13
abbrev c155_15 : SC := .seq (.ops r155_9) c155_14
abbrev r155_16 : List SOper := [
  ⟨some 54, none, .mov (.t 9)⟩,
  ⟨some 55, none, .load false true 4 (.t 12)⟩,
  ⟨some 56, none, .bsnap 4 [.t 55]⟩,
  ⟨some 57, none, .append 4 40 (.t 54) (.t 56)⟩,
  ⟨some 9, none, .mov (.t 57)⟩]
abbrev c155_17 : SC := .seq c155_15 (.ops r155_16)
abbrev c155_18 : SC := .seq (.ops r155_8) c155_17
abbrev c155_19 : SC := .block 1 [2, 3, 9, 21, 22, 23] [] c155_18
abbrev r155_20 : List SOper := [
  ⟨some 58, none, .bin .add (.t 23) (.c (.int .i64 1))⟩,
  ⟨some 23, none, .mov (.t 58)⟩]
abbrev c155_21 : SC := .seq c155_19 (.ops r155_20)
abbrev c155_22 : SC := .seq c155_7 c155_21
abbrev c155_23 : SC := .seq (.ops r155_6) c155_22
abbrev L155_1 : SC := .loop [2, 3, 9, 21, 22, 23] [] c155_23
abbrev c155_24 : SC := .block 0 [9] [] L155_1
abbrev c155_25 : SC := .seq (.ops r155_5) c155_24
abbrev r155_26 : List SOper := [
  ⟨some 59, none, .mov (.t 9)⟩,
  ⟨some 8, none, .mov (.t 59)⟩]
abbrev c155_27 : SC := .seq (.ops r155_26) (.ret)
abbrev c155_28 : SC := .seq c155_25 c155_27
abbrev c155_29 : SC := .seq (.ops r155_4) c155_28
abbrev c155_30 : SC := .seq (.ops r155_3) c155_29
abbrev c155_31 : SC := .seq (.ops r155_2) c155_30
abbrev c155_32 : SC := .seq (.ops r155_1) c155_31
def s155 : SF := ⟨[.t 8], c155_32, true, none, none⟩
/-! crannog/join.merged[crannog/api.Xattr] -/
abbrev r160_1 : List SOper := [
  ⟨some 8, none, .mov (.c (.nils))⟩]
abbrev r160_2 : List SOper := [
  ⟨some 9, none, .mov (.c (.nils))⟩]
abbrev r160_3 : List SOper := [
  ⟨some 14, none, .mov (.t 0)⟩,
  ⟨some 15, none, .mov (.t 1)⟩,
  ⟨some 16, none, .bsnap 1 [.t 14, .t 15]⟩,
  ⟨some 17, none, .call false (.c (.func 149 [])) [.t 16]⟩,
  ⟨some 10, none, .mov (.t 17)⟩]
abbrev r160_4 : List SOper := [
  ⟨some 18, none, .mov (.t 10)⟩,
  ⟨some 19, none, .mov (.t 2)⟩,
  ⟨some 20, none, .call false (.c (.func 226 [])) [.t 18, .t 19]⟩]
abbrev r160_5 : List SOper := [
  ⟨some 21, none, .mov (.t 10)⟩,
  ⟨some 22, none, .len 1 (.t 21)⟩,
  ⟨some 23, none, .mov (.c (.int .i64 0))⟩]
abbrev r160_6 : List SOper := [
  ⟨some 24, none, .bin .lss (.t 23) (.t 22)⟩]
abbrev c160_7 : SC := .cond (.t 24) (.skip) (.exit 0)
abbrev r160_8 : List SOper := [
  ⟨some 25, none, .iaddr none 5 (.t 21) (.t 23)⟩,
  ⟨some 26, none, .load false true 5 (.t 25)⟩,
  ⟨some 12, none, .allocL [.str [], .int .i64 0, .int .i64 0, .str [], .bool false]⟩,
  ⟨none, none, .store 5 (.t 12) (.t 26)⟩]
abbrev r160_9 : List SOper := [
  ⟨some 27, none, .mov (.t 9)⟩,
  ⟨some 28, none, .len 1 (.t 27)⟩,
  ⟨some 13, none, .mov (.t 28)⟩]
abbrev r160_10 : List SOper := [
  ⟨some 29, none, .mov (.t 13)⟩,
  ⟨some 30, none, .bin .gtr (.t 29) (.c (.int .i64 0))⟩,
  ⟨some 31, none, .mov (.t 30)⟩,
  ⟨some 32, some (31, true), .mov (.t 2)⟩,
  ⟨some 33, some (31, true), .mov (.t 9)⟩,
  ⟨some 34, some (31, true), .mov (.t 13)⟩,
  ⟨some 35, some (31, true), .bin .sub (.t 34) (.c (.int .i64 1))⟩,
  ⟨some 36, some (31, true), .iaddr none 5 (.t 33) (.t 35)⟩,
  ⟨some 37, some (31, true), .load false true 5 (.t 36)⟩,
  ⟨some 38, some (31, true), .load false true 5 (.t 12)⟩,
  ⟨some 39, some (31, true), .call false (.t 32) [.t 37, .t 38]⟩,
  ⟨some 40, some (31, true), .bin .eql (.t 39) (.c (.int .i64 0))⟩,
  ⟨some 41, none, .pick (.t 31) (.t 40) (.c (.bool false))⟩]
abbrev r160_11 : List SOper := [
  ⟨some 42, none, .mov (.t 9)⟩,
  ⟨some 43, none, .mov (.t 13)⟩,
  ⟨some 44, none, .bin .sub (.t 43) (.c (.int .i64 1))⟩,
  ⟨some 45, none, .mov (.t 3)⟩,
  ⟨some 46, none, .mov (.t 9)⟩,
  ⟨some 47, none, .mov (.t 13)⟩,
  ⟨some 48, none, .bin .sub (.t 47) (.c (.int .i64 1))⟩,
  ⟨some 49, none, .iaddr none 5 (.t 46) (.t 48)⟩,
  ⟨some 50, none, .load false true 5 (.t 49)⟩,
  ⟨some 51, none, .load false true 5 (.t 12)⟩,
  ⟨some 52, none, .call false (.t 45) [.t 50, .t 51]⟩,
  ⟨some 53, none, .iaddr none 5 (.t 42) (.t 44)⟩,
  ⟨none, none, .store 5 (.t 53) (.t 52)⟩]
abbrev c160_12 : SC := .seq (.draw 0 [[], [], [1], [], [], [], [5], [4, 6], [7], [], [3, 8, 9], [0, 2, 10], [11]] r160_11) (.exit 1)
abbrev c160_13 : SC := .cond (.t 41) c160_12 (.skip)
abbrev c160_14 : SC := .seq (.draw 0 [[], [0], [1], [2], [2], [2], [5], [4, 6], [7], [2], [3, 8, 9], [10], [11]] r160_10) c160_13
abbrev c160_15 : SC := .seq (.ops r160_9) c160_14
abbrev r160_16 : List SOper := [
  ⟨some 54, none, .mov (.t 9)⟩,
  ⟨some 55, none, .load false true 5 (.t 12)⟩,
  ⟨some 56, none, .bsnap 5 [.t 55]⟩,
  ⟨some 57, none, .append 5 56 (.t 54) (.t 56)⟩,
  ⟨some 9, none, .mov (.t 57)⟩]
abbrev c160_17 : SC := .seq c160_15 (.ops r160_16)
abbrev c160_18 : SC := .seq (.ops r160_8) c160_17
abbrev c160_19 : SC := .block 1 [2, 3, 9, 21, 22, 23] [] c160_18
abbrev r160_20 : List SOper := [
  ⟨some 58, none, .bin .add (.t 23) (.c (.int .i64 1))⟩,
  ⟨some 23, none, .mov (.t 58)⟩]
abbrev c160_21 : SC := .seq c160_19 (.ops r160_20)
abbrev c160_22 : SC := .seq c160_7 c160_21
abbrev c160_23 : SC := .seq (.ops r160_6) c160_22
abbrev L160_1 : SC := .loop [2, 3, 9, 21, 22, 23] [] c160_23
abbrev c160_24 : SC := .block 0 [9] [] L160_1
abbrev c160_25 : SC := .seq (.ops r160_5) c160_24
abbrev r160_26 : List SOper := [
  ⟨some 59, none, .mov (.t 9)⟩,
  ⟨some 8, none, .mov (.t 59)⟩]
abbrev c160_27 : SC := .seq (.ops r160_26) (.ret)
abbrev c160_28 : SC := .seq c160_25 c160_27
abbrev c160_29 : SC := .seq (.ops r160_4) c160_28
abbrev c160_30 : SC := .seq (.ops r160_3) c160_29
abbrev c160_31 : SC := .seq (.ops r160_2) c160_30
abbrev c160_32 : SC := .seq (.ops r160_1) c160_31
def s160 : SF := ⟨[.t 8], c160_32, true, none, none⟩
/-! strings.Split -/
abbrev r166_1 : List SOper := [
  ⟨some 4, none, .mov (.c (.nils))⟩]
abbrev r166_2 : List SOper := [
  ⟨some 5, none, .mov (.t 0)⟩,
  ⟨some 6, none, .mov (.t 1)⟩,
  ⟨some 7, none, .call false (.c (.func 229 [])) [.t 5, .t 6, .c (.int .i64 0), .c (.int .i64 (-1))]⟩,
  ⟨some 4, none, .mov (.t 7)⟩]
abbrev c166_3 : SC := .seq (.ops r166_2) (.ret)
abbrev c166_4 : SC := .seq (.ops r166_1) c166_3
def s166 : SF := ⟨[.t 4], c166_4, false, none, none⟩
/-! crannog/names.Good -/
abbrev r167_1 : List SOper := [
  ⟨some 2, none, .mov (.c (.int .i64 0))⟩]
abbrev r167_2 : List SOper := [
  ⟨some 4, none, .mov (.t 0)⟩,
  ⟨some 5, none, .bin .eql (.t 4) (.c (.str []))⟩,
  ⟨some 6, none, .mov (.t 5)⟩,
  ⟨some 7, some (6, false), .mov (.t 0)⟩,
  ⟨some 8, some (6, false), .bin .eql (.t 7) (.c (.str [46]))⟩,
  ⟨some 9, none, .pick (.t 6) (.c (.bool true)) (.t 8)⟩,
  ⟨some 10, none, .mov (.t 9)⟩,
  ⟨some 11, some (10, false), .mov (.t 0)⟩,
  ⟨some 12, some (10, false), .bin .eql (.t 11) (.c (.str [46, 46]))⟩,
  ⟨some 13, none, .pick (.t 10) (.c (.bool true)) (.t 12)⟩,
  ⟨some 14, none, .mov (.t 13)⟩,
  ⟨some 15, some (14, false), .mov (.t 0)⟩,
  ⟨some 16, some (14, false), .call false (.c (.func 230 [])) [.t 15, .c (.str [47])]⟩,
  ⟨some 17, none, .pick (.t 14) (.c (.bool true)) (.t 16)⟩,
  ⟨some 18, none, .mov (.t 17)⟩,
  ⟨some 19, some (18, false), .mov (.t 0)⟩,
  ⟨some 20, some (18, false), .call false (.c (.func 230 [])) [.t 19, .c (.str [0])]⟩,
  ⟨some 21, none, .pick (.t 18) (.c (.bool true)) (.t 20)⟩,
  ⟨some 3, none, .mov (.t 21)⟩]
abbrev r167_3 : List SOper := [
  ⟨some 2, none, .mov (.c (.int .i64 22))⟩]
abbrev c167_4 : SC := .seq (.ops r167_3) (.ret)
abbrev r167_5 : List SOper := [
  ⟨some 23, none, .mov (.t 0)⟩,
  ⟨some 24, none, .len 0 (.t 23)⟩,
  ⟨some 25, none, .bin .gtr (.t 24) (.c (.int .i64 16))⟩,
  ⟨some 22, none, .mov (.t 25)⟩]
abbrev r167_6 : List SOper := [
  ⟨some 2, none, .mov (.c (.int .i64 36))⟩]
abbrev c167_7 : SC := .seq (.ops r167_6) (.ret)
abbrev c167_8 : SC := .cond (.t 22) c167_7 (.skip)
abbrev c167_9 : SC := .seq (.ops r167_5) c167_8
abbrev c167_10 : SC := .cond (.t 3) c167_4 c167_9
abbrev c167_11 : SC := .seq (.ops r167_2) c167_10
abbrev c167_12 : SC := .block 0 [] [] c167_11
abbrev r167_13 : List SOper := [
  ⟨some 2, none, .mov (.c (.int .i64 0))⟩]
abbrev c167_14 : SC := .seq (.ops r167_13) (.ret)
abbrev c167_15 : SC := .seq c167_12 c167_14
abbrev c167_16 : SC := .seq (.ops r167_1) c167_15
def s167 : SF := ⟨[.t 2], c167_16, false, none, none⟩
/-! crannog/view.step -/
abbrev r168_1 : List SOper := [
  ⟨some 4, none, .boxH none (.t 1)⟩,
  ⟨some 5, none, .boxH none (.t 2)⟩,
  ⟨some 6, none, .allocL [.int .i64 0, .int .i64 0, .int .i64 0, .int .i64 0, .int .i64 0, .int .i64 0, .str [], .bool false]⟩,
  ⟨some 7, none, .mov (.c (.bool false))⟩]
abbrev r168_2 : List SOper := [
  ⟨some 9, none, .load false true 2 (.t 4)⟩,
  ⟨some 10, none, .build [.int .i64 0, .int .i64 0] []⟩,
  ⟨some 11, none, .cmpA false [.int .i64, .int .i64] (.t 9) (.t 10)⟩,
  ⟨some 12, none, .mov (.t 11)⟩,
  ⟨some 13, some (12, true), .load false false 1 (.t 5)⟩,
  ⟨some 14, some (12, true), .bin .eql (.t 13) (.c (.str [46, 108, 111, 115, 116]))⟩,
  ⟨some 15, none, .pick (.t 12) (.t 14) (.c (.bool false))⟩]
abbrev r168_3 : List SOper := [
  ⟨some 16, none, .call false (.c (.func 127 [])) []⟩,
  ⟨some 17, none, .build [.int .i64 0, .int .i64 0, .int .i64 0, .int .i64 0, .int .i64 0, .int .i64 0, .str [], .bool false] [(2, 2, .t 16), (6, 1, .c (.str [46, 108, 111, 115, 116]))]⟩,
  ⟨none, none, .store 8 (.t 6) (.t 17)⟩,
  ⟨some 7, none, .mov (.c (.bool true))⟩]
abbrev c168_4 : SC := .seq (.ops r168_3) (.ret)
abbrev c168_5 : SC := .cond (.t 15) c168_4 (.skip)
abbrev c168_6 : SC := .seq (.ops r168_2) c168_5
abbrev r168_7 : List SOper := [
  ⟨some 18, none, .mov (.t 0)⟩,
  ⟨some 19, none, .mkfn 231 [.t 4, .t 5]⟩,
  ⟨some 20, none, .call false (.c (.func 205 [])) [.t 18, .t 19]⟩,
  ⟨some 8, none, .mov (.t 20)⟩]
abbrev r168_8 : List SOper := [
  ⟨some 21, none, .mov (.t 8)⟩,
  ⟨some 22, none, .bin .lss (.t 21) (.c (.int .i64 0))⟩]
abbrev r168_9 : List SOper := [
  ⟨some 23, none, .build [.int .i64 0, .int .i64 0, .int .i64 0, .int .i64 0, .int .i64 0, .int .i64 0, .str [], .bool false] []⟩,
  ⟨none, none, .store 8 (.t 6) (.t 23)⟩,
  ⟨some 7, none, .mov (.c (.bool false))⟩]
abbrev c168_10 : SC := .seq (.ops r168_9) (.ret)
abbrev c168_11 : SC := .cond (.t 22) c168_10 (.skip)
abbrev c168_12 : SC := .seq (.ops r168_8) c168_11
abbrev r168_13 : List SOper := [
  ⟨some 24, none, .mov (.t 0)⟩,
  ⟨some 25, none, .mov (.t 8)⟩,
  ⟨some 26, none, .iaddr none 8 (.t 24) (.t 25)⟩,
  ⟨some 27, none, .load false true 8 (.t 26)⟩,
  ⟨none, none, .store 8 (.t 6) (.t 27)⟩,
  ⟨some 7, none, .mov (.c (.bool true))⟩]
abbrev c168_14 : SC := .seq (.ops r168_13) (.ret)
abbrev c168_15 : SC := .seq c168_12 c168_14
abbrev c168_16 : SC := .seq (.ops r168_7) c168_15
abbrev c168_17 : SC := .seq c168_6 c168_16
abbrev c168_18 : SC := .seq (.ops r168_1) c168_17
def s168 : SF := ⟨[.c 6 true 8, .t 7], c168_18, false, none, none⟩
/-! crannog/view.In -/
abbrev r169_1 : List SOper := [
  ⟨some 3, none, .boxL (.t 1)⟩,
  ⟨some 4, none, .mov (.c (.nils))⟩]
abbrev r169_2 : List SOper := [
  ⟨some 5, none, .mov (.c (.nils))⟩]
abbrev r169_3 : List SOper := [
  ⟨some 8, none, .mov (.t 0)⟩,
  ⟨some 9, none, .len 1 (.t 8)⟩,
  ⟨some 10, none, .mov (.c (.int .i64 0))⟩]
abbrev r169_4 : List SOper := [
  ⟨some 11, none, .bin .lss (.t 10) (.t 9)⟩]
abbrev c169_5 : SC := .cond (.t 11) (.skip) (.exit 0)
abbrev r169_6 : List SOper := [
  ⟨some 12, none, .iaddr none 8 (.t 8) (.t 10)⟩,
  ⟨some 13, none, .load false true 8 (.t 12)⟩,
  ⟨some 7, none, .allocL [.int .i64 0, .int .i64 0, .int .i64 0, .int .i64 0, .int .i64 0, .int .i64 0, .str [], .bool false]⟩,
  ⟨none, none, .store 8 (.t 7) (.t 13)⟩]
abbrev r169_7 : List SOper := [
  ⟨some 14, none, .faddr 4 (.t 7)⟩,
  ⟨some 15, none, .load false true 2 (.t 14)⟩,
  ⟨some 16, none, .load false true 2 (.t 3)⟩,
  ⟨some 17, none, .cmpA false [.int .i64, .int .i64] (.t 15) (.t 16)⟩]
abbrev r169_8 : List SOper := [
  ⟨some 18, none, .mov (.t 5)⟩,
  ⟨some 19, none, .load false true 8 (.t 7)⟩,
  ⟨some 20, none, .bsnap 8 [.t 19]⟩,
  ⟨some 21, none, .append 8 72 (.t 18) (.t 20)⟩,
  ⟨some 5, none, .mov (.t 21)⟩]
abbrev c169_9 : SC := .cond (.t 17) (.ops r169_8) (.skip)
abbrev c169_10 : SC := .seq (.ops r169_7) c169_9
abbrev c169_11 : SC := .seq (.ops r169_6) c169_10
abbrev c169_12 : SC := .block 1 [3, 5, 8, 9, 10] [3] c169_11
abbrev r169_13 : List SOper := [
  ⟨some 22, none, .bin .add (.t 10) (.c (.int .i64 1))⟩,
  ⟨some 10, none, .mov (.t 22)⟩]
abbrev c169_14 : SC := .seq c169_12 (.ops r169_13)
abbrev c169_15 : SC := .seq c169_5 c169_14
abbrev c169_16 : SC := .seq (.ops r169_4) c169_15
abbrev L169_1 : SC := .loop [3, 5, 8, 9, 10] [3] c169_16
abbrev c169_17 : SC := .block 0 [5] [] L169_1
abbrev c169_18 : SC := .seq (.ops r169_3) c169_17
abbrev r169_19 : List SOper := [
  ⟨some 23, none, .mov (.t 5)⟩,
  ⟨some 4, none, .mov (.t 23)⟩]
abbrev c169_20 : SC := .seq (.ops r169_19) (.ret)
abbrev c169_21 : SC := .seq c169_18 c169_20
abbrev c169_22 : SC := .seq (.ops r169_2) c169_21
abbrev c169_23 : SC := .seq (.ops r169_1) c169_22
def s169 : SF := ⟨[.t 4], c169_23, true, none, none⟩
/-! (*crannog/facts.maker).known -/
abbrev r180_1 : List SOper := [
  ⟨some 3, none, .boxL (.t 1)⟩,
  ⟨some 4, none, .mov (.c (.bool false))⟩]
abbrev r180_2 : List SOper := [
  ⟨some 5, none, .mov (.t 0)⟩,
  ⟨some 6, none, .nilck (.t 5)⟩,
  ⟨some 7, none, .faddr 0 (.t 6)⟩,
  ⟨some 8, none, .faddr 0 (.t 7)⟩,
  ⟨some 9, none, .load false true 8 (.t 8)⟩,
  ⟨some 10, none, .load false true 2 (.t 3)⟩,
  ⟨some 11, none, .call false (.c (.func 184 [])) [.t 9, .t 10]⟩,
  ⟨some 4, none, .mov (.t 11)⟩]
abbrev c180_3 : SC := .seq (.draw 0 [[], [0], [1], [2], [3], [], [4, 5], [6]] r180_2) (.ret)
abbrev c180_4 : SC := .seq (.ops r180_1) c180_3
def s180 : SF := ⟨[.t 4], c180_4, false, none, none⟩
/-! (*crannog/facts.maker).attr -/
abbrev r181_1 : List SOper := [
  ⟨some 3, none, .boxL (.t 1)⟩,
  ⟨some 4, none, .mov (.c (.bool false))⟩]
abbrev r181_2 : List SOper := [
  ⟨some 6, none, .faddr 0 (.t 3)⟩,
  ⟨some 7, none, .load false true 2 (.t 6)⟩,
  ⟨some 8, none, .build [.int .i64 0, .int .i64 0] []⟩,
  ⟨some 9, none, .cmpA false [.int .i64, .int .i64] (.t 7) (.t 8)⟩,
  ⟨some 5, none, .mov (.t 9)⟩]
abbrev r181_3 : List SOper := [
  ⟨some 10, none, .faddr 4 (.t 3)⟩,
  ⟨some 11, none, .faddr 2 (.t 10)⟩,
  ⟨some 12, none, .load false false 1 (.t 11)⟩,
  ⟨some 13, none, .bin .geq (.t 12) (.c (.int .i64 0))⟩,
  ⟨some 14, none, .mov (.t 13)⟩,
  ⟨some 15, some (14, true), .faddr 4 (.t 3)⟩,
  ⟨some 16, some (14, true), .faddr 2 (.t 15)⟩,
  ⟨some 17, some (14, true), .load false false 1 (.t 16)⟩,
  ⟨some 18, some (14, true), .bin .leq (.t 17) (.c (.int .i64 511))⟩,
  ⟨some 19, none, .pick (.t 14) (.t 18) (.c (.bool false))⟩,
  ⟨some 20, none, .mov (.t 19)⟩,
  ⟨some 21, some (20, true), .faddr 4 (.t 3)⟩,
  ⟨some 22, some (20, true), .faddr 3 (.t 21)⟩,
  ⟨some 23, some (20, true), .load false false 1 (.t 22)⟩,
  ⟨some 24, some (20, true), .call false (.c (.func 89 [])) [.t 23]⟩,
  ⟨some 25, none, .pick (.t 20) (.t 24) (.c (.bool false))⟩,
  ⟨some 26, none, .mov (.t 25)⟩,
  ⟨some 27, some (26, true), .mov (.t 0)⟩,
  ⟨some 28, some (26, true), .faddr 4 (.t 3)⟩,
  ⟨some 29, some (26, true), .faddr 0 (.t 28)⟩,
  ⟨some 30, some (26, true), .load false true 2 (.t 29)⟩,
  ⟨some 31, some (26, true), .call false (.c (.func 180 [])) [.t 27, .t 30]⟩,
  ⟨some 32, some (26, true), .mov (.t 31)⟩,
  ⟨some 33, some (32, false), .mov (.t 5)⟩,
  ⟨some 34, some (32, false), .mov (.t 33)⟩,
  ⟨some 35, some (34, true), .faddr 4 (.t 3)⟩,
  ⟨some 36, some (34, true), .faddr 0 (.t 35)⟩,
  ⟨some 37, some (34, true), .load false true 2 (.t 36)⟩,
  ⟨some 38, some (34, true), .build [.int .i64 0, .int .i64 0] []⟩,
  ⟨some 39, some (34, true), .cmpA false [.int .i64, .int .i64] (.t 37) (.t 38)⟩,
  ⟨some 40, some (32, false), .pick (.t 34) (.t 39) (.c (.bool false))⟩,
  ⟨some 41, some (26, true), .pick (.t 32) (.c (.bool true)) (.t 40)⟩,
  ⟨some 42, none, .pick (.t 26) (.t 41) (.c (.bool false))⟩,
  ⟨some 4, none, .mov (.t 42)⟩]
abbrev c181_4 : SC := .seq (.ops r181_3) (.ret)
abbrev c181_5 : SC := .seq (.ops r181_2) c181_4
abbrev c181_6 : SC := .seq (.ops r181_1) c181_5
def s181 : SF := ⟨[.t 4], c181_6, false, none, none⟩
/-! (*crannog/facts.maker).body -/
abbrev r182_1 : List SOper := [
  ⟨some 3, none, .boxL (.t 1)⟩,
  ⟨some 4, none, .mov (.c (.bool false))⟩]
abbrev r182_2 : List SOper := [
  ⟨some 7, none, .faddr 2 (.t 3)⟩,
  ⟨some 8, none, .load false false 1 (.t 7)⟩,
  ⟨some 9, none, .bin .neq (.t 8) (.c (.int .i64 1))⟩]
abbrev r182_3 : List SOper := [
  ⟨some 10, none, .faddr 8 (.t 3)⟩,
  ⟨some 11, none, .load false true 3 (.t 10)⟩,
  ⟨some 12, none, .build [.int .i64 0, .int .i64 0, .int .i64 0] []⟩,
  ⟨some 13, none, .cmpA false [.int .i64, .int .i64, .int .i64] (.t 11) (.t 12)⟩,
  ⟨some 14, none, .mov (.t 13)⟩,
  ⟨some 15, some (14, true), .faddr 11 (.t 3)⟩,
  ⟨some 16, some (14, true), .load false false 1 (.t 15)⟩,
  ⟨some 17, some (14, true), .len 1 (.t 16)⟩,
  ⟨some 18, some (14, true), .bin .eql (.t 17) (.c (.int .i64 0))⟩,
  ⟨some 19, none, .pick (.t 14) (.t 18) (.c (.bool false))⟩,
  ⟨some 4, none, .mov (.t 19)⟩]
abbrev c182_4 : SC := .seq (.ops r182_3) (.ret)
abbrev c182_5 : SC := .cond (.t 9) c182_4 (.skip)
abbrev c182_6 : SC := .seq (.ops r182_2) c182_5
abbrev r182_7 : List SOper := [
  ⟨some 20, none, .mov (.t 0)⟩,
  ⟨some 21, none, .faddr 8 (.t 3)⟩,
  ⟨some 22, none, .faddr 0 (.t 21)⟩,
  ⟨some 23, none, .load false true 2 (.t 22)⟩,
  ⟨some 24, none, .call false (.c (.func 180 [])) [.t 20, .t 23]⟩,
  ⟨some 25, none, .un .not (.t 24)⟩,
  ⟨some 26, none, .mov (.t 25)⟩,
  ⟨some 27, some (26, false), .faddr 8 (.t 3)⟩,
  ⟨some 28, some (26, false), .faddr 2 (.t 27)⟩,
  ⟨some 29, some (26, false), .load false false 1 (.t 28)⟩,
  ⟨some 30, some (26, false), .bin .lss (.t 29) (.c (.int .i64 0))⟩,
  ⟨some 31, none, .pick (.t 26) (.c (.bool true)) (.t 30)⟩,
  ⟨some 32, none, .mov (.t 31)⟩,
  ⟨some 33, some (32, false), .faddr 8 (.t 3)⟩,
  ⟨some 34, some (32, false), .faddr 2 (.t 33)⟩,
  ⟨some 35, some (32, false), .load false false 1 (.t 34)⟩,
  ⟨some 36, some (32, false), .bin .gtr (.t 35) (.c (.int .i64 1024))⟩,
  ⟨some 37, none, .pick (.t 32) (.c (.bool true)) (.t 36)⟩,
  ⟨some 38, none, .mov (.t 37)⟩,
  ⟨some 39, some (38, false), .faddr 11 (.t 3)⟩,
  ⟨some 40, some (38, false), .load false false 1 (.t 39)⟩,
  ⟨some 41, some (38, false), .len 1 (.t 40)⟩,
  ⟨some 42, some (38, false), .bin .gtr (.t 41) (.c (.int .i64 16))⟩,
  ⟨some 43, none, .pick (.t 38) (.c (.bool true)) (.t 42)⟩]
abbrev r182_8 : List SOper := [
  ⟨some 4, none, .mov (.c (.bool false))⟩]
abbrev c182_9 : SC := .seq (.ops r182_8) (.ret)
abbrev c182_10 : SC := .cond (.t 43) c182_9 (.skip)
abbrev c182_11 : SC := .seq (.ops r182_7) c182_10
abbrev r182_12 : List SOper := [
  ⟨some 44, none, .faddr 11 (.t 3)⟩,
  ⟨some 45, none, .load false false 1 (.t 44)⟩,
  ⟨some 46, none, .len 1 (.t 45)⟩,
  ⟨some 47, none, .mov (.c (.int .i64 0))⟩]
abbrev r182_13 : List SOper := [
  ⟨some 48, none, .bin .lss (.t 47) (.t 46)⟩]
abbrev c182_14 : SC := .cond (.t 48) (.skip) (.exit 0)
abbrev r182_15 : List SOper := [
  ⟨some 49, none, .mov (.t 47)⟩,
  ⟨some 50, none, .iaddr none 4 (.t 45) (.t 47)⟩,
  ⟨some 51, none, .load false true 4 (.t 50)⟩,
  ⟨some 6, none, .allocL [.int .i64 0, .int .i64 0, .int .i64 0, .str []]⟩,
  ⟨some 5, none, .mov (.t 49)⟩,
  ⟨none, none, .store 4 (.t 6) (.t 51)⟩]
abbrev r182_16 : List SOper := [
  ⟨some 52, none, .faddr 0 (.t 6)⟩,
  ⟨some 53, none, .load false false 1 (.t 52)⟩,
  ⟨some 54, none, .bin .lss (.t 53) (.c (.int .i64 0))⟩,
  ⟨some 55, none, .mov (.t 54)⟩,
  ⟨some 56, some (55, false), .faddr 0 (.t 6)⟩,
  ⟨some 57, some (55, false), .load false false 1 (.t 56)⟩,
  ⟨some 58, some (55, false), .bin .geq (.t 57) (.c (.int .i64 16))⟩,
  ⟨some 59, none, .pick (.t 55) (.c (.bool true)) (.t 58)⟩,
  ⟨some 60, none, .mov (.t 59)⟩,
  ⟨some 61, some (60, false), .mov (.t 5)⟩,
  ⟨some 62, some (60, false), .bin .gtr (.t 61) (.c (.int .i64 0))⟩,
  ⟨some 63, some (60, false), .mov (.t 62)⟩,
  ⟨some 64, some (63, true), .faddr 0 (.t 6)⟩,
  ⟨some 65, some (63, true), .load false false 1 (.t 64)⟩,
  ⟨some 66, some (63, true), .faddr 11 (.t 3)⟩,
  ⟨some 67, some (63, true), .load false false 1 (.t 66)⟩,
  ⟨some 68, some (63, true), .mov (.t 5)⟩,
  ⟨some 69, some (63, true), .bin .sub (.t 68) (.c (.int .i64 1))⟩,
  ⟨some 70, some (63, true), .iaddr none 4 (.t 67) (.t 69)⟩,
  ⟨some 71, some (63, true), .faddr 0 (.t 70)⟩,
  ⟨some 72, some (63, true), .load false false 1 (.t 71)⟩,
  ⟨some 73, some (63, true), .bin .leq (.t 65) (.t 72)⟩,
  ⟨some 74, some (60, false), .pick (.t 63) (.t 73) (.c (.bool false))⟩,
  ⟨some 75, none, .pick (.t 60) (.c (.bool true)) (.t 74)⟩,
  ⟨some 76, none, .mov (.t 75)⟩,
  ⟨some 77, some (76, false), .faddr 3 (.t 6)⟩,
  ⟨some 78, some (76, false), .load false false 1 (.t 77)⟩,
  ⟨some 79, some (76, false), .len 0 (.t 78)⟩,
  ⟨some 80, some (76, false), .bin .gtr (.t 79) (.c (.int .i64 64))⟩,
  ⟨some 81, none, .pick (.t 76) (.c (.bool true)) (.t 80)⟩,
  ⟨some 82, none, .mov (.t 81)⟩,
  ⟨some 83, some (82, false), .mov (.t 0)⟩,
  ⟨some 84, some (82, false), .faddr 1 (.t 6)⟩,
  ⟨some 85, some (82, false), .load false true 2 (.t 84)⟩,
  ⟨some 86, some (82, false), .call false (.c (.func 180 [])) [.t 83, .t 85]⟩,
  ⟨some 87, some (82, false), .un .not (.t 86)⟩,
  ⟨some 88, none, .pick (.t 82) (.c (.bool true)) (.t 87)⟩]
abbrev r182_17 : List SOper := [
  ⟨some 4, none, .mov (.c (.bool false))⟩]
abbrev c182_18 : SC := .seq (.ops r182_17) (.ret)
abbrev c182_19 : SC := .cond (.t 88) c182_18 (.skip)
abbrev c182_20 : SC := .seq (.draw 0 [[], [0], [1], [2], [3], [4], [5], [6], [7], [8], [9], [10], [11], [12], [11], [14], [11], [16], [15, 17], [18], [19], [13, 20], [21], [22], [23], [24], [25], [26], [27], [28], [29], [30], [30], [32], [31, 33], [34], [35]] r182_16) c182_19
abbrev c182_21 : SC := .seq (.ops r182_15) c182_20
abbrev c182_22 : SC := .block 1 [0, 3, 45, 46, 47] [3] c182_21
abbrev r182_23 : List SOper := [
  ⟨some 89, none, .bin .add (.t 47) (.c (.int .i64 1))⟩,
  ⟨some 47, none, .mov (.t 89)⟩]
abbrev c182_24 : SC := .seq c182_22 (.ops r182_23)
abbrev c182_25 : SC := .seq c182_14 c182_24
abbrev c182_26 : SC := .seq (.ops r182_13) c182_25
abbrev L182_1 : SC := .loop [0, 3, 45, 46, 47] [3] c182_26
abbrev c182_27 : SC := .block 0 [] [] L182_1
abbrev c182_28 : SC := .seq (.ops r182_12) c182_27
abbrev r182_29 : List SOper := [
  ⟨some 4, none, .mov (.c (.bool true))⟩]
abbrev c182_30 : SC := .seq (.ops r182_29) (.ret)
abbrev c182_31 : SC := .seq c182_28 c182_30
abbrev c182_32 : SC := .seq c182_11 c182_31
abbrev c182_33 : SC := .seq c182_6 c182_32
abbrev c182_34 : SC := .seq (.ops r182_1) c182_33
def s182 : SF := ⟨[.t 4], c182_34, false, none, none⟩
/-! (*crannog/facts.maker).xattrs -/
abbrev r183_1 : List SOper := [
  ⟨some 3, none, .boxL (.t 1)⟩,
  ⟨some 4, none, .mov (.c (.bool false))⟩]
abbrev r183_2 : List SOper := [
  ⟨some 7, none, .faddr 12 (.t 3)⟩,
  ⟨some 8, none, .load false false 1 (.t 7)⟩,
  ⟨some 9, none, .len 1 (.t 8)⟩,
  ⟨some 10, none, .bin .gtr (.t 9) (.c (.int .i64 32))⟩]
abbrev r183_3 : List SOper := [
  ⟨some 4, none, .mov (.c (.bool false))⟩]
abbrev c183_4 : SC := .seq (.ops r183_3) (.ret)
abbrev c183_5 : SC := .cond (.t 10) c183_4 (.skip)
abbrev c183_6 : SC := .seq (.ops r183_2) c183_5
abbrev r183_7 : List SOper := [
  ⟨some 11, none, .faddr 12 (.t 3)⟩,
  ⟨some 12, none, .load false false 1 (.t 11)⟩,
  ⟨some 13, none, .len 1 (.t 12)⟩,
  ⟨some 14, none, .mov (.c (.int .i64 0))⟩]
abbrev r183_8 : List SOper := [
  ⟨some 15, none, .bin .lss (.t 14) (.t 13)⟩]
abbrev c183_9 : SC := .cond (.t 15) (.skip) (.exit 0)
abbrev r183_10 : List SOper := [
  ⟨some 16, none, .mov (.t 14)⟩,
  ⟨some 17, none, .iaddr none 5 (.t 12) (.t 14)⟩,
  ⟨some 18, none, .load false true 5 (.t 17)⟩,
  ⟨some 6, none, .allocL [.str [], .int .i64 0, .int .i64 0, .str [], .bool false]⟩,
  ⟨some 5, none, .mov (.t 16)⟩,
  ⟨none, none, .store 5 (.t 6) (.t 18)⟩]
abbrev r183_11 : List SOper := [
  ⟨some 19, none, .faddr 0 (.t 6)⟩,
  ⟨some 20, none, .load false false 1 (.t 19)⟩,
  ⟨some 21, none, .call false (.c (.func 167 [])) [.t 20]⟩,
  ⟨some 22, none, .bin .neq (.t 21) (.c (.int .i64 0))⟩,
  ⟨some 23, none, .mov (.t 22)⟩,
  ⟨some 24, some (23, false), .mov (.t 5)⟩,
  ⟨some 25, some (23, false), .bin .gtr (.t 24) (.c (.int .i64 0))⟩,
  ⟨some 26, some (23, false), .mov (.t 25)⟩,
  ⟨some 27, some (26, true), .faddr 0 (.t 6)⟩,
  ⟨some 28, some (26, true), .load false false 1 (.t 27)⟩,
  ⟨some 29, some (26, true), .faddr 12 (.t 3)⟩,
  ⟨some 30, some (26, true), .load false false 1 (.t 29)⟩,
  ⟨some 31, some (26, true), .mov (.t 5)⟩,
  ⟨some 32, some (26, true), .bin .sub (.t 31) (.c (.int .i64 1))⟩,
  ⟨some 33, some (26, true), .iaddr none 5 (.t 30) (.t 32)⟩,
  ⟨some 34, some (26, true), .faddr 0 (.t 33)⟩,
  ⟨some 35, some (26, true), .load false false 1 (.t 34)⟩,
  ⟨some 36, some (26, true), .bin .leq (.t 28) (.t 35)⟩,
  ⟨some 37, some (23, false), .pick (.t 26) (.t 36) (.c (.bool false))⟩,
  ⟨some 38, none, .pick (.t 23) (.c (.bool true)) (.t 37)⟩,
  ⟨some 39, none, .mov (.t 38)⟩,
  ⟨some 40, some (39, false), .faddr 3 (.t 6)⟩,
  ⟨some 41, some (39, false), .load false false 1 (.t 40)⟩,
  ⟨some 42, some (39, false), .len 0 (.t 41)⟩,
  ⟨some 43, some (39, false), .bin .gtr (.t 42) (.c (.int .i64 32))⟩,
  ⟨some 44, none, .pick (.t 39) (.c (.bool true)) (.t 43)⟩,
  ⟨some 45, none, .mov (.t 44)⟩,
  ⟨some 46, some (45, false), .faddr 4 (.t 6)⟩,
  ⟨some 47, some (45, false), .load false false 1 (.t 46)⟩,
  ⟨some 48, some (45, false), .mov (.t 47)⟩,
  ⟨some 49, some (48, true), .faddr 3 (.t 6)⟩,
  ⟨some 50, some (48, true), .load false false 1 (.t 49)⟩,
  ⟨some 51, some (48, true), .bin .neq (.t 50) (.c (.str []))⟩,
  ⟨some 52, some (45, false), .pick (.t 48) (.t 51) (.c (.bool false))⟩,
  ⟨some 53, none, .pick (.t 45) (.c (.bool true)) (.t 52)⟩,
  ⟨some 54, none, .mov (.t 53)⟩,
  ⟨some 55, some (54, false), .mov (.t 0)⟩,
  ⟨some 56, some (54, false), .faddr 1 (.t 6)⟩,
  ⟨some 57, some (54, false), .load false true 2 (.t 56)⟩,
  ⟨some 58, some (54, false), .call false (.c (.func 180 [])) [.t 55, .t 57]⟩,
  ⟨some 59, some (54, false), .un .not (.t 58)⟩,
  ⟨some 60, none, .pick (.t 54) (.c (.bool true)) (.t 59)⟩]
abbrev r183_12 : List SOper := [
  ⟨some 4, none, .mov (.c (.bool false))⟩]
abbrev c183_13 : SC := .seq (.ops r183_12) (.ret)
abbrev c183_14 : SC := .cond (.t 60) c183_13 (.skip)
abbrev c183_15 : SC := .seq (.draw 0 [[], [0], [1], [2], [3], [4], [5], [6], [7], [8], [7], [10], [7], [12], [11, 13], [14], [15], [9, 16], [17], [18], [19], [20], [21], [22], [23], [24], [25], [26], [27], [28], [29], [30], [31], [32], [33], [34], [35], [35], [37], [36, 38], [39], [40]] r183_11) c183_14
abbrev c183_16 : SC := .seq (.ops r183_10) c183_15
abbrev c183_17 : SC := .block 1 [0, 3, 12, 13, 14] [3] c183_16
abbrev r183_18 : List SOper := [
  ⟨some 61, none, .bin .add (.t 14) (.c (.int .i64 1))⟩,
  ⟨some 14, none, .mov (.t 61)⟩]
abbrev c183_19 : SC := .seq c183_17 (.ops r183_18)
abbrev c183_20 : SC := .seq c183_9 c183_19
abbrev c183_21 : SC := .seq (.ops r183_8) c183_20
abbrev L183_1 : SC := .loop [0, 3, 12, 13, 14] [3] c183_21
abbrev c183_22 : SC := .block 0 [] [] L183_1
abbrev c183_23 : SC := .seq (.ops r183_7) c183_22
abbrev r183_24 : List SOper := [
  ⟨some 4, none, .mov (.c (.bool true))⟩]
abbrev c183_25 : SC := .seq (.ops r183_24) (.ret)
abbrev c183_26 : SC := .seq c183_23 c183_25
abbrev c183_27 : SC := .seq c183_6 c183_26
abbrev c183_28 : SC := .seq (.ops r183_1) c183_27
def s183 : SF := ⟨[.t 4], c183_28, false, none, none⟩
/-! crannog/vector.Has -/
abbrev r184_1 : List SOper := [
  ⟨some 2, none, .boxL (.t 0)⟩,
  ⟨some 3, none, .boxL (.t 1)⟩,
  ⟨some 4, none, .mov (.c (.bool false))⟩]
abbrev r184_2 : List SOper := [
  ⟨some 5, none, .load false true 2 (.t 3)⟩,
  ⟨some 6, none, .call false (.c (.func 240 [])) [.t 5]⟩,
  ⟨some 7, none, .mov (.t 6)⟩,
  ⟨some 8, some (7, true), .faddr 1 (.t 3)⟩,
  ⟨some 9, some (7, true), .load false false 1 (.t 8)⟩,
  ⟨some 10, some (7, true), .iaddr (some 8) 1 (.t 2) (.t 9)⟩,
  ⟨some 11, some (7, true), .load false false 1 (.t 10)⟩,
  ⟨some 12, some (7, true), .faddr 0 (.t 3)⟩,
  ⟨some 13, some (7, true), .load false false 1 (.t 12)⟩,
  ⟨some 14, some (7, true), .bin .geq (.t 11) (.t 13)⟩,
  ⟨some 15, none, .pick (.t 7) (.t 14) (.c (.bool false))⟩,
  ⟨some 4, none, .mov (.t 15)⟩]
abbrev c184_3 : SC := .seq (.draw 0 [[], [0], [1], [2], [3], [4], [5], [2], [7], [6, 8], [9], [10]] r184_2) (.ret)
abbrev c184_4 : SC := .seq (.ops r184_1) c184_3
def s184 : SF := ⟨[.t 4], c184_4, false, none, none⟩
/-! crannog/vector.Within -/
abbrev r185_1 : List SOper := [
  ⟨some 2, none, .boxL (.t 0)⟩,
  ⟨some 3, none, .boxL (.t 1)⟩,
  ⟨some 4, none, .mov (.c (.bool false))⟩]
abbrev r185_2 : List SOper := [
  ⟨some 5, none, .load false true 8 (.t 2)⟩,
  ⟨some 6, none, .load false true 8 (.t 3)⟩,
  ⟨some 7, none, .call true (.c (.func 74 [])) [.t 5, .t 6]⟩,
  ⟨some 8, none, .load true true 8 (.t 3)⟩,
  ⟨some 9, none, .cmpA false [.int .i64, .int .i64, .int .i64, .int .i64, .int .i64, .int .i64, .int .i64, .int .i64] (.t 7) (.t 8)⟩,
  ⟨some 4, none, .mov (.t 9)⟩]
abbrev c185_3 : SC := .seq (.draw 0 [[], [], [0, 1], [], [2, 3], [4]] r185_2) (.ret)
abbrev c185_4 : SC := .seq (.ops r185_1) c185_3
def s185 : SF := ⟨[.t 4], c185_4, false, none, none⟩
/-! slices.pdqsortCmpFunc[crannog/api.Shown] -/
abbrev r188_1 : List SOper := [
  ⟨some 10, none, .mov (.c (.bool true))⟩]
abbrev r188_2 : List SOper := [
  ⟨some 11, none, .mov (.c (.bool true))⟩]
abbrev r188_3 : List SOper := [
  ⟨some 21, none, .mov (.t 2)⟩,
  ⟨some 22, none, .mov (.t 1)⟩,
  ⟨some 23, none, .bin .sub (.t 21) (.t 22)⟩,
  ⟨some 12, none, .mov (.t 23)⟩]
abbrev r188_4 : List SOper := [
  ⟨some 24, none, .mov (.t 12)⟩,
  ⟨some 25, none, .bin .leq (.t 24) (.c (.int .i64 12))⟩]
abbrev r188_5 : List SOper := [
  ⟨some 26, none, .mov (.t 0)⟩,
  ⟨some 27, none, .mov (.t 1)⟩,
  ⟨some 28, none, .mov (.t 2)⟩,
  ⟨some 29, none, .mov (.t 4)⟩,
  ⟨some 30, none, .call false (.c (.func 241 [])) [.t 26, .t 27, .t 28, .t 29]⟩]
abbrev c188_6 : SC := .seq (.ops r188_5) (.ret)
abbrev c188_7 : SC := .cond (.t 25) c188_6 (.skip)
abbrev c188_8 : SC := .seq (.ops r188_4) c188_7
abbrev r188_9 : List SOper := [
  ⟨some 31, none, .mov (.t 3)⟩,
  ⟨some 32, none, .bin .eql (.t 31) (.c (.int .i64 0))⟩]
abbrev r188_10 : List SOper := [
  ⟨some 33, none, .mov (.t 0)⟩,
  ⟨some 34, none, .mov (.t 1)⟩,
  ⟨some 35, none, .mov (.t 2)⟩,
  ⟨some 36, none, .mov (.t 4)⟩,
  ⟨some 37, none, .call false (.c (.func 242 [])) [.t 33, .t 34, .t 35, .t 36]⟩]
abbrev c188_11 : SC := .seq (.ops r188_10) (.ret)
abbrev c188_12 : SC := .cond (.t 32) c188_11 (.skip)
abbrev c188_13 : SC := .seq (.ops r188_9) c188_12
abbrev r188_14 : List SOper := [
  ⟨some 38, none, .mov (.t 10)⟩,
  ⟨some 39, none, .un .not (.t 38)⟩]
abbrev r188_15 : List SOper := [
  ⟨some 40, none, .mov (.t 0)⟩,
  ⟨some 41, none, .mov (.t 1)⟩,
  ⟨some 42, none, .mov (.t 2)⟩,
  ⟨some 43, none, .mov (.t 4)⟩,
  ⟨some 44, none, .call false (.c (.func 243 [])) [.t 40, .t 41, .t 42, .t 43]⟩]
abbrev r188_16 : List SOper := [
  ⟨some 45, none, .mov (.t 3)⟩,
  ⟨some 46, none, .bin .sub (.t 45) (.c (.int .i64 1))⟩,
  ⟨some 3, none, .mov (.t 46)⟩]
abbrev c188_17 : SC := .seq (.ops r188_15) (.ops r188_16)
abbrev c188_18 : SC := .cond (.t 39) c188_17 (.skip)
abbrev c188_19 : SC := .seq (.ops r188_14) c188_18
abbrev r188_20 : List SOper := [
  ⟨some 48, none, .mov (.t 0)⟩,
  ⟨some 49, none, .mov (.t 1)⟩,
  ⟨some 50, none, .mov (.t 2)⟩,
  ⟨some 51, none, .mov (.t 4)⟩,
  ⟨some 52, none, .call false (.c (.func 244 [])) [.t 48, .t 49, .t 50, .t 51]⟩,
  ⟨some 47, none, .mov (.t 52)⟩,
  ⟨some 53, none, .extract (.t 47) 0⟩,
  ⟨some 54, none, .extract (.t 47) 1⟩,
  ⟨some 13, none, .mov (.t 53)⟩,
  ⟨some 14, none, .mov (.t 54)⟩]
abbrev r188_21 : List SOper := [
  ⟨some 55, none, .mov (.t 14)⟩,
  ⟨some 56, none, .bin .eql (.t 55) (.c (.int .i64 2))⟩]
abbrev r188_22 : List SOper := [
  ⟨some 57, none, .mov (.t 0)⟩,
  ⟨some 58, none, .mov (.t 1)⟩,
  ⟨some 59, none, .mov (.t 2)⟩,
  ⟨some 60, none, .mov (.t 4)⟩,
  ⟨some 61, none, .call false (.c (.func 245 [])) [.t 57, .t 58, .t 59, .t 60]⟩]
abbrev r188_23 : List SOper := [
  ⟨some 62, none, .mov (.t 2)⟩,
  ⟨some 63, none, .bin .sub (.t 62) (.c (.int .i64 1))⟩,
  ⟨some 64, none, .mov (.t 13)⟩,
  ⟨some 65, none, .mov (.t 1)⟩,
  ⟨some 66, none, .bin .sub (.t 64) (.t 65)⟩,
  ⟨some 67, none, .bin .sub (.t 63) (.t 66)⟩,
  ⟨some 13, none, .mov (.t 67)⟩]
abbrev r188_24 : List SOper := [
  ⟨some 14, none, .mov (.c (.int .i64 1))⟩]
abbrev c188_25 : SC := .seq (.ops r188_23) (.ops r188_24)
abbrev c188_26 : SC := .seq (.ops r188_22) c188_25
abbrev c188_27 : SC := .cond (.t 56) c188_26 (.skip)
abbrev c188_28 : SC := .seq (.ops r188_21) c188_27
abbrev r188_29 : List SOper := [
  ⟨some 68, none, .mov (.t 10)⟩,
  ⟨some 69, none, .mov (.t 68)⟩,
  ⟨some 70, some (69, true), .mov (.t 11)⟩,
  ⟨some 71, none, .pick (.t 69) (.t 70) (.c (.bool false))⟩,
  ⟨some 72, none, .mov (.t 71)⟩,
  ⟨some 73, some (72, true), .mov (.t 14)⟩,
  ⟨some 74, some (72, true), .bin .eql (.t 73) (.c (.int .i64 1))⟩,
  ⟨some 75, none, .pick (.t 72) (.t 74) (.c (.bool false))⟩]
abbrev r188_30 : List SOper := [
  ⟨some 76, none, .mov (.t 0)⟩,
  ⟨some 77, none, .mov (.t 1)⟩,
  ⟨some 78, none, .mov (.t 2)⟩,
  ⟨some 79, none, .mov (.t 4)⟩,
  ⟨some 80, none, .call false (.c (.func 246 [])) [.t 76, .t 77, .t 78, .t 79]⟩]
abbrev c188_31 : SC := .cond (.t 80) (.ret) (.skip)
abbrev c188_32 : SC := .seq (.ops r188_30) c188_31
abbrev c188_33 : SC := .cond (.t 75) c188_32 (.skip)
abbrev c188_34 : SC := .seq (.ops r188_29) c188_33
abbrev r188_35 : List SOper := [
  ⟨some 81, none, .mov (.t 1)⟩,
  ⟨some 82, none, .bin .gtr (.t 81) (.c (.int .i64 0))⟩,
  ⟨some 83, none, .mov (.t 82)⟩,
  ⟨some 84, some (83, true), .mov (.t 4)⟩,
  ⟨some 85, some (83, true), .mov (.t 0)⟩,
  ⟨some 86, some (83, true), .mov (.t 1)⟩,
  ⟨some 87, some (83, true), .bin .sub (.t 86) (.c (.int .i64 1))⟩,
  ⟨some 88, some (83, true), .iaddr none 8 (.t 85) (.t 87)⟩,
  ⟨some 89, some (83, true), .load false true 8 (.t 88)⟩,
  ⟨some 90, some (83, true), .mov (.t 0)⟩,
  ⟨some 91, some (83, true), .mov (.t 13)⟩,
  ⟨some 92, some (83, true), .iaddr none 8 (.t 90) (.t 91)⟩,
  ⟨some 93, some (83, true), .load false true 8 (.t 92)⟩,
  ⟨some 94, some (83, true), .call false (.t 84) [.t 89, .t 93]⟩,
  ⟨some 95, some (83, true), .bin .lss (.t 94) (.c (.int .i64 0))⟩,
  ⟨some 96, some (83, true), .un .not (.t 95)⟩,
  ⟨some 97, none, .pick (.t 83) (.t 96) (.c (.bool false))⟩]
abbrev r188_36 : List SOper := [
  ⟨some 98, none, .mov (.t 0)⟩,
  ⟨some 99, none, .mov (.t 1)⟩,
  ⟨some 100, none, .mov (.t 2)⟩,
  ⟨some 101, none, .mov (.t 13)⟩,
  ⟨some 102, none, .mov (.t 4)⟩,
  ⟨some 103, none, .call false (.c (.func 247 [])) [.t 98, .t 99, .t 100, .t 101, .t 102]⟩,
  ⟨some 15, none, .mov (.t 103)⟩]
abbrev r188_37 : List SOper := [
  ⟨some 104, none, .mov (.t 15)⟩,
  ⟨some 1, none, .mov (.t 104)⟩]
abbrev c188_38 : SC := .seq (.ops r188_37) (.exit 1)
abbrev c188_39 : SC := .seq (.ops r188_36) c188_38
abbrev c188_40 : SC := .cond (.t 97) c188_39 (.skip)
abbrev c188_41 : SC := .seq (.draw 0 [[], [0], [1], [2], [2], [2], [5], [4, 6], [7], [2], [2], [9, 10], [11], [3, 8, 12], [13], [14], [15]] r188_35) c188_40
abbrev r188_42 : List SOper := [
  ⟨some 106, none, .mov (.t 0)⟩,
  ⟨some 107, none, .mov (.t 1)⟩,
  ⟨some 108, none, .mov (.t 2)⟩,
  ⟨some 109, none, .mov (.t 13)⟩,
  ⟨some 110, none, .mov (.t 4)⟩,
  ⟨some 111, none, .call false (.c (.func 248 [])) [.t 106, .t 107, .t 108, .t 109, .t 110]⟩,
  ⟨some 105, none, .mov (.t 111)⟩,
  ⟨some 112, none, .extract (.t 105) 0⟩,
  ⟨some 113, none, .extract (.t 105) 1⟩,
  ⟨some 16, none, .mov (.t 112)⟩,
  ⟨some 17, none, .mov (.t 113)⟩]
abbrev r188_43 : List SOper := [
  ⟨some 114, none, .mov (.t 17)⟩,
  ⟨some 11, none, .mov (.t 114)⟩]
abbrev r188_44 : List SOper := [
  ⟨some 115, none, .mov (.t 16)⟩,
  ⟨some 116, none, .mov (.t 1)⟩,
  ⟨some 117, none, .bin .sub (.t 115) (.t 116)⟩,
  ⟨some 118, none, .mov (.t 2)⟩,
  ⟨some 119, none, .mov (.t 16)⟩,
  ⟨some 120, none, .bin .sub (.t 118) (.t 119)⟩,
  ⟨some 18, none, .mov (.t 117)⟩,
  ⟨some 19, none, .mov (.t 120)⟩]
abbrev r188_45 : List SOper := [
  ⟨some 121, none, .mov (.t 12)⟩,
  ⟨some 122, none, .bin .quo (.t 121) (.c (.int .i64 8))⟩,
  ⟨some 20, none, .mov (.t 122)⟩]
abbrev r188_46 : List SOper := [
  ⟨some 123, none, .mov (.t 18)⟩,
  ⟨some 124, none, .mov (.t 19)⟩,
  ⟨some 125, none, .bin .lss (.t 123) (.t 124)⟩]
abbrev r188_47 : List SOper := [
  ⟨some 126, none, .mov (.t 18)⟩,
  ⟨some 127, none, .mov (.t 20)⟩,
  ⟨some 128, none, .bin .geq (.t 126) (.t 127)⟩,
  ⟨some 10, none, .mov (.t 128)⟩]
abbrev r188_48 : List SOper := [
  ⟨some 129, none, .mov (.t 0)⟩,
  ⟨some 130, none, .mov (.t 1)⟩,
  ⟨some 131, none, .mov (.t 16)⟩,
  ⟨some 132, none, .mov (.t 3)⟩,
  ⟨some 133, none, .mov (.t 4)⟩,
  ⟨some 134, none, .call false (.c (.func 188 [])) [.t 129, .t 130, .t 131, .t 132, .t 133]⟩]
abbrev r188_49 : List SOper := [
  ⟨some 135, none, .mov (.t 16)⟩,
  ⟨some 136, none, .bin .add (.t 135) (.c (.int .i64 1))⟩,
  ⟨some 1, none, .mov (.t 136)⟩]
abbrev c188_50 : SC := .seq (.ops r188_48) (.ops r188_49)
abbrev c188_51 : SC := .seq (.ops r188_47) c188_50
abbrev r188_52 : List SOper := [
  ⟨some 137, none, .mov (.t 19)⟩,
  ⟨some 138, none, .mov (.t 20)⟩,
  ⟨some 139, none, .bin .geq (.t 137) (.t 138)⟩,
  ⟨some 10, none, .mov (.t 139)⟩]
abbrev r188_53 : List SOper := [
  ⟨some 140, none, .mov (.t 0)⟩,
  ⟨some 141, none, .mov (.t 16)⟩,
  ⟨some 142, none, .bin .add (.t 141) (.c (.int .i64 1))⟩,
  ⟨some 143, none, .mov (.t 2)⟩,
  ⟨some 144, none, .mov (.t 3)⟩,
  ⟨some 145, none, .mov (.t 4)⟩,
  ⟨some 146, none, .call false (.c (.func 188 [])) [.t 140, .t 142, .t 143, .t 144, .t 145]⟩]
abbrev r188_54 : List SOper := [
  ⟨some 147, none, .mov (.t 16)⟩,
  ⟨some 2, none, .mov (.t 147)⟩]
abbrev c188_55 : SC := .seq (.ops r188_53) (.ops r188_54)
abbrev c188_56 : SC := .seq (.ops r188_52) c188_55
abbrev c188_57 : SC := .cond (.t 125) c188_51 c188_56
abbrev c188_58 : SC := .seq (.ops r188_46) c188_57
abbrev c188_59 : SC := .seq (.ops r188_45) c188_58
abbrev c188_60 : SC := .seq (.ops r188_44) c188_59
abbrev c188_61 : SC := .seq (.ops r188_43) c188_60
abbrev c188_62 : SC := .seq (.ops r188_42) c188_61
abbrev c188_63 : SC := .seq c188_41 c188_62
abbrev c188_64 : SC := .seq c188_34 c188_63
abbrev c188_65 : SC := .seq c188_28 c188_64
abbrev c188_66 : SC := .seq (.ops r188_20) c188_65
abbrev c188_67 : SC := .seq c188_19 c188_66
abbrev c188_68 : SC := .seq c188_13 c188_67
abbrev c188_69 : SC := .seq c188_8 c188_68
abbrev c188_70 : SC := .seq (.ops r188_3) c188_69
abbrev c188_71 : SC := .block 1 [0, 1, 2, 3, 4, 10, 11] [] c188_70
abbrev L188_1 : SC := .loop [0, 1, 2, 3, 4, 10, 11] [] c188_71
abbrev c188_72 : SC := .block 0 [] [] L188_1
abbrev c188_73 : SC := .seq (.ops r188_2) c188_72
abbrev c188_74 : SC := .seq (.ops r188_1) c188_73
def s188 : SF := ⟨[], c188_74, false, none, none⟩
/-! math/bits.Len -/
abbrev r189_1 : List SOper := [
  ⟨some 2, none, .mov (.c (.int .i64 0))⟩]
abbrev r189_2 : List SOper := [
  ⟨some 3, none, .mov (.t 0)⟩,
  ⟨some 4, none, .cvI .u32 (.t 3)⟩,
  ⟨some 5, none, .call false (.c (.func 249 [])) [.t 4]⟩,
  ⟨some 2, none, .mov (.t 5)⟩]
abbrev c189_3 : SC := .seq (.ops r189_2) (.ret)
abbrev c189_4 : SC := .cond (.c (.bool false)) c189_3 (.skip)
abbrev r189_5 : List SOper := [
  ⟨some 6, none, .mov (.t 0)⟩,
  ⟨some 7, none, .call false (.c (.func 250 [])) [.t 6]⟩,
  ⟨some 2, none, .mov (.t 7)⟩]
abbrev c189_6 : SC := .seq (.ops r189_5) (.ret)
abbrev c189_7 : SC := .seq c189_4 c189_6
abbrev c189_8 : SC := .seq (.ops r189_1) c189_7
def s189 : SF := ⟨[.t 2], c189_8, false, none, none⟩
/-! (*crannog/calls.desk).spare -/
abbrev r190_1 : List SOper := [
  ⟨some 4, none, .allocL [.nils, .int .i64 0, .int .i64 0]⟩,
  ⟨some 5, none, .mov (.c (.str []))⟩]
abbrev r190_2 : List SOper := [
  ⟨some 12, none, .mov (.t 1)⟩,
  ⟨some 13, none, .call false (.c (.func 251 [])) [.t 12]⟩,
  ⟨some 11, none, .mov (.t 13)⟩,
  ⟨some 14, none, .extract (.t 11) 0⟩,
  ⟨some 15, none, .extract (.t 11) 1⟩,
  ⟨some 16, none, .extract (.t 11) 2⟩,
  ⟨some 6, none, .mov (.t 14)⟩,
  ⟨some 7, none, .mov (.t 15)⟩,
  ⟨some 8, none, .mov (.t 16)⟩]
abbrev r190_3 : List SOper := [
  ⟨some 17, none, .mov (.t 8)⟩,
  ⟨some 18, none, .bin .eql (.t 17) (.c (.int .i64 16))⟩]
abbrev r190_4 : List SOper := [
  ⟨some 8, none, .mov (.c (.int .i64 17))⟩]
abbrev c190_5 : SC := .cond (.t 18) (.ops r190_4) (.skip)
abbrev c190_6 : SC := .seq (.ops r190_3) c190_5
abbrev r190_7 : List SOper := [
  ⟨some 19, none, .mov (.t 8)⟩,
  ⟨some 20, none, .call false (.c (.func 69 [])) [.t 19]⟩]
abbrev r190_8 : List SOper := [
  ⟨some 22, none, .mov (.t 6)⟩,
  ⟨some 23, none, .call false (.c (.func 252 [])) [.t 22]⟩,
  ⟨some 21, none, .mov (.t 23)⟩,
  ⟨some 24, none, .extract (.t 21) 0⟩,
  ⟨some 25, none, .extract (.t 21) 1⟩,
  ⟨some 9, none, .mov (.t 24)⟩,
  ⟨some 8, none, .mov (.t 25)⟩]
abbrev r190_9 : List SOper := [
  ⟨some 26, none, .mov (.t 8)⟩,
  ⟨some 27, none, .call false (.c (.func 69 [])) [.t 26]⟩]
abbrev r190_10 : List SOper := [
  ⟨some 28, none, .mov (.t 0)⟩,
  ⟨some 29, none, .mov (.t 9)⟩,
  ⟨some 30, none, .call false (.c (.func 196 [])) [.t 28, .t 29]⟩,
  ⟨some 10, none, .allocL [.nils, .int .i64 0, .int .i64 0]⟩,
  ⟨none, none, .store 3 (.t 10) (.t 30)⟩]
abbrev r190_11 : List SOper := [
  ⟨some 31, none, .mov (.t 0)⟩,
  ⟨some 32, none, .load false true 3 (.t 10)⟩,
  ⟨some 33, none, .call false (.c (.func 197 [])) [.t 31, .t 32]⟩,
  ⟨some 34, none, .bin .eql (.t 33) (.c (.int .i64 2))⟩,
  ⟨some 35, none, .call false (.c (.func 114 [])) [.t 34, .c (.int .i64 20)]⟩]
abbrev r190_12 : List SOper := [
  ⟨some 36, none, .load false true 3 (.t 10)⟩,
  ⟨some 37, none, .call false (.c (.func 199 [])) [.t 36]⟩,
  ⟨some 38, none, .un .not (.t 37)⟩,
  ⟨some 39, none, .mov (.t 38)⟩,
  ⟨some 40, some (39, true), .load false true 3 (.t 10)⟩,
  ⟨some 41, some (39, true), .call false (.c (.func 198 [])) [.t 40]⟩,
  ⟨some 42, some (39, true), .mov (.t 41)⟩,
  ⟨some 43, some (42, true), .mov (.t 7)⟩,
  ⟨some 44, some (42, true), .bin .eql (.t 43) (.c (.str [46, 108, 111, 115, 116]))⟩,
  ⟨some 45, some (39, true), .pick (.t 42) (.t 44) (.c (.bool false))⟩,
  ⟨some 46, some (39, true), .un .not (.t 45)⟩,
  ⟨some 47, none, .pick (.t 39) (.t 46) (.c (.bool false))⟩,
  ⟨some 48, none, .call false (.c (.func 114 [])) [.t 47, .c (.int .i64 1)]⟩]
abbrev r190_13 : List SOper := [
  ⟨some 49, none, .load false true 3 (.t 10)⟩,
  ⟨some 50, none, .mov (.t 7)⟩,
  ⟨none, none, .store 3 (.t 4) (.t 49)⟩,
  ⟨some 5, none, .mov (.t 50)⟩]
abbrev c190_14 : SC := .seq (.ops r190_13) (.ret)
abbrev c190_15 : SC := .seq (.ops r190_12) c190_14
abbrev c190_16 : SC := .seq (.ops r190_11) c190_15
abbrev c190_17 : SC := .seq (.ops r190_10) c190_16
abbrev c190_18 : SC := .seq (.ops r190_9) c190_17
abbrev c190_19 : SC := .seq (.ops r190_8) c190_18
abbrev c190_20 : SC := .seq (.ops r190_7) c190_19
abbrev c190_21 : SC := .seq c190_6 c190_20
abbrev c190_22 : SC := .seq (.ops r190_2) c190_21
abbrev c190_23 : SC := .seq (.ops r190_1) c190_22
def s190 : SF := ⟨[.c 4 true 3, .t 5], c190_23, false, none, none⟩
/-! (*crannog/calls.desk).free -/
abbrev r191_1 : List SOper := [
  ⟨some 4, none, .boxH none (.t 1)⟩,
  ⟨some 5, none, .boxH none (.t 2)⟩]
abbrev r191_2 : List SOper := [
  ⟨some 6, none, .mov (.t 0)⟩,
  ⟨some 7, none, .nilck (.t 6)⟩,
  ⟨some 8, none, .faddr 10 (.t 7)⟩,
  ⟨some 9, none, .load false false 1 (.t 8)⟩,
  ⟨some 10, none, .mkfn 253 [.t 4, .t 5]⟩,
  ⟨some 11, none, .call false (.c (.func 203 [])) [.t 9, .t 10]⟩,
  ⟨some 12, none, .un .not (.t 11)⟩,
  ⟨some 13, none, .call false (.c (.func 114 [])) [.t 12, .c (.int .i64 17)]⟩]
abbrev c191_3 : SC := .seq (.ops r191_1) (.ops r191_2)
def s191 : SF := ⟨[], c191_3, false, none, none⟩
/-! crannog/calls.time -/
abbrev r192_1 : List SOper := [
  ⟨some 1, none, .boxL (.t 0)⟩,
  ⟨some 2, none, .mov (.c (.int .u64 0))⟩]
abbrev r192_2 : List SOper := [
  ⟨some 6, none, .faddr 6 (.t 1)⟩,
  ⟨some 7, none, .load false false 1 (.t 6)⟩,
  ⟨some 8, none, .call false (.c (.func 67 [])) [.t 7]⟩,
  ⟨some 5, none, .mov (.t 8)⟩,
  ⟨some 9, none, .extract (.t 5) 0⟩,
  ⟨some 10, none, .extract (.t 5) 1⟩,
  ⟨some 3, none, .mov (.t 9)⟩,
  ⟨some 4, none, .mov (.t 10)⟩]
abbrev r192_3 : List SOper := [
  ⟨some 11, none, .mov (.t 4)⟩,
  ⟨some 12, none, .bin .eql (.t 11) (.c (.int .i64 0))⟩,
  ⟨some 13, none, .call false (.c (.func 114 [])) [.t 12, .c (.int .i64 22)]⟩]
abbrev r192_4 : List SOper := [
  ⟨some 14, none, .mov (.t 3)⟩,
  ⟨some 2, none, .mov (.t 14)⟩]
abbrev c192_5 : SC := .seq (.ops r192_4) (.ret)
abbrev c192_6 : SC := .seq (.ops r192_3) c192_5
abbrev c192_7 : SC := .seq (.ops r192_2) c192_6
abbrev c192_8 : SC := .seq (.ops r192_1) c192_7
def s192 : SF := ⟨[.t 2], c192_8, false, none, none⟩
/-! (*crannog/calls.desk).room -/
abbrev r193_1 : List SOper := [
  ⟨some 4, none, .mov (.t 0)⟩,
  ⟨some 5, none, .nilck (.t 4)⟩,
  ⟨some 6, none, .faddr 0 (.t 5)⟩,
  ⟨some 7, none, .faddr 8 (.t 6)⟩,
  ⟨some 8, none, .load false false 1 (.t 7)⟩,
  ⟨some 9, none, .len 1 (.t 8)⟩,
  ⟨some 10, none, .mov (.t 1)⟩,
  ⟨some 11, none, .bin .add (.t 9) (.t 10)⟩,
  ⟨some 12, none, .bin .leq (.t 11) (.c (.int .i64 60))⟩,
  ⟨some 13, none, .mov (.t 12)⟩,
  ⟨some 14, some (13, true), .mov (.t 0)⟩,
  ⟨some 15, some (13, true), .nilck (.t 14)⟩,
  ⟨some 16, some (13, true), .faddr 0 (.t 15)⟩,
  ⟨some 17, some (13, true), .faddr 9 (.t 16)⟩,
  ⟨some 18, some (13, true), .load false false 1 (.t 17)⟩,
  ⟨some 19, some (13, true), .len 1 (.t 18)⟩,
  ⟨some 20, some (13, true), .bin .lss (.t 19) (.c (.int .i64 80))⟩,
  ⟨some 21, none, .pick (.t 13) (.t 20) (.c (.bool false))⟩,
  ⟨some 22, none, .call false (.c (.func 114 [])) [.t 21, .c (.int .i64 28)]⟩]
def s193 : SF := ⟨[], .ops r193_1, false, none, none⟩
/-! (*crannog/calls.desk).begin -/
abbrev r194_1 : List SOper := [
  ⟨some 2, none, .mov (.t 0)⟩,
  ⟨some 3, none, .nilck (.t 2)⟩,
  ⟨some 4, none, .faddr 13 (.t 3)⟩,
  ⟨some 5, none, .load false false 1 (.t 4)⟩,
  ⟨some 6, none, .call false (.c (.func 69 [])) [.t 5]⟩]
abbrev r194_2 : List SOper := [
  ⟨some 7, none, .mov (.t 0)⟩,
  ⟨some 8, none, .build [.int .i64 0, .int .i64 0, .int .i64 0, .int .i64 0, .int .i64 0, .int .i64 0, .int .i64 0, .int .i64 0] []⟩,
  ⟨some 9, none, .mov (.t 0)⟩,
  ⟨some 10, none, .nilck (.t 9)⟩,
  ⟨some 11, none, .faddr 11 (.t 10)⟩,
  ⟨some 12, none, .load false true 2 (.t 11)⟩,
  ⟨some 13, none, .call false (.c (.func 254 [])) [.t 8, .t 12]⟩,
  ⟨some 14, none, .nilck (.t 7)⟩,
  ⟨some 15, none, .faddr 14 (.t 14)⟩,
  ⟨some 16, none, .faddr 0 (.t 15)⟩,
  ⟨none, none, .store 8 (.t 16) (.t 13)⟩]
abbrev c194_3 : SC := .seq (.ops r194_1) (.ops r194_2)
def s194 : SF := ⟨[], c194_3, false, none, none⟩
/-! (*crannog/calls.desk).place -/
abbrev r195_1 : List SOper := [
  ⟨some 5, none, .boxL (.t 1)⟩,
  ⟨some 7, none, .boxL (.t 3)⟩]
abbrev r195_2 : List SOper := [
  ⟨some 8, none, .mov (.t 0)⟩,
  ⟨some 9, none, .faddr 0 (.t 5)⟩,
  ⟨some 10, none, .load false false 1 (.t 9)⟩,
  ⟨some 11, none, .call false (.c (.func 207 [])) [.t 8, .t 10]⟩]
abbrev r195_3 : List SOper := [
  ⟨some 12, none, .mov (.t 0)⟩,
  ⟨some 13, none, .mov (.t 0)⟩,
  ⟨some 14, none, .nilck (.t 13)⟩,
  ⟨some 15, none, .faddr 11 (.t 14)⟩,
  ⟨some 16, none, .load false true 2 (.t 15)⟩,
  ⟨some 17, none, .load false true 2 (.t 7)⟩,
  ⟨some 18, none, .mov (.t 0)⟩,
  ⟨some 19, none, .nilck (.t 18)⟩,
  ⟨some 20, none, .faddr 11 (.t 19)⟩,
  ⟨some 21, none, .load false true 2 (.t 20)⟩,
  ⟨some 22, none, .faddr 1 (.t 5)⟩,
  ⟨some 23, none, .load false true 2 (.t 22)⟩,
  ⟨some 24, none, .mov (.t 2)⟩,
  ⟨some 25, none, .mov (.t 0)⟩,
  ⟨some 26, none, .nilck (.t 25)⟩,
  ⟨some 27, none, .faddr 14 (.t 26)⟩,
  ⟨some 28, none, .faddr 0 (.t 27)⟩,
  ⟨some 29, none, .load false true 8 (.t 28)⟩,
  ⟨some 30, none, .build [.int .i64 0, .int .i64 0, .int .i64 0, .int .i64 0, .int .i64 0, .int .i64 0, .int .i64 0, .int .i64 0, .str [], .int .i64 0, .int .i64 0, .int .i64 0, .int .i64 0, .int .i64 0, .int .i64 0, .int .i64 0, .int .i64 0, .int .i64 0, .int .i64 0, .int .i64 0, .int .i64 0, .int .i64 0, .int .i64 0, .int .i64 0, .int .i64 0] [(0, 2, .t 16), (2, 2, .t 17), (4, 2, .t 21), (6, 2, .t 23), (8, 1, .t 24), (9, 8, .t 29)]⟩,
  ⟨some 31, none, .call false (.c (.func 208 [])) [.t 12, .t 30]⟩]
abbrev c195_4 : SC := .seq (.ops r195_2) (.draw 0 [[], [], [1], [2], [3], [], [], [6], [7], [8], [], [10], [], [], [13], [14], [15], [16], [4, 5, 9, 11, 12, 17], [0, 18]] r195_3)
abbrev c195_5 : SC := .seq (.ops r195_1) c195_4
def s195 : SF := ⟨[], c195_5, false, none, none⟩
/-! (*crannog/calls.desk).find -/
abbrev r196_1 : List SOper := [
  ⟨some 4, none, .allocL [.nils, .int .i64 0, .int .i64 0]⟩]
abbrev r196_2 : List SOper := [
  ⟨some 10, none, .mov (.t 1)⟩,
  ⟨some 11, none, .call false (.c (.func 84 [])) [.t 10]⟩,
  ⟨some 9, none, .mov (.t 11)⟩,
  ⟨some 12, none, .extract (.t 9) 0⟩,
  ⟨some 13, none, .extract (.t 9) 1⟩,
  ⟨some 5, none, .mov (.t 12)⟩,
  ⟨some 6, none, .mov (.t 13)⟩]
abbrev r196_3 : List SOper := [
  ⟨some 14, none, .mov (.t 6)⟩,
  ⟨some 15, none, .call false (.c (.func 69 [])) [.t 14]⟩]
abbrev r196_4 : List SOper := [
  ⟨some 17, none, .mov (.t 0)⟩,
  ⟨some 18, none, .nilck (.t 17)⟩,
  ⟨some 19, none, .faddr 0 (.t 18)⟩,
  ⟨some 20, none, .load false true 10 (.t 19)⟩,
  ⟨some 21, none, .mov (.t 0)⟩,
  ⟨some 22, none, .nilck (.t 21)⟩,
  ⟨some 23, none, .faddr 10 (.t 22)⟩,
  ⟨some 24, none, .load false false 1 (.t 23)⟩,
  ⟨some 25, none, .mov (.t 5)⟩,
  ⟨some 26, none, .call false (.c (.func 85 [])) [.t 20, .t 24, .t 25]⟩,
  ⟨some 16, none, .mov (.t 26)⟩,
  ⟨some 27, none, .extract (.t 16) 0⟩,
  ⟨some 28, none, .extract (.t 16) 1⟩,
  ⟨some 7, none, .mov (.t 27)⟩,
  ⟨some 6, none, .mov (.t 28)⟩]
abbrev r196_5 : List SOper := [
  ⟨some 29, none, .mov (.t 6)⟩,
  ⟨some 30, none, .call false (.c (.func 69 [])) [.t 29]⟩]
abbrev r196_6 : List SOper := [
  ⟨some 31, none, .mov (.t 7)⟩,
  ⟨some 32, none, .build [.nils, .int .i64 0, .int .i64 0] [(0, 1, .t 31)]⟩,
  ⟨some 8, none, .allocL [.nils, .int .i64 0, .int .i64 0]⟩,
  ⟨none, none, .store 3 (.t 8) (.t 32)⟩]
abbrev r196_7 : List SOper := [
  ⟨some 33, none, .mov (.t 7)⟩,
  ⟨some 34, none, .len 1 (.t 33)⟩,
  ⟨some 35, none, .bin .gtr (.t 34) (.c (.int .i64 0))⟩]
abbrev r196_8 : List SOper := [
  ⟨some 36, none, .mov (.t 7)⟩,
  ⟨some 37, none, .mov (.t 7)⟩,
  ⟨some 38, none, .len 1 (.t 37)⟩,
  ⟨some 39, none, .bin .sub (.t 38) (.c (.int .i64 1))⟩,
  ⟨some 40, none, .iaddr none 8 (.t 36) (.t 39)⟩,
  ⟨some 41, none, .faddr 2 (.t 40)⟩,
  ⟨some 42, none, .load false true 2 (.t 41)⟩,
  ⟨some 43, none, .faddr 1 (.t 8)⟩,
  ⟨none, none, .store 2 (.t 43) (.t 42)⟩]
abbrev c196_9 : SC := .cond (.t 35) (.ops r196_8) (.skip)
abbrev c196_10 : SC := .seq (.ops r196_7) c196_9
abbrev r196_11 : List SOper := [
  ⟨some 44, none, .load false true 3 (.t 8)⟩,
  ⟨none, none, .store 3 (.t 4) (.t 44)⟩]
abbrev c196_12 : SC := .seq (.ops r196_11) (.ret)
abbrev c196_13 : SC := .seq c196_10 c196_12
abbrev c196_14 : SC := .seq (.ops r196_6) c196_13
abbrev c196_15 : SC := .seq (.ops r196_5) c196_14
abbrev c196_16 : SC := .seq (.draw 0 [[], [0], [1], [2], [], [4], [5], [6], [], [3, 7, 8], [9], [10], [10], [11], [12, 13]] r196_4) c196_15
abbrev c196_17 : SC := .seq (.ops r196_3) c196_16
abbrev c196_18 : SC := .seq (.ops r196_2) c196_17
abbrev c196_19 : SC := .seq (.ops r196_1) c196_18
def s196 : SF := ⟨[.c 4 true 3], c196_19, false, none, none⟩
/-! (*crannog/calls.desk).kind -/
abbrev r197_1 : List SOper := [
  ⟨some 3, none, .boxL (.t 1)⟩,
  ⟨some 4, none, .mov (.c (.int .i64 0))⟩]
abbrev r197_2 : List SOper := [
  ⟨some 5, none, .mov (.t 0)⟩,
  ⟨some 6, none, .nilck (.t 5)⟩,
  ⟨some 7, none, .faddr 0 (.t 6)⟩,
  ⟨some 8, none, .load false true 10 (.t 7)⟩,
  ⟨some 9, none, .faddr 1 (.t 3)⟩,
  ⟨some 10, none, .load false true 2 (.t 9)⟩,
  ⟨some 11, none, .call false (.c (.func 86 [])) [.t 8, .t 10]⟩,
  ⟨some 4, none, .mov (.t 11)⟩]
abbrev c197_3 : SC := .seq (.draw 0 [[], [0], [1], [2], [], [4], [3, 5], [6]] r197_2) (.ret)
abbrev c197_4 : SC := .seq (.ops r197_1) c197_3
def s197 : SF := ⟨[.t 4], c197_4, false, none, none⟩
/-! (crannog/calls.spot).root -/
abbrev r198_1 : List SOper := [
  ⟨some 1, none, .boxL (.t 0)⟩,
  ⟨some 2, none, .mov (.c (.bool false))⟩]
abbrev r198_2 : List SOper := [
  ⟨some 3, none, .faddr 0 (.t 1)⟩,
  ⟨some 4, none, .load false false 1 (.t 3)⟩,
  ⟨some 5, none, .len 1 (.t 4)⟩,
  ⟨some 6, none, .bin .eql (.t 5) (.c (.int .i64 0))⟩,
  ⟨some 2, none, .mov (.t 6)⟩]
abbrev c198_3 : SC := .seq (.ops r198_2) (.ret)
abbrev c198_4 : SC := .seq (.ops r198_1) c198_3
def s198 : SF := ⟨[.t 2], c198_4, false, none, none⟩
/-! (crannog/calls.spot).odd -/
abbrev r199_1 : List SOper := [
  ⟨some 1, none, .boxL (.t 0)⟩,
  ⟨some 2, none, .mov (.c (.bool false))⟩]
abbrev r199_2 : List SOper := [
  ⟨some 3, none, .faddr 1 (.t 1)⟩,
  ⟨some 4, none, .load true true 2 (.t 3)⟩,
  ⟨some 5, none, .call true (.c (.func 127 [])) []⟩,
  ⟨some 6, none, .cmpA false [.int .i64, .int .i64] (.t 4) (.t 5)⟩,
  ⟨some 2, none, .mov (.t 6)⟩]
abbrev c199_3 : SC := .seq (.draw 0 [[], [0], [], [1, 2], [3]] r199_2) (.ret)
abbrev c199_4 : SC := .seq (.ops r199_1) c199_3
def s199 : SF := ⟨[.t 2], c199_4, false, none, none⟩
/-! slices.ContainsFunc[[]crannog/api.Shown,crannog/api.Shown] -/
abbrev r203_1 : List SOper := [
  ⟨some 4, none, .mov (.c (.bool false))⟩]
abbrev r203_2 : List SOper := [
  ⟨some 5, none, .mov (.t 0)⟩,
  ⟨some 6, none, .mov (.t 1)⟩,
  ⟨some 7, none, .call false (.c (.func 205 [])) [.t 5, .t 6]⟩,
  ⟨some 8, none, .bin .geq (.t 7) (.c (.int .i64 0))⟩,
  ⟨some 4, none, .mov (.t 8)⟩]
abbrev c203_3 : SC := .seq (.ops r203_2) (.ret)
abbrev c203_4 : SC := .seq (.ops r203_1) c203_3
def s203 : SF := ⟨[.t 4], c203_4, false, none, none⟩
/-! slices.IndexFunc[[]crannog/api.Shown,crannog/api.Shown] -/
abbrev r205_1 : List SOper := [
  ⟨some 4, none, .mov (.c (.int .i64 0))⟩]
abbrev r205_2 : List SOper := [
  ⟨some 6, none, .mov (.t 0)⟩,
  ⟨some 7, none, .len 1 (.t 6)⟩,
  ⟨some 8, none, .mov (.c (.int .i64 0))⟩]
abbrev r205_3 : List SOper := [
  ⟨some 9, none, .bin .lss (.t 8) (.t 7)⟩]
abbrev c205_4 : SC := .cond (.t 9) (.skip) (.exit 0)
abbrev r205_5 : List SOper := [
  ⟨some 10, none, .mov (.t 8)⟩,
  ⟨some 5, none, .mov (.t 10)⟩]
abbrev r205_6 : List SOper := [
  ⟨some 11, none, .mov (.t 1)⟩,
  ⟨some 12, none, .mov (.t 0)⟩,
  ⟨some 13, none, .mov (.t 5)⟩,
  ⟨some 14, none, .iaddr none 8 (.t 12) (.t 13)⟩,
  ⟨some 15, none, .load false true 8 (.t 14)⟩,
  ⟨some 16, none, .call false (.t 11) [.t 15]⟩]
abbrev r205_7 : List SOper := [
  ⟨some 17, none, .mov (.t 5)⟩,
  ⟨some 4, none, .mov (.t 17)⟩]
abbrev c205_8 : SC := .seq (.ops r205_7) (.ret)
abbrev c205_9 : SC := .cond (.t 16) c205_8 (.skip)
abbrev c205_10 : SC := .seq (.ops r205_6) c205_9
abbrev c205_11 : SC := .seq (.ops r205_5) c205_10
abbrev c205_12 : SC := .block 1 [0, 1, 7, 8] [] c205_11
abbrev r205_13 : List SOper := [
  ⟨some 18, none, .bin .add (.t 8) (.c (.int .i64 1))⟩,
  ⟨some 8, none, .mov (.t 18)⟩]
abbrev c205_14 : SC := .seq c205_12 (.ops r205_13)
abbrev c205_15 : SC := .seq c205_4 c205_14
abbrev c205_16 : SC := .seq (.ops r205_3) c205_15
abbrev L205_1 : SC := .loop [0, 1, 7, 8] [] c205_16
abbrev c205_17 : SC := .block 0 [] [] L205_1
abbrev c205_18 : SC := .seq (.ops r205_2) c205_17
abbrev r205_19 : List SOper := [
  ⟨some 4, none, .mov (.c (.int .i64 (-1)))⟩]
abbrev c205_20 : SC := .seq (.ops r205_19) (.ret)
abbrev c205_21 : SC := .seq c205_18 c205_20
abbrev c205_22 : SC := .seq (.ops r205_1) c205_21
def s205 : SF := ⟨[.t 4], c205_22, false, none, none⟩
/-! (*crannog/calls.desk).touch -/
abbrev r207_1 : List SOper := [
  ⟨some 6, none, .mov (.t 1)⟩,
  ⟨some 7, none, .len 1 (.t 6)⟩,
  ⟨some 8, none, .mov (.c (.int .i64 0))⟩]
abbrev r207_2 : List SOper := [
  ⟨some 9, none, .bin .lss (.t 8) (.t 7)⟩]
abbrev c207_3 : SC := .cond (.t 9) (.skip) (.exit 0)
abbrev r207_4 : List SOper := [
  ⟨some 10, none, .iaddr none 8 (.t 6) (.t 8)⟩,
  ⟨some 11, none, .load false true 8 (.t 10)⟩,
  ⟨some 5, none, .allocL [.int .i64 0, .int .i64 0, .int .i64 0, .int .i64 0, .int .i64 0, .int .i64 0, .str [], .bool false]⟩,
  ⟨none, none, .store 8 (.t 5) (.t 11)⟩]
abbrev r207_5 : List SOper := [
  ⟨some 12, none, .faddr 0 (.t 5)⟩,
  ⟨some 13, none, .load false true 2 (.t 12)⟩,
  ⟨some 14, none, .build [.int .i64 0, .int .i64 0] []⟩,
  ⟨some 15, none, .cmpA true [.int .i64, .int .i64] (.t 13) (.t 14)⟩]
abbrev r207_6 : List SOper := [
  ⟨some 16, none, .mov (.t 0)⟩,
  ⟨some 17, none, .faddr 0 (.t 5)⟩,
  ⟨some 18, none, .load false true 2 (.t 17)⟩,
  ⟨some 19, none, .mov (.t 0)⟩,
  ⟨some 20, none, .nilck (.t 19)⟩,
  ⟨some 21, none, .faddr 14 (.t 20)⟩,
  ⟨some 22, none, .faddr 0 (.t 21)⟩,
  ⟨some 23, none, .load false true 8 (.t 22)⟩,
  ⟨some 24, none, .build [.int .i64 0, .int .i64 0, .int .i64 0, .int .i64 0, .int .i64 0, .int .i64 0, .int .i64 0, .int .i64 0, .str [], .int .i64 0, .int .i64 0, .int .i64 0, .int .i64 0, .int .i64 0, .int .i64 0, .int .i64 0, .int .i64 0, .int .i64 0, .int .i64 0, .int .i64 0, .int .i64 0, .int .i64 0, .int .i64 0, .int .i64 0, .int .i64 0] [(0, 2, .t 18), (9, 8, .t 23)]⟩,
  ⟨some 25, none, .call false (.c (.func 208 [])) [.t 16, .t 24]⟩]
abbrev c207_7 : SC := .cond (.t 15) (.draw 0 [[], [], [1], [], [3], [4], [5], [6], [2, 7], [0, 8]] r207_6) (.skip)
abbrev c207_8 : SC := .seq (.ops r207_5) c207_7
abbrev c207_9 : SC := .seq (.ops r207_4) c207_8
abbrev c207_10 : SC := .block 1 [0, 6, 7, 8] [] c207_9
abbrev r207_11 : List SOper := [
  ⟨some 26, none, .bin .add (.t 8) (.c (.int .i64 1))⟩,
  ⟨some 8, none, .mov (.t 26)⟩]
abbrev c207_12 : SC := .seq c207_10 (.ops r207_11)
abbrev c207_13 : SC := .seq c207_3 c207_12
abbrev c207_14 : SC := .seq (.ops r207_2) c207_13
abbrev L207_1 : SC := .loop [0, 6, 7, 8] [] c207_14
abbrev c207_15 : SC := .block 0 [] [] L207_1
abbrev c207_16 : SC := .seq (.ops r207_1) c207_15
def s207 : SF := ⟨[], c207_16, false, none, none⟩
/-! (*crannog/calls.desk).write -/
abbrev r208_1 : List SOper := [
  ⟨some 3, none, .boxH none (.t 1)⟩]
abbrev r208_2 : List SOper := [
  ⟨some 6, none, .mov (.t 0)⟩,
  ⟨some 7, none, .nilck (.t 6)⟩,
  ⟨some 8, none, .faddr 14 (.t 7)⟩,
  ⟨some 9, none, .faddr 9 (.t 8)⟩,
  ⟨some 10, none, .load false false 1 (.t 9)⟩,
  ⟨some 11, none, .mkfn 259 [.t 3]⟩,
  ⟨some 12, none, .call false (.c (.func 258 [])) [.t 10, .t 11]⟩,
  ⟨some 4, none, .mov (.t 12)⟩]
abbrev r208_3 : List SOper := [
  ⟨some 13, none, .mov (.t 4)⟩,
  ⟨some 14, none, .bin .lss (.t 13) (.c (.int .i64 0))⟩]
abbrev r208_4 : List SOper := [
  ⟨some 15, none, .mov (.t 0)⟩,
  ⟨some 16, none, .mov (.t 0)⟩,
  ⟨some 17, none, .nilck (.t 16)⟩,
  ⟨some 18, none, .faddr 14 (.t 17)⟩,
  ⟨some 19, none, .faddr 9 (.t 18)⟩,
  ⟨some 20, none, .load false false 1 (.t 19)⟩,
  ⟨some 21, none, .load false true 25 (.t 3)⟩,
  ⟨some 22, none, .bsnap 25 [.t 21]⟩,
  ⟨some 23, none, .append 25 208 (.t 20) (.t 22)⟩,
  ⟨some 24, none, .nilck (.t 15)⟩,
  ⟨some 25, none, .faddr 14 (.t 24)⟩,
  ⟨some 26, none, .faddr 9 (.t 25)⟩,
  ⟨none, none, .store 1 (.t 26) (.t 23)⟩]
abbrev r208_5 : List SOper := [
  ⟨some 27, none, .mov (.t 0)⟩,
  ⟨some 28, none, .nilck (.t 27)⟩,
  ⟨some 29, none, .faddr 14 (.t 28)⟩,
  ⟨some 30, none, .faddr 9 (.t 29)⟩,
  ⟨some 31, none, .load false false 1 (.t 30)⟩,
  ⟨some 32, none, .call false (.c (.func 260 [])) [.t 31, .c (.func 261 [])]⟩]
abbrev c208_6 : SC := .seq (.ops r208_5) (.ret)
abbrev c208_7 : SC := .seq (.draw 0 [[], [], [1], [2], [3], [4], [], [6], [5, 7], [0, 8], [9], [10], [11]] r208_4) c208_6
abbrev c208_8 : SC := .cond (.t 14) c208_7 (.skip)
abbrev c208_9 : SC := .seq (.ops r208_3) c208_8
abbrev r208_10 : List SOper := [
  ⟨some 33, none, .mov (.t 0)⟩,
  ⟨some 34, none, .nilck (.t 33)⟩,
  ⟨some 35, none, .faddr 14 (.t 34)⟩,
  ⟨some 36, none, .faddr 9 (.t 35)⟩,
  ⟨some 37, none, .load false false 1 (.t 36)⟩,
  ⟨some 38, none, .mov (.t 4)⟩,
  ⟨some 39, none, .iaddr none 25 (.t 37) (.t 38)⟩,
  ⟨some 5, none, .mov (.t 39)⟩]
abbrev r208_11 : List SOper := [
  ⟨some 40, none, .faddr 4 (.t 3)⟩,
  ⟨some 41, none, .load false true 2 (.t 40)⟩,
  ⟨some 42, none, .build [.int .i64 0, .int .i64 0] []⟩,
  ⟨some 43, none, .cmpA true [.int .i64, .int .i64] (.t 41) (.t 42)⟩]
abbrev r208_12 : List SOper := [
  ⟨some 44, none, .mov (.t 5)⟩,
  ⟨some 45, none, .mov (.t 5)⟩,
  ⟨some 46, none, .mov (.t 5)⟩,
  ⟨some 47, none, .mov (.t 5)⟩,
  ⟨some 48, none, .faddr 2 (.t 3)⟩,
  ⟨some 49, none, .load false true 2 (.t 48)⟩,
  ⟨some 50, none, .faddr 4 (.t 3)⟩,
  ⟨some 51, none, .loadA .ptr true 2 (.t 50)⟩,
  ⟨some 52, none, .faddr 6 (.t 3)⟩,
  ⟨some 53, none, .loadA .ptr true 2 (.t 52)⟩,
  ⟨some 54, none, .faddr 8 (.t 3)⟩,
  ⟨some 55, none, .loadA .ptr false 1 (.t 54)⟩,
  ⟨some 56, none, .nilck (.t 44)⟩,
  ⟨some 57, none, .faddr 2 (.t 56)⟩,
  ⟨none, none, .storeA .eptr 2 (.t 57) (.t 49)⟩,
  ⟨some 58, none, .nilck (.t 45)⟩,
  ⟨some 59, none, .faddr 4 (.t 58)⟩,
  ⟨none, none, .storeA .eptr 2 (.t 59) (.t 51)⟩,
  ⟨some 60, none, .nilck (.t 46)⟩,
  ⟨some 61, none, .faddr 6 (.t 60)⟩,
  ⟨none, none, .storeA .eptr 2 (.t 61) (.t 53)⟩,
  ⟨some 62, none, .nilck (.t 47)⟩,
  ⟨some 63, none, .faddr 8 (.t 62)⟩,
  ⟨none, none, .store 1 (.t 63) (.t 55)⟩]
abbrev c208_13 : SC := .cond (.t 43) (.draw 0 [[], [], [], [], [], [4], [], [6], [], [8], [], [10], [0, 5], [12], [13], [1, 7, 14], [15], [16], [2, 9, 17], [18], [19], [3, 11, 20], [21], [22]] r208_12) (.skip)
abbrev c208_14 : SC := .seq (.ops r208_11) c208_13
abbrev r208_15 : List SOper := [
  ⟨some 64, none, .mov (.t 5)⟩,
  ⟨some 65, none, .mov (.t 5)⟩,
  ⟨some 66, none, .mov (.t 5)⟩,
  ⟨some 67, none, .nilck (.t 66)⟩,
  ⟨some 68, none, .faddr 9 (.t 67)⟩,
  ⟨some 69, none, .load false true 8 (.t 68)⟩,
  ⟨some 70, none, .faddr 9 (.t 3)⟩,
  ⟨some 71, none, .load false true 8 (.t 70)⟩,
  ⟨some 72, none, .call true (.c (.func 74 [])) [.t 69, .t 71]⟩,
  ⟨some 73, none, .mov (.t 5)⟩,
  ⟨some 74, none, .nilck (.t 73)⟩,
  ⟨some 75, none, .faddr 17 (.t 74)⟩,
  ⟨some 76, none, .load false true 8 (.t 75)⟩,
  ⟨some 77, none, .faddr 17 (.t 3)⟩,
  ⟨some 78, none, .load false true 8 (.t 77)⟩,
  ⟨some 79, none, .call false (.c (.func 74 [])) [.t 76, .t 78]⟩,
  ⟨some 80, none, .nilck (.t 64)⟩,
  ⟨some 81, none, .faddr 9 (.t 80)⟩,
  ⟨none, none, .store 8 (.t 81) (.t 72)⟩,
  ⟨some 82, none, .nilck (.t 65)⟩,
  ⟨some 83, none, .faddr 17 (.t 82)⟩,
  ⟨none, none, .store 8 (.t 83) (.t 79)⟩]
abbrev c208_16 : SC := .seq c208_14 (.draw 0 [[], [], [], [2], [3], [4], [], [6], [5, 7], [], [9], [10], [11], [], [13], [8, 12, 14], [0, 15], [16], [17], [1, 18], [19], [20]] r208_15)
abbrev c208_17 : SC := .seq (.ops r208_10) c208_16
abbrev c208_18 : SC := .seq c208_9 c208_17
abbrev c208_19 : SC := .seq (.ops r208_2) c208_18
abbrev c208_20 : SC := .seq (.ops r208_1) c208_19
def s208 : SF := ⟨[], c208_20, false, none, none⟩
/-! (*crannog/calls.desk).node -/
abbrev r211_1 : List SOper := [
  ⟨some 3, none, .boxL (.t 1)⟩,
  ⟨some 4, none, .allocL [.int .i64 0, .int .i64 0, .int .i64 0, .str [], .int .i64 0, .int .i64 0, .int .i64 0, .int .u64 0, .int .i64 0, .int .i64 0, .int .i64 0, .nils, .nils]⟩]
abbrev r211_2 : List SOper := [
  ⟨some 8, none, .mov (.t 0)⟩,
  ⟨some 9, none, .nilck (.t 8)⟩,
  ⟨some 10, none, .faddr 0 (.t 9)⟩,
  ⟨some 11, none, .loadA .ptr true 10 (.t 10)⟩,
  ⟨some 12, none, .faddr 1 (.t 3)⟩,
  ⟨some 13, none, .loadA (.loc 3) true 2 (.t 12)⟩,
  ⟨some 14, none, .call true (.c (.func 122 [])) [.t 11, .t 13]⟩,
  ⟨some 7, none, .mov (.t 14)⟩,
  ⟨some 15, none, .extract (.t 7) 0⟩,
  ⟨some 16, none, .extract (.t 7) 1⟩,
  ⟨some 5, none, .allocL [.int .i64 0, .int .i64 0, .int .i64 0, .str [], .int .i64 0, .int .i64 0, .int .i64 0, .int .u64 0, .int .i64 0, .int .i64 0, .int .i64 0, .nils, .nils]⟩,
  ⟨none, none, .store 13 (.t 5) (.t 15)⟩,
  ⟨some 6, none, .mov (.t 16)⟩]
abbrev r211_3 : List SOper := [
  ⟨some 17, none, .load false true 13 (.t 5)⟩,
  ⟨none, none, .store 13 (.t 4) (.t 17)⟩]
abbrev c211_4 : SC := .seq (.ops r211_3) (.ret)
abbrev c211_5 : SC := .seq (.draw 0 [[], [0], [1], [2], [], [4], [3, 5], [6], [7], [7], [], [8, 10], [9, 11]] r211_2) c211_4
abbrev c211_6 : SC := .seq (.ops r211_1) c211_5
def s211 : SF := ⟨[.c 4 true 13], c211_6, false, none, none⟩
/-! (*crannog/calls.desk).list -/
abbrev r214_1 : List SOper := [
  ⟨some 3, none, .boxL (.t 1)⟩,
  ⟨some 4, none, .mov (.c (.nils))⟩]
abbrev r214_2 : List SOper := [
  ⟨some 5, none, .mov (.c (.nils))⟩]
abbrev r214_3 : List SOper := [
  ⟨some 8, none, .load false true 3 (.t 3)⟩,
  ⟨some 9, none, .call false (.c (.func 198 [])) [.t 8]⟩]
abbrev r214_4 : List SOper := [
  ⟨some 10, none, .mov (.t 5)⟩,
  ⟨some 11, none, .bsnap 1 [.c (.str [46, 108, 111, 115, 116])]⟩,
  ⟨some 12, none, .append 1 16 (.t 10) (.t 11)⟩,
  ⟨some 5, none, .mov (.t 12)⟩]
abbrev c214_5 : SC := .cond (.t 9) (.ops r214_4) (.skip)
abbrev c214_6 : SC := .seq (.ops r214_3) c214_5
abbrev r214_7 : List SOper := [
  ⟨some 13, none, .mov (.t 0)⟩,
  ⟨some 14, none, .nilck (.t 13)⟩,
  ⟨some 15, none, .faddr 10 (.t 14)⟩,
  ⟨some 16, none, .load false false 1 (.t 15)⟩,
  ⟨some 17, none, .faddr 1 (.t 3)⟩,
  ⟨some 18, none, .load false true 2 (.t 17)⟩,
  ⟨some 19, none, .call false (.c (.func 169 [])) [.t 16, .t 18]⟩,
  ⟨some 20, none, .len 1 (.t 19)⟩,
  ⟨some 21, none, .mov (.c (.int .i64 0))⟩]
abbrev r214_8 : List SOper := [
  ⟨some 22, none, .bin .lss (.t 21) (.t 20)⟩]
abbrev c214_9 : SC := .cond (.t 22) (.skip) (.exit 0)
abbrev r214_10 : List SOper := [
  ⟨some 23, none, .iaddr none 8 (.t 19) (.t 21)⟩,
  ⟨some 24, none, .load false true 8 (.t 23)⟩,
  ⟨some 7, none, .allocL [.int .i64 0, .int .i64 0, .int .i64 0, .int .i64 0, .int .i64 0, .int .i64 0, .str [], .bool false]⟩,
  ⟨none, none, .store 8 (.t 7) (.t 24)⟩]
abbrev r214_11 : List SOper := [
  ⟨some 25, none, .mov (.t 5)⟩,
  ⟨some 26, none, .faddr 6 (.t 7)⟩,
  ⟨some 27, none, .load false false 1 (.t 26)⟩,
  ⟨some 28, none, .bsnap 1 [.t 27]⟩,
  ⟨some 29, none, .append 1 16 (.t 25) (.t 28)⟩,
  ⟨some 5, none, .mov (.t 29)⟩]
abbrev c214_12 : SC := .seq (.ops r214_10) (.ops r214_11)
abbrev c214_13 : SC := .block 1 [5, 19, 20, 21] [] c214_12
abbrev r214_14 : List SOper := [
  ⟨some 30, none, .bin .add (.t 21) (.c (.int .i64 1))⟩,
  ⟨some 21, none, .mov (.t 30)⟩]
abbrev c214_15 : SC := .seq c214_13 (.ops r214_14)
abbrev c214_16 : SC := .seq c214_9 c214_15
abbrev c214_17 : SC := .seq (.ops r214_8) c214_16
abbrev L214_1 : SC := .loop [5, 19, 20, 21] [] c214_17
abbrev c214_18 : SC := .block 0 [5] [] L214_1
abbrev c214_19 : SC := .seq (.draw 0 [[], [0], [1], [2], [], [4], [3, 5], [6], []] r214_7) c214_18
abbrev r214_20 : List SOper := [
  ⟨some 31, none, .mov (.t 5)⟩,
  ⟨some 32, none, .call false (.c (.func 262 [])) [.t 31]⟩]
abbrev r214_21 : List SOper := [
  ⟨some 33, none, .mov (.t 5)⟩,
  ⟨some 4, none, .mov (.t 33)⟩]
abbrev c214_22 : SC := .seq (.ops r214_21) (.ret)
abbrev c214_23 : SC := .seq (.ops r214_20) c214_22
abbrev c214_24 : SC := .seq c214_19 c214_23
abbrev c214_25 : SC := .seq c214_6 c214_24
abbrev c214_26 : SC := .seq (.ops r214_2) c214_25
abbrev c214_27 : SC := .seq (.ops r214_1) c214_26
def s214 : SF := ⟨[.t 4], c214_27, false, none, none⟩
/-! (*crannog/calls.desk).stat -/
abbrev r215_1 : List SOper := [
  ⟨some 3, none, .boxL (.t 1)⟩,
  ⟨some 4, none, .allocL [.int .i64 0, .int .i64 0, .int .i64 0, .int .i64 0, .int .u64 0, .int .i64 0, .int .i64 0]⟩]
abbrev r215_2 : List SOper := [
  ⟨some 9, none, .load false true 3 (.t 3)⟩,
  ⟨some 10, none, .call false (.c (.func 199 [])) [.t 9]⟩]
abbrev r215_3 : List SOper := [
  ⟨some 12, none, .call false (.c (.func 67 [])) [.c (.float .f64 0)]⟩,
  ⟨some 11, none, .mov (.t 12)⟩,
  ⟨some 13, none, .extract (.t 11) 0⟩,
  ⟨some 14, none, .extract (.t 11) 1⟩,
  ⟨some 5, none, .mov (.t 13)⟩,
  ⟨some 6, none, .mov (.t 14)⟩]
abbrev r215_4 : List SOper := [
  ⟨some 15, none, .faddr 1 (.t 3)⟩,
  ⟨some 16, none, .load false true 2 (.t 15)⟩,
  ⟨some 17, none, .mov (.t 5)⟩,
  ⟨some 18, none, .build [.int .i64 0, .int .i64 0, .int .i64 0, .int .i64 0, .int .u64 0, .int .i64 0, .int .i64 0] [(0, 2, .t 16), (2, 1, .c (.int .i64 2)), (4, 1, .t 17), (6, 1, .c (.int .i64 1))]⟩,
  ⟨none, none, .store 7 (.t 4) (.t 18)⟩]
abbrev c215_5 : SC := .seq (.ops r215_4) (.ret)
abbrev c215_6 : SC := .seq (.ops r215_3) c215_5
abbrev c215_7 : SC := .cond (.t 10) c215_6 (.skip)
abbrev c215_8 : SC := .seq (.ops r215_2) c215_7
abbrev r215_9 : List SOper := [
  ⟨some 19, none, .mov (.t 0)⟩,
  ⟨some 20, none, .load false true 3 (.t 3)⟩,
  ⟨some 21, none, .call false (.c (.func 211 [])) [.t 19, .t 20]⟩,
  ⟨some 7, none, .allocL [.int .i64 0, .int .i64 0, .int .i64 0, .str [], .int .i64 0, .int .i64 0, .int .i64 0, .int .u64 0, .int .i64 0, .int .i64 0, .int .i64 0, .nils, .nils]⟩,
  ⟨none, none, .store 13 (.t 7) (.t 21)⟩]
abbrev r215_10 : List SOper := [
  ⟨some 22, none, .mov (.t 0)⟩,
  ⟨some 23, none, .nilck (.t 22)⟩,
  ⟨some 24, none, .faddr 10 (.t 23)⟩,
  ⟨some 25, none, .load false false 1 (.t 24)⟩,
  ⟨some 26, none, .faddr 1 (.t 3)⟩,
  ⟨some 27, none, .load false true 2 (.t 26)⟩,
  ⟨some 28, none, .call false (.c (.func 263 [])) [.t 25, .t 27]⟩,
  ⟨some 8, none, .mov (.t 28)⟩]
abbrev r215_11 : List SOper := [
  ⟨some 29, none, .load false true 3 (.t 3)⟩,
  ⟨some 30, none, .call false (.c (.func 198 [])) [.t 29]⟩]
abbrev r215_12 : List SOper := [
  ⟨some 8, none, .mov (.c (.int .i64 1))⟩]
abbrev c215_13 : SC := .cond (.t 30) (.ops r215_12) (.skip)
abbrev c215_14 : SC := .seq (.ops r215_11) c215_13
abbrev r215_15 : List SOper := [
  ⟨some 31, none, .faddr 0 (.t 7)⟩,
  ⟨some 32, none, .load true true 2 (.t 31)⟩,
  ⟨some 33, none, .faddr 2 (.t 7)⟩,
  ⟨some 34, none, .load true false 1 (.t 33)⟩,
  ⟨some 35, none, .faddr 4 (.t 7)⟩,
  ⟨some 36, none, .faddr 2 (.t 35)⟩,
  ⟨some 37, none, .load true false 1 (.t 36)⟩,
  ⟨some 38, none, .faddr 4 (.t 7)⟩,
  ⟨some 39, none, .faddr 3 (.t 38)⟩,
  ⟨some 40, none, .load true false 1 (.t 39)⟩,
  ⟨some 41, none, .load false true 13 (.t 7)⟩,
  ⟨some 42, none, .call true (.c (.func 9 [])) [.t 41]⟩,
  ⟨some 43, none, .len 0 (.t 42)⟩,
  ⟨some 44, none, .faddr 3 (.t 7)⟩,
  ⟨some 45, none, .load true false 1 (.t 44)⟩,
  ⟨some 46, none, .len 0 (.t 45)⟩,
  ⟨some 47, none, .bin .add (.t 43) (.t 46)⟩,
  ⟨some 48, none, .mov (.t 8)⟩,
  ⟨some 49, none, .build [.int .i64 0, .int .i64 0, .int .i64 0, .int .i64 0, .int .u64 0, .int .i64 0, .int .i64 0] [(0, 2, .t 32), (2, 1, .t 34), (3, 1, .t 37), (4, 1, .t 40), (5, 1, .t 47), (6, 1, .t 48)]⟩,
  ⟨none, none, .store 7 (.t 4) (.t 49)⟩]
abbrev c215_16 : SC := .seq (.draw 0 [[], [0], [], [2], [], [4], [5], [], [7], [8], [], [10], [11], [], [13], [14], [12, 15], [], [1, 3, 6, 9, 16, 17], [18]] r215_15) (.ret)
abbrev c215_17 : SC := .seq c215_14 c215_16
abbrev c215_18 : SC := .seq (.draw 0 [[], [0], [1], [2], [], [4], [3, 5], [6]] r215_10) c215_17
abbrev c215_19 : SC := .seq (.ops r215_9) c215_18
abbrev c215_20 : SC := .seq c215_8 c215_19
abbrev c215_21 : SC := .seq (.ops r215_1) c215_20
def s215 : SF := ⟨[.c 4 true 7], c215_21, false, none, none⟩
/-! slices.Grow[[]crannog/api.Inode,crannog/api.Inode] -/
abbrev r217_1 : List SOper := [
  ⟨some 4, none, .mov (.c (.nils))⟩]
abbrev r217_2 : List SOper := [
  ⟨some 5, none, .mov (.t 1)⟩,
  ⟨some 6, none, .bin .lss (.t 5) (.c (.int .i64 0))⟩]
abbrev r217_3 : List SOper := [
  ⟨some 7, none, .mkif 9 (.c (.str [99, 97, 110, 110, 111, 116, 32, 98, 101, 32, 110, 101, 103, 97, 116, 105, 118, 101]))⟩,
  ⟨none, none, .panic (.t 7)⟩]
abbrev c217_4 : SC := .cond (.t 6) (.ops r217_3) (.skip)
abbrev c217_5 : SC := .seq (.ops r217_2) c217_4
abbrev r217_6 : List SOper := [
  ⟨some 8, none, .mov (.t 1)⟩,
  ⟨some 9, none, .mov (.t 0)⟩,
  ⟨some 10, none, .cap (.t 9)⟩,
  ⟨some 11, none, .mov (.t 0)⟩,
  ⟨some 12, none, .len 1 (.t 11)⟩,
  ⟨some 13, none, .bin .sub (.t 10) (.t 12)⟩,
  ⟨some 14, none, .bin .sub (.t 8) (.t 13)⟩,
  ⟨some 1, none, .mov (.t 14)⟩]
abbrev r217_7 : List SOper := [
  ⟨some 15, none, .mov (.t 1)⟩,
  ⟨some 16, none, .bin .gtr (.t 15) (.c (.int .i64 0))⟩]
abbrev r217_8 : List SOper := [
  ⟨some 17, none, .mov (.t 0)⟩,
  ⟨some 18, none, .mov (.t 0)⟩,
  ⟨some 19, none, .cap (.t 18)⟩,
  ⟨some 20, none, .slice false 13 (.t 17) none (some (.t 19)) none⟩,
  ⟨some 21, none, .mov (.t 1)⟩,
  ⟨some 22, none, .appendz 13 144 (.agg [.int .i64 0, .int .i64 0, .int .i64 0, .str [], .int .i64 0, .int .i64 0, .int .i64 0, .int .u64 0, .int .i64 0, .int .i64 0, .int .i64 0, .nils, .nils]) (.t 20) (.t 21)⟩,
  ⟨some 23, none, .mov (.t 0)⟩,
  ⟨some 24, none, .len 1 (.t 23)⟩,
  ⟨some 25, none, .slice false 13 (.t 22) none (some (.t 24)) none⟩,
  ⟨some 0, none, .mov (.t 25)⟩]
abbrev c217_9 : SC := .cond (.t 16) (.ops r217_8) (.skip)
abbrev c217_10 : SC := .seq (.ops r217_7) c217_9
abbrev c217_11 : SC := .seq (.ops r217_6) c217_10
abbrev r217_12 : List SOper := [
  ⟨some 26, none, .mov (.t 0)⟩,
  ⟨some 4, none, .mov (.t 26)⟩]
abbrev c217_13 : SC := .seq (.ops r217_12) (.ret)
abbrev c217_14 : SC := .seq c217_11 c217_13
abbrev c217_15 : SC := .seq c217_5 c217_14
abbrev c217_16 : SC := .seq (.ops r217_1) c217_15
def s217 : SF := ⟨[.t 4], c217_16, true, none, none⟩
/-! slices.stableCmpFunc[crannog/api.Inode] -/
abbrev r218_1 : List SOper := [
  ⟨some 6, none, .mov (.c (.int .i64 20))⟩]
abbrev r218_2 : List SOper := [
  ⟨some 10, none, .mov (.t 6)⟩,
  ⟨some 7, none, .mov (.c (.int .i64 0))⟩,
  ⟨some 8, none, .mov (.t 10)⟩]
abbrev r218_3 : List SOper := [
  ⟨some 11, none, .mov (.t 8)⟩,
  ⟨some 12, none, .mov (.t 1)⟩,
  ⟨some 13, none, .bin .leq (.t 11) (.t 12)⟩]
abbrev c218_4 : SC := .cond (.t 13) (.skip) (.exit 0)
abbrev c218_5 : SC := .seq (.ops r218_3) c218_4
abbrev r218_6 : List SOper := [
  ⟨some 14, none, .mov (.t 0)⟩,
  ⟨some 15, none, .mov (.t 7)⟩,
  ⟨some 16, none, .mov (.t 8)⟩,
  ⟨some 17, none, .mov (.t 2)⟩,
  ⟨some 18, none, .call false (.c (.func 264 [])) [.t 14, .t 15, .t 16, .t 17]⟩]
abbrev r218_7 : List SOper := [
  ⟨some 19, none, .mov (.t 8)⟩,
  ⟨some 7, none, .mov (.t 19)⟩]
abbrev r218_8 : List SOper := [
  ⟨some 20, none, .mov (.t 8)⟩,
  ⟨some 21, none, .mov (.t 6)⟩,
  ⟨some 22, none, .bin .add (.t 20) (.t 21)⟩,
  ⟨some 8, none, .mov (.t 22)⟩]
abbrev c218_9 : SC := .seq (.ops r218_7) (.ops r218_8)
abbrev c218_10 : SC := .seq (.ops r218_6) c218_9
abbrev c218_11 : SC := .block 1 [0, 1, 2, 6, 7, 8] [] c218_10
abbrev c218_12 : SC := .seq c218_5 c218_11
abbrev L218_1 : SC := .loop [0, 1, 2, 6, 7, 8] [] c218_12
abbrev c218_13 : SC := .block 0 [0, 1, 2, 6, 7] [] L218_1
abbrev r218_14 : List SOper := [
  ⟨some 23, none, .mov (.t 0)⟩,
  ⟨some 24, none, .mov (.t 7)⟩,
  ⟨some 25, none, .mov (.t 1)⟩,
  ⟨some 26, none, .mov (.t 2)⟩,
  ⟨some 27, none, .call false (.c (.func 264 [])) [.t 23, .t 24, .t 25, .t 26]⟩]
abbrev r218_15 : List SOper := [
  ⟨some 28, none, .mov (.t 6)⟩,
  ⟨some 29, none, .mov (.t 1)⟩,
  ⟨some 30, none, .bin .lss (.t 28) (.t 29)⟩]
abbrev c218_16 : SC := .cond (.t 30) (.skip) (.exit 2)
abbrev c218_17 : SC := .seq (.ops r218_15) c218_16
abbrev r218_18 : List SOper := [
  ⟨some 31, none, .mov (.t 6)⟩,
  ⟨some 32, none, .bin .mul (.c (.int .i64 2)) (.t 31)⟩,
  ⟨some 7, none, .mov (.c (.int .i64 0))⟩,
  ⟨some 8, none, .mov (.t 32)⟩]
abbrev r218_19 : List SOper := [
  ⟨some 33, none, .mov (.t 8)⟩,
  ⟨some 34, none, .mov (.t 1)⟩,
  ⟨some 35, none, .bin .leq (.t 33) (.t 34)⟩]
abbrev c218_20 : SC := .cond (.t 35) (.skip) (.exit 4)
abbrev c218_21 : SC := .seq (.ops r218_19) c218_20
abbrev r218_22 : List SOper := [
  ⟨some 36, none, .mov (.t 0)⟩,
  ⟨some 37, none, .mov (.t 7)⟩,
  ⟨some 38, none, .mov (.t 7)⟩,
  ⟨some 39, none, .mov (.t 6)⟩,
  ⟨some 40, none, .bin .add (.t 38) (.t 39)⟩,
  ⟨some 41, none, .mov (.t 8)⟩,
  ⟨some 42, none, .mov (.t 2)⟩,
  ⟨some 43, none, .call false (.c (.func 265 [])) [.t 36, .t 37, .t 40, .t 41, .t 42]⟩]
abbrev r218_23 : List SOper := [
  ⟨some 44, none, .mov (.t 8)⟩,
  ⟨some 7, none, .mov (.t 44)⟩]
abbrev r218_24 : List SOper := [
  ⟨some 45, none, .mov (.t 8)⟩,
  ⟨some 46, none, .mov (.t 6)⟩,
  ⟨some 47, none, .bin .mul (.c (.int .i64 2)) (.t 46)⟩,
  ⟨some 48, none, .bin .add (.t 45) (.t 47)⟩,
  ⟨some 8, none, .mov (.t 48)⟩]
abbrev c218_25 : SC := .seq (.ops r218_23) (.ops r218_24)
abbrev c218_26 : SC := .seq (.ops r218_22) c218_25
abbrev c218_27 : SC := .block 5 [0, 1, 2, 6, 7, 8] [] c218_26
abbrev c218_28 : SC := .seq c218_21 c218_27
abbrev L218_2 : SC := .loop [0, 1, 2, 6, 7, 8] [] c218_28
abbrev c218_29 : SC := .block 4 [0, 1, 2, 6, 7] [] L218_2
abbrev r218_30 : List SOper := [
  ⟨some 49, none, .mov (.t 7)⟩,
  ⟨some 50, none, .mov (.t 6)⟩,
  ⟨some 51, none, .bin .add (.t 49) (.t 50)⟩,
  ⟨some 9, none, .mov (.t 51)⟩]
abbrev r218_31 : List SOper := [
  ⟨some 52, none, .mov (.t 9)⟩,
  ⟨some 53, none, .mov (.t 1)⟩,
  ⟨some 54, none, .bin .lss (.t 52) (.t 53)⟩]
abbrev r218_32 : List SOper := [
  ⟨some 55, none, .mov (.t 0)⟩,
  ⟨some 56, none, .mov (.t 7)⟩,
  ⟨some 57, none, .mov (.t 9)⟩,
  ⟨some 58, none, .mov (.t 1)⟩,
  ⟨some 59, none, .mov (.t 2)⟩,
  ⟨some 60, none, .call false (.c (.func 265 [])) [.t 55, .t 56, .t 57, .t 58, .t 59]⟩]
abbrev c218_33 : SC := .cond (.t 54) (.ops r218_32) (.skip)
abbrev c218_34 : SC := .seq (.ops r218_31) c218_33
abbrev c218_35 : SC := .seq (.ops r218_30) c218_34
abbrev r218_36 : List SOper := [
  ⟨some 61, none, .mov (.t 6)⟩,
  ⟨some 62, none, .bin .mul (.t 61) (.c (.int .i64 2))⟩,
  ⟨some 6, none, .mov (.t 62)⟩]
abbrev c218_37 : SC := .seq c218_35 (.ops r218_36)
abbrev c218_38 : SC := .seq c218_29 c218_37
abbrev c218_39 : SC := .seq (.ops r218_18) c218_38
abbrev c218_40 : SC := .block 3 [0, 1, 2, 6] [] c218_39
abbrev c218_41 : SC := .seq c218_17 c218_40
abbrev L218_3 : SC := .loop [0, 1, 2, 6] [] c218_41
abbrev c218_42 : SC := .block 2 [] [] L218_3
abbrev c218_43 : SC := .seq (.ops r218_14) c218_42
abbrev c218_44 : SC := .seq c218_13 c218_43
abbrev c218_45 : SC := .seq (.ops r218_2) c218_44
abbrev c218_46 : SC := .seq (.ops r218_1) c218_45
def s218 : SF := ⟨[], c218_46, false, none, none⟩
/-! cmp.isNaN[int] -/
abbrev r219_1 : List SOper := [
  ⟨some 2, none, .mov (.c (.bool false))⟩]
abbrev r219_2 : List SOper := [
  ⟨some 3, none, .mov (.t 0)⟩,
  ⟨some 4, none, .mov (.t 0)⟩,
  ⟨some 5, none, .bin .neq (.t 3) (.t 4)⟩,
  ⟨some 2, none, .mov (.t 5)⟩]
abbrev c219_3 : SC := .seq (.ops r219_2) (.ret)
abbrev c219_4 : SC := .seq (.ops r219_1) c219_3
def s219 : SF := ⟨[.t 2], c219_4, false, none, none⟩
/-! slices.Grow[[]crannog/api.Piece,crannog/api.Piece] -/
abbrev r221_1 : List SOper := [
  ⟨some 4, none, .mov (.c (.nils))⟩]
abbrev r221_2 : List SOper := [
  ⟨some 5, none, .mov (.t 1)⟩,
  ⟨some 6, none, .bin .lss (.t 5) (.c (.int .i64 0))⟩]
abbrev r221_3 : List SOper := [
  ⟨some 7, none, .mkif 9 (.c (.str [99, 97, 110, 110, 111, 116, 32, 98, 101, 32, 110, 101, 103, 97, 116, 105, 118, 101]))⟩,
  ⟨none, none, .panic (.t 7)⟩]
abbrev c221_4 : SC := .cond (.t 6) (.ops r221_3) (.skip)
abbrev c221_5 : SC := .seq (.ops r221_2) c221_4
abbrev r221_6 : List SOper := [
  ⟨some 8, none, .mov (.t 1)⟩,
  ⟨some 9, none, .mov (.t 0)⟩,
  ⟨some 10, none, .cap (.t 9)⟩,
  ⟨some 11, none, .mov (.t 0)⟩,
  ⟨some 12, none, .len 1 (.t 11)⟩,
  ⟨some 13, none, .bin .sub (.t 10) (.t 12)⟩,
  ⟨some 14, none, .bin .sub (.t 8) (.t 13)⟩,
  ⟨some 1, none, .mov (.t 14)⟩]
abbrev r221_7 : List SOper := [
  ⟨some 15, none, .mov (.t 1)⟩,
  ⟨some 16, none, .bin .gtr (.t 15) (.c (.int .i64 0))⟩]
abbrev r221_8 : List SOper := [
  ⟨some 17, none, .mov (.t 0)⟩,
  ⟨some 18, none, .mov (.t 0)⟩,
  ⟨some 19, none, .cap (.t 18)⟩,
  ⟨some 20, none, .slice false 4 (.t 17) none (some (.t 19)) none⟩,
  ⟨some 21, none, .mov (.t 1)⟩,
  ⟨some 22, none, .appendz 4 40 (.agg [.int .i64 0, .int .i64 0, .int .i64 0, .str []]) (.t 20) (.t 21)⟩,
  ⟨some 23, none, .mov (.t 0)⟩,
  ⟨some 24, none, .len 1 (.t 23)⟩,
  ⟨some 25, none, .slice false 4 (.t 22) none (some (.t 24)) none⟩,
  ⟨some 0, none, .mov (.t 25)⟩]
abbrev c221_9 : SC := .cond (.t 16) (.ops r221_8) (.skip)
abbrev c221_10 : SC := .seq (.ops r221_7) c221_9
abbrev c221_11 : SC := .seq (.ops r221_6) c221_10
abbrev r221_12 : List SOper := [
  ⟨some 26, none, .mov (.t 0)⟩,
  ⟨some 4, none, .mov (.t 26)⟩]
abbrev c221_13 : SC := .seq (.ops r221_12) (.ret)
abbrev c221_14 : SC := .seq c221_11 c221_13
abbrev c221_15 : SC := .seq c221_5 c221_14
abbrev c221_16 : SC := .seq (.ops r221_1) c221_15
def s221 : SF := ⟨[.t 4], c221_16, true, none, none⟩
/-! slices.Grow[[]crannog/api.Xattr,crannog/api.Xattr] -/
abbrev r222_1 : List SOper := [
  ⟨some 4, none, .mov (.c (.nils))⟩]
abbrev r222_2 : List SOper := [
  ⟨some 5, none, .mov (.t 1)⟩,
  ⟨some 6, none, .bin .lss (.t 5) (.c (.int .i64 0))⟩]
abbrev r222_3 : List SOper := [
  ⟨some 7, none, .mkif 9 (.c (.str [99, 97, 110, 110, 111, 116, 32, 98, 101, 32, 110, 101, 103, 97, 116, 105, 118, 101]))⟩,
  ⟨none, none, .panic (.t 7)⟩]
abbrev c222_4 : SC := .cond (.t 6) (.ops r222_3) (.skip)
abbrev c222_5 : SC := .seq (.ops r222_2) c222_4
abbrev r222_6 : List SOper := [
  ⟨some 8, none, .mov (.t 1)⟩,
  ⟨some 9, none, .mov (.t 0)⟩,
  ⟨some 10, none, .cap (.t 9)⟩,
  ⟨some 11, none, .mov (.t 0)⟩,
  ⟨some 12, none, .len 1 (.t 11)⟩,
  ⟨some 13, none, .bin .sub (.t 10) (.t 12)⟩,
  ⟨some 14, none, .bin .sub (.t 8) (.t 13)⟩,
  ⟨some 1, none, .mov (.t 14)⟩]
abbrev r222_7 : List SOper := [
  ⟨some 15, none, .mov (.t 1)⟩,
  ⟨some 16, none, .bin .gtr (.t 15) (.c (.int .i64 0))⟩]
abbrev r222_8 : List SOper := [
  ⟨some 17, none, .mov (.t 0)⟩,
  ⟨some 18, none, .mov (.t 0)⟩,
  ⟨some 19, none, .cap (.t 18)⟩,
  ⟨some 20, none, .slice false 5 (.t 17) none (some (.t 19)) none⟩,
  ⟨some 21, none, .mov (.t 1)⟩,
  ⟨some 22, none, .appendz 5 56 (.agg [.str [], .int .i64 0, .int .i64 0, .str [], .bool false]) (.t 20) (.t 21)⟩,
  ⟨some 23, none, .mov (.t 0)⟩,
  ⟨some 24, none, .len 1 (.t 23)⟩,
  ⟨some 25, none, .slice false 5 (.t 22) none (some (.t 24)) none⟩,
  ⟨some 0, none, .mov (.t 25)⟩]
abbrev c222_9 : SC := .cond (.t 16) (.ops r222_8) (.skip)
abbrev c222_10 : SC := .seq (.ops r222_7) c222_9
abbrev c222_11 : SC := .seq (.ops r222_6) c222_10
abbrev r222_12 : List SOper := [
  ⟨some 26, none, .mov (.t 0)⟩,
  ⟨some 4, none, .mov (.t 26)⟩]
abbrev c222_13 : SC := .seq (.ops r222_12) (.ret)
abbrev c222_14 : SC := .seq c222_11 c222_13
abbrev c222_15 : SC := .seq c222_5 c222_14
abbrev c222_16 : SC := .seq (.ops r222_1) c222_15
def s222 : SF := ⟨[.t 4], c222_16, true, none, none⟩
/-! slices.Grow[[]crannog/api.Link,crannog/api.Link] -/
abbrev r223_1 : List SOper := [
  ⟨some 4, none, .mov (.c (.nils))⟩]
abbrev r223_2 : List SOper := [
  ⟨some 5, none, .mov (.t 1)⟩,
  ⟨some 6, none, .bin .lss (.t 5) (.c (.int .i64 0))⟩]
abbrev r223_3 : List SOper := [
  ⟨some 7, none, .mkif 9 (.c (.str [99, 97, 110, 110, 111, 116, 32, 98, 101, 32, 110, 101, 103, 97, 116, 105, 118, 101]))⟩,
  ⟨none, none, .panic (.t 7)⟩]
abbrev c223_4 : SC := .cond (.t 6) (.ops r223_3) (.skip)
abbrev c223_5 : SC := .seq (.ops r223_2) c223_4
abbrev r223_6 : List SOper := [
  ⟨some 8, none, .mov (.t 1)⟩,
  ⟨some 9, none, .mov (.t 0)⟩,
  ⟨some 10, none, .cap (.t 9)⟩,
  ⟨some 11, none, .mov (.t 0)⟩,
  ⟨some 12, none, .len 1 (.t 11)⟩,
  ⟨some 13, none, .bin .sub (.t 10) (.t 12)⟩,
  ⟨some 14, none, .bin .sub (.t 8) (.t 13)⟩,
  ⟨some 1, none, .mov (.t 14)⟩]
abbrev r223_7 : List SOper := [
  ⟨some 15, none, .mov (.t 1)⟩,
  ⟨some 16, none, .bin .gtr (.t 15) (.c (.int .i64 0))⟩]
abbrev r223_8 : List SOper := [
  ⟨some 17, none, .mov (.t 0)⟩,
  ⟨some 18, none, .mov (.t 0)⟩,
  ⟨some 19, none, .cap (.t 18)⟩,
  ⟨some 20, none, .slice false 25 (.t 17) none (some (.t 19)) none⟩,
  ⟨some 21, none, .mov (.t 1)⟩,
  ⟨some 22, none, .appendz 25 208 (.agg [.int .i64 0, .int .i64 0, .int .i64 0, .int .i64 0, .int .i64 0, .int .i64 0, .int .i64 0, .int .i64 0, .str [], .int .i64 0, .int .i64 0, .int .i64 0, .int .i64 0, .int .i64 0, .int .i64 0, .int .i64 0, .int .i64 0, .int .i64 0, .int .i64 0, .int .i64 0, .int .i64 0, .int .i64 0, .int .i64 0, .int .i64 0, .int .i64 0]) (.t 20) (.t 21)⟩,
  ⟨some 23, none, .mov (.t 0)⟩,
  ⟨some 24, none, .len 1 (.t 23)⟩,
  ⟨some 25, none, .slice false 25 (.t 22) none (some (.t 24)) none⟩,
  ⟨some 0, none, .mov (.t 25)⟩]
abbrev c223_9 : SC := .cond (.t 16) (.ops r223_8) (.skip)
abbrev c223_10 : SC := .seq (.ops r223_7) c223_9
abbrev c223_11 : SC := .seq (.ops r223_6) c223_10
abbrev r223_12 : List SOper := [
  ⟨some 26, none, .mov (.t 0)⟩,
  ⟨some 4, none, .mov (.t 26)⟩]
abbrev c223_13 : SC := .seq (.ops r223_12) (.ret)
abbrev c223_14 : SC := .seq c223_11 c223_13
abbrev c223_15 : SC := .seq c223_5 c223_14
abbrev c223_16 : SC := .seq (.ops r223_1) c223_15
def s223 : SF := ⟨[.t 4], c223_16, true, none, none⟩
/-! slices.stableCmpFunc[crannog/api.Link] -/
abbrev r224_1 : List SOper := [
  ⟨some 6, none, .mov (.c (.int .i64 20))⟩]
abbrev r224_2 : List SOper := [
  ⟨some 10, none, .mov (.t 6)⟩,
  ⟨some 7, none, .mov (.c (.int .i64 0))⟩,
  ⟨some 8, none, .mov (.t 10)⟩]
abbrev r224_3 : List SOper := [
  ⟨some 11, none, .mov (.t 8)⟩,
  ⟨some 12, none, .mov (.t 1)⟩,
  ⟨some 13, none, .bin .leq (.t 11) (.t 12)⟩]
abbrev c224_4 : SC := .cond (.t 13) (.skip) (.exit 0)
abbrev c224_5 : SC := .seq (.ops r224_3) c224_4
abbrev r224_6 : List SOper := [
  ⟨some 14, none, .mov (.t 0)⟩,
  ⟨some 15, none, .mov (.t 7)⟩,
  ⟨some 16, none, .mov (.t 8)⟩,
  ⟨some 17, none, .mov (.t 2)⟩,
  ⟨some 18, none, .call false (.c (.func 267 [])) [.t 14, .t 15, .t 16, .t 17]⟩]
abbrev r224_7 : List SOper := [
  ⟨some 19, none, .mov (.t 8)⟩,
  ⟨some 7, none, .mov (.t 19)⟩]
abbrev r224_8 : List SOper := [
  ⟨some 20, none, .mov (.t 8)⟩,
  ⟨some 21, none, .mov (.t 6)⟩,
  ⟨some 22, none, .bin .add (.t 20) (.t 21)⟩,
  ⟨some 8, none, .mov (.t 22)⟩]
abbrev c224_9 : SC := .seq (.ops r224_7) (.ops r224_8)
abbrev c224_10 : SC := .seq (.ops r224_6) c224_9
abbrev c224_11 : SC := .block 1 [0, 1, 2, 6, 7, 8] [] c224_10
abbrev c224_12 : SC := .seq c224_5 c224_11
abbrev L224_1 : SC := .loop [0, 1, 2, 6, 7, 8] [] c224_12
abbrev c224_13 : SC := .block 0 [0, 1, 2, 6, 7] [] L224_1
abbrev r224_14 : List SOper := [
  ⟨some 23, none, .mov (.t 0)⟩,
  ⟨some 24, none, .mov (.t 7)⟩,
  ⟨some 25, none, .mov (.t 1)⟩,
  ⟨some 26, none, .mov (.t 2)⟩,
  ⟨some 27, none, .call false (.c (.func 267 [])) [.t 23, .t 24, .t 25, .t 26]⟩]
abbrev r224_15 : List SOper := [
  ⟨some 28, none, .mov (.t 6)⟩,
  ⟨some 29, none, .mov (.t 1)⟩,
  ⟨some 30, none, .bin .lss (.t 28) (.t 29)⟩]
abbrev c224_16 : SC := .cond (.t 30) (.skip) (.exit 2)
abbrev c224_17 : SC := .seq (.ops r224_15) c224_16
abbrev r224_18 : List SOper := [
  ⟨some 31, none, .mov (.t 6)⟩,
  ⟨some 32, none, .bin .mul (.c (.int .i64 2)) (.t 31)⟩,
  ⟨some 7, none, .mov (.c (.int .i64 0))⟩,
  ⟨some 8, none, .mov (.t 32)⟩]
abbrev r224_19 : List SOper := [
  ⟨some 33, none, .mov (.t 8)⟩,
  ⟨some 34, none, .mov (.t 1)⟩,
  ⟨some 35, none, .bin .leq (.t 33) (.t 34)⟩]
abbrev c224_20 : SC := .cond (.t 35) (.skip) (.exit 4)
abbrev c224_21 : SC := .seq (.ops r224_19) c224_20
abbrev r224_22 : List SOper := [
  ⟨some 36, none, .mov (.t 0)⟩,
  ⟨some 37, none, .mov (.t 7)⟩,
  ⟨some 38, none, .mov (.t 7)⟩,
  ⟨some 39, none, .mov (.t 6)⟩,
  ⟨some 40, none, .bin .add (.t 38) (.t 39)⟩,
  ⟨some 41, none, .mov (.t 8)⟩,
  ⟨some 42, none, .mov (.t 2)⟩,
  ⟨some 43, none, .call false (.c (.func 268 [])) [.t 36, .t 37, .t 40, .t 41, .t 42]⟩]
abbrev r224_23 : List SOper := [
  ⟨some 44, none, .mov (.t 8)⟩,
  ⟨some 7, none, .mov (.t 44)⟩]
abbrev r224_24 : List SOper := [
  ⟨some 45, none, .mov (.t 8)⟩,
  ⟨some 46, none, .mov (.t 6)⟩,
  ⟨some 47, none, .bin .mul (.c (.int .i64 2)) (.t 46)⟩,
  ⟨some 48, none, .bin .add (.t 45) (.t 47)⟩,
  ⟨some 8, none, .mov (.t 48)⟩]
abbrev c224_25 : SC := .seq (.ops r224_23) (.ops r224_24)
abbrev c224_26 : SC := .seq (.ops r224_22) c224_25
abbrev c224_27 : SC := .block 5 [0, 1, 2, 6, 7, 8] [] c224_26
abbrev c224_28 : SC := .seq c224_21 c224_27
abbrev L224_2 : SC := .loop [0, 1, 2, 6, 7, 8] [] c224_28
abbrev c224_29 : SC := .block 4 [0, 1, 2, 6, 7] [] L224_2
abbrev r224_30 : List SOper := [
  ⟨some 49, none, .mov (.t 7)⟩,
  ⟨some 50, none, .mov (.t 6)⟩,
  ⟨some 51, none, .bin .add (.t 49) (.t 50)⟩,
  ⟨some 9, none, .mov (.t 51)⟩]
abbrev r224_31 : List SOper := [
  ⟨some 52, none, .mov (.t 9)⟩,
  ⟨some 53, none, .mov (.t 1)⟩,
  ⟨some 54, none, .bin .lss (.t 52) (.t 53)⟩]
abbrev r224_32 : List SOper := [
  ⟨some 55, none, .mov (.t 0)⟩,
  ⟨some 56, none, .mov (.t 7)⟩,
  ⟨some 57, none, .mov (.t 9)⟩,
  ⟨some 58, none, .mov (.t 1)⟩,
  ⟨some 59, none, .mov (.t 2)⟩,
  ⟨some 60, none, .call false (.c (.func 268 [])) [.t 55, .t 56, .t 57, .t 58, .t 59]⟩]
abbrev c224_33 : SC := .cond (.t 54) (.ops r224_32) (.skip)
abbrev c224_34 : SC := .seq (.ops r224_31) c224_33
abbrev c224_35 : SC := .seq (.ops r224_30) c224_34
abbrev r224_36 : List SOper := [
  ⟨some 61, none, .mov (.t 6)⟩,
  ⟨some 62, none, .bin .mul (.t 61) (.c (.int .i64 2))⟩,
  ⟨some 6, none, .mov (.t 62)⟩]
abbrev c224_37 : SC := .seq c224_35 (.ops r224_36)
abbrev c224_38 : SC := .seq c224_29 c224_37
abbrev c224_39 : SC := .seq (.ops r224_18) c224_38
abbrev c224_40 : SC := .block 3 [0, 1, 2, 6] [] c224_39
abbrev c224_41 : SC := .seq c224_17 c224_40
abbrev L224_3 : SC := .loop [0, 1, 2, 6] [] c224_41
abbrev c224_42 : SC := .block 2 [] [] L224_3
abbrev c224_43 : SC := .seq (.ops r224_14) c224_42
abbrev c224_44 : SC := .seq c224_13 c224_43
abbrev c224_45 : SC := .seq (.ops r224_2) c224_44
abbrev c224_46 : SC := .seq (.ops r224_1) c224_45
def s224 : SF := ⟨[], c224_46, false, none, none⟩
/-! slices.SortStableFunc[[]crannog/api.Piece,crannog/api.Piece] -/
abbrev r225_1 : List SOper := [
  ⟨some 4, none, .mov (.t 0)⟩,
  ⟨some 5, none, .mov (.t 0)⟩,
  ⟨some 6, none, .len 1 (.t 5)⟩,
  ⟨some 7, none, .mov (.t 1)⟩,
  ⟨some 8, none, .call false (.c (.func 269 [])) [.t 4, .t 6, .t 7]⟩]
def s225 : SF := ⟨[], .ops r225_1, false, none, none⟩
/-! slices.SortStableFunc[[]crannog/api.Xattr,crannog/api.Xattr] -/
abbrev r226_1 : List SOper := [
  ⟨some 4, none, .mov (.t 0)⟩,
  ⟨some 5, none, .mov (.t 0)⟩,
  ⟨some 6, none, .len 1 (.t 5)⟩,
  ⟨some 7, none, .mov (.t 1)⟩,
  ⟨some 8, none, .call false (.c (.func 270 [])) [.t 4, .t 6, .t 7]⟩]
def s226 : SF := ⟨[], .ops r226_1, false, none, none⟩
/-! cmp.isNaN[string] -/
abbrev r227_1 : List SOper := [
  ⟨some 2, none, .mov (.c (.bool false))⟩]
abbrev r227_2 : List SOper := [
  ⟨some 3, none, .mov (.t 0)⟩,
  ⟨some 4, none, .mov (.t 0)⟩,
  ⟨some 5, none, .bin .neq (.t 3) (.t 4)⟩,
  ⟨some 2, none, .mov (.t 5)⟩]
abbrev c227_3 : SC := .seq (.ops r227_2) (.ret)
abbrev c227_4 : SC := .seq (.ops r227_1) c227_3
def s227 : SF := ⟨[.t 2], c227_4, false, none, none⟩
end Go.Vm.Tryz
