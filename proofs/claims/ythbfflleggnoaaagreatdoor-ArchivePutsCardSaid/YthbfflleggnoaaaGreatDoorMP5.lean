/- The functions as the VM's code. The functions that are gone through. -/
import Derived.Test.YthbfflleggnoaaaGreatDoorMP1
import Derived.Test.YthbfflleggnoaaaGreatDoorMP3
import Derived.Test.YthbfflleggnoaaaGreatDoorMP4
import Derived.KernelRfl
section
set_option linter.unusedVariables false
set_option linter.unusedSimpArgs false
namespace Go.Vm.Tryz
open Go Go.Vm
/-! (*crannog/calls.desk).make -/
abbrev r132_1 : List SOper := [
  ⟨some 3, none, .boxL (.t 1)⟩]
abbrev r132_2 : List SOper := [
  ⟨some 8, none, .mov (.t 0)⟩,
  ⟨some 9, none, .faddr 1 (.t 3)⟩,
  ⟨some 10, none, .load false false 1 (.t 9)⟩,
  ⟨some 11, none, .call false (.c (.func 190 [])) [.t 8, .t 10]⟩,
  ⟨some 7, none, .mov (.t 11)⟩,
  ⟨some 12, none, .extract (.t 7) 0⟩,
  ⟨some 13, none, .extract (.t 7) 1⟩,
  ⟨some 4, none, .allocL [.nils, .int .i64 0, .int .i64 0]⟩,
  ⟨none, none, .store 3 (.t 4) (.t 12)⟩,
  ⟨some 5, none, .mov (.t 13)⟩]
abbrev r132_3 : List SOper := [
  ⟨some 14, none, .mov (.t 0)⟩,
  ⟨some 15, none, .load false true 3 (.t 4)⟩,
  ⟨some 16, none, .mov (.t 5)⟩,
  ⟨some 17, none, .call false (.c (.func 191 [])) [.t 14, .t 15, .t 16]⟩]
abbrev r132_4 : List SOper := [
  ⟨some 18, none, .mov (.t 0)⟩,
  ⟨some 19, none, .nilck (.t 18)⟩,
  ⟨some 20, none, .faddr 11 (.t 19)⟩,
  ⟨some 21, none, .loadA .ptr true 2 (.t 20)⟩,
  ⟨some 22, none, .mov (.t 0)⟩,
  ⟨some 23, none, .nilck (.t 22)⟩,
  ⟨some 24, none, .faddr 11 (.t 23)⟩,
  ⟨some 25, none, .loadA .ptr true 2 (.t 24)⟩,
  ⟨some 26, none, .faddr 4 (.t 3)⟩,
  ⟨some 27, none, .loadA (.loc 3) false 1 (.t 26)⟩,
  ⟨some 28, none, .loadA (.loc 3) true 7 (.t 3)⟩,
  ⟨some 29, none, .call true (.c (.func 192 [])) [.t 28]⟩,
  ⟨some 30, none, .build [.int .i64 0, .int .i64 0, .int .i64 0, .int .u64 0] [(0, 2, .t 25), (2, 1, .t 27), (3, 1, .t 29)]⟩,
  ⟨some 31, none, .build [.int .i64 0, .int .i64 0, .int .i64 0, .str [], .int .i64 0, .int .i64 0, .int .i64 0, .int .u64 0, .int .i64 0, .int .i64 0, .int .i64 0, .nils, .nils] [(0, 2, .t 21), (4, 4, .t 30)]⟩,
  ⟨some 6, none, .allocL [.int .i64 0, .int .i64 0, .int .i64 0, .str [], .int .i64 0, .int .i64 0, .int .i64 0, .int .u64 0, .int .i64 0, .int .i64 0, .int .i64 0, .nils, .nils]⟩,
  ⟨none, none, .store 13 (.t 6) (.t 31)⟩]
abbrev r132_5 : List SOper := [
  ⟨some 32, none, .faddr 4 (.t 3)⟩,
  ⟨some 33, none, .load false false 1 (.t 32)⟩,
  ⟨some 34, none, .bin .geq (.t 33) (.c (.int .i64 0))⟩,
  ⟨some 35, none, .mov (.t 34)⟩,
  ⟨some 36, some (35, true), .faddr 4 (.t 3)⟩,
  ⟨some 37, some (35, true), .load false false 1 (.t 36)⟩,
  ⟨some 38, some (35, true), .bin .leq (.t 37) (.c (.int .i64 511))⟩,
  ⟨some 39, none, .pick (.t 35) (.t 38) (.c (.bool false))⟩,
  ⟨some 40, none, .call false (.c (.func 114 [])) [.t 39, .c (.int .i64 22)]⟩]
abbrev r132_6 : List SOper := [
  ⟨some 41, none, .faddr 0 (.t 3)⟩,
  ⟨some 42, none, .load false false 1 (.t 41)⟩]
abbrev r132_7 : List SOper := [
  ⟨some 57, none, .bin .eql (.t 42) (.c (.int .i64 1))⟩,
  ⟨some 56, none, .mov (.t 57)⟩]
abbrev r132_8 : List SOper := [
  ⟨some 58, none, .faddr 2 (.t 6)⟩,
  ⟨none, none, .store 1 (.t 58) (.c (.int .i64 2))⟩]
abbrev r132_9 : List SOper := [
  ⟨some 60, none, .bin .eql (.t 42) (.c (.int .i64 2))⟩,
  ⟨some 59, none, .mov (.t 60)⟩]
abbrev r132_10 : List SOper := [
  ⟨some 61, none, .mov (.t 0)⟩,
  ⟨some 62, none, .nilck (.t 61)⟩,
  ⟨some 63, none, .faddr 11 (.t 62)⟩,
  ⟨some 64, none, .loadA .ptr true 2 (.t 63)⟩,
  ⟨some 65, none, .faddr 2 (.t 6)⟩,
  ⟨none, none, .storeA (.loc 6) 1 (.t 65) (.c (.int .i64 1))⟩,
  ⟨some 66, none, .faddr 8 (.t 6)⟩,
  ⟨some 67, none, .faddr 0 (.t 66)⟩,
  ⟨none, none, .store 2 (.t 67) (.t 64)⟩]
abbrev r132_11 : List SOper := [
  ⟨some 43, none, .faddr 2 (.t 3)⟩,
  ⟨some 44, none, .loadA (.loc 3) false 1 (.t 43)⟩,
  ⟨some 45, none, .faddr 2 (.t 6)⟩,
  ⟨none, none, .storeA (.loc 6) 1 (.t 45) (.c (.int .i64 3))⟩,
  ⟨some 46, none, .faddr 3 (.t 6)⟩,
  ⟨none, none, .store 1 (.t 46) (.t 44)⟩]
abbrev r132_12 : List SOper := [
  ⟨some 47, none, .faddr 2 (.t 3)⟩,
  ⟨some 48, none, .load false false 1 (.t 47)⟩,
  ⟨some 49, none, .bin .neq (.t 48) (.c (.str []))⟩,
  ⟨some 50, none, .call false (.c (.func 114 [])) [.t 49, .c (.int .i64 22)]⟩]
abbrev r132_13 : List SOper := [
  ⟨some 51, none, .faddr 2 (.t 3)⟩,
  ⟨some 52, none, .load false false 1 (.t 51)⟩,
  ⟨some 53, none, .len 0 (.t 52)⟩,
  ⟨some 54, none, .bin .leq (.t 53) (.c (.int .i64 120))⟩,
  ⟨some 55, none, .call false (.c (.func 114 [])) [.t 54, .c (.int .i64 36)]⟩]
abbrev c132_14 : SC := .seq (.ops r132_12) (.ops r132_13)
abbrev c132_15 : SC := .seq (.draw 0 [[], [0], [], [2], [1, 3], [4]] r132_11) c132_14
abbrev c132_16 : SC := .cond (.t 59) (.draw 0 [[], [0], [1], [2], [], [4], [3, 5], [6], [7]] r132_10) c132_15
abbrev c132_17 : SC := .seq (.ops r132_9) c132_16
abbrev c132_18 : SC := .cond (.t 56) (.ops r132_8) c132_17
abbrev c132_19 : SC := .seq (.ops r132_7) c132_18
abbrev c132_20 : SC := .block 0 [0, 4, 5, 6] [4, 6] c132_19
abbrev c132_21 : SC := .seq (.ops r132_6) c132_20
abbrev r132_22 : List SOper := [
  ⟨some 68, none, .mov (.t 0)⟩,
  ⟨some 69, none, .call false (.c (.func 193 [])) [.t 68, .c (.int .i64 1)]⟩]
abbrev r132_23 : List SOper := [
  ⟨some 70, none, .mov (.t 0)⟩,
  ⟨some 71, none, .call false (.c (.func 194 [])) [.t 70]⟩]
abbrev r132_24 : List SOper := [
  ⟨some 72, none, .mov (.t 0)⟩,
  ⟨some 73, none, .load false true 13 (.t 6)⟩,
  ⟨some 74, none, .bsnap 13 [.t 73]⟩,
  ⟨some 75, none, .nilck (.t 72)⟩,
  ⟨some 76, none, .faddr 14 (.t 75)⟩,
  ⟨some 77, none, .faddr 8 (.t 76)⟩,
  ⟨none, none, .store 1 (.t 77) (.t 74)⟩]
abbrev r132_25 : List SOper := [
  ⟨some 78, none, .mov (.t 0)⟩,
  ⟨some 79, none, .load false true 3 (.t 4)⟩,
  ⟨some 80, none, .mov (.t 5)⟩,
  ⟨some 81, none, .mov (.t 0)⟩,
  ⟨some 82, none, .nilck (.t 81)⟩,
  ⟨some 83, none, .faddr 11 (.t 82)⟩,
  ⟨some 84, none, .load false true 2 (.t 83)⟩,
  ⟨some 85, none, .call false (.c (.func 195 [])) [.t 78, .t 79, .t 80, .t 84]⟩]
abbrev c132_26 : SC := .seq (.ops r132_24) (.draw 0 [[], [], [], [], [3], [4], [5], [0, 1, 2, 6]] r132_25)
abbrev c132_27 : SC := .seq (.ops r132_23) c132_26
abbrev c132_28 : SC := .seq (.ops r132_22) c132_27
abbrev c132_29 : SC := .seq c132_21 c132_28
abbrev c132_30 : SC := .seq (.ops r132_5) c132_29
abbrev c132_31 : SC := .seq (.draw 0 [[], [0], [1], [2], [], [4], [5], [6], [], [8], [], [10], [7, 9, 11], [3, 12], [], [13, 14]] r132_4) c132_30
abbrev c132_32 : SC := .seq (.ops r132_3) c132_31
abbrev c132_33 : SC := .seq (.ops r132_2) c132_32
abbrev c132_34 : SC := .seq (.ops r132_1) c132_33
def s132 : SF := ⟨[], c132_34, false, none, none⟩
/-! (*crannog/calls.desk).link -/
abbrev r133_1 : List SOper := [
  ⟨some 3, none, .boxL (.t 1)⟩]
abbrev r133_2 : List SOper := [
  ⟨some 7, none, .mov (.t 0)⟩,
  ⟨some 8, none, .faddr 1 (.t 3)⟩,
  ⟨some 9, none, .load false false 1 (.t 8)⟩,
  ⟨some 10, none, .call false (.c (.func 196 [])) [.t 7, .t 9]⟩,
  ⟨some 4, none, .allocL [.nils, .int .i64 0, .int .i64 0]⟩,
  ⟨none, none, .store 3 (.t 4) (.t 10)⟩]
abbrev r133_3 : List SOper := [
  ⟨some 11, none, .mov (.t 0)⟩,
  ⟨some 12, none, .load false true 3 (.t 4)⟩,
  ⟨some 13, none, .call false (.c (.func 197 [])) [.t 11, .t 12]⟩,
  ⟨some 14, none, .bin .neq (.t 13) (.c (.int .i64 2))⟩,
  ⟨some 15, none, .call false (.c (.func 114 [])) [.t 14, .c (.int .i64 1)]⟩]
abbrev r133_4 : List SOper := [
  ⟨some 17, none, .mov (.t 0)⟩,
  ⟨some 18, none, .faddr 2 (.t 3)⟩,
  ⟨some 19, none, .load false false 1 (.t 18)⟩,
  ⟨some 20, none, .call false (.c (.func 190 [])) [.t 17, .t 19]⟩,
  ⟨some 16, none, .mov (.t 20)⟩,
  ⟨some 21, none, .extract (.t 16) 0⟩,
  ⟨some 22, none, .extract (.t 16) 1⟩,
  ⟨some 5, none, .allocL [.nils, .int .i64 0, .int .i64 0]⟩,
  ⟨none, none, .store 3 (.t 5) (.t 21)⟩,
  ⟨some 6, none, .mov (.t 22)⟩]
abbrev r133_5 : List SOper := [
  ⟨some 23, none, .mov (.t 0)⟩,
  ⟨some 24, none, .load false true 3 (.t 5)⟩,
  ⟨some 25, none, .mov (.t 6)⟩,
  ⟨some 26, none, .call false (.c (.func 191 [])) [.t 23, .t 24, .t 25]⟩]
abbrev r133_6 : List SOper := [
  ⟨some 27, none, .mov (.t 0)⟩,
  ⟨some 28, none, .call false (.c (.func 193 [])) [.t 27, .c (.int .i64 0)]⟩]
abbrev r133_7 : List SOper := [
  ⟨some 29, none, .mov (.t 0)⟩,
  ⟨some 30, none, .call false (.c (.func 194 [])) [.t 29]⟩]
abbrev r133_8 : List SOper := [
  ⟨some 31, none, .mov (.t 0)⟩,
  ⟨some 32, none, .load false true 3 (.t 5)⟩,
  ⟨some 33, none, .mov (.t 6)⟩,
  ⟨some 34, none, .faddr 1 (.t 4)⟩,
  ⟨some 35, none, .load false true 2 (.t 34)⟩,
  ⟨some 36, none, .call false (.c (.func 195 [])) [.t 31, .t 32, .t 33, .t 35]⟩]
abbrev c133_9 : SC := .seq (.ops r133_7) (.ops r133_8)
abbrev c133_10 : SC := .seq (.ops r133_6) c133_9
abbrev c133_11 : SC := .seq (.ops r133_5) c133_10
abbrev c133_12 : SC := .seq (.ops r133_4) c133_11
abbrev c133_13 : SC := .seq (.ops r133_3) c133_12
abbrev c133_14 : SC := .seq (.ops r133_2) c133_13
abbrev c133_15 : SC := .seq (.ops r133_1) c133_14
def s133 : SF := ⟨[], c133_15, false, none, none⟩
/-! slices.Concat[[]crannog/api.Inode,crannog/api.Inode] -/
abbrev r140_1 : List SOper := [
  ⟨some 2, none, .mov (.c (.nils))⟩]
abbrev r140_2 : List SOper := [
  ⟨some 3, none, .mov (.c (.int .i64 0))⟩]
abbrev r140_3 : List SOper := [
  ⟨some 9, none, .mov (.t 0)⟩,
  ⟨some 10, none, .len 1 (.t 9)⟩,
  ⟨some 11, none, .mov (.c (.int .i64 0))⟩]
abbrev r140_4 : List SOper := [
  ⟨some 12, none, .bin .lss (.t 11) (.t 10)⟩]
abbrev c140_5 : SC := .cond (.t 12) (.skip) (.exit 0)
abbrev r140_6 : List SOper := [
  ⟨some 13, none, .iaddr none 1 (.t 9) (.t 11)⟩,
  ⟨some 14, none, .load false false 1 (.t 13)⟩,
  ⟨some 5, none, .mov (.t 14)⟩]
abbrev r140_7 : List SOper := [
  ⟨some 15, none, .mov (.t 3)⟩,
  ⟨some 16, none, .mov (.t 5)⟩,
  ⟨some 17, none, .len 1 (.t 16)⟩,
  ⟨some 18, none, .bin .add (.t 15) (.t 17)⟩,
  ⟨some 3, none, .mov (.t 18)⟩]
abbrev r140_8 : List SOper := [
  ⟨some 19, none, .mov (.t 3)⟩,
  ⟨some 20, none, .bin .lss (.t 19) (.c (.int .i64 0))⟩]
abbrev r140_9 : List SOper := [
  ⟨some 21, none, .mkif 9 (.c (.str [108, 101, 110, 32, 111, 117, 116, 32, 111, 102, 32, 114, 97, 110, 103, 101]))⟩,
  ⟨none, none, .panic (.t 21)⟩]
abbrev c140_10 : SC := .cond (.t 20) (.ops r140_9) (.skip)
abbrev c140_11 : SC := .seq (.ops r140_8) c140_10
abbrev c140_12 : SC := .seq (.ops r140_7) c140_11
abbrev c140_13 : SC := .seq (.ops r140_6) c140_12
abbrev c140_14 : SC := .block 1 [0, 3, 9, 10, 11] [] c140_13
abbrev r140_15 : List SOper := [
  ⟨some 22, none, .bin .add (.t 11) (.c (.int .i64 1))⟩,
  ⟨some 11, none, .mov (.t 22)⟩]
abbrev c140_16 : SC := .seq c140_14 (.ops r140_15)
abbrev c140_17 : SC := .seq c140_5 c140_16
abbrev c140_18 : SC := .seq (.ops r140_4) c140_17
abbrev L140_1 : SC := .loop [0, 3, 9, 10, 11] [] c140_18
abbrev c140_19 : SC := .block 0 [0, 3] [] L140_1
abbrev c140_20 : SC := .seq (.ops r140_3) c140_19
abbrev r140_21 : List SOper := [
  ⟨some 23, none, .mov (.t 3)⟩,
  ⟨some 24, none, .call false (.c (.func 217 [])) [.c (.nils), .t 23]⟩,
  ⟨some 6, none, .mov (.t 24)⟩]
abbrev r140_22 : List SOper := [
  ⟨some 25, none, .mov (.t 0)⟩,
  ⟨some 26, none, .len 1 (.t 25)⟩,
  ⟨some 27, none, .mov (.c (.int .i64 0))⟩]
abbrev r140_23 : List SOper := [
  ⟨some 28, none, .bin .lss (.t 27) (.t 26)⟩]
abbrev c140_24 : SC := .cond (.t 28) (.skip) (.exit 2)
abbrev r140_25 : List SOper := [
  ⟨some 29, none, .iaddr none 1 (.t 25) (.t 27)⟩,
  ⟨some 30, none, .load false false 1 (.t 29)⟩,
  ⟨some 8, none, .mov (.t 30)⟩]
abbrev r140_26 : List SOper := [
  ⟨some 31, none, .mov (.t 6)⟩,
  ⟨some 32, none, .mov (.t 8)⟩,
  ⟨some 33, none, .append 13 144 (.t 31) (.t 32)⟩,
  ⟨some 6, none, .mov (.t 33)⟩]
abbrev c140_27 : SC := .seq (.ops r140_25) (.ops r140_26)
abbrev c140_28 : SC := .block 3 [6, 25, 26, 27] [] c140_27
abbrev r140_29 : List SOper := [
  ⟨some 34, none, .bin .add (.t 27) (.c (.int .i64 1))⟩,
  ⟨some 27, none, .mov (.t 34)⟩]
abbrev c140_30 : SC := .seq c140_28 (.ops r140_29)
abbrev c140_31 : SC := .seq c140_24 c140_30
abbrev c140_32 : SC := .seq (.ops r140_23) c140_31
abbrev L140_2 : SC := .loop [6, 25, 26, 27] [] c140_32
abbrev c140_33 : SC := .block 2 [6] [] L140_2
abbrev c140_34 : SC := .seq (.ops r140_22) c140_33
abbrev r140_35 : List SOper := [
  ⟨some 35, none, .mov (.t 6)⟩,
  ⟨some 2, none, .mov (.t 35)⟩]
abbrev c140_36 : SC := .seq (.ops r140_35) (.ret)
abbrev c140_37 : SC := .seq c140_34 c140_36
abbrev c140_38 : SC := .seq (.ops r140_21) c140_37
abbrev c140_39 : SC := .seq c140_20 c140_38
abbrev c140_40 : SC := .seq (.ops r140_2) c140_39
abbrev c140_41 : SC := .seq (.ops r140_1) c140_40
def s140 : SF := ⟨[.t 2], c140_41, true, none, none⟩
/-! slices.SortStableFunc[[]crannog/api.Inode,crannog/api.Inode] -/
abbrev r141_1 : List SOper := [
  ⟨some 4, none, .mov (.t 0)⟩,
  ⟨some 5, none, .mov (.t 0)⟩,
  ⟨some 6, none, .len 1 (.t 5)⟩,
  ⟨some 7, none, .mov (.t 1)⟩,
  ⟨some 8, none, .call false (.c (.func 218 [])) [.t 4, .t 6, .t 7]⟩]
def s141 : SF := ⟨[], .ops r141_1, false, none, none⟩
/-! cmp.Or[int] -/
abbrev r142_1 : List SOper := [
  ⟨some 2, none, .mov (.c (.int .i64 0))⟩]
abbrev r142_2 : List SOper := [
  ⟨some 3, none, .mov (.c (.int .i64 0))⟩]
abbrev r142_3 : List SOper := [
  ⟨some 6, none, .mov (.t 0)⟩,
  ⟨some 7, none, .len 1 (.t 6)⟩,
  ⟨some 8, none, .mov (.c (.int .i64 0))⟩]
abbrev r142_4 : List SOper := [
  ⟨some 9, none, .bin .lss (.t 8) (.t 7)⟩]
abbrev c142_5 : SC := .cond (.t 9) (.skip) (.exit 0)
abbrev r142_6 : List SOper := [
  ⟨some 10, none, .iaddr none 1 (.t 6) (.t 8)⟩,
  ⟨some 11, none, .load false false 1 (.t 10)⟩,
  ⟨some 5, none, .mov (.t 11)⟩]
abbrev r142_7 : List SOper := [
  ⟨some 12, none, .mov (.t 5)⟩,
  ⟨some 13, none, .mov (.t 3)⟩,
  ⟨some 14, none, .bin .neq (.t 12) (.t 13)⟩]
abbrev r142_8 : List SOper := [
  ⟨some 15, none, .mov (.t 5)⟩,
  ⟨some 2, none, .mov (.t 15)⟩]
abbrev c142_9 : SC := .seq (.ops r142_8) (.ret)
abbrev c142_10 : SC := .cond (.t 14) c142_9 (.skip)
abbrev c142_11 : SC := .seq (.ops r142_7) c142_10
abbrev c142_12 : SC := .seq (.ops r142_6) c142_11
abbrev c142_13 : SC := .block 1 [3, 6, 7, 8] [] c142_12
abbrev r142_14 : List SOper := [
  ⟨some 16, none, .bin .add (.t 8) (.c (.int .i64 1))⟩,
  ⟨some 8, none, .mov (.t 16)⟩]
abbrev c142_15 : SC := .seq c142_13 (.ops r142_14)
abbrev c142_16 : SC := .seq c142_5 c142_15
abbrev c142_17 : SC := .seq (.ops r142_4) c142_16
abbrev L142_1 : SC := .loop [3, 6, 7, 8] [] c142_17
abbrev c142_18 : SC := .block 0 [3] [] L142_1
abbrev c142_19 : SC := .seq (.ops r142_3) c142_18
abbrev r142_20 : List SOper := [
  ⟨some 17, none, .mov (.t 3)⟩,
  ⟨some 2, none, .mov (.t 17)⟩]
abbrev c142_21 : SC := .seq (.ops r142_20) (.ret)
abbrev c142_22 : SC := .seq c142_19 c142_21
abbrev c142_23 : SC := .seq (.ops r142_2) c142_22
abbrev c142_24 : SC := .seq (.ops r142_1) c142_23
def s142 : SF := ⟨[.t 2], c142_24, false, none, none⟩
/-! cmp.Compare[int] -/
abbrev r143_1 : List SOper := [
  ⟨some 4, none, .mov (.c (.int .i64 0))⟩]
abbrev r143_2 : List SOper := [
  ⟨some 7, none, .mov (.t 0)⟩,
  ⟨some 8, none, .call false (.c (.func 219 [])) [.t 7]⟩,
  ⟨some 5, none, .mov (.t 8)⟩]
abbrev r143_3 : List SOper := [
  ⟨some 9, none, .mov (.t 1)⟩,
  ⟨some 10, none, .call false (.c (.func 219 [])) [.t 9]⟩,
  ⟨some 6, none, .mov (.t 10)⟩]
abbrev r143_4 : List SOper := [
  ⟨some 11, none, .mov (.t 5)⟩]
abbrev r143_5 : List SOper := [
  ⟨some 12, none, .mov (.t 6)⟩]
abbrev r143_6 : List SOper := [
  ⟨some 4, none, .mov (.c (.int .i64 0))⟩]
abbrev c143_7 : SC := .seq (.ops r143_6) (.ret)
abbrev c143_8 : SC := .cond (.t 12) c143_7 (.skip)
abbrev c143_9 : SC := .seq (.ops r143_5) c143_8
abbrev r143_10 : List SOper := [
  ⟨some 4, none, .mov (.c (.int .i64 (-1)))⟩]
abbrev c143_11 : SC := .seq (.ops r143_10) (.ret)
abbrev c143_12 : SC := .seq c143_9 c143_11
abbrev c143_13 : SC := .cond (.t 11) c143_12 (.skip)
abbrev c143_14 : SC := .seq (.ops r143_4) c143_13
abbrev r143_15 : List SOper := [
  ⟨some 13, none, .mov (.t 6)⟩]
abbrev r143_16 : List SOper := [
  ⟨some 4, none, .mov (.c (.int .i64 1))⟩]
abbrev c143_17 : SC := .seq (.ops r143_16) (.ret)
abbrev c143_18 : SC := .cond (.t 13) c143_17 (.skip)
abbrev c143_19 : SC := .seq (.ops r143_15) c143_18
abbrev r143_20 : List SOper := [
  ⟨some 14, none, .mov (.t 0)⟩,
  ⟨some 15, none, .mov (.t 1)⟩,
  ⟨some 16, none, .bin .lss (.t 14) (.t 15)⟩]
abbrev r143_21 : List SOper := [
  ⟨some 4, none, .mov (.c (.int .i64 (-1)))⟩]
abbrev c143_22 : SC := .seq (.ops r143_21) (.ret)
abbrev c143_23 : SC := .cond (.t 16) c143_22 (.skip)
abbrev c143_24 : SC := .seq (.ops r143_20) c143_23
abbrev r143_25 : List SOper := [
  ⟨some 17, none, .mov (.t 0)⟩,
  ⟨some 18, none, .mov (.t 1)⟩,
  ⟨some 19, none, .bin .gtr (.t 17) (.t 18)⟩]
abbrev r143_26 : List SOper := [
  ⟨some 4, none, .mov (.c (.int .i64 1))⟩]
abbrev c143_27 : SC := .seq (.ops r143_26) (.ret)
abbrev c143_28 : SC := .cond (.t 19) c143_27 (.skip)
abbrev c143_29 : SC := .seq (.ops r143_25) c143_28
abbrev r143_30 : List SOper := [
  ⟨some 4, none, .mov (.c (.int .i64 0))⟩]
abbrev c143_31 : SC := .seq (.ops r143_30) (.ret)
abbrev c143_32 : SC := .seq c143_29 c143_31
abbrev c143_33 : SC := .seq c143_24 c143_32
abbrev c143_34 : SC := .seq c143_19 c143_33
abbrev c143_35 : SC := .seq c143_14 c143_34
abbrev c143_36 : SC := .seq (.ops r143_3) c143_35
abbrev c143_37 : SC := .seq (.ops r143_2) c143_36
abbrev c143_38 : SC := .seq (.ops r143_1) c143_37
def s143 : SF := ⟨[.t 4], c143_38, false, none, none⟩
/-! slices.Concat[[]crannog/api.Piece,crannog/api.Piece] -/
abbrev r148_1 : List SOper := [
  ⟨some 2, none, .mov (.c (.nils))⟩]
abbrev r148_2 : List SOper := [
  ⟨some 3, none, .mov (.c (.int .i64 0))⟩]
abbrev r148_3 : List SOper := [
  ⟨some 9, none, .mov (.t 0)⟩,
  ⟨some 10, none, .len 1 (.t 9)⟩,
  ⟨some 11, none, .mov (.c (.int .i64 0))⟩]
abbrev r148_4 : List SOper := [
  ⟨some 12, none, .bin .lss (.t 11) (.t 10)⟩]
abbrev c148_5 : SC := .cond (.t 12) (.skip) (.exit 0)
abbrev r148_6 : List SOper := [
  ⟨some 13, none, .iaddr none 1 (.t 9) (.t 11)⟩,
  ⟨some 14, none, .load false false 1 (.t 13)⟩,
  ⟨some 5, none, .mov (.t 14)⟩]
abbrev r148_7 : List SOper := [
  ⟨some 15, none, .mov (.t 3)⟩,
  ⟨some 16, none, .mov (.t 5)⟩,
  ⟨some 17, none, .len 1 (.t 16)⟩,
  ⟨some 18, none, .bin .add (.t 15) (.t 17)⟩,
  ⟨some 3, none, .mov (.t 18)⟩]
abbrev r148_8 : List SOper := [
  ⟨some 19, none, .mov (.t 3)⟩,
  ⟨some 20, none, .bin .lss (.t 19) (.c (.int .i64 0))⟩]
abbrev r148_9 : List SOper := [
  ⟨some 21, none, .mkif 9 (.c (.str [108, 101, 110, 32, 111, 117, 116, 32, 111, 102, 32, 114, 97, 110, 103, 101]))⟩,
  ⟨none, none, .panic (.t 21)⟩]
abbrev c148_10 : SC := .cond (.t 20) (.ops r148_9) (.skip)
abbrev c148_11 : SC := .seq (.ops r148_8) c148_10
abbrev c148_12 : SC := .seq (.ops r148_7) c148_11
abbrev c148_13 : SC := .seq (.ops r148_6) c148_12
abbrev c148_14 : SC := .block 1 [0, 3, 9, 10, 11] [] c148_13
abbrev r148_15 : List SOper := [
  ⟨some 22, none, .bin .add (.t 11) (.c (.int .i64 1))⟩,
  ⟨some 11, none, .mov (.t 22)⟩]
abbrev c148_16 : SC := .seq c148_14 (.ops r148_15)
abbrev c148_17 : SC := .seq c148_5 c148_16
abbrev c148_18 : SC := .seq (.ops r148_4) c148_17
abbrev L148_1 : SC := .loop [0, 3, 9, 10, 11] [] c148_18
abbrev c148_19 : SC := .block 0 [0, 3] [] L148_1
abbrev c148_20 : SC := .seq (.ops r148_3) c148_19
abbrev r148_21 : List SOper := [
  ⟨some 23, none, .mov (.t 3)⟩,
  ⟨some 24, none, .call false (.c (.func 221 [])) [.c (.nils), .t 23]⟩,
  ⟨some 6, none, .mov (.t 24)⟩]
abbrev r148_22 : List SOper := [
  ⟨some 25, none, .mov (.t 0)⟩,
  ⟨some 26, none, .len 1 (.t 25)⟩,
  ⟨some 27, none, .mov (.c (.int .i64 0))⟩]
abbrev r148_23 : List SOper := [
  ⟨some 28, none, .bin .lss (.t 27) (.t 26)⟩]
abbrev c148_24 : SC := .cond (.t 28) (.skip) (.exit 2)
abbrev r148_25 : List SOper := [
  ⟨some 29, none, .iaddr none 1 (.t 25) (.t 27)⟩,
  ⟨some 30, none, .load false false 1 (.t 29)⟩,
  ⟨some 8, none, .mov (.t 30)⟩]
abbrev r148_26 : List SOper := [
  ⟨some 31, none, .mov (.t 6)⟩,
  ⟨some 32, none, .mov (.t 8)⟩,
  ⟨some 33, none, .append 4 40 (.t 31) (.t 32)⟩,
  ⟨some 6, none, .mov (.t 33)⟩]
abbrev c148_27 : SC := .seq (.ops r148_25) (.ops r148_26)
abbrev c148_28 : SC := .block 3 [6, 25, 26, 27] [] c148_27
abbrev r148_29 : List SOper := [
  ⟨some 34, none, .bin .add (.t 27) (.c (.int .i64 1))⟩,
  ⟨some 27, none, .mov (.t 34)⟩]
abbrev c148_30 : SC := .seq c148_28 (.ops r148_29)
abbrev c148_31 : SC := .seq c148_24 c148_30
abbrev c148_32 : SC := .seq (.ops r148_23) c148_31
abbrev L148_2 : SC := .loop [6, 25, 26, 27] [] c148_32
abbrev c148_33 : SC := .block 2 [6] [] L148_2
abbrev c148_34 : SC := .seq (.ops r148_22) c148_33
abbrev r148_35 : List SOper := [
  ⟨some 35, none, .mov (.t 6)⟩,
  ⟨some 2, none, .mov (.t 35)⟩]
abbrev c148_36 : SC := .seq (.ops r148_35) (.ret)
abbrev c148_37 : SC := .seq c148_34 c148_36
abbrev c148_38 : SC := .seq (.ops r148_21) c148_37
abbrev c148_39 : SC := .seq c148_20 c148_38
abbrev c148_40 : SC := .seq (.ops r148_2) c148_39
abbrev c148_41 : SC := .seq (.ops r148_1) c148_40
def s148 : SF := ⟨[.t 2], c148_41, true, none, none⟩
/-! slices.Concat[[]crannog/api.Xattr,crannog/api.Xattr] -/
abbrev r149_1 : List SOper := [
  ⟨some 2, none, .mov (.c (.nils))⟩]
abbrev r149_2 : List SOper := [
  ⟨some 3, none, .mov (.c (.int .i64 0))⟩]
abbrev r149_3 : List SOper := [
  ⟨some 9, none, .mov (.t 0)⟩,
  ⟨some 10, none, .len 1 (.t 9)⟩,
  ⟨some 11, none, .mov (.c (.int .i64 0))⟩]
abbrev r149_4 : List SOper := [
  ⟨some 12, none, .bin .lss (.t 11) (.t 10)⟩]
abbrev c149_5 : SC := .cond (.t 12) (.skip) (.exit 0)
abbrev r149_6 : List SOper := [
  ⟨some 13, none, .iaddr none 1 (.t 9) (.t 11)⟩,
  ⟨some 14, none, .load false false 1 (.t 13)⟩,
  ⟨some 5, none, .mov (.t 14)⟩]
abbrev r149_7 : List SOper := [
  ⟨some 15, none, .mov (.t 3)⟩,
  ⟨some 16, none, .mov (.t 5)⟩,
  ⟨some 17, none, .len 1 (.t 16)⟩,
  ⟨some 18, none, .bin .add (.t 15) (.t 17)⟩,
  ⟨some 3, none, .mov (.t 18)⟩]
abbrev r149_8 : List SOper := [
  ⟨some 19, none, .mov (.t 3)⟩,
  ⟨some 20, none, .bin .lss (.t 19) (.c (.int .i64 0))⟩]
abbrev r149_9 : List SOper := [
  ⟨some 21, none, .mkif 9 (.c (.str [108, 101, 110, 32, 111, 117, 116, 32, 111, 102, 32, 114, 97, 110, 103, 101]))⟩,
  ⟨none, none, .panic (.t 21)⟩]
abbrev c149_10 : SC := .cond (.t 20) (.ops r149_9) (.skip)
abbrev c149_11 : SC := .seq (.ops r149_8) c149_10
abbrev c149_12 : SC := .seq (.ops r149_7) c149_11
abbrev c149_13 : SC := .seq (.ops r149_6) c149_12
abbrev c149_14 : SC := .block 1 [0, 3, 9, 10, 11] [] c149_13
abbrev r149_15 : List SOper := [
  ⟨some 22, none, .bin .add (.t 11) (.c (.int .i64 1))⟩,
  ⟨some 11, none, .mov (.t 22)⟩]
abbrev c149_16 : SC := .seq c149_14 (.ops r149_15)
abbrev c149_17 : SC := .seq c149_5 c149_16
abbrev c149_18 : SC := .seq (.ops r149_4) c149_17
abbrev L149_1 : SC := .loop [0, 3, 9, 10, 11] [] c149_18
abbrev c149_19 : SC := .block 0 [0, 3] [] L149_1
abbrev c149_20 : SC := .seq (.ops r149_3) c149_19
abbrev r149_21 : List SOper := [
  ⟨some 23, none, .mov (.t 3)⟩,
  ⟨some 24, none, .call false (.c (.func 222 [])) [.c (.nils), .t 23]⟩,
  ⟨some 6, none, .mov (.t 24)⟩]
abbrev r149_22 : List SOper := [
  ⟨some 25, none, .mov (.t 0)⟩,
  ⟨some 26, none, .len 1 (.t 25)⟩,
  ⟨some 27, none, .mov (.c (.int .i64 0))⟩]
abbrev r149_23 : List SOper := [
  ⟨some 28, none, .bin .lss (.t 27) (.t 26)⟩]
abbrev c149_24 : SC := .cond (.t 28) (.skip) (.exit 2)
abbrev r149_25 : List SOper := [
  ⟨some 29, none, .iaddr none 1 (.t 25) (.t 27)⟩,
  ⟨some 30, none, .load false false 1 (.t 29)⟩,
  ⟨some 8, none, .mov (.t 30)⟩]
abbrev r149_26 : List SOper := [
  ⟨some 31, none, .mov (.t 6)⟩,
  ⟨some 32, none, .mov (.t 8)⟩,
  ⟨some 33, none, .append 5 56 (.t 31) (.t 32)⟩,
  ⟨some 6, none, .mov (.t 33)⟩]
abbrev c149_27 : SC := .seq (.ops r149_25) (.ops r149_26)
abbrev c149_28 : SC := .block 3 [6, 25, 26, 27] [] c149_27
abbrev r149_29 : List SOper := [
  ⟨some 34, none, .bin .add (.t 27) (.c (.int .i64 1))⟩,
  ⟨some 27, none, .mov (.t 34)⟩]
abbrev c149_30 : SC := .seq c149_28 (.ops r149_29)
abbrev c149_31 : SC := .seq c149_24 c149_30
abbrev c149_32 : SC := .seq (.ops r149_23) c149_31
abbrev L149_2 : SC := .loop [6, 25, 26, 27] [] c149_32
abbrev c149_33 : SC := .block 2 [6] [] L149_2
abbrev c149_34 : SC := .seq (.ops r149_22) c149_33
abbrev r149_35 : List SOper := [
  ⟨some 35, none, .mov (.t 6)⟩,
  ⟨some 2, none, .mov (.t 35)⟩]
abbrev c149_36 : SC := .seq (.ops r149_35) (.ret)
abbrev c149_37 : SC := .seq c149_34 c149_36
abbrev c149_38 : SC := .seq (.ops r149_21) c149_37
abbrev c149_39 : SC := .seq c149_20 c149_38
abbrev c149_40 : SC := .seq (.ops r149_2) c149_39
abbrev c149_41 : SC := .seq (.ops r149_1) c149_40
def s149 : SF := ⟨[.t 2], c149_41, true, none, none⟩
/-! slices.Concat[[]crannog/api.Link,crannog/api.Link] -/
abbrev r150_1 : List SOper := [
  ⟨some 2, none, .mov (.c (.nils))⟩]
abbrev r150_2 : List SOper := [
  ⟨some 3, none, .mov (.c (.int .i64 0))⟩]
abbrev r150_3 : List SOper := [
  ⟨some 9, none, .mov (.t 0)⟩,
  ⟨some 10, none, .len 1 (.t 9)⟩,
  ⟨some 11, none, .mov (.c (.int .i64 0))⟩]
abbrev r150_4 : List SOper := [
  ⟨some 12, none, .bin .lss (.t 11) (.t 10)⟩]
abbrev c150_5 : SC := .cond (.t 12) (.skip) (.exit 0)
abbrev r150_6 : List SOper := [
  ⟨some 13, none, .iaddr none 1 (.t 9) (.t 11)⟩,
  ⟨some 14, none, .load false false 1 (.t 13)⟩,
  ⟨some 5, none, .mov (.t 14)⟩]
abbrev r150_7 : List SOper := [
  ⟨some 15, none, .mov (.t 3)⟩,
  ⟨some 16, none, .mov (.t 5)⟩,
  ⟨some 17, none, .len 1 (.t 16)⟩,
  ⟨some 18, none, .bin .add (.t 15) (.t 17)⟩,
  ⟨some 3, none, .mov (.t 18)⟩]
abbrev r150_8 : List SOper := [
  ⟨some 19, none, .mov (.t 3)⟩,
  ⟨some 20, none, .bin .lss (.t 19) (.c (.int .i64 0))⟩]
abbrev r150_9 : List SOper := [
  ⟨some 21, none, .mkif 9 (.c (.str [108, 101, 110, 32, 111, 117, 116, 32, 111, 102, 32, 114, 97, 110, 103, 101]))⟩,
  ⟨none, none, .panic (.t 21)⟩]
abbrev c150_10 : SC := .cond (.t 20) (.ops r150_9) (.skip)
abbrev c150_11 : SC := .seq (.ops r150_8) c150_10
abbrev c150_12 : SC := .seq (.ops r150_7) c150_11
abbrev c150_13 : SC := .seq (.ops r150_6) c150_12
abbrev c150_14 : SC := .block 1 [0, 3, 9, 10, 11] [] c150_13
abbrev r150_15 : List SOper := [
  ⟨some 22, none, .bin .add (.t 11) (.c (.int .i64 1))⟩,
  ⟨some 11, none, .mov (.t 22)⟩]
abbrev c150_16 : SC := .seq c150_14 (.ops r150_15)
abbrev c150_17 : SC := .seq c150_5 c150_16
abbrev c150_18 : SC := .seq (.ops r150_4) c150_17
abbrev L150_1 : SC := .loop [0, 3, 9, 10, 11] [] c150_18
abbrev c150_19 : SC := .block 0 [0, 3] [] L150_1
abbrev c150_20 : SC := .seq (.ops r150_3) c150_19
abbrev r150_21 : List SOper := [
  ⟨some 23, none, .mov (.t 3)⟩,
  ⟨some 24, none, .call false (.c (.func 223 [])) [.c (.nils), .t 23]⟩,
  ⟨some 6, none, .mov (.t 24)⟩]
abbrev r150_22 : List SOper := [
  ⟨some 25, none, .mov (.t 0)⟩,
  ⟨some 26, none, .len 1 (.t 25)⟩,
  ⟨some 27, none, .mov (.c (.int .i64 0))⟩]
abbrev r150_23 : List SOper := [
  ⟨some 28, none, .bin .lss (.t 27) (.t 26)⟩]
abbrev c150_24 : SC := .cond (.t 28) (.skip) (.exit 2)
abbrev r150_25 : List SOper := [
  ⟨some 29, none, .iaddr none 1 (.t 25) (.t 27)⟩,
  ⟨some 30, none, .load false false 1 (.t 29)⟩,
  ⟨some 8, none, .mov (.t 30)⟩]
abbrev r150_26 : List SOper := [
  ⟨some 31, none, .mov (.t 6)⟩,
  ⟨some 32, none, .mov (.t 8)⟩,
  ⟨some 33, none, .append 25 208 (.t 31) (.t 32)⟩,
  ⟨some 6, none, .mov (.t 33)⟩]
abbrev c150_27 : SC := .seq (.ops r150_25) (.ops r150_26)
abbrev c150_28 : SC := .block 3 [6, 25, 26, 27] [] c150_27
abbrev r150_29 : List SOper := [
  ⟨some 34, none, .bin .add (.t 27) (.c (.int .i64 1))⟩,
  ⟨some 27, none, .mov (.t 34)⟩]
abbrev c150_30 : SC := .seq c150_28 (.ops r150_29)
abbrev c150_31 : SC := .seq c150_24 c150_30
abbrev c150_32 : SC := .seq (.ops r150_23) c150_31
abbrev L150_2 : SC := .loop [6, 25, 26, 27] [] c150_32
abbrev c150_33 : SC := .block 2 [6] [] L150_2
abbrev c150_34 : SC := .seq (.ops r150_22) c150_33
abbrev r150_35 : List SOper := [
  ⟨some 35, none, .mov (.t 6)⟩,
  ⟨some 2, none, .mov (.t 35)⟩]
abbrev c150_36 : SC := .seq (.ops r150_35) (.ret)
abbrev c150_37 : SC := .seq c150_34 c150_36
abbrev c150_38 : SC := .seq (.ops r150_21) c150_37
abbrev c150_39 : SC := .seq c150_20 c150_38
abbrev c150_40 : SC := .seq (.ops r150_2) c150_39
abbrev c150_41 : SC := .seq (.ops r150_1) c150_40
def s150 : SF := ⟨[.t 2], c150_41, true, none, none⟩
/-! slices.SortStableFunc[[]crannog/api.Link,crannog/api.Link] -/
abbrev r151_1 : List SOper := [
  ⟨some 4, none, .mov (.t 0)⟩,
  ⟨some 5, none, .mov (.t 0)⟩,
  ⟨some 6, none, .len 1 (.t 5)⟩,
  ⟨some 7, none, .mov (.t 1)⟩,
  ⟨some 8, none, .call false (.c (.func 224 [])) [.t 4, .t 6, .t 7]⟩]
def s151 : SF := ⟨[], .ops r151_1, false, none, none⟩
/-! crannog/join.greater[crannog/api.Link] -/
abbrev r152_1 : List SOper := [
  ⟨some 3, none, .boxL (.t 0)⟩,
  ⟨some 4, none, .boxL (.t 1)⟩,
  ⟨some 6, none, .allocL [.int .i64 0, .int .i64 0, .int .i64 0, .int .i64 0, .int .i64 0, .int .i64 0, .int .i64 0, .int .i64 0, .str [], .int .i64 0, .int .i64 0, .int .i64 0, .int .i64 0, .int .i64 0, .int .i64 0, .int .i64 0, .int .i64 0, .int .i64 0, .int .i64 0, .int .i64 0, .int .i64 0, .int .i64 0, .int .i64 0, .int .i64 0, .int .i64 0]⟩]
abbrev r152_2 : List SOper := [
  ⟨some 7, none, .mov (.t 2)⟩,
  ⟨some 8, none, .load false true 25 (.t 3)⟩,
  ⟨some 9, none, .load false true 25 (.t 4)⟩,
  ⟨some 10, none, .call false (.t 7) [.t 8, .t 9]⟩,
  ⟨some 11, none, .bin .lss (.t 10) (.c (.int .i64 0))⟩]
abbrev r152_3 : List SOper := [
  ⟨some 12, none, .load false true 25 (.t 4)⟩,
  ⟨none, none, .store 25 (.t 6) (.t 12)⟩]
abbrev c152_4 : SC := .seq (.ops r152_3) (.ret)
abbrev c152_5 : SC := .cond (.t 11) c152_4 (.skip)
abbrev c152_6 : SC := .seq (.ops r152_2) c152_5
abbrev r152_7 : List SOper := [
  ⟨some 13, none, .load false true 25 (.t 3)⟩,
  ⟨none, none, .store 25 (.t 6) (.t 13)⟩]
abbrev c152_8 : SC := .seq (.ops r152_7) (.ret)
abbrev c152_9 : SC := .seq c152_6 c152_8
abbrev c152_10 : SC := .seq (.ops r152_1) c152_9
def s152 : SF := ⟨[.c 6 true 25], c152_10, false, none, none⟩
/-! crannog/join.places -/
abbrev r153_1 : List SOper := [
  ⟨some 2, none, .boxL (.t 0)⟩,
  ⟨some 3, none, .boxL (.t 1)⟩,
  ⟨some 4, none, .mov (.c (.int .i64 0))⟩]
abbrev r153_2 : List SOper := [
  ⟨some 5, none, .faddr 4 (.t 2)⟩,
  ⟨some 6, none, .load false true 2 (.t 5)⟩,
  ⟨some 7, none, .faddr 4 (.t 3)⟩,
  ⟨some 8, none, .load false true 2 (.t 7)⟩,
  ⟨some 9, none, .call false (.c (.func 77 [])) [.t 6, .t 8]⟩,
  ⟨some 10, none, .faddr 6 (.t 2)⟩,
  ⟨some 11, none, .loadA (.loc 2) true 2 (.t 10)⟩,
  ⟨some 12, none, .faddr 6 (.t 3)⟩,
  ⟨some 13, none, .loadA (.loc 3) true 2 (.t 12)⟩,
  ⟨some 14, none, .call false (.c (.func 77 [])) [.t 11, .t 13]⟩,
  ⟨some 15, none, .faddr 8 (.t 2)⟩,
  ⟨some 16, none, .loadA (.loc 2) false 1 (.t 15)⟩,
  ⟨some 17, none, .faddr 8 (.t 3)⟩,
  ⟨some 18, none, .loadA (.loc 3) false 1 (.t 17)⟩,
  ⟨some 19, none, .call false (.c (.func 162 [])) [.t 16, .t 18]⟩,
  ⟨some 20, none, .bsnap 1 [.t 9, .t 14, .t 19]⟩,
  ⟨some 21, none, .call false (.c (.func 142 [])) [.t 20]⟩,
  ⟨some 4, none, .mov (.t 21)⟩]
abbrev c153_3 : SC := .seq (.draw 0 [[], [0], [], [2], [1, 3], [], [5], [], [7], [4, 6, 8], [], [10], [], [12], [9, 11, 13], [14], [15], [16]] r153_2) (.ret)
abbrev c153_4 : SC := .seq (.ops r153_1) c153_3
def s153 : SF := ⟨[.t 4], c153_4, false, none, none⟩
/-! crannog/join.greater[crannog/api.Stamp] -/
abbrev r154_1 : List SOper := [
  ⟨some 3, none, .boxL (.t 0)⟩,
  ⟨some 4, none, .boxL (.t 1)⟩,
  ⟨some 6, none, .allocL [.int .i64 0, .int .i64 0]⟩]
abbrev r154_2 : List SOper := [
  ⟨some 7, none, .mov (.t 2)⟩,
  ⟨some 8, none, .load false true 2 (.t 3)⟩,
  ⟨some 9, none, .load false true 2 (.t 4)⟩,
  ⟨some 10, none, .call false (.t 7) [.t 8, .t 9]⟩,
  ⟨some 11, none, .bin .lss (.t 10) (.c (.int .i64 0))⟩]
abbrev r154_3 : List SOper := [
  ⟨some 12, none, .load false true 2 (.t 4)⟩,
  ⟨none, none, .store 2 (.t 6) (.t 12)⟩]
abbrev c154_4 : SC := .seq (.ops r154_3) (.ret)
abbrev c154_5 : SC := .cond (.t 11) c154_4 (.skip)
abbrev c154_6 : SC := .seq (.ops r154_2) c154_5
abbrev r154_7 : List SOper := [
  ⟨some 13, none, .load false true 2 (.t 3)⟩,
  ⟨none, none, .store 2 (.t 6) (.t 13)⟩]
abbrev c154_8 : SC := .seq (.ops r154_7) (.ret)
abbrev c154_9 : SC := .seq c154_6 c154_8
abbrev c154_10 : SC := .seq (.ops r154_1) c154_9
def s154 : SF := ⟨[.c 6 true 2], c154_10, false, none, none⟩
/-! crannog/join.merged[crannog/api.Piece] -/
abbrev r155_1 : List SOper := [
  ⟨some 8, none, .mov (.c (.nils))⟩]
abbrev r155_2 : List SOper := [
  ⟨some 9, none, .mov (.c (.nils))⟩]
abbrev r155_3 : List SOper := [
  ⟨some 14, none, .mov (.t 0)⟩,
  ⟨some 15, none, .mov (.t 1)⟩,
  ⟨some 16, none, .bsnap 1 [.t 14, .t 15]⟩,
  ⟨some 17, none, .call false (.c (.func 148 [])) [.t 16]⟩,
  ⟨some 10, none, .mov (.t 17)⟩]
abbrev r155_4 : List SOper := [
  ⟨some 18, none, .mov (.t 10)⟩,
  ⟨some 19, none, .mov (.t 2)⟩,
  ⟨some 20, none, .call false (.c (.func 225 [])) [.t 18, .t 19]⟩]
abbrev r155_5 : List SOper := [
  ⟨some 21, none, .mov (.t 10)⟩,
  ⟨some 22, none, .len 1 (.t 21)⟩,
  ⟨some 23, none, .mov (.c (.int .i64 0))⟩]
abbrev r155_6 : List SOper := [
  ⟨some 24, none, .bin .lss (.t 23) (.t 22)⟩]
abbrev c155_7 : SC := .cond (.t 24) (.skip) (.exit 0)
abbrev r155_8 : List SOper := [
  ⟨some 25, none, .iaddr none 4 (.t 21) (.t 23)⟩,
  ⟨some 26, none, .load false true 4 (.t 25)⟩,
  ⟨some 12, none, .allocL [.int .i64 0, .int .i64 0, .int .i64 0, .str []]⟩,
  ⟨none, none, .store 4 (.t 12) (.t 26)⟩]
abbrev r155_9 : List SOper := [
  ⟨some 27, none, .mov (.t 9)⟩,
  ⟨some 28, none, .len 1 (.t 27)⟩,
  ⟨some 13, none, .mov (.t 28)⟩]
abbrev r155_10 : List SOper := [
  ⟨some 29, none, .mov (.t 13)⟩,
  ⟨some 30, none, .bin .gtr (.t 29) (.c (.int .i64 0))⟩,
  ⟨some 31, none, .mov (.t 30)⟩,
  ⟨some 32, some (31, true), .mov (.t 2)⟩,
  ⟨some 33, some (31, true), .mov (.t 9)⟩,
  ⟨some 34, some (31, true), .mov (.t 13)⟩,
  ⟨some 35, some (31, true), .bin .sub (.t 34) (.c (.int .i64 1))⟩,
  ⟨some 36, some (31, true), .iaddr none 4 (.t 33) (.t 35)⟩,
  ⟨some 37, some (31, true), .load false true 4 (.t 36)⟩,
  ⟨some 38, some (31, true), .load false true 4 (.t 12)⟩,
  ⟨some 39, some (31, true), .call false (.t 32) [.t 37, .t 38]⟩,
  ⟨some 40, some (31, true), .bin .eql (.t 39) (.c (.int .i64 0))⟩,
  ⟨some 41, none, .pick (.t 31) (.t 40) (.c (.bool false))⟩]
abbrev r155_11 : List SOper := [
  ⟨some 42, none, .mov (.t 9)⟩,
  ⟨some 43, none, .mov (.t 13)⟩,
  ⟨some 44, none, .bin .sub (.t 43) (.c (.int .i64 1))⟩,
  ⟨some 45, none, .mov (.t 3)⟩,
  ⟨some 46, none, .mov (.t 9)⟩,
  ⟨some 47, none, .mov (.t 13)⟩,
  ⟨some 48, none, .bin .sub (.t 47) (.c (.int .i64 1))⟩,
  ⟨some 49, none, .iaddr none 4 (.t 46) (.t 48)⟩,
  ⟨some 50, none, .load false true 4 (.t 49)⟩,
  ⟨some 51, none, .load false true 4 (.t 12)⟩,
  ⟨some 52, none, .call false (.t 45) [.t 50, .t 51]⟩,
  ⟨some 53, none, .iaddr none 4 (.t 42) (.t 44)⟩,
  ⟨none, none, .store 4 (.t 53) (.t 52)⟩]
abbrev c155_12 : SC := .seq (.draw 0 [[], [], [1], [], [], [], [5], [4, 6], [7], [], [3, 8, 9], [0, 2, 10], [11]] r155_11) (.exit 1)
abbrev c155_13 : SC := .cond (.t 41) c155_12 (.skip)
abbrev c155_14 : SC := .seq (.draw 0 [[], [0], [1], [2], [2], [2], [5], [4, 6], [7], [2], [3, 8, 9], [10], [11]] r155_10) c155_13
abbrev c155_15 : SC := .seq (.ops r155_9) c155_14
abbrev r155_16 : List SOper := [
  ⟨some 54, none, .mov (.t 9)⟩,
  ⟨some 55, none, .load false true 4 (.t 12)⟩,
  ⟨some 56, none, .bsnap 4 [.t 55]⟩,
  ⟨some 57, none, .append 4 40 (.t 54) (.t 56)⟩,
  ⟨some 9, none, .mov (.t 57)⟩]
abbrev c155_17 : SC := .seq c155_15 (.ops r155_16)
abbrev c155_18 : SC := .seq (.ops r155_8) c155_17
abbrev c155_19 : SC := .block 1 [2, 3, 9, 21, 22, 23] [] c155_18
abbrev r155_20 : List SOper := [
  ⟨some 58, none, .bin .add (.t 23) (.c (.int .i64 1))⟩,
  ⟨some 23, none, .mov (.t 58)⟩]
abbrev c155_21 : SC := .seq c155_19 (.ops r155_20)
abbrev c155_22 : SC := .seq c155_7 c155_21
abbrev c155_23 : SC := .seq (.ops r155_6) c155_22
abbrev L155_1 : SC := .loop [2, 3, 9, 21, 22, 23] [] c155_23
abbrev c155_24 : SC := .block 0 [9] [] L155_1
abbrev c155_25 : SC := .seq (.ops r155_5) c155_24
abbrev r155_26 : List SOper := [
  ⟨some 59, none, .mov (.t 9)⟩,
  ⟨some 8, none, .mov (.t 59)⟩]
abbrev c155_27 : SC := .seq (.ops r155_26) (.ret)
abbrev c155_28 : SC := .seq c155_25 c155_27
abbrev c155_29 : SC := .seq (.ops r155_4) c155_28
abbrev c155_30 : SC := .seq (.ops r155_3) c155_29
abbrev c155_31 : SC := .seq (.ops r155_2) c155_30
abbrev c155_32 : SC := .seq (.ops r155_1) c155_31
def s155 : SF := ⟨[.t 8], c155_32, true, none, none⟩
/-! crannog/join.merged[crannog/api.Xattr] -/
abbrev r160_1 : List SOper := [
  ⟨some 8, none, .mov (.c (.nils))⟩]
abbrev r160_2 : List SOper := [
  ⟨some 9, none, .mov (.c (.nils))⟩]
abbrev r160_3 : List SOper := [
  ⟨some 14, none, .mov (.t 0)⟩,
  ⟨some 15, none, .mov (.t 1)⟩,
  ⟨some 16, none, .bsnap 1 [.t 14, .t 15]⟩,
  ⟨some 17, none, .call false (.c (.func 149 [])) [.t 16]⟩,
  ⟨some 10, none, .mov (.t 17)⟩]
abbrev r160_4 : List SOper := [
  ⟨some 18, none, .mov (.t 10)⟩,
  ⟨some 19, none, .mov (.t 2)⟩,
  ⟨some 20, none, .call false (.c (.func 226 [])) [.t 18, .t 19]⟩]
abbrev r160_5 : List SOper := [
  ⟨some 21, none, .mov (.t 10)⟩,
  ⟨some 22, none, .len 1 (.t 21)⟩,
  ⟨some 23, none, .mov (.c (.int .i64 0))⟩]
abbrev r160_6 : List SOper := [
  ⟨some 24, none, .bin .lss (.t 23) (.t 22)⟩]
abbrev c160_7 : SC := .cond (.t 24) (.skip) (.exit 0)
abbrev r160_8 : List SOper := [
  ⟨some 25, none, .iaddr none 5 (.t 21) (.t 23)⟩,
  ⟨some 26, none, .load false true 5 (.t 25)⟩,
  ⟨some 12, none, .allocL [.str [], .int .i64 0, .int .i64 0, .str [], .bool false]⟩,
  ⟨none, none, .store 5 (.t 12) (.t 26)⟩]
abbrev r160_9 : List SOper := [
  ⟨some 27, none, .mov (.t 9)⟩,
  ⟨some 28, none, .len 1 (.t 27)⟩,
  ⟨some 13, none, .mov (.t 28)⟩]
abbrev r160_10 : List SOper := [
  ⟨some 29, none, .mov (.t 13)⟩,
  ⟨some 30, none, .bin .gtr (.t 29) (.c (.int .i64 0))⟩,
  ⟨some 31, none, .mov (.t 30)⟩,
  ⟨some 32, some (31, true), .mov (.t 2)⟩,
  ⟨some 33, some (31, true), .mov (.t 9)⟩,
  ⟨some 34, some (31, true), .mov (.t 13)⟩,
  ⟨some 35, some (31, true), .bin .sub (.t 34) (.c (.int .i64 1))⟩,
  ⟨some 36, some (31, true), .iaddr none 5 (.t 33) (.t 35)⟩,
  ⟨some 37, some (31, true), .load false true 5 (.t 36)⟩,
  ⟨some 38, some (31, true), .load false true 5 (.t 12)⟩,
  ⟨some 39, some (31, true), .call false (.t 32) [.t 37, .t 38]⟩,
  ⟨some 40, some (31, true), .bin .eql (.t 39) (.c (.int .i64 0))⟩,
  ⟨some 41, none, .pick (.t 31) (.t 40) (.c (.bool false))⟩]
abbrev r160_11 : List SOper := [
  ⟨some 42, none, .mov (.t 9)⟩,
  ⟨some 43, none, .mov (.t 13)⟩,
  ⟨some 44, none, .bin .sub (.t 43) (.c (.int .i64 1))⟩,
  ⟨some 45, none, .mov (.t 3)⟩,
  ⟨some 46, none, .mov (.t 9)⟩,
  ⟨some 47, none, .mov (.t 13)⟩,
  ⟨some 48, none, .bin .sub (.t 47) (.c (.int .i64 1))⟩,
  ⟨some 49, none, .iaddr none 5 (.t 46) (.t 48)⟩,
  ⟨some 50, none, .load false true 5 (.t 49)⟩,
  ⟨some 51, none, .load false true 5 (.t 12)⟩,
  ⟨some 52, none, .call false (.t 45) [.t 50, .t 51]⟩,
  ⟨some 53, none, .iaddr none 5 (.t 42) (.t 44)⟩,
  ⟨none, none, .store 5 (.t 53) (.t 52)⟩]
abbrev c160_12 : SC := .seq (.draw 0 [[], [], [1], [], [], [], [5], [4, 6], [7], [], [3, 8, 9], [0, 2, 10], [11]] r160_11) (.exit 1)
abbrev c160_13 : SC := .cond (.t 41) c160_12 (.skip)
abbrev c160_14 : SC := .seq (.draw 0 [[], [0], [1], [2], [2], [2], [5], [4, 6], [7], [2], [3, 8, 9], [10], [11]] r160_10) c160_13
abbrev c160_15 : SC := .seq (.ops r160_9) c160_14
abbrev r160_16 : List SOper := [
  ⟨some 54, none, .mov (.t 9)⟩,
  ⟨some 55, none, .load false true 5 (.t 12)⟩,
  ⟨some 56, none, .bsnap 5 [.t 55]⟩,
  ⟨some 57, none, .append 5 56 (.t 54) (.t 56)⟩,
  ⟨some 9, none, .mov (.t 57)⟩]
abbrev c160_17 : SC := .seq c160_15 (.ops r160_16)
abbrev c160_18 : SC := .seq (.ops r160_8) c160_17
abbrev c160_19 : SC := .block 1 [2, 3, 9, 21, 22, 23] [] c160_18
abbrev r160_20 : List SOper := [
  ⟨some 58, none, .bin .add (.t 23) (.c (.int .i64 1))⟩,
  ⟨some 23, none, .mov (.t 58)⟩]
abbrev c160_21 : SC := .seq c160_19 (.ops r160_20)
abbrev c160_22 : SC := .seq c160_7 c160_21
abbrev c160_23 : SC := .seq (.ops r160_6) c160_22
abbrev L160_1 : SC := .loop [2, 3, 9, 21, 22, 23] [] c160_23
abbrev c160_24 : SC := .block 0 [9] [] L160_1
abbrev c160_25 : SC := .seq (.ops r160_5) c160_24
abbrev r160_26 : List SOper := [
  ⟨some 59, none, .mov (.t 9)⟩,
  ⟨some 8, none, .mov (.t 59)⟩]
abbrev c160_27 : SC := .seq (.ops r160_26) (.ret)
abbrev c160_28 : SC := .seq c160_25 c160_27
abbrev c160_29 : SC := .seq (.ops r160_4) c160_28
abbrev c160_30 : SC := .seq (.ops r160_3) c160_29
abbrev c160_31 : SC := .seq (.ops r160_2) c160_30
abbrev c160_32 : SC := .seq (.ops r160_1) c160_31
def s160 : SF := ⟨[.t 8], c160_32, true, none, none⟩
/-! cmp.Compare[string] -/
abbrev r162_1 : List SOper := [
  ⟨some 4, none, .mov (.c (.int .i64 0))⟩]
abbrev r162_2 : List SOper := [
  ⟨some 7, none, .mov (.t 0)⟩,
  ⟨some 8, none, .call false (.c (.func 227 [])) [.t 7]⟩,
  ⟨some 5, none, .mov (.t 8)⟩]
abbrev r162_3 : List SOper := [
  ⟨some 9, none, .mov (.t 1)⟩,
  ⟨some 10, none, .call false (.c (.func 227 [])) [.t 9]⟩,
  ⟨some 6, none, .mov (.t 10)⟩]
abbrev r162_4 : List SOper := [
  ⟨some 11, none, .mov (.t 5)⟩]
abbrev r162_5 : List SOper := [
  ⟨some 12, none, .mov (.t 6)⟩]
abbrev r162_6 : List SOper := [
  ⟨some 4, none, .mov (.c (.int .i64 0))⟩]
abbrev c162_7 : SC := .seq (.ops r162_6) (.ret)
abbrev c162_8 : SC := .cond (.t 12) c162_7 (.skip)
abbrev c162_9 : SC := .seq (.ops r162_5) c162_8
abbrev r162_10 : List SOper := [
  ⟨some 4, none, .mov (.c (.int .i64 (-1)))⟩]
abbrev c162_11 : SC := .seq (.ops r162_10) (.ret)
abbrev c162_12 : SC := .seq c162_9 c162_11
abbrev c162_13 : SC := .cond (.t 11) c162_12 (.skip)
abbrev c162_14 : SC := .seq (.ops r162_4) c162_13
abbrev r162_15 : List SOper := [
  ⟨some 13, none, .mov (.t 6)⟩]
abbrev r162_16 : List SOper := [
  ⟨some 4, none, .mov (.c (.int .i64 1))⟩]
abbrev c162_17 : SC := .seq (.ops r162_16) (.ret)
abbrev c162_18 : SC := .cond (.t 13) c162_17 (.skip)
abbrev c162_19 : SC := .seq (.ops r162_15) c162_18
abbrev r162_20 : List SOper := [
  ⟨some 14, none, .mov (.t 0)⟩,
  ⟨some 15, none, .mov (.t 1)⟩,
  ⟨some 16, none, .bin .lss (.t 14) (.t 15)⟩]
abbrev r162_21 : List SOper := [
  ⟨some 4, none, .mov (.c (.int .i64 (-1)))⟩]
abbrev c162_22 : SC := .seq (.ops r162_21) (.ret)
abbrev c162_23 : SC := .cond (.t 16) c162_22 (.skip)
abbrev c162_24 : SC := .seq (.ops r162_20) c162_23
abbrev r162_25 : List SOper := [
  ⟨some 17, none, .mov (.t 0)⟩,
  ⟨some 18, none, .mov (.t 1)⟩,
  ⟨some 19, none, .bin .gtr (.t 17) (.t 18)⟩]
abbrev r162_26 : List SOper := [
  ⟨some 4, none, .mov (.c (.int .i64 1))⟩]
abbrev c162_27 : SC := .seq (.ops r162_26) (.ret)
abbrev c162_28 : SC := .cond (.t 19) c162_27 (.skip)
abbrev c162_29 : SC := .seq (.ops r162_25) c162_28
abbrev r162_30 : List SOper := [
  ⟨some 4, none, .mov (.c (.int .i64 0))⟩]
abbrev c162_31 : SC := .seq (.ops r162_30) (.ret)
abbrev c162_32 : SC := .seq c162_29 c162_31
abbrev c162_33 : SC := .seq c162_24 c162_32
abbrev c162_34 : SC := .seq c162_19 c162_33
abbrev c162_35 : SC := .seq c162_14 c162_34
abbrev c162_36 : SC := .seq (.ops r162_3) c162_35
abbrev c162_37 : SC := .seq (.ops r162_2) c162_36
abbrev c162_38 : SC := .seq (.ops r162_1) c162_37
def s162 : SF := ⟨[.t 4], c162_38, false, none, none⟩
/-! strings.Split -/
abbrev r166_1 : List SOper := [
  ⟨some 4, none, .mov (.c (.nils))⟩]
abbrev r166_2 : List SOper := [
  ⟨some 5, none, .mov (.t 0)⟩,
  ⟨some 6, none, .mov (.t 1)⟩,
  ⟨some 7, none, .call false (.c (.func 229 [])) [.t 5, .t 6, .c (.int .i64 0), .c (.int .i64 (-1))]⟩,
  ⟨some 4, none, .mov (.t 7)⟩]
abbrev c166_3 : SC := .seq (.ops r166_2) (.ret)
abbrev c166_4 : SC := .seq (.ops r166_1) c166_3
def s166 : SF := ⟨[.t 4], c166_4, false, none, none⟩
/-! crannog/names.Good -/
abbrev r167_1 : List SOper := [
  ⟨some 2, none, .mov (.c (.int .i64 0))⟩]
abbrev r167_2 : List SOper := [
  ⟨some 4, none, .mov (.t 0)⟩,
  ⟨some 5, none, .bin .eql (.t 4) (.c (.str []))⟩,
  ⟨some 6, none, .mov (.t 5)⟩,
  ⟨some 7, some (6, false), .mov (.t 0)⟩,
  ⟨some 8, some (6, false), .bin .eql (.t 7) (.c (.str [46]))⟩,
  ⟨some 9, none, .pick (.t 6) (.c (.bool true)) (.t 8)⟩,
  ⟨some 10, none, .mov (.t 9)⟩,
  ⟨some 11, some (10, false), .mov (.t 0)⟩,
  ⟨some 12, some (10, false), .bin .eql (.t 11) (.c (.str [46, 46]))⟩,
  ⟨some 13, none, .pick (.t 10) (.c (.bool true)) (.t 12)⟩,
  ⟨some 14, none, .mov (.t 13)⟩,
  ⟨some 15, some (14, false), .mov (.t 0)⟩,
  ⟨some 16, some (14, false), .call false (.c (.func 230 [])) [.t 15, .c (.str [47])]⟩,
  ⟨some 17, none, .pick (.t 14) (.c (.bool true)) (.t 16)⟩,
  ⟨some 18, none, .mov (.t 17)⟩,
  ⟨some 19, some (18, false), .mov (.t 0)⟩,
  ⟨some 20, some (18, false), .call false (.c (.func 230 [])) [.t 19, .c (.str [0])]⟩,
  ⟨some 21, none, .pick (.t 18) (.c (.bool true)) (.t 20)⟩,
  ⟨some 3, none, .mov (.t 21)⟩]
abbrev r167_3 : List SOper := [
  ⟨some 2, none, .mov (.c (.int .i64 22))⟩]
abbrev c167_4 : SC := .seq (.ops r167_3) (.ret)
abbrev r167_5 : List SOper := [
  ⟨some 23, none, .mov (.t 0)⟩,
  ⟨some 24, none, .len 0 (.t 23)⟩,
  ⟨some 25, none, .bin .gtr (.t 24) (.c (.int .i64 16))⟩,
  ⟨some 22, none, .mov (.t 25)⟩]
abbrev r167_6 : List SOper := [
  ⟨some 2, none, .mov (.c (.int .i64 36))⟩]
abbrev c167_7 : SC := .seq (.ops r167_6) (.ret)
abbrev c167_8 : SC := .cond (.t 22) c167_7 (.skip)
abbrev c167_9 : SC := .seq (.ops r167_5) c167_8
abbrev c167_10 : SC := .cond (.t 3) c167_4 c167_9
abbrev c167_11 : SC := .seq (.ops r167_2) c167_10
abbrev c167_12 : SC := .block 0 [] [] c167_11
abbrev r167_13 : List SOper := [
  ⟨some 2, none, .mov (.c (.int .i64 0))⟩]
abbrev c167_14 : SC := .seq (.ops r167_13) (.ret)
abbrev c167_15 : SC := .seq c167_12 c167_14
abbrev c167_16 : SC := .seq (.ops r167_1) c167_15
def s167 : SF := ⟨[.t 2], c167_16, false, none, none⟩
/-! crannog/view.step -/
abbrev r168_1 : List SOper := [
  ⟨some 4, none, .boxH none (.t 1)⟩,
  ⟨some 5, none, .boxH none (.t 2)⟩,
  ⟨some 6, none, .allocL [.int .i64 0, .int .i64 0, .int .i64 0, .int .i64 0, .int .i64 0, .int .i64 0, .str [], .bool false]⟩,
  ⟨some 7, none, .mov (.c (.bool false))⟩]
abbrev r168_2 : List SOper := [
  ⟨some 9, none, .load false true 2 (.t 4)⟩,
  ⟨some 10, none, .build [.int .i64 0, .int .i64 0] []⟩,
  ⟨some 11, none, .cmpA false [.int .i64, .int .i64] (.t 9) (.t 10)⟩,
  ⟨some 12, none, .mov (.t 11)⟩,
  ⟨some 13, some (12, true), .load false false 1 (.t 5)⟩,
  ⟨some 14, some (12, true), .bin .eql (.t 13) (.c (.str [46, 108, 111, 115, 116]))⟩,
  ⟨some 15, none, .pick (.t 12) (.t 14) (.c (.bool false))⟩]
abbrev r168_3 : List SOper := [
  ⟨some 16, none, .call false (.c (.func 127 [])) []⟩,
  ⟨some 17, none, .build [.int .i64 0, .int .i64 0, .int .i64 0, .int .i64 0, .int .i64 0, .int .i64 0, .str [], .bool false] [(2, 2, .t 16), (6, 1, .c (.str [46, 108, 111, 115, 116]))]⟩,
  ⟨none, none, .store 8 (.t 6) (.t 17)⟩,
  ⟨some 7, none, .mov (.c (.bool true))⟩]
abbrev c168_4 : SC := .seq (.ops r168_3) (.ret)
abbrev c168_5 : SC := .cond (.t 15) c168_4 (.skip)
abbrev c168_6 : SC := .seq (.ops r168_2) c168_5
abbrev r168_7 : List SOper := [
  ⟨some 18, none, .mov (.t 0)⟩,
  ⟨some 19, none, .mkfn 231 [.t 4, .t 5]⟩,
  ⟨some 20, none, .call false (.c (.func 205 [])) [.t 18, .t 19]⟩,
  ⟨some 8, none, .mov (.t 20)⟩]
abbrev r168_8 : List SOper := [
  ⟨some 21, none, .mov (.t 8)⟩,
  ⟨some 22, none, .bin .lss (.t 21) (.c (.int .i64 0))⟩]
abbrev r168_9 : List SOper := [
  ⟨some 23, none, .build [.int .i64 0, .int .i64 0, .int .i64 0, .int .i64 0, .int .i64 0, .int .i64 0, .str [], .bool false] []⟩,
  ⟨none, none, .store 8 (.t 6) (.t 23)⟩,
  ⟨some 7, none, .mov (.c (.bool false))⟩]
abbrev c168_10 : SC := .seq (.ops r168_9) (.ret)
abbrev c168_11 : SC := .cond (.t 22) c168_10 (.skip)
abbrev c168_12 : SC := .seq (.ops r168_8) c168_11
abbrev r168_13 : List SOper := [
  ⟨some 24, none, .mov (.t 0)⟩,
  ⟨some 25, none, .mov (.t 8)⟩,
  ⟨some 26, none, .iaddr none 8 (.t 24) (.t 25)⟩,
  ⟨some 27, none, .load false true 8 (.t 26)⟩,
  ⟨none, none, .store 8 (.t 6) (.t 27)⟩,
  ⟨some 7, none, .mov (.c (.bool true))⟩]
abbrev c168_14 : SC := .seq (.ops r168_13) (.ret)
abbrev c168_15 : SC := .seq c168_12 c168_14
abbrev c168_16 : SC := .seq (.ops r168_7) c168_15
abbrev c168_17 : SC := .seq c168_6 c168_16
abbrev c168_18 : SC := .seq (.ops r168_1) c168_17
def s168 : SF := ⟨[.c 6 true 8, .t 7], c168_18, false, none, none⟩
/-! crannog/view.In -/
abbrev r169_1 : List SOper := [
  ⟨some 3, none, .boxL (.t 1)⟩,
  ⟨some 4, none, .mov (.c (.nils))⟩]
abbrev r169_2 : List SOper := [
  ⟨some 5, none, .mov (.c (.nils))⟩]
abbrev r169_3 : List SOper := [
  ⟨some 8, none, .mov (.t 0)⟩,
  ⟨some 9, none, .len 1 (.t 8)⟩,
  ⟨some 10, none, .mov (.c (.int .i64 0))⟩]
abbrev r169_4 : List SOper := [
  ⟨some 11, none, .bin .lss (.t 10) (.t 9)⟩]
abbrev c169_5 : SC := .cond (.t 11) (.skip) (.exit 0)
abbrev r169_6 : List SOper := [
  ⟨some 12, none, .iaddr none 8 (.t 8) (.t 10)⟩,
  ⟨some 13, none, .load false true 8 (.t 12)⟩,
  ⟨some 7, none, .allocL [.int .i64 0, .int .i64 0, .int .i64 0, .int .i64 0, .int .i64 0, .int .i64 0, .str [], .bool false]⟩,
  ⟨none, none, .store 8 (.t 7) (.t 13)⟩]
abbrev r169_7 : List SOper := [
  ⟨some 14, none, .faddr 4 (.t 7)⟩,
  ⟨some 15, none, .load false true 2 (.t 14)⟩,
  ⟨some 16, none, .load false true 2 (.t 3)⟩,
  ⟨some 17, none, .cmpA false [.int .i64, .int .i64] (.t 15) (.t 16)⟩]
abbrev r169_8 : List SOper := [
  ⟨some 18, none, .mov (.t 5)⟩,
  ⟨some 19, none, .load false true 8 (.t 7)⟩,
  ⟨some 20, none, .bsnap 8 [.t 19]⟩,
  ⟨some 21, none, .append 8 72 (.t 18) (.t 20)⟩,
  ⟨some 5, none, .mov (.t 21)⟩]
abbrev c169_9 : SC := .cond (.t 17) (.ops r169_8) (.skip)
abbrev c169_10 : SC := .seq (.ops r169_7) c169_9
abbrev c169_11 : SC := .seq (.ops r169_6) c169_10
abbrev c169_12 : SC := .block 1 [3, 5, 8, 9, 10] [3] c169_11
abbrev r169_13 : List SOper := [
  ⟨some 22, none, .bin .add (.t 10) (.c (.int .i64 1))⟩,
  ⟨some 10, none, .mov (.t 22)⟩]
abbrev c169_14 : SC := .seq c169_12 (.ops r169_13)
abbrev c169_15 : SC := .seq c169_5 c169_14
abbrev c169_16 : SC := .seq (.ops r169_4) c169_15
abbrev L169_1 : SC := .loop [3, 5, 8, 9, 10] [3] c169_16
abbrev c169_17 : SC := .block 0 [5] [] L169_1
abbrev c169_18 : SC := .seq (.ops r169_3) c169_17
abbrev r169_19 : List SOper := [
  ⟨some 23, none, .mov (.t 5)⟩,
  ⟨some 4, none, .mov (.t 23)⟩]
abbrev c169_20 : SC := .seq (.ops r169_19) (.ret)
abbrev c169_21 : SC := .seq c169_18 c169_20
abbrev c169_22 : SC := .seq (.ops r169_2) c169_21
abbrev c169_23 : SC := .seq (.ops r169_1) c169_22
def s169 : SF := ⟨[.t 4], c169_23, true, none, none⟩
/-! internal/stringslite.HasSuffix -/
abbrev r170_1 : List SOper := [
  ⟨some 4, none, .mov (.c (.bool false))⟩]
abbrev r170_2 : List SOper := [
  ⟨some 5, none, .mov (.t 0)⟩,
  ⟨some 6, none, .len 0 (.t 5)⟩,
  ⟨some 7, none, .mov (.t 1)⟩,
  ⟨some 8, none, .len 0 (.t 7)⟩,
  ⟨some 9, none, .bin .geq (.t 6) (.t 8)⟩,
  ⟨some 10, none, .mov (.t 9)⟩,
  ⟨some 11, some (10, true), .mov (.t 0)⟩,
  ⟨some 12, some (10, true), .mov (.t 0)⟩,
  ⟨some 13, some (10, true), .len 0 (.t 12)⟩,
  ⟨some 14, some (10, true), .mov (.t 1)⟩,
  ⟨some 15, some (10, true), .len 0 (.t 14)⟩,
  ⟨some 16, some (10, true), .bin .sub (.t 13) (.t 15)⟩,
  ⟨some 17, some (10, true), .slice true 1 (.t 11) (some (.t 16)) none none⟩,
  ⟨some 18, some (10, true), .mov (.t 1)⟩,
  ⟨some 19, some (10, true), .bin .eql (.t 17) (.t 18)⟩,
  ⟨some 20, none, .pick (.t 10) (.t 19) (.c (.bool false))⟩,
  ⟨some 4, none, .mov (.t 20)⟩]
abbrev c170_3 : SC := .seq (.ops r170_2) (.ret)
abbrev c170_4 : SC := .seq (.ops r170_1) c170_3
def s170 : SF := ⟨[.t 4], c170_4, false, none, none⟩
/-! crannog/crc.More -/
abbrev r171_1 : List SOper := [
  ⟨some 4, none, .mov (.c (.int .u64 0))⟩]
abbrev r171_2 : List SOper := [
  ⟨some 8, none, .mov (.t 0)⟩,
  ⟨some 9, none, .un .xor (.t 8)⟩,
  ⟨some 5, none, .mov (.t 9)⟩]
abbrev r171_3 : List SOper := [
  ⟨some 10, none, .mov (.t 1)⟩,
  ⟨some 11, none, .len 0 (.t 10)⟩,
  ⟨some 12, none, .mov (.c (.int .i64 0))⟩]
abbrev r171_4 : List SOper := [
  ⟨some 13, none, .bin .lss (.t 12) (.t 11)⟩]
abbrev c171_5 : SC := .cond (.t 13) (.skip) (.exit 0)
abbrev r171_6 : List SOper := [
  ⟨some 14, none, .mov (.t 12)⟩,
  ⟨some 6, none, .mov (.t 14)⟩]
abbrev r171_7 : List SOper := [
  ⟨some 15, none, .mov (.t 5)⟩,
  ⟨some 16, none, .mov (.t 1)⟩,
  ⟨some 17, none, .mov (.t 6)⟩,
  ⟨some 18, none, .index none (.t 16) (.t 17)⟩,
  ⟨some 19, none, .cvI .u64 (.t 18)⟩,
  ⟨some 20, none, .bin .xor (.t 15) (.t 19)⟩,
  ⟨some 5, none, .mov (.t 20)⟩]
abbrev r171_8 : List SOper := [
  ⟨some 21, none, .mov (.c (.int .i64 0))⟩]
abbrev r171_9 : List SOper := [
  ⟨some 22, none, .bin .lss (.t 21) (.c (.int .i64 8))⟩]
abbrev c171_10 : SC := .cond (.t 22) (.skip) (.exit 2)
abbrev r171_11 : List SOper := [
  ⟨some 23, none, .mov (.t 5)⟩,
  ⟨some 24, none, .bin .and (.t 23) (.c (.int .u64 1))⟩,
  ⟨some 7, none, .mov (.t 24)⟩]
abbrev r171_12 : List SOper := [
  ⟨some 25, none, .mov (.t 5)⟩,
  ⟨some 26, none, .bin .shr (.t 25) (.c (.int .u64 1))⟩,
  ⟨some 27, none, .mov (.t 7)⟩,
  ⟨some 28, none, .un .neg (.t 27)⟩,
  ⟨some 29, none, .bin .and (.c (.int .u64 14514072000185962306)) (.t 28)⟩,
  ⟨some 30, none, .bin .xor (.t 26) (.t 29)⟩,
  ⟨some 5, none, .mov (.t 30)⟩]
abbrev c171_13 : SC := .seq (.ops r171_11) (.ops r171_12)
abbrev c171_14 : SC := .block 3 [1, 5, 11, 12, 21] [] c171_13
abbrev r171_15 : List SOper := [
  ⟨some 31, none, .bin .add (.t 21) (.c (.int .i64 1))⟩,
  ⟨some 21, none, .mov (.t 31)⟩]
abbrev c171_16 : SC := .seq c171_14 (.ops r171_15)
abbrev c171_17 : SC := .seq c171_10 c171_16
abbrev c171_18 : SC := .seq (.ops r171_9) c171_17
abbrev L171_1 : SC := .loop [1, 5, 11, 12, 21] [] c171_18
abbrev c171_19 : SC := .block 2 [1, 5, 11, 12] [] L171_1
abbrev c171_20 : SC := .seq (.ops r171_8) c171_19
abbrev c171_21 : SC := .seq (.ops r171_7) c171_20
abbrev c171_22 : SC := .seq (.ops r171_6) c171_21
abbrev c171_23 : SC := .block 1 [1, 5, 11, 12] [] c171_22
abbrev r171_24 : List SOper := [
  ⟨some 32, none, .bin .add (.t 12) (.c (.int .i64 1))⟩,
  ⟨some 12, none, .mov (.t 32)⟩]
abbrev c171_25 : SC := .seq c171_23 (.ops r171_24)
abbrev c171_26 : SC := .seq c171_5 c171_25
abbrev c171_27 : SC := .seq (.ops r171_4) c171_26
abbrev L171_2 : SC := .loop [1, 5, 11, 12] [] c171_27
abbrev c171_28 : SC := .block 0 [5] [] L171_2
abbrev c171_29 : SC := .seq (.ops r171_3) c171_28
abbrev r171_30 : List SOper := [
  ⟨some 33, none, .mov (.t 5)⟩,
  ⟨some 34, none, .un .xor (.t 33)⟩,
  ⟨some 4, none, .mov (.t 34)⟩]
abbrev c171_31 : SC := .seq (.ops r171_30) (.ret)
abbrev c171_32 : SC := .seq c171_29 c171_31
abbrev c171_33 : SC := .seq (.ops r171_2) c171_32
abbrev c171_34 : SC := .seq (.ops r171_1) c171_33
def s171 : SF := ⟨[.t 4], c171_34, false, none, none⟩
/-! crannog/crannogref03.More -/
abbrev r172_1 : List SOper := [
  ⟨some 4, none, .mov (.c (.int .u64 0))⟩]
abbrev r172_2 : List SOper := [
  ⟨some 8, none, .mov (.t 0)⟩,
  ⟨some 9, none, .bin .sub (.c (.int .u64 18446744073709551615)) (.t 8)⟩,
  ⟨some 5, none, .mov (.t 9)⟩]
abbrev r172_3 : List SOper := [
  ⟨some 10, none, .mov (.t 1)⟩,
  ⟨some 11, none, .len 0 (.t 10)⟩,
  ⟨some 12, none, .mov (.c (.int .i64 0))⟩]
abbrev r172_4 : List SOper := [
  ⟨some 13, none, .bin .lss (.t 12) (.t 11)⟩]
abbrev c172_5 : SC := .cond (.t 13) (.skip) (.exit 0)
abbrev r172_6 : List SOper := [
  ⟨some 14, none, .mov (.t 12)⟩,
  ⟨some 6, none, .mov (.t 14)⟩]
abbrev r172_7 : List SOper := [
  ⟨some 15, none, .mov (.t 5)⟩,
  ⟨some 16, none, .mov (.t 1)⟩,
  ⟨some 17, none, .mov (.t 6)⟩,
  ⟨some 18, none, .index none (.t 16) (.t 17)⟩,
  ⟨some 19, none, .cvI .u64 (.t 18)⟩,
  ⟨some 20, none, .bin .xor (.t 15) (.t 19)⟩,
  ⟨some 5, none, .mov (.t 20)⟩]
abbrev r172_8 : List SOper := [
  ⟨some 21, none, .mov (.c (.int .i64 0))⟩]
abbrev r172_9 : List SOper := [
  ⟨some 22, none, .bin .lss (.t 21) (.c (.int .i64 8))⟩]
abbrev c172_10 : SC := .cond (.t 22) (.skip) (.exit 2)
abbrev r172_11 : List SOper := [
  ⟨some 23, none, .mov (.t 5)⟩,
  ⟨some 24, none, .bin .rem (.t 23) (.c (.int .u64 2))⟩,
  ⟨some 25, none, .bin .eql (.t 24) (.c (.int .u64 1))⟩,
  ⟨some 7, none, .mov (.t 25)⟩]
abbrev r172_12 : List SOper := [
  ⟨some 26, none, .mov (.t 5)⟩,
  ⟨some 27, none, .bin .quo (.t 26) (.c (.int .u64 2))⟩,
  ⟨some 5, none, .mov (.t 27)⟩]
abbrev r172_13 : List SOper := [
  ⟨some 28, none, .mov (.t 7)⟩]
abbrev r172_14 : List SOper := [
  ⟨some 29, none, .mov (.t 5)⟩,
  ⟨some 30, none, .bin .xor (.t 29) (.c (.int .u64 14514072000185962306))⟩,
  ⟨some 5, none, .mov (.t 30)⟩]
abbrev c172_15 : SC := .cond (.t 28) (.ops r172_14) (.skip)
abbrev c172_16 : SC := .seq (.ops r172_13) c172_15
abbrev c172_17 : SC := .seq (.ops r172_12) c172_16
abbrev c172_18 : SC := .seq (.ops r172_11) c172_17
abbrev c172_19 : SC := .block 3 [1, 5, 11, 12, 21] [] c172_18
abbrev r172_20 : List SOper := [
  ⟨some 31, none, .bin .add (.t 21) (.c (.int .i64 1))⟩,
  ⟨some 21, none, .mov (.t 31)⟩]
abbrev c172_21 : SC := .seq c172_19 (.ops r172_20)
abbrev c172_22 : SC := .seq c172_10 c172_21
abbrev c172_23 : SC := .seq (.ops r172_9) c172_22
abbrev L172_1 : SC := .loop [1, 5, 11, 12, 21] [] c172_23
abbrev c172_24 : SC := .block 2 [1, 5, 11, 12] [] L172_1
abbrev c172_25 : SC := .seq (.ops r172_8) c172_24
abbrev c172_26 : SC := .seq (.ops r172_7) c172_25
abbrev c172_27 : SC := .seq (.ops r172_6) c172_26
abbrev c172_28 : SC := .block 1 [1, 5, 11, 12] [] c172_27
abbrev r172_29 : List SOper := [
  ⟨some 32, none, .bin .add (.t 12) (.c (.int .i64 1))⟩,
  ⟨some 12, none, .mov (.t 32)⟩]
abbrev c172_30 : SC := .seq c172_28 (.ops r172_29)
abbrev c172_31 : SC := .seq c172_5 c172_30
abbrev c172_32 : SC := .seq (.ops r172_4) c172_31
abbrev L172_2 : SC := .loop [1, 5, 11, 12] [] c172_32
abbrev c172_33 : SC := .block 0 [5] [] L172_2
abbrev c172_34 : SC := .seq (.ops r172_3) c172_33
abbrev r172_35 : List SOper := [
  ⟨some 33, none, .mov (.t 5)⟩,
  ⟨some 34, none, .bin .sub (.c (.int .u64 18446744073709551615)) (.t 33)⟩,
  ⟨some 4, none, .mov (.t 34)⟩]
abbrev c172_36 : SC := .seq (.ops r172_35) (.ret)
abbrev c172_37 : SC := .seq c172_34 c172_36
abbrev c172_38 : SC := .seq (.ops r172_2) c172_37
abbrev c172_39 : SC := .seq (.ops r172_1) c172_38
def s172 : SF := ⟨[.t 4], c172_39, false, none, none⟩
/-! (*crannog/facts.maker).known -/
abbrev r180_1 : List SOper := [
  ⟨some 3, none, .boxL (.t 1)⟩,
  ⟨some 4, none, .mov (.c (.bool false))⟩]
abbrev r180_2 : List SOper := [
  ⟨some 5, none, .mov (.t 0)⟩,
  ⟨some 6, none, .nilck (.t 5)⟩,
  ⟨some 7, none, .faddr 0 (.t 6)⟩,
  ⟨some 8, none, .faddr 0 (.t 7)⟩,
  ⟨some 9, none, .load false true 8 (.t 8)⟩,
  ⟨some 10, none, .load false true 2 (.t 3)⟩,
  ⟨some 11, none, .call false (.c (.func 184 [])) [.t 9, .t 10]⟩,
  ⟨some 4, none, .mov (.t 11)⟩]
abbrev c180_3 : SC := .seq (.draw 0 [[], [0], [1], [2], [3], [], [4, 5], [6]] r180_2) (.ret)
abbrev c180_4 : SC := .seq (.ops r180_1) c180_3
def s180 : SF := ⟨[.t 4], c180_4, false, none, none⟩
/-! (*crannog/facts.maker).attr -/
abbrev r181_1 : List SOper := [
  ⟨some 3, none, .boxL (.t 1)⟩,
  ⟨some 4, none, .mov (.c (.bool false))⟩]
abbrev r181_2 : List SOper := [
  ⟨some 6, none, .faddr 0 (.t 3)⟩,
  ⟨some 7, none, .load false true 2 (.t 6)⟩,
  ⟨some 8, none, .build [.int .i64 0, .int .i64 0] []⟩,
  ⟨some 9, none, .cmpA false [.int .i64, .int .i64] (.t 7) (.t 8)⟩,
  ⟨some 5, none, .mov (.t 9)⟩]
abbrev r181_3 : List SOper := [
  ⟨some 10, none, .faddr 4 (.t 3)⟩,
  ⟨some 11, none, .faddr 2 (.t 10)⟩,
  ⟨some 12, none, .load false false 1 (.t 11)⟩,
  ⟨some 13, none, .bin .geq (.t 12) (.c (.int .i64 0))⟩,
  ⟨some 14, none, .mov (.t 13)⟩,
  ⟨some 15, some (14, true), .faddr 4 (.t 3)⟩,
  ⟨some 16, some (14, true), .faddr 2 (.t 15)⟩,
  ⟨some 17, some (14, true), .load false false 1 (.t 16)⟩,
  ⟨some 18, some (14, true), .bin .leq (.t 17) (.c (.int .i64 511))⟩,
  ⟨some 19, none, .pick (.t 14) (.t 18) (.c (.bool false))⟩,
  ⟨some 20, none, .mov (.t 19)⟩,
  ⟨some 21, some (20, true), .faddr 4 (.t 3)⟩,
  ⟨some 22, some (20, true), .faddr 3 (.t 21)⟩,
  ⟨some 23, some (20, true), .load false false 1 (.t 22)⟩,
  ⟨some 24, some (20, true), .call false (.c (.func 89 [])) [.t 23]⟩,
  ⟨some 25, none, .pick (.t 20) (.t 24) (.c (.bool false))⟩,
  ⟨some 26, none, .mov (.t 25)⟩,
  ⟨some 27, some (26, true), .mov (.t 0)⟩,
  ⟨some 28, some (26, true), .faddr 4 (.t 3)⟩,
  ⟨some 29, some (26, true), .faddr 0 (.t 28)⟩,
  ⟨some 30, some (26, true), .load false true 2 (.t 29)⟩,
  ⟨some 31, some (26, true), .call false (.c (.func 180 [])) [.t 27, .t 30]⟩,
  ⟨some 32, some (26, true), .mov (.t 31)⟩,
  ⟨some 33, some (32, false), .mov (.t 5)⟩,
  ⟨some 34, some (32, false), .mov (.t 33)⟩,
  ⟨some 35, some (34, true), .faddr 4 (.t 3)⟩,
  ⟨some 36, some (34, true), .faddr 0 (.t 35)⟩,
  ⟨some 37, some (34, true), .load false true 2 (.t 36)⟩,
  ⟨some 38, some (34, true), .build [.int .i64 0, .int .i64 0] []⟩,
  ⟨some 39, some (34, true), .cmpA false [.int .i64, .int .i64] (.t 37) (.t 38)⟩,
  ⟨some 40, some (32, false), .pick (.t 34) (.t 39) (.c (.bool false))⟩,
  ⟨some 41, some (26, true), .pick (.t 32) (.c (.bool true)) (.t 40)⟩,
  ⟨some 42, none, .pick (.t 26) (.t 41) (.c (.bool false))⟩,
  ⟨some 4, none, .mov (.t 42)⟩]
abbrev c181_4 : SC := .seq (.ops r181_3) (.ret)
abbrev c181_5 : SC := .seq (.ops r181_2) c181_4
abbrev c181_6 : SC := .seq (.ops r181_1) c181_5
def s181 : SF := ⟨[.t 4], c181_6, false, none, none⟩
/-! (*crannog/facts.maker).body -/
abbrev r182_1 : List SOper := [
  ⟨some 3, none, .boxL (.t 1)⟩,
  ⟨some 4, none, .mov (.c (.bool false))⟩]
abbrev r182_2 : List SOper := [
  ⟨some 7, none, .faddr 2 (.t 3)⟩,
  ⟨some 8, none, .load false false 1 (.t 7)⟩,
  ⟨some 9, none, .bin .neq (.t 8) (.c (.int .i64 1))⟩]
abbrev r182_3 : List SOper := [
  ⟨some 10, none, .faddr 8 (.t 3)⟩,
  ⟨some 11, none, .load false true 3 (.t 10)⟩,
  ⟨some 12, none, .build [.int .i64 0, .int .i64 0, .int .i64 0] []⟩,
  ⟨some 13, none, .cmpA false [.int .i64, .int .i64, .int .i64] (.t 11) (.t 12)⟩,
  ⟨some 14, none, .mov (.t 13)⟩,
  ⟨some 15, some (14, true), .faddr 11 (.t 3)⟩,
  ⟨some 16, some (14, true), .load false false 1 (.t 15)⟩,
  ⟨some 17, some (14, true), .len 1 (.t 16)⟩,
  ⟨some 18, some (14, true), .bin .eql (.t 17) (.c (.int .i64 0))⟩,
  ⟨some 19, none, .pick (.t 14) (.t 18) (.c (.bool false))⟩,
  ⟨some 4, none, .mov (.t 19)⟩]
abbrev c182_4 : SC := .seq (.ops r182_3) (.ret)
abbrev c182_5 : SC := .cond (.t 9) c182_4 (.skip)
abbrev c182_6 : SC := .seq (.ops r182_2) c182_5
abbrev r182_7 : List SOper := [
  ⟨some 20, none, .mov (.t 0)⟩,
  ⟨some 21, none, .faddr 8 (.t 3)⟩,
  ⟨some 22, none, .faddr 0 (.t 21)⟩,
  ⟨some 23, none, .load false true 2 (.t 22)⟩,
  ⟨some 24, none, .call false (.c (.func 180 [])) [.t 20, .t 23]⟩,
  ⟨some 25, none, .un .not (.t 24)⟩,
  ⟨some 26, none, .mov (.t 25)⟩,
  ⟨some 27, some (26, false), .faddr 8 (.t 3)⟩,
  ⟨some 28, some (26, false), .faddr 2 (.t 27)⟩,
  ⟨some 29, some (26, false), .load false false 1 (.t 28)⟩,
  ⟨some 30, some (26, false), .bin .lss (.t 29) (.c (.int .i64 0))⟩,
  ⟨some 31, none, .pick (.t 26) (.c (.bool true)) (.t 30)⟩,
  ⟨some 32, none, .mov (.t 31)⟩,
  ⟨some 33, some (32, false), .faddr 8 (.t 3)⟩,
  ⟨some 34, some (32, false), .faddr 2 (.t 33)⟩,
  ⟨some 35, some (32, false), .load false false 1 (.t 34)⟩,
  ⟨some 36, some (32, false), .bin .gtr (.t 35) (.c (.int .i64 1024))⟩,
  ⟨some 37, none, .pick (.t 32) (.c (.bool true)) (.t 36)⟩,
  ⟨some 38, none, .mov (.t 37)⟩,
  ⟨some 39, some (38, false), .faddr 11 (.t 3)⟩,
  ⟨some 40, some (38, false), .load false false 1 (.t 39)⟩,
  ⟨some 41, some (38, false), .len 1 (.t 40)⟩,
  ⟨some 42, some (38, false), .bin .gtr (.t 41) (.c (.int .i64 16))⟩,
  ⟨some 43, none, .pick (.t 38) (.c (.bool true)) (.t 42)⟩]
abbrev r182_8 : List SOper := [
  ⟨some 4, none, .mov (.c (.bool false))⟩]
abbrev c182_9 : SC := .seq (.ops r182_8) (.ret)
abbrev c182_10 : SC := .cond (.t 43) c182_9 (.skip)
abbrev c182_11 : SC := .seq (.ops r182_7) c182_10
abbrev r182_12 : List SOper := [
  ⟨some 44, none, .faddr 11 (.t 3)⟩,
  ⟨some 45, none, .load false false 1 (.t 44)⟩,
  ⟨some 46, none, .len 1 (.t 45)⟩,
  ⟨some 47, none, .mov (.c (.int .i64 0))⟩]
abbrev r182_13 : List SOper := [
  ⟨some 48, none, .bin .lss (.t 47) (.t 46)⟩]
abbrev c182_14 : SC := .cond (.t 48) (.skip) (.exit 0)
abbrev r182_15 : List SOper := [
  ⟨some 49, none, .mov (.t 47)⟩,
  ⟨some 50, none, .iaddr none 4 (.t 45) (.t 47)⟩,
  ⟨some 51, none, .load false true 4 (.t 50)⟩,
  ⟨some 6, none, .allocL [.int .i64 0, .int .i64 0, .int .i64 0, .str []]⟩,
  ⟨some 5, none, .mov (.t 49)⟩,
  ⟨none, none, .store 4 (.t 6) (.t 51)⟩]
abbrev r182_16 : List SOper := [
  ⟨some 52, none, .faddr 0 (.t 6)⟩,
  ⟨some 53, none, .load false false 1 (.t 52)⟩,
  ⟨some 54, none, .bin .lss (.t 53) (.c (.int .i64 0))⟩,
  ⟨some 55, none, .mov (.t 54)⟩,
  ⟨some 56, some (55, false), .faddr 0 (.t 6)⟩,
  ⟨some 57, some (55, false), .load false false 1 (.t 56)⟩,
  ⟨some 58, some (55, false), .bin .geq (.t 57) (.c (.int .i64 16))⟩,
  ⟨some 59, none, .pick (.t 55) (.c (.bool true)) (.t 58)⟩,
  ⟨some 60, none, .mov (.t 59)⟩,
  ⟨some 61, some (60, false), .mov (.t 5)⟩,
  ⟨some 62, some (60, false), .bin .gtr (.t 61) (.c (.int .i64 0))⟩,
  ⟨some 63, some (60, false), .mov (.t 62)⟩,
  ⟨some 64, some (63, true), .faddr 0 (.t 6)⟩,
  ⟨some 65, some (63, true), .load false false 1 (.t 64)⟩,
  ⟨some 66, some (63, true), .faddr 11 (.t 3)⟩,
  ⟨some 67, some (63, true), .load false false 1 (.t 66)⟩,
  ⟨some 68, some (63, true), .mov (.t 5)⟩,
  ⟨some 69, some (63, true), .bin .sub (.t 68) (.c (.int .i64 1))⟩,
  ⟨some 70, some (63, true), .iaddr none 4 (.t 67) (.t 69)⟩,
  ⟨some 71, some (63, true), .faddr 0 (.t 70)⟩,
  ⟨some 72, some (63, true), .load false false 1 (.t 71)⟩,
  ⟨some 73, some (63, true), .bin .leq (.t 65) (.t 72)⟩,
  ⟨some 74, some (60, false), .pick (.t 63) (.t 73) (.c (.bool false))⟩,
  ⟨some 75, none, .pick (.t 60) (.c (.bool true)) (.t 74)⟩,
  ⟨some 76, none, .mov (.t 75)⟩,
  ⟨some 77, some (76, false), .faddr 3 (.t 6)⟩,
  ⟨some 78, some (76, false), .load false false 1 (.t 77)⟩,
  ⟨some 79, some (76, false), .len 0 (.t 78)⟩,
  ⟨some 80, some (76, false), .bin .gtr (.t 79) (.c (.int .i64 64))⟩,
  ⟨some 81, none, .pick (.t 76) (.c (.bool true)) (.t 80)⟩,
  ⟨some 82, none, .mov (.t 81)⟩,
  ⟨some 83, some (82, false), .mov (.t 0)⟩,
  ⟨some 84, some (82, false), .faddr 1 (.t 6)⟩,
  ⟨some 85, some (82, false), .load false true 2 (.t 84)⟩,
  ⟨some 86, some (82, false), .call false (.c (.func 180 [])) [.t 83, .t 85]⟩,
  ⟨some 87, some (82, false), .un .not (.t 86)⟩,
  ⟨some 88, none, .pick (.t 82) (.c (.bool true)) (.t 87)⟩]
abbrev r182_17 : List SOper := [
  ⟨some 4, none, .mov (.c (.bool false))⟩]
abbrev c182_18 : SC := .seq (.ops r182_17) (.ret)
abbrev c182_19 : SC := .cond (.t 88) c182_18 (.skip)
abbrev c182_20 : SC := .seq (.draw 0 [[], [0], [1], [2], [3], [4], [5], [6], [7], [8], [9], [10], [11], [12], [11], [14], [11], [16], [15, 17], [18], [19], [13, 20], [21], [22], [23], [24], [25], [26], [27], [28], [29], [30], [30], [32], [31, 33], [34], [35]] r182_16) c182_19
abbrev c182_21 : SC := .seq (.ops r182_15) c182_20
abbrev c182_22 : SC := .block 1 [0, 3, 45, 46, 47] [3] c182_21
abbrev r182_23 : List SOper := [
  ⟨some 89, none, .bin .add (.t 47) (.c (.int .i64 1))⟩,
  ⟨some 47, none, .mov (.t 89)⟩]
abbrev c182_24 : SC := .seq c182_22 (.ops r182_23)
abbrev c182_25 : SC := .seq c182_14 c182_24
abbrev c182_26 : SC := .seq (.ops r182_13) c182_25
abbrev L182_1 : SC := .loop [0, 3, 45, 46, 47] [3] c182_26
abbrev c182_27 : SC := .block 0 [] [] L182_1
abbrev c182_28 : SC := .seq (.ops r182_12) c182_27
abbrev r182_29 : List SOper := [
  ⟨some 4, none, .mov (.c (.bool true))⟩]
abbrev c182_30 : SC := .seq (.ops r182_29) (.ret)
abbrev c182_31 : SC := .seq c182_28 c182_30
abbrev c182_32 : SC := .seq c182_11 c182_31
abbrev c182_33 : SC := .seq c182_6 c182_32
abbrev c182_34 : SC := .seq (.ops r182_1) c182_33
def s182 : SF := ⟨[.t 4], c182_34, false, none, none⟩
/-! (*crannog/facts.maker).xattrs -/
abbrev r183_1 : List SOper := [
  ⟨some 3, none, .boxL (.t 1)⟩,
  ⟨some 4, none, .mov (.c (.bool false))⟩]
abbrev r183_2 : List SOper := [
  ⟨some 7, none, .faddr 12 (.t 3)⟩,
  ⟨some 8, none, .load false false 1 (.t 7)⟩,
  ⟨some 9, none, .len 1 (.t 8)⟩,
  ⟨some 10, none, .bin .gtr (.t 9) (.c (.int .i64 32))⟩]
abbrev r183_3 : List SOper := [
  ⟨some 4, none, .mov (.c (.bool false))⟩]
abbrev c183_4 : SC := .seq (.ops r183_3) (.ret)
abbrev c183_5 : SC := .cond (.t 10) c183_4 (.skip)
abbrev c183_6 : SC := .seq (.ops r183_2) c183_5
abbrev r183_7 : List SOper := [
  ⟨some 11, none, .faddr 12 (.t 3)⟩,
  ⟨some 12, none, .load false false 1 (.t 11)⟩,
  ⟨some 13, none, .len 1 (.t 12)⟩,
  ⟨some 14, none, .mov (.c (.int .i64 0))⟩]
abbrev r183_8 : List SOper := [
  ⟨some 15, none, .bin .lss (.t 14) (.t 13)⟩]
abbrev c183_9 : SC := .cond (.t 15) (.skip) (.exit 0)
abbrev r183_10 : List SOper := [
  ⟨some 16, none, .mov (.t 14)⟩,
  ⟨some 17, none, .iaddr none 5 (.t 12) (.t 14)⟩,
  ⟨some 18, none, .load false true 5 (.t 17)⟩,
  ⟨some 6, none, .allocL [.str [], .int .i64 0, .int .i64 0, .str [], .bool false]⟩,
  ⟨some 5, none, .mov (.t 16)⟩,
  ⟨none, none, .store 5 (.t 6) (.t 18)⟩]
abbrev r183_11 : List SOper := [
  ⟨some 19, none, .faddr 0 (.t 6)⟩,
  ⟨some 20, none, .load false false 1 (.t 19)⟩,
  ⟨some 21, none, .call false (.c (.func 167 [])) [.t 20]⟩,
  ⟨some 22, none, .bin .neq (.t 21) (.c (.int .i64 0))⟩,
  ⟨some 23, none, .mov (.t 22)⟩,
  ⟨some 24, some (23, false), .mov (.t 5)⟩,
  ⟨some 25, some (23, false), .bin .gtr (.t 24) (.c (.int .i64 0))⟩,
  ⟨some 26, some (23, false), .mov (.t 25)⟩,
  ⟨some 27, some (26, true), .faddr 0 (.t 6)⟩,
  ⟨some 28, some (26, true), .load false false 1 (.t 27)⟩,
  ⟨some 29, some (26, true), .faddr 12 (.t 3)⟩,
  ⟨some 30, some (26, true), .load false false 1 (.t 29)⟩,
  ⟨some 31, some (26, true), .mov (.t 5)⟩,
  ⟨some 32, some (26, true), .bin .sub (.t 31) (.c (.int .i64 1))⟩,
  ⟨some 33, some (26, true), .iaddr none 5 (.t 30) (.t 32)⟩,
  ⟨some 34, some (26, true), .faddr 0 (.t 33)⟩,
  ⟨some 35, some (26, true), .load false false 1 (.t 34)⟩,
  ⟨some 36, some (26, true), .bin .leq (.t 28) (.t 35)⟩,
  ⟨some 37, some (23, false), .pick (.t 26) (.t 36) (.c (.bool false))⟩,
  ⟨some 38, none, .pick (.t 23) (.c (.bool true)) (.t 37)⟩,
  ⟨some 39, none, .mov (.t 38)⟩,
  ⟨some 40, some (39, false), .faddr 3 (.t 6)⟩,
  ⟨some 41, some (39, false), .load false false 1 (.t 40)⟩,
  ⟨some 42, some (39, false), .len 0 (.t 41)⟩,
  ⟨some 43, some (39, false), .bin .gtr (.t 42) (.c (.int .i64 32))⟩,
  ⟨some 44, none, .pick (.t 39) (.c (.bool true)) (.t 43)⟩,
  ⟨some 45, none, .mov (.t 44)⟩,
  ⟨some 46, some (45, false), .faddr 4 (.t 6)⟩,
  ⟨some 47, some (45, false), .load false false 1 (.t 46)⟩,
  ⟨some 48, some (45, false), .mov (.t 47)⟩,
  ⟨some 49, some (48, true), .faddr 3 (.t 6)⟩,
  ⟨some 50, some (48, true), .load false false 1 (.t 49)⟩,
  ⟨some 51, some (48, true), .bin .neq (.t 50) (.c (.str []))⟩,
  ⟨some 52, some (45, false), .pick (.t 48) (.t 51) (.c (.bool false))⟩,
  ⟨some 53, none, .pick (.t 45) (.c (.bool true)) (.t 52)⟩,
  ⟨some 54, none, .mov (.t 53)⟩,
  ⟨some 55, some (54, false), .mov (.t 0)⟩,
  ⟨some 56, some (54, false), .faddr 1 (.t 6)⟩,
  ⟨some 57, some (54, false), .load false true 2 (.t 56)⟩,
  ⟨some 58, some (54, false), .call false (.c (.func 180 [])) [.t 55, .t 57]⟩,
  ⟨some 59, some (54, false), .un .not (.t 58)⟩,
  ⟨some 60, none, .pick (.t 54) (.c (.bool true)) (.t 59)⟩]
abbrev r183_12 : List SOper := [
  ⟨some 4, none, .mov (.c (.bool false))⟩]
abbrev c183_13 : SC := .seq (.ops r183_12) (.ret)
abbrev c183_14 : SC := .cond (.t 60) c183_13 (.skip)
abbrev c183_15 : SC := .seq (.draw 0 [[], [0], [1], [2], [3], [4], [5], [6], [7], [8], [7], [10], [7], [12], [11, 13], [14], [15], [9, 16], [17], [18], [19], [20], [21], [22], [23], [24], [25], [26], [27], [28], [29], [30], [31], [32], [33], [34], [35], [35], [37], [36, 38], [39], [40]] r183_11) c183_14
abbrev c183_16 : SC := .seq (.ops r183_10) c183_15
abbrev c183_17 : SC := .block 1 [0, 3, 12, 13, 14] [3] c183_16
abbrev r183_18 : List SOper := [
  ⟨some 61, none, .bin .add (.t 14) (.c (.int .i64 1))⟩,
  ⟨some 14, none, .mov (.t 61)⟩]
abbrev c183_19 : SC := .seq c183_17 (.ops r183_18)
abbrev c183_20 : SC := .seq c183_9 c183_19
abbrev c183_21 : SC := .seq (.ops r183_8) c183_20
abbrev L183_1 : SC := .loop [0, 3, 12, 13, 14] [3] c183_21
abbrev c183_22 : SC := .block 0 [] [] L183_1
abbrev c183_23 : SC := .seq (.ops r183_7) c183_22
abbrev r183_24 : List SOper := [
  ⟨some 4, none, .mov (.c (.bool true))⟩]
abbrev c183_25 : SC := .seq (.ops r183_24) (.ret)
abbrev c183_26 : SC := .seq c183_23 c183_25
abbrev c183_27 : SC := .seq c183_6 c183_26
abbrev c183_28 : SC := .seq (.ops r183_1) c183_27
def s183 : SF := ⟨[.t 4], c183_28, false, none, none⟩
/-! crannog/vector.Has -/
abbrev r184_1 : List SOper := [
  ⟨some 2, none, .boxL (.t 0)⟩,
  ⟨some 3, none, .boxL (.t 1)⟩,
  ⟨some 4, none, .mov (.c (.bool false))⟩]
abbrev r184_2 : List SOper := [
  ⟨some 5, none, .load false true 2 (.t 3)⟩,
  ⟨some 6, none, .call false (.c (.func 240 [])) [.t 5]⟩,
  ⟨some 7, none, .mov (.t 6)⟩,
  ⟨some 8, some (7, true), .faddr 1 (.t 3)⟩,
  ⟨some 9, some (7, true), .load false false 1 (.t 8)⟩,
  ⟨some 10, some (7, true), .iaddr (some 8) 1 (.t 2) (.t 9)⟩,
  ⟨some 11, some (7, true), .load false false 1 (.t 10)⟩,
  ⟨some 12, some (7, true), .faddr 0 (.t 3)⟩,
  ⟨some 13, some (7, true), .load false false 1 (.t 12)⟩,
  ⟨some 14, some (7, true), .bin .geq (.t 11) (.t 13)⟩,
  ⟨some 15, none, .pick (.t 7) (.t 14) (.c (.bool false))⟩,
  ⟨some 4, none, .mov (.t 15)⟩]
abbrev c184_3 : SC := .seq (.draw 0 [[], [0], [1], [2], [3], [4], [5], [2], [7], [6, 8], [9], [10]] r184_2) (.ret)
abbrev c184_4 : SC := .seq (.ops r184_1) c184_3
def s184 : SF := ⟨[.t 4], c184_4, false, none, none⟩
/-! crannog/vector.Within -/
abbrev r185_1 : List SOper := [
  ⟨some 2, none, .boxL (.t 0)⟩,
  ⟨some 3, none, .boxL (.t 1)⟩,
  ⟨some 4, none, .mov (.c (.bool false))⟩]
abbrev r185_2 : List SOper := [
  ⟨some 5, none, .load false true 8 (.t 2)⟩,
  ⟨some 6, none, .load false true 8 (.t 3)⟩,
  ⟨some 7, none, .call false (.c (.func 74 [])) [.t 5, .t 6]⟩,
  ⟨some 8, none, .loadA (.loc 3) true 8 (.t 3)⟩,
  ⟨some 9, none, .cmpA false [.int .i64, .int .i64, .int .i64, .int .i64, .int .i64, .int .i64, .int .i64, .int .i64] (.t 7) (.t 8)⟩,
  ⟨some 4, none, .mov (.t 9)⟩]
abbrev c185_3 : SC := .seq (.draw 0 [[], [], [0, 1], [], [2, 3], [4]] r185_2) (.ret)
abbrev c185_4 : SC := .seq (.ops r185_1) c185_3
def s185 : SF := ⟨[.t 4], c185_4, false, none, none⟩
/-! slices.pdqsortCmpFunc[crannog/api.Shown] -/
abbrev r188_1 : List SOper := [
  ⟨some 10, none, .mov (.c (.bool true))⟩]
abbrev r188_2 : List SOper := [
  ⟨some 11, none, .mov (.c (.bool true))⟩]
abbrev r188_3 : List SOper := [
  ⟨some 21, none, .mov (.t 2)⟩,
  ⟨some 22, none, .mov (.t 1)⟩,
  ⟨some 23, none, .bin .sub (.t 21) (.t 22)⟩,
  ⟨some 12, none, .mov (.t 23)⟩]
abbrev r188_4 : List SOper := [
  ⟨some 24, none, .mov (.t 12)⟩,
  ⟨some 25, none, .bin .leq (.t 24) (.c (.int .i64 12))⟩]
abbrev r188_5 : List SOper := [
  ⟨some 26, none, .mov (.t 0)⟩,
  ⟨some 27, none, .mov (.t 1)⟩,
  ⟨some 28, none, .mov (.t 2)⟩,
  ⟨some 29, none, .mov (.t 4)⟩,
  ⟨some 30, none, .call false (.c (.func 241 [])) [.t 26, .t 27, .t 28, .t 29]⟩]
abbrev c188_6 : SC := .seq (.ops r188_5) (.ret)
abbrev c188_7 : SC := .cond (.t 25) c188_6 (.skip)
abbrev c188_8 : SC := .seq (.ops r188_4) c188_7
abbrev r188_9 : List SOper := [
  ⟨some 31, none, .mov (.t 3)⟩,
  ⟨some 32, none, .bin .eql (.t 31) (.c (.int .i64 0))⟩]
abbrev r188_10 : List SOper := [
  ⟨some 33, none, .mov (.t 0)⟩,
  ⟨some 34, none, .mov (.t 1)⟩,
  ⟨some 35, none, .mov (.t 2)⟩,
  ⟨some 36, none, .mov (.t 4)⟩,
  ⟨some 37, none, .call false (.c (.func 242 [])) [.t 33, .t 34, .t 35, .t 36]⟩]
abbrev c188_11 : SC := .seq (.ops r188_10) (.ret)
abbrev c188_12 : SC := .cond (.t 32) c188_11 (.skip)
abbrev c188_13 : SC := .seq (.ops r188_9) c188_12
abbrev r188_14 : List SOper := [
  ⟨some 38, none, .mov (.t 10)⟩,
  ⟨some 39, none, .un .not (.t 38)⟩]
abbrev r188_15 : List SOper := [
  ⟨some 40, none, .mov (.t 0)⟩,
  ⟨some 41, none, .mov (.t 1)⟩,
  ⟨some 42, none, .mov (.t 2)⟩,
  ⟨some 43, none, .mov (.t 4)⟩,
  ⟨some 44, none, .call false (.c (.func 243 [])) [.t 40, .t 41, .t 42, .t 43]⟩]
abbrev r188_16 : List SOper := [
  ⟨some 45, none, .mov (.t 3)⟩,
  ⟨some 46, none, .bin .sub (.t 45) (.c (.int .i64 1))⟩,
  ⟨some 3, none, .mov (.t 46)⟩]
abbrev c188_17 : SC := .seq (.ops r188_15) (.ops r188_16)
abbrev c188_18 : SC := .cond (.t 39) c188_17 (.skip)
abbrev c188_19 : SC := .seq (.ops r188_14) c188_18
abbrev r188_20 : List SOper := [
  ⟨some 48, none, .mov (.t 0)⟩,
  ⟨some 49, none, .mov (.t 1)⟩,
  ⟨some 50, none, .mov (.t 2)⟩,
  ⟨some 51, none, .mov (.t 4)⟩,
  ⟨some 52, none, .call false (.c (.func 244 [])) [.t 48, .t 49, .t 50, .t 51]⟩,
  ⟨some 47, none, .mov (.t 52)⟩,
  ⟨some 53, none, .extract (.t 47) 0⟩,
  ⟨some 54, none, .extract (.t 47) 1⟩,
  ⟨some 13, none, .mov (.t 53)⟩,
  ⟨some 14, none, .mov (.t 54)⟩]
abbrev r188_21 : List SOper := [
  ⟨some 55, none, .mov (.t 14)⟩,
  ⟨some 56, none, .bin .eql (.t 55) (.c (.int .i64 2))⟩]
abbrev r188_22 : List SOper := [
  ⟨some 57, none, .mov (.t 0)⟩,
  ⟨some 58, none, .mov (.t 1)⟩,
  ⟨some 59, none, .mov (.t 2)⟩,
  ⟨some 60, none, .mov (.t 4)⟩,
  ⟨some 61, none, .call false (.c (.func 245 [])) [.t 57, .t 58, .t 59, .t 60]⟩]
abbrev r188_23 : List SOper := [
  ⟨some 62, none, .mov (.t 2)⟩,
  ⟨some 63, none, .bin .sub (.t 62) (.c (.int .i64 1))⟩,
  ⟨some 64, none, .mov (.t 13)⟩,
  ⟨some 65, none, .mov (.t 1)⟩,
  ⟨some 66, none, .bin .sub (.t 64) (.t 65)⟩,
  ⟨some 67, none, .bin .sub (.t 63) (.t 66)⟩,
  ⟨some 13, none, .mov (.t 67)⟩]
abbrev r188_24 : List SOper := [
  ⟨some 14, none, .mov (.c (.int .i64 1))⟩]
abbrev c188_25 : SC := .seq (.ops r188_23) (.ops r188_24)
abbrev c188_26 : SC := .seq (.ops r188_22) c188_25
abbrev c188_27 : SC := .cond (.t 56) c188_26 (.skip)
abbrev c188_28 : SC := .seq (.ops r188_21) c188_27
abbrev r188_29 : List SOper := [
  ⟨some 68, none, .mov (.t 10)⟩,
  ⟨some 69, none, .mov (.t 68)⟩,
  ⟨some 70, some (69, true), .mov (.t 11)⟩,
  ⟨some 71, none, .pick (.t 69) (.t 70) (.c (.bool false))⟩,
  ⟨some 72, none, .mov (.t 71)⟩,
  ⟨some 73, some (72, true), .mov (.t 14)⟩,
  ⟨some 74, some (72, true), .bin .eql (.t 73) (.c (.int .i64 1))⟩,
  ⟨some 75, none, .pick (.t 72) (.t 74) (.c (.bool false))⟩]
abbrev r188_30 : List SOper := [
  ⟨some 76, none, .mov (.t 0)⟩,
  ⟨some 77, none, .mov (.t 1)⟩,
  ⟨some 78, none, .mov (.t 2)⟩,
  ⟨some 79, none, .mov (.t 4)⟩,
  ⟨some 80, none, .call false (.c (.func 246 [])) [.t 76, .t 77, .t 78, .t 79]⟩]
abbrev c188_31 : SC := .cond (.t 80) (.ret) (.skip)
abbrev c188_32 : SC := .seq (.ops r188_30) c188_31
abbrev c188_33 : SC := .cond (.t 75) c188_32 (.skip)
abbrev c188_34 : SC := .seq (.ops r188_29) c188_33
abbrev r188_35 : List SOper := [
  ⟨some 81, none, .mov (.t 1)⟩,
  ⟨some 82, none, .bin .gtr (.t 81) (.c (.int .i64 0))⟩,
  ⟨some 83, none, .mov (.t 82)⟩,
  ⟨some 84, some (83, true), .mov (.t 4)⟩,
  ⟨some 85, some (83, true), .mov (.t 0)⟩,
  ⟨some 86, some (83, true), .mov (.t 1)⟩,
  ⟨some 87, some (83, true), .bin .sub (.t 86) (.c (.int .i64 1))⟩,
  ⟨some 88, some (83, true), .iaddr none 8 (.t 85) (.t 87)⟩,
  ⟨some 89, some (83, true), .load false true 8 (.t 88)⟩,
  ⟨some 90, some (83, true), .mov (.t 0)⟩,
  ⟨some 91, some (83, true), .mov (.t 13)⟩,
  ⟨some 92, some (83, true), .iaddr none 8 (.t 90) (.t 91)⟩,
  ⟨some 93, some (83, true), .load false true 8 (.t 92)⟩,
  ⟨some 94, some (83, true), .call false (.t 84) [.t 89, .t 93]⟩,
  ⟨some 95, some (83, true), .bin .lss (.t 94) (.c (.int .i64 0))⟩,
  ⟨some 96, some (83, true), .un .not (.t 95)⟩,
  ⟨some 97, none, .pick (.t 83) (.t 96) (.c (.bool false))⟩]
abbrev r188_36 : List SOper := [
  ⟨some 98, none, .mov (.t 0)⟩,
  ⟨some 99, none, .mov (.t 1)⟩,
  ⟨some 100, none, .mov (.t 2)⟩,
  ⟨some 101, none, .mov (.t 13)⟩,
  ⟨some 102, none, .mov (.t 4)⟩,
  ⟨some 103, none, .call false (.c (.func 247 [])) [.t 98, .t 99, .t 100, .t 101, .t 102]⟩,
  ⟨some 15, none, .mov (.t 103)⟩]
abbrev r188_37 : List SOper := [
  ⟨some 104, none, .mov (.t 15)⟩,
  ⟨some 1, none, .mov (.t 104)⟩]
abbrev c188_38 : SC := .seq (.ops r188_37) (.exit 1)
abbrev c188_39 : SC := .seq (.ops r188_36) c188_38
abbrev c188_40 : SC := .cond (.t 97) c188_39 (.skip)
abbrev c188_41 : SC := .seq (.draw 0 [[], [0], [1], [2], [2], [2], [5], [4, 6], [7], [2], [2], [9, 10], [11], [3, 8, 12], [13], [14], [15]] r188_35) c188_40
abbrev r188_42 : List SOper := [
  ⟨some 106, none, .mov (.t 0)⟩,
  ⟨some 107, none, .mov (.t 1)⟩,
  ⟨some 108, none, .mov (.t 2)⟩,
  ⟨some 109, none, .mov (.t 13)⟩,
  ⟨some 110, none, .mov (.t 4)⟩,
  ⟨some 111, none, .call false (.c (.func 248 [])) [.t 106, .t 107, .t 108, .t 109, .t 110]⟩,
  ⟨some 105, none, .mov (.t 111)⟩,
  ⟨some 112, none, .extract (.t 105) 0⟩,
  ⟨some 113, none, .extract (.t 105) 1⟩,
  ⟨some 16, none, .mov (.t 112)⟩,
  ⟨some 17, none, .mov (.t 113)⟩]
abbrev r188_43 : List SOper := [
  ⟨some 114, none, .mov (.t 17)⟩,
  ⟨some 11, none, .mov (.t 114)⟩]
abbrev r188_44 : List SOper := [
  ⟨some 115, none, .mov (.t 16)⟩,
  ⟨some 116, none, .mov (.t 1)⟩,
  ⟨some 117, none, .bin .sub (.t 115) (.t 116)⟩,
  ⟨some 118, none, .mov (.t 2)⟩,
  ⟨some 119, none, .mov (.t 16)⟩,
  ⟨some 120, none, .bin .sub (.t 118) (.t 119)⟩,
  ⟨some 18, none, .mov (.t 117)⟩,
  ⟨some 19, none, .mov (.t 120)⟩]
abbrev r188_45 : List SOper := [
  ⟨some 121, none, .mov (.t 12)⟩,
  ⟨some 122, none, .bin .quo (.t 121) (.c (.int .i64 8))⟩,
  ⟨some 20, none, .mov (.t 122)⟩]
abbrev r188_46 : List SOper := [
  ⟨some 123, none, .mov (.t 18)⟩,
  ⟨some 124, none, .mov (.t 19)⟩,
  ⟨some 125, none, .bin .lss (.t 123) (.t 124)⟩]
abbrev r188_47 : List SOper := [
  ⟨some 126, none, .mov (.t 18)⟩,
  ⟨some 127, none, .mov (.t 20)⟩,
  ⟨some 128, none, .bin .geq (.t 126) (.t 127)⟩,
  ⟨some 10, none, .mov (.t 128)⟩]
abbrev r188_48 : List SOper := [
  ⟨some 129, none, .mov (.t 0)⟩,
  ⟨some 130, none, .mov (.t 1)⟩,
  ⟨some 131, none, .mov (.t 16)⟩,
  ⟨some 132, none, .mov (.t 3)⟩,
  ⟨some 133, none, .mov (.t 4)⟩,
  ⟨some 134, none, .call false (.c (.func 188 [])) [.t 129, .t 130, .t 131, .t 132, .t 133]⟩]
abbrev r188_49 : List SOper := [
  ⟨some 135, none, .mov (.t 16)⟩,
  ⟨some 136, none, .bin .add (.t 135) (.c (.int .i64 1))⟩,
  ⟨some 1, none, .mov (.t 136)⟩]
abbrev c188_50 : SC := .seq (.ops r188_48) (.ops r188_49)
abbrev c188_51 : SC := .seq (.ops r188_47) c188_50
abbrev r188_52 : List SOper := [
  ⟨some 137, none, .mov (.t 19)⟩,
  ⟨some 138, none, .mov (.t 20)⟩,
  ⟨some 139, none, .bin .geq (.t 137) (.t 138)⟩,
  ⟨some 10, none, .mov (.t 139)⟩]
abbrev r188_53 : List SOper := [
  ⟨some 140, none, .mov (.t 0)⟩,
  ⟨some 141, none, .mov (.t 16)⟩,
  ⟨some 142, none, .bin .add (.t 141) (.c (.int .i64 1))⟩,
  ⟨some 143, none, .mov (.t 2)⟩,
  ⟨some 144, none, .mov (.t 3)⟩,
  ⟨some 145, none, .mov (.t 4)⟩,
  ⟨some 146, none, .call false (.c (.func 188 [])) [.t 140, .t 142, .t 143, .t 144, .t 145]⟩]
abbrev r188_54 : List SOper := [
  ⟨some 147, none, .mov (.t 16)⟩,
  ⟨some 2, none, .mov (.t 147)⟩]
abbrev c188_55 : SC := .seq (.ops r188_53) (.ops r188_54)
abbrev c188_56 : SC := .seq (.ops r188_52) c188_55
abbrev c188_57 : SC := .cond (.t 125) c188_51 c188_56
abbrev c188_58 : SC := .seq (.ops r188_46) c188_57
abbrev c188_59 : SC := .seq (.ops r188_45) c188_58
abbrev c188_60 : SC := .seq (.ops r188_44) c188_59
abbrev c188_61 : SC := .seq (.ops r188_43) c188_60
abbrev c188_62 : SC := .seq (.ops r188_42) c188_61
abbrev c188_63 : SC := .seq c188_41 c188_62
abbrev c188_64 : SC := .seq c188_34 c188_63
abbrev c188_65 : SC := .seq c188_28 c188_64
abbrev c188_66 : SC := .seq (.ops r188_20) c188_65
abbrev c188_67 : SC := .seq c188_19 c188_66
abbrev c188_68 : SC := .seq c188_13 c188_67
abbrev c188_69 : SC := .seq c188_8 c188_68
abbrev c188_70 : SC := .seq (.ops r188_3) c188_69
abbrev c188_71 : SC := .block 1 [0, 1, 2, 3, 4, 10, 11] [] c188_70
abbrev L188_1 : SC := .loop [0, 1, 2, 3, 4, 10, 11] [] c188_71
abbrev c188_72 : SC := .block 0 [] [] L188_1
abbrev c188_73 : SC := .seq (.ops r188_2) c188_72
abbrev c188_74 : SC := .seq (.ops r188_1) c188_73
def s188 : SF := ⟨[], c188_74, false, none, none⟩
/-! math/bits.Len -/
abbrev r189_1 : List SOper := [
  ⟨some 2, none, .mov (.c (.int .i64 0))⟩]
abbrev r189_2 : List SOper := [
  ⟨some 3, none, .mov (.t 0)⟩,
  ⟨some 4, none, .cvI .u32 (.t 3)⟩,
  ⟨some 5, none, .call false (.c (.func 249 [])) [.t 4]⟩,
  ⟨some 2, none, .mov (.t 5)⟩]
abbrev c189_3 : SC := .seq (.ops r189_2) (.ret)
abbrev c189_4 : SC := .cond (.c (.bool false)) c189_3 (.skip)
abbrev r189_5 : List SOper := [
  ⟨some 6, none, .mov (.t 0)⟩,
  ⟨some 7, none, .call false (.c (.func 250 [])) [.t 6]⟩,
  ⟨some 2, none, .mov (.t 7)⟩]
abbrev c189_6 : SC := .seq (.ops r189_5) (.ret)
abbrev c189_7 : SC := .seq c189_4 c189_6
abbrev c189_8 : SC := .seq (.ops r189_1) c189_7
def s189 : SF := ⟨[.t 2], c189_8, false, none, none⟩
/-! (*crannog/calls.desk).spare -/
abbrev r190_1 : List SOper := [
  ⟨some 4, none, .allocL [.nils, .int .i64 0, .int .i64 0]⟩,
  ⟨some 5, none, .mov (.c (.str []))⟩]
abbrev r190_2 : List SOper := [
  ⟨some 12, none, .mov (.t 1)⟩,
  ⟨some 13, none, .call false (.c (.func 251 [])) [.t 12]⟩,
  ⟨some 11, none, .mov (.t 13)⟩,
  ⟨some 14, none, .extract (.t 11) 0⟩,
  ⟨some 15, none, .extract (.t 11) 1⟩,
  ⟨some 16, none, .extract (.t 11) 2⟩,
  ⟨some 6, none, .mov (.t 14)⟩,
  ⟨some 7, none, .mov (.t 15)⟩,
  ⟨some 8, none, .mov (.t 16)⟩]
abbrev r190_3 : List SOper := [
  ⟨some 17, none, .mov (.t 8)⟩,
  ⟨some 18, none, .bin .eql (.t 17) (.c (.int .i64 16))⟩]
abbrev r190_4 : List SOper := [
  ⟨some 8, none, .mov (.c (.int .i64 17))⟩]
abbrev c190_5 : SC := .cond (.t 18) (.ops r190_4) (.skip)
abbrev c190_6 : SC := .seq (.ops r190_3) c190_5
abbrev r190_7 : List SOper := [
  ⟨some 19, none, .mov (.t 8)⟩,
  ⟨some 20, none, .call false (.c (.func 69 [])) [.t 19]⟩]
abbrev r190_8 : List SOper := [
  ⟨some 22, none, .mov (.t 6)⟩,
  ⟨some 23, none, .call false (.c (.func 252 [])) [.t 22]⟩,
  ⟨some 21, none, .mov (.t 23)⟩,
  ⟨some 24, none, .extract (.t 21) 0⟩,
  ⟨some 25, none, .extract (.t 21) 1⟩,
  ⟨some 9, none, .mov (.t 24)⟩,
  ⟨some 8, none, .mov (.t 25)⟩]
abbrev r190_9 : List SOper := [
  ⟨some 26, none, .mov (.t 8)⟩,
  ⟨some 27, none, .call false (.c (.func 69 [])) [.t 26]⟩]
abbrev r190_10 : List SOper := [
  ⟨some 28, none, .mov (.t 0)⟩,
  ⟨some 29, none, .mov (.t 9)⟩,
  ⟨some 30, none, .call false (.c (.func 196 [])) [.t 28, .t 29]⟩,
  ⟨some 10, none, .allocL [.nils, .int .i64 0, .int .i64 0]⟩,
  ⟨none, none, .store 3 (.t 10) (.t 30)⟩]
abbrev r190_11 : List SOper := [
  ⟨some 31, none, .mov (.t 0)⟩,
  ⟨some 32, none, .load false true 3 (.t 10)⟩,
  ⟨some 33, none, .call false (.c (.func 197 [])) [.t 31, .t 32]⟩,
  ⟨some 34, none, .bin .eql (.t 33) (.c (.int .i64 2))⟩,
  ⟨some 35, none, .call false (.c (.func 114 [])) [.t 34, .c (.int .i64 20)]⟩]
abbrev r190_12 : List SOper := [
  ⟨some 36, none, .load false true 3 (.t 10)⟩,
  ⟨some 37, none, .call false (.c (.func 199 [])) [.t 36]⟩,
  ⟨some 38, none, .un .not (.t 37)⟩,
  ⟨some 39, none, .mov (.t 38)⟩,
  ⟨some 40, some (39, true), .load false true 3 (.t 10)⟩,
  ⟨some 41, some (39, true), .call false (.c (.func 198 [])) [.t 40]⟩,
  ⟨some 42, some (39, true), .mov (.t 41)⟩,
  ⟨some 43, some (42, true), .mov (.t 7)⟩,
  ⟨some 44, some (42, true), .bin .eql (.t 43) (.c (.str [46, 108, 111, 115, 116]))⟩,
  ⟨some 45, some (39, true), .pick (.t 42) (.t 44) (.c (.bool false))⟩,
  ⟨some 46, some (39, true), .un .not (.t 45)⟩,
  ⟨some 47, none, .pick (.t 39) (.t 46) (.c (.bool false))⟩,
  ⟨some 48, none, .call false (.c (.func 114 [])) [.t 47, .c (.int .i64 1)]⟩]
abbrev r190_13 : List SOper := [
  ⟨some 49, none, .load false true 3 (.t 10)⟩,
  ⟨some 50, none, .mov (.t 7)⟩,
  ⟨none, none, .store 3 (.t 4) (.t 49)⟩,
  ⟨some 5, none, .mov (.t 50)⟩]
abbrev c190_14 : SC := .seq (.ops r190_13) (.ret)
abbrev c190_15 : SC := .seq (.ops r190_12) c190_14
abbrev c190_16 : SC := .seq (.ops r190_11) c190_15
abbrev c190_17 : SC := .seq (.ops r190_10) c190_16
abbrev c190_18 : SC := .seq (.ops r190_9) c190_17
abbrev c190_19 : SC := .seq (.ops r190_8) c190_18
abbrev c190_20 : SC := .seq (.ops r190_7) c190_19
abbrev c190_21 : SC := .seq c190_6 c190_20
abbrev c190_22 : SC := .seq (.ops r190_2) c190_21
abbrev c190_23 : SC := .seq (.ops r190_1) c190_22
def s190 : SF := ⟨[.c 4 true 3, .t 5], c190_23, false, none, none⟩
/-! (*crannog/calls.desk).free -/
abbrev r191_1 : List SOper := [
  ⟨some 4, none, .boxH none (.t 1)⟩,
  ⟨some 5, none, .boxH none (.t 2)⟩]
abbrev r191_2 : List SOper := [
  ⟨some 6, none, .mov (.t 0)⟩,
  ⟨some 7, none, .nilck (.t 6)⟩,
  ⟨some 8, none, .faddr 10 (.t 7)⟩,
  ⟨some 9, none, .load false false 1 (.t 8)⟩,
  ⟨some 10, none, .mkfn 253 [.t 4, .t 5]⟩,
  ⟨some 11, none, .call false (.c (.func 203 [])) [.t 9, .t 10]⟩,
  ⟨some 12, none, .un .not (.t 11)⟩,
  ⟨some 13, none, .call false (.c (.func 114 [])) [.t 12, .c (.int .i64 17)]⟩]
abbrev c191_3 : SC := .seq (.ops r191_1) (.ops r191_2)
def s191 : SF := ⟨[], c191_3, false, none, none⟩
/-! crannog/calls.time -/
abbrev r192_1 : List SOper := [
  ⟨some 1, none, .boxL (.t 0)⟩,
  ⟨some 2, none, .mov (.c (.int .u64 0))⟩]
abbrev r192_2 : List SOper := [
  ⟨some 6, none, .faddr 6 (.t 1)⟩,
  ⟨some 7, none, .load false false 1 (.t 6)⟩,
  ⟨some 8, none, .call false (.c (.func 67 [])) [.t 7]⟩,
  ⟨some 5, none, .mov (.t 8)⟩,
  ⟨some 9, none, .extract (.t 5) 0⟩,
  ⟨some 10, none, .extract (.t 5) 1⟩,
  ⟨some 3, none, .mov (.t 9)⟩,
  ⟨some 4, none, .mov (.t 10)⟩]
abbrev r192_3 : List SOper := [
  ⟨some 11, none, .mov (.t 4)⟩,
  ⟨some 12, none, .bin .eql (.t 11) (.c (.int .i64 0))⟩,
  ⟨some 13, none, .call false (.c (.func 114 [])) [.t 12, .c (.int .i64 22)]⟩]
abbrev r192_4 : List SOper := [
  ⟨some 14, none, .mov (.t 3)⟩,
  ⟨some 2, none, .mov (.t 14)⟩]
abbrev c192_5 : SC := .seq (.ops r192_4) (.ret)
abbrev c192_6 : SC := .seq (.ops r192_3) c192_5
abbrev c192_7 : SC := .seq (.ops r192_2) c192_6
abbrev c192_8 : SC := .seq (.ops r192_1) c192_7
def s192 : SF := ⟨[.t 2], c192_8, false, none, none⟩
/-! (*crannog/calls.desk).room -/
abbrev r193_1 : List SOper := [
  ⟨some 4, none, .mov (.t 0)⟩,
  ⟨some 5, none, .nilck (.t 4)⟩,
  ⟨some 6, none, .faddr 0 (.t 5)⟩,
  ⟨some 7, none, .faddr 8 (.t 6)⟩,
  ⟨some 8, none, .load false false 1 (.t 7)⟩,
  ⟨some 9, none, .len 1 (.t 8)⟩,
  ⟨some 10, none, .mov (.t 1)⟩,
  ⟨some 11, none, .bin .add (.t 9) (.t 10)⟩,
  ⟨some 12, none, .bin .leq (.t 11) (.c (.int .i64 60))⟩,
  ⟨some 13, none, .mov (.t 12)⟩,
  ⟨some 14, some (13, true), .mov (.t 0)⟩,
  ⟨some 15, some (13, true), .nilck (.t 14)⟩,
  ⟨some 16, some (13, true), .faddr 0 (.t 15)⟩,
  ⟨some 17, some (13, true), .faddr 9 (.t 16)⟩,
  ⟨some 18, some (13, true), .load false false 1 (.t 17)⟩,
  ⟨some 19, some (13, true), .len 1 (.t 18)⟩,
  ⟨some 20, some (13, true), .bin .lss (.t 19) (.c (.int .i64 80))⟩,
  ⟨some 21, none, .pick (.t 13) (.t 20) (.c (.bool false))⟩,
  ⟨some 22, none, .call false (.c (.func 114 [])) [.t 21, .c (.int .i64 28)]⟩]
def s193 : SF := ⟨[], .ops r193_1, false, none, none⟩
/-! (*crannog/calls.desk).begin -/
abbrev r194_1 : List SOper := [
  ⟨some 2, none, .mov (.t 0)⟩,
  ⟨some 3, none, .nilck (.t 2)⟩,
  ⟨some 4, none, .faddr 13 (.t 3)⟩,
  ⟨some 5, none, .load false false 1 (.t 4)⟩,
  ⟨some 6, none, .call false (.c (.func 69 [])) [.t 5]⟩]
abbrev r194_2 : List SOper := [
  ⟨some 7, none, .mov (.t 0)⟩,
  ⟨some 8, none, .build [.int .i64 0, .int .i64 0, .int .i64 0, .int .i64 0, .int .i64 0, .int .i64 0, .int .i64 0, .int .i64 0] []⟩,
  ⟨some 9, none, .mov (.t 0)⟩,
  ⟨some 10, none, .nilck (.t 9)⟩,
  ⟨some 11, none, .faddr 11 (.t 10)⟩,
  ⟨some 12, none, .load false true 2 (.t 11)⟩,
  ⟨some 13, none, .call false (.c (.func 254 [])) [.t 8, .t 12]⟩,
  ⟨some 14, none, .nilck (.t 7)⟩,
  ⟨some 15, none, .faddr 14 (.t 14)⟩,
  ⟨some 16, none, .faddr 0 (.t 15)⟩,
  ⟨none, none, .store 8 (.t 16) (.t 13)⟩]
abbrev c194_3 : SC := .seq (.ops r194_1) (.ops r194_2)
def s194 : SF := ⟨[], c194_3, false, none, none⟩
/-! (*crannog/calls.desk).place -/
abbrev r195_1 : List SOper := [
  ⟨some 5, none, .boxL (.t 1)⟩,
  ⟨some 7, none, .boxL (.t 3)⟩]
abbrev r195_2 : List SOper := [
  ⟨some 8, none, .mov (.t 0)⟩,
  ⟨some 9, none, .faddr 0 (.t 5)⟩,
  ⟨some 10, none, .load false false 1 (.t 9)⟩,
  ⟨some 11, none, .call false (.c (.func 207 [])) [.t 8, .t 10]⟩]
abbrev r195_3 : List SOper := [
  ⟨some 12, none, .mov (.t 0)⟩,
  ⟨some 13, none, .mov (.t 0)⟩,
  ⟨some 14, none, .nilck (.t 13)⟩,
  ⟨some 15, none, .faddr 11 (.t 14)⟩,
  ⟨some 16, none, .load false true 2 (.t 15)⟩,
  ⟨some 17, none, .load false true 2 (.t 7)⟩,
  ⟨some 18, none, .mov (.t 0)⟩,
  ⟨some 19, none, .nilck (.t 18)⟩,
  ⟨some 20, none, .faddr 11 (.t 19)⟩,
  ⟨some 21, none, .load false true 2 (.t 20)⟩,
  ⟨some 22, none, .faddr 1 (.t 5)⟩,
  ⟨some 23, none, .load false true 2 (.t 22)⟩,
  ⟨some 24, none, .mov (.t 2)⟩,
  ⟨some 25, none, .mov (.t 0)⟩,
  ⟨some 26, none, .nilck (.t 25)⟩,
  ⟨some 27, none, .faddr 14 (.t 26)⟩,
  ⟨some 28, none, .faddr 0 (.t 27)⟩,
  ⟨some 29, none, .load false true 8 (.t 28)⟩,
  ⟨some 30, none, .build [.int .i64 0, .int .i64 0, .int .i64 0, .int .i64 0, .int .i64 0, .int .i64 0, .int .i64 0, .int .i64 0, .str [], .int .i64 0, .int .i64 0, .int .i64 0, .int .i64 0, .int .i64 0, .int .i64 0, .int .i64 0, .int .i64 0, .int .i64 0, .int .i64 0, .int .i64 0, .int .i64 0, .int .i64 0, .int .i64 0, .int .i64 0, .int .i64 0] [(0, 2, .t 16), (2, 2, .t 17), (4, 2, .t 21), (6, 2, .t 23), (8, 1, .t 24), (9, 8, .t 29)]⟩,
  ⟨some 31, none, .call false (.c (.func 208 [])) [.t 12, .t 30]⟩]
abbrev c195_4 : SC := .seq (.ops r195_2) (.draw 0 [[], [], [1], [2], [3], [], [], [6], [7], [8], [], [10], [], [], [13], [14], [15], [16], [4, 5, 9, 11, 12, 17], [0, 18]] r195_3)
abbrev c195_5 : SC := .seq (.ops r195_1) c195_4
def s195 : SF := ⟨[], c195_5, false, none, none⟩
/-! (*crannog/calls.desk).find -/
abbrev r196_1 : List SOper := [
  ⟨some 4, none, .allocL [.nils, .int .i64 0, .int .i64 0]⟩]
abbrev r196_2 : List SOper := [
  ⟨some 10, none, .mov (.t 1)⟩,
  ⟨some 11, none, .call false (.c (.func 84 [])) [.t 10]⟩,
  ⟨some 9, none, .mov (.t 11)⟩,
  ⟨some 12, none, .extract (.t 9) 0⟩,
  ⟨some 13, none, .extract (.t 9) 1⟩,
  ⟨some 5, none, .mov (.t 12)⟩,
  ⟨some 6, none, .mov (.t 13)⟩]
abbrev r196_3 : List SOper := [
  ⟨some 14, none, .mov (.t 6)⟩,
  ⟨some 15, none, .call false (.c (.func 69 [])) [.t 14]⟩]
abbrev r196_4 : List SOper := [
  ⟨some 17, none, .mov (.t 0)⟩,
  ⟨some 18, none, .nilck (.t 17)⟩,
  ⟨some 19, none, .faddr 0 (.t 18)⟩,
  ⟨some 20, none, .load false true 10 (.t 19)⟩,
  ⟨some 21, none, .mov (.t 0)⟩,
  ⟨some 22, none, .nilck (.t 21)⟩,
  ⟨some 23, none, .faddr 10 (.t 22)⟩,
  ⟨some 24, none, .load false false 1 (.t 23)⟩,
  ⟨some 25, none, .mov (.t 5)⟩,
  ⟨some 26, none, .call false (.c (.func 85 [])) [.t 20, .t 24, .t 25]⟩,
  ⟨some 16, none, .mov (.t 26)⟩,
  ⟨some 27, none, .extract (.t 16) 0⟩,
  ⟨some 28, none, .extract (.t 16) 1⟩,
  ⟨some 7, none, .mov (.t 27)⟩,
  ⟨some 6, none, .mov (.t 28)⟩]
abbrev r196_5 : List SOper := [
  ⟨some 29, none, .mov (.t 6)⟩,
  ⟨some 30, none, .call false (.c (.func 69 [])) [.t 29]⟩]
abbrev r196_6 : List SOper := [
  ⟨some 31, none, .mov (.t 7)⟩,
  ⟨some 32, none, .build [.nils, .int .i64 0, .int .i64 0] [(0, 1, .t 31)]⟩,
  ⟨some 8, none, .allocL [.nils, .int .i64 0, .int .i64 0]⟩,
  ⟨none, none, .store 3 (.t 8) (.t 32)⟩]
abbrev r196_7 : List SOper := [
  ⟨some 33, none, .mov (.t 7)⟩,
  ⟨some 34, none, .len 1 (.t 33)⟩,
  ⟨some 35, none, .bin .gtr (.t 34) (.c (.int .i64 0))⟩]
abbrev r196_8 : List SOper := [
  ⟨some 36, none, .mov (.t 7)⟩,
  ⟨some 37, none, .mov (.t 7)⟩,
  ⟨some 38, none, .len 1 (.t 37)⟩,
  ⟨some 39, none, .bin .sub (.t 38) (.c (.int .i64 1))⟩,
  ⟨some 40, none, .iaddr none 8 (.t 36) (.t 39)⟩,
  ⟨some 41, none, .faddr 2 (.t 40)⟩,
  ⟨some 42, none, .load false true 2 (.t 41)⟩,
  ⟨some 43, none, .faddr 1 (.t 8)⟩,
  ⟨none, none, .store 2 (.t 43) (.t 42)⟩]
abbrev c196_9 : SC := .cond (.t 35) (.ops r196_8) (.skip)
abbrev c196_10 : SC := .seq (.ops r196_7) c196_9
abbrev r196_11 : List SOper := [
  ⟨some 44, none, .load false true 3 (.t 8)⟩,
  ⟨none, none, .store 3 (.t 4) (.t 44)⟩]
abbrev c196_12 : SC := .seq (.ops r196_11) (.ret)
abbrev c196_13 : SC := .seq c196_10 c196_12
abbrev c196_14 : SC := .seq (.ops r196_6) c196_13
abbrev c196_15 : SC := .seq (.ops r196_5) c196_14
abbrev c196_16 : SC := .seq (.draw 0 [[], [0], [1], [2], [], [4], [5], [6], [], [3, 7, 8], [9], [10], [10], [11], [12, 13]] r196_4) c196_15
abbrev c196_17 : SC := .seq (.ops r196_3) c196_16
abbrev c196_18 : SC := .seq (.ops r196_2) c196_17
abbrev c196_19 : SC := .seq (.ops r196_1) c196_18
def s196 : SF := ⟨[.c 4 true 3], c196_19, false, none, none⟩
/-! (*crannog/calls.desk).kind -/
abbrev r197_1 : List SOper := [
  ⟨some 3, none, .boxL (.t 1)⟩,
  ⟨some 4, none, .mov (.c (.int .i64 0))⟩]
abbrev r197_2 : List SOper := [
  ⟨some 5, none, .mov (.t 0)⟩,
  ⟨some 6, none, .nilck (.t 5)⟩,
  ⟨some 7, none, .faddr 0 (.t 6)⟩,
  ⟨some 8, none, .load false true 10 (.t 7)⟩,
  ⟨some 9, none, .faddr 1 (.t 3)⟩,
  ⟨some 10, none, .load false true 2 (.t 9)⟩,
  ⟨some 11, none, .call false (.c (.func 86 [])) [.t 8, .t 10]⟩,
  ⟨some 4, none, .mov (.t 11)⟩]
abbrev c197_3 : SC := .seq (.draw 0 [[], [0], [1], [2], [], [4], [3, 5], [6]] r197_2) (.ret)
abbrev c197_4 : SC := .seq (.ops r197_1) c197_3
def s197 : SF := ⟨[.t 4], c197_4, false, none, none⟩
/-! (crannog/calls.spot).root -/
abbrev r198_1 : List SOper := [
  ⟨some 1, none, .boxL (.t 0)⟩,
  ⟨some 2, none, .mov (.c (.bool false))⟩]
abbrev r198_2 : List SOper := [
  ⟨some 3, none, .faddr 0 (.t 1)⟩,
  ⟨some 4, none, .load false false 1 (.t 3)⟩,
  ⟨some 5, none, .len 1 (.t 4)⟩,
  ⟨some 6, none, .bin .eql (.t 5) (.c (.int .i64 0))⟩,
  ⟨some 2, none, .mov (.t 6)⟩]
abbrev c198_3 : SC := .seq (.ops r198_2) (.ret)
abbrev c198_4 : SC := .seq (.ops r198_1) c198_3
def s198 : SF := ⟨[.t 2], c198_4, false, none, none⟩
/-! (crannog/calls.spot).odd -/
abbrev r199_1 : List SOper := [
  ⟨some 1, none, .boxL (.t 0)⟩,
  ⟨some 2, none, .mov (.c (.bool false))⟩]
abbrev r199_2 : List SOper := [
  ⟨some 3, none, .faddr 1 (.t 1)⟩,
  ⟨some 4, none, .loadA (.loc 1) true 2 (.t 3)⟩,
  ⟨some 5, none, .call false (.c (.func 127 [])) []⟩,
  ⟨some 6, none, .cmpA false [.int .i64, .int .i64] (.t 4) (.t 5)⟩,
  ⟨some 2, none, .mov (.t 6)⟩]
abbrev c199_3 : SC := .seq (.draw 0 [[], [0], [], [1, 2], [3]] r199_2) (.ret)
abbrev c199_4 : SC := .seq (.ops r199_1) c199_3
def s199 : SF := ⟨[.t 2], c199_4, false, none, none⟩
/-! slices.ContainsFunc[[]crannog/api.Shown,crannog/api.Shown] -/
abbrev r203_1 : List SOper := [
  ⟨some 4, none, .mov (.c (.bool false))⟩]
abbrev r203_2 : List SOper := [
  ⟨some 5, none, .mov (.t 0)⟩,
  ⟨some 6, none, .mov (.t 1)⟩,
  ⟨some 7, none, .call false (.c (.func 205 [])) [.t 5, .t 6]⟩,
  ⟨some 8, none, .bin .geq (.t 7) (.c (.int .i64 0))⟩,
  ⟨some 4, none, .mov (.t 8)⟩]
abbrev c203_3 : SC := .seq (.ops r203_2) (.ret)
abbrev c203_4 : SC := .seq (.ops r203_1) c203_3
def s203 : SF := ⟨[.t 4], c203_4, false, none, none⟩
/-! slices.IndexFunc[[]crannog/api.Shown,crannog/api.Shown] -/
abbrev r205_1 : List SOper := [
  ⟨some 4, none, .mov (.c (.int .i64 0))⟩]
abbrev r205_2 : List SOper := [
  ⟨some 6, none, .mov (.t 0)⟩,
  ⟨some 7, none, .len 1 (.t 6)⟩,
  ⟨some 8, none, .mov (.c (.int .i64 0))⟩]
abbrev r205_3 : List SOper := [
  ⟨some 9, none, .bin .lss (.t 8) (.t 7)⟩]
abbrev c205_4 : SC := .cond (.t 9) (.skip) (.exit 0)
abbrev r205_5 : List SOper := [
  ⟨some 10, none, .mov (.t 8)⟩,
  ⟨some 5, none, .mov (.t 10)⟩]
abbrev r205_6 : List SOper := [
  ⟨some 11, none, .mov (.t 1)⟩,
  ⟨some 12, none, .mov (.t 0)⟩,
  ⟨some 13, none, .mov (.t 5)⟩,
  ⟨some 14, none, .iaddr none 8 (.t 12) (.t 13)⟩,
  ⟨some 15, none, .load false true 8 (.t 14)⟩,
  ⟨some 16, none, .call false (.t 11) [.t 15]⟩]
abbrev r205_7 : List SOper := [
  ⟨some 17, none, .mov (.t 5)⟩,
  ⟨some 4, none, .mov (.t 17)⟩]
abbrev c205_8 : SC := .seq (.ops r205_7) (.ret)
abbrev c205_9 : SC := .cond (.t 16) c205_8 (.skip)
abbrev c205_10 : SC := .seq (.ops r205_6) c205_9
abbrev c205_11 : SC := .seq (.ops r205_5) c205_10
abbrev c205_12 : SC := .block 1 [0, 1, 7, 8] [] c205_11
abbrev r205_13 : List SOper := [
  ⟨some 18, none, .bin .add (.t 8) (.c (.int .i64 1))⟩,
  ⟨some 8, none, .mov (.t 18)⟩]
abbrev c205_14 : SC := .seq c205_12 (.ops r205_13)
abbrev c205_15 : SC := .seq c205_4 c205_14
abbrev c205_16 : SC := .seq (.ops r205_3) c205_15
abbrev L205_1 : SC := .loop [0, 1, 7, 8] [] c205_16
abbrev c205_17 : SC := .block 0 [] [] L205_1
abbrev c205_18 : SC := .seq (.ops r205_2) c205_17
abbrev r205_19 : List SOper := [
  ⟨some 4, none, .mov (.c (.int .i64 (-1)))⟩]
abbrev c205_20 : SC := .seq (.ops r205_19) (.ret)
abbrev c205_21 : SC := .seq c205_18 c205_20
abbrev c205_22 : SC := .seq (.ops r205_1) c205_21
def s205 : SF := ⟨[.t 4], c205_22, false, none, none⟩
/-! (*crannog/calls.desk).touch -/
abbrev r207_1 : List SOper := [
  ⟨some 6, none, .mov (.t 1)⟩,
  ⟨some 7, none, .len 1 (.t 6)⟩,
  ⟨some 8, none, .mov (.c (.int .i64 0))⟩]
abbrev r207_2 : List SOper := [
  ⟨some 9, none, .bin .lss (.t 8) (.t 7)⟩]
abbrev c207_3 : SC := .cond (.t 9) (.skip) (.exit 0)
abbrev r207_4 : List SOper := [
  ⟨some 10, none, .iaddr none 8 (.t 6) (.t 8)⟩,
  ⟨some 11, none, .load false true 8 (.t 10)⟩,
  ⟨some 5, none, .allocL [.int .i64 0, .int .i64 0, .int .i64 0, .int .i64 0, .int .i64 0, .int .i64 0, .str [], .bool false]⟩,
  ⟨none, none, .store 8 (.t 5) (.t 11)⟩]
abbrev r207_5 : List SOper := [
  ⟨some 12, none, .faddr 0 (.t 5)⟩,
  ⟨some 13, none, .load false true 2 (.t 12)⟩,
  ⟨some 14, none, .build [.int .i64 0, .int .i64 0] []⟩,
  ⟨some 15, none, .cmpA true [.int .i64, .int .i64] (.t 13) (.t 14)⟩]
abbrev r207_6 : List SOper := [
  ⟨some 16, none, .mov (.t 0)⟩,
  ⟨some 17, none, .faddr 0 (.t 5)⟩,
  ⟨some 18, none, .load false true 2 (.t 17)⟩,
  ⟨some 19, none, .mov (.t 0)⟩,
  ⟨some 20, none, .nilck (.t 19)⟩,
  ⟨some 21, none, .faddr 14 (.t 20)⟩,
  ⟨some 22, none, .faddr 0 (.t 21)⟩,
  ⟨some 23, none, .load false true 8 (.t 22)⟩,
  ⟨some 24, none, .build [.int .i64 0, .int .i64 0, .int .i64 0, .int .i64 0, .int .i64 0, .int .i64 0, .int .i64 0, .int .i64 0, .str [], .int .i64 0, .int .i64 0, .int .i64 0, .int .i64 0, .int .i64 0, .int .i64 0, .int .i64 0, .int .i64 0, .int .i64 0, .int .i64 0, .int .i64 0, .int .i64 0, .int .i64 0, .int .i64 0, .int .i64 0, .int .i64 0] [(0, 2, .t 18), (9, 8, .t 23)]⟩,
  ⟨some 25, none, .call false (.c (.func 208 [])) [.t 16, .t 24]⟩]
abbrev c207_7 : SC := .cond (.t 15) (.draw 0 [[], [], [1], [], [3], [4], [5], [6], [2, 7], [0, 8]] r207_6) (.skip)
abbrev c207_8 : SC := .seq (.ops r207_5) c207_7
abbrev c207_9 : SC := .seq (.ops r207_4) c207_8
abbrev c207_10 : SC := .block 1 [0, 6, 7, 8] [] c207_9
abbrev r207_11 : List SOper := [
  ⟨some 26, none, .bin .add (.t 8) (.c (.int .i64 1))⟩,
  ⟨some 8, none, .mov (.t 26)⟩]
abbrev c207_12 : SC := .seq c207_10 (.ops r207_11)
abbrev c207_13 : SC := .seq c207_3 c207_12
abbrev c207_14 : SC := .seq (.ops r207_2) c207_13
abbrev L207_1 : SC := .loop [0, 6, 7, 8] [] c207_14
abbrev c207_15 : SC := .block 0 [] [] L207_1
abbrev c207_16 : SC := .seq (.ops r207_1) c207_15
def s207 : SF := ⟨[], c207_16, false, none, none⟩
/-! (*crannog/calls.desk).write -/
abbrev r208_1 : List SOper := [
  ⟨some 3, none, .boxH none (.t 1)⟩]
abbrev r208_2 : List SOper := [
  ⟨some 6, none, .mov (.t 0)⟩,
  ⟨some 7, none, .nilck (.t 6)⟩,
  ⟨some 8, none, .faddr 14 (.t 7)⟩,
  ⟨some 9, none, .faddr 9 (.t 8)⟩,
  ⟨some 10, none, .load false false 1 (.t 9)⟩,
  ⟨some 11, none, .mkfn 259 [.t 3]⟩,
  ⟨some 12, none, .call false (.c (.func 258 [])) [.t 10, .t 11]⟩,
  ⟨some 4, none, .mov (.t 12)⟩]
abbrev r208_3 : List SOper := [
  ⟨some 13, none, .mov (.t 4)⟩,
  ⟨some 14, none, .bin .lss (.t 13) (.c (.int .i64 0))⟩]
abbrev r208_4 : List SOper := [
  ⟨some 15, none, .mov (.t 0)⟩,
  ⟨some 16, none, .mov (.t 0)⟩,
  ⟨some 17, none, .nilck (.t 16)⟩,
  ⟨some 18, none, .faddr 14 (.t 17)⟩,
  ⟨some 19, none, .faddr 9 (.t 18)⟩,
  ⟨some 20, none, .load false false 1 (.t 19)⟩,
  ⟨some 21, none, .load false true 25 (.t 3)⟩,
  ⟨some 22, none, .bsnap 25 [.t 21]⟩,
  ⟨some 23, none, .append 25 208 (.t 20) (.t 22)⟩,
  ⟨some 24, none, .nilck (.t 15)⟩,
  ⟨some 25, none, .faddr 14 (.t 24)⟩,
  ⟨some 26, none, .faddr 9 (.t 25)⟩,
  ⟨none, none, .store 1 (.t 26) (.t 23)⟩]
abbrev r208_5 : List SOper := [
  ⟨some 27, none, .mov (.t 0)⟩,
  ⟨some 28, none, .nilck (.t 27)⟩,
  ⟨some 29, none, .faddr 14 (.t 28)⟩,
  ⟨some 30, none, .faddr 9 (.t 29)⟩,
  ⟨some 31, none, .load false false 1 (.t 30)⟩,
  ⟨some 32, none, .call false (.c (.func 260 [])) [.t 31, .c (.func 261 [])]⟩]
abbrev c208_6 : SC := .seq (.ops r208_5) (.ret)
abbrev c208_7 : SC := .seq (.draw 0 [[], [], [1], [2], [3], [4], [], [6], [5, 7], [0, 8], [9], [10], [11]] r208_4) c208_6
abbrev c208_8 : SC := .cond (.t 14) c208_7 (.skip)
abbrev c208_9 : SC := .seq (.ops r208_3) c208_8
abbrev r208_10 : List SOper := [
  ⟨some 33, none, .mov (.t 0)⟩,
  ⟨some 34, none, .nilck (.t 33)⟩,
  ⟨some 35, none, .faddr 14 (.t 34)⟩,
  ⟨some 36, none, .faddr 9 (.t 35)⟩,
  ⟨some 37, none, .load false false 1 (.t 36)⟩,
  ⟨some 38, none, .mov (.t 4)⟩,
  ⟨some 39, none, .iaddr none 25 (.t 37) (.t 38)⟩,
  ⟨some 5, none, .mov (.t 39)⟩]
abbrev r208_11 : List SOper := [
  ⟨some 40, none, .faddr 4 (.t 3)⟩,
  ⟨some 41, none, .load false true 2 (.t 40)⟩,
  ⟨some 42, none, .build [.int .i64 0, .int .i64 0] []⟩,
  ⟨some 43, none, .cmpA true [.int .i64, .int .i64] (.t 41) (.t 42)⟩]
abbrev r208_12 : List SOper := [
  ⟨some 44, none, .mov (.t 5)⟩,
  ⟨some 45, none, .mov (.t 5)⟩,
  ⟨some 46, none, .mov (.t 5)⟩,
  ⟨some 47, none, .mov (.t 5)⟩,
  ⟨some 48, none, .faddr 2 (.t 3)⟩,
  ⟨some 49, none, .load false true 2 (.t 48)⟩,
  ⟨some 50, none, .faddr 4 (.t 3)⟩,
  ⟨some 51, none, .loadA .ptr true 2 (.t 50)⟩,
  ⟨some 52, none, .faddr 6 (.t 3)⟩,
  ⟨some 53, none, .loadA .ptr true 2 (.t 52)⟩,
  ⟨some 54, none, .faddr 8 (.t 3)⟩,
  ⟨some 55, none, .loadA .ptr false 1 (.t 54)⟩,
  ⟨some 56, none, .nilck (.t 44)⟩,
  ⟨some 57, none, .faddr 2 (.t 56)⟩,
  ⟨none, none, .storeA .eptr 2 (.t 57) (.t 49)⟩,
  ⟨some 58, none, .nilck (.t 45)⟩,
  ⟨some 59, none, .faddr 4 (.t 58)⟩,
  ⟨none, none, .storeA .eptr 2 (.t 59) (.t 51)⟩,
  ⟨some 60, none, .nilck (.t 46)⟩,
  ⟨some 61, none, .faddr 6 (.t 60)⟩,
  ⟨none, none, .storeA .eptr 2 (.t 61) (.t 53)⟩,
  ⟨some 62, none, .nilck (.t 47)⟩,
  ⟨some 63, none, .faddr 8 (.t 62)⟩,
  ⟨none, none, .store 1 (.t 63) (.t 55)⟩]
abbrev c208_13 : SC := .cond (.t 43) (.draw 0 [[], [], [], [], [], [4], [], [6], [], [8], [], [10], [0, 5], [12], [13], [1, 7, 14], [15], [16], [2, 9, 17], [18], [19], [3, 11, 20], [21], [22]] r208_12) (.skip)
abbrev c208_14 : SC := .seq (.ops r208_11) c208_13
abbrev r208_15 : List SOper := [
  ⟨some 64, none, .mov (.t 5)⟩,
  ⟨some 65, none, .mov (.t 5)⟩,
  ⟨some 66, none, .mov (.t 5)⟩,
  ⟨some 67, none, .nilck (.t 66)⟩,
  ⟨some 68, none, .faddr 9 (.t 67)⟩,
  ⟨some 69, none, .load false true 8 (.t 68)⟩,
  ⟨some 70, none, .faddr 9 (.t 3)⟩,
  ⟨some 71, none, .load false true 8 (.t 70)⟩,
  ⟨some 72, none, .call true (.c (.func 74 [])) [.t 69, .t 71]⟩,
  ⟨some 73, none, .mov (.t 5)⟩,
  ⟨some 74, none, .nilck (.t 73)⟩,
  ⟨some 75, none, .faddr 17 (.t 74)⟩,
  ⟨some 76, none, .load false true 8 (.t 75)⟩,
  ⟨some 77, none, .faddr 17 (.t 3)⟩,
  ⟨some 78, none, .load false true 8 (.t 77)⟩,
  ⟨some 79, none, .call false (.c (.func 74 [])) [.t 76, .t 78]⟩,
  ⟨some 80, none, .nilck (.t 64)⟩,
  ⟨some 81, none, .faddr 9 (.t 80)⟩,
  ⟨none, none, .store 8 (.t 81) (.t 72)⟩,
  ⟨some 82, none, .nilck (.t 65)⟩,
  ⟨some 83, none, .faddr 17 (.t 82)⟩,
  ⟨none, none, .store 8 (.t 83) (.t 79)⟩]
abbrev c208_16 : SC := .seq c208_14 (.draw 0 [[], [], [], [2], [3], [4], [], [6], [5, 7], [], [9], [10], [11], [], [13], [8, 12, 14], [0, 15], [16], [17], [1, 18], [19], [20]] r208_15)
abbrev c208_17 : SC := .seq (.ops r208_10) c208_16
abbrev c208_18 : SC := .seq c208_9 c208_17
abbrev c208_19 : SC := .seq (.ops r208_2) c208_18
abbrev c208_20 : SC := .seq (.ops r208_1) c208_19
def s208 : SF := ⟨[], c208_20, false, none, none⟩
/-! slices.Grow[[]crannog/api.Inode,crannog/api.Inode] -/
abbrev r217_1 : List SOper := [
  ⟨some 4, none, .mov (.c (.nils))⟩]
abbrev r217_2 : List SOper := [
  ⟨some 5, none, .mov (.t 1)⟩,
  ⟨some 6, none, .bin .lss (.t 5) (.c (.int .i64 0))⟩]
abbrev r217_3 : List SOper := [
  ⟨some 7, none, .mkif 9 (.c (.str [99, 97, 110, 110, 111, 116, 32, 98, 101, 32, 110, 101, 103, 97, 116, 105, 118, 101]))⟩,
  ⟨none, none, .panic (.t 7)⟩]
abbrev c217_4 : SC := .cond (.t 6) (.ops r217_3) (.skip)
abbrev c217_5 : SC := .seq (.ops r217_2) c217_4
abbrev r217_6 : List SOper := [
  ⟨some 8, none, .mov (.t 1)⟩,
  ⟨some 9, none, .mov (.t 0)⟩,
  ⟨some 10, none, .cap (.t 9)⟩,
  ⟨some 11, none, .mov (.t 0)⟩,
  ⟨some 12, none, .len 1 (.t 11)⟩,
  ⟨some 13, none, .bin .sub (.t 10) (.t 12)⟩,
  ⟨some 14, none, .bin .sub (.t 8) (.t 13)⟩,
  ⟨some 1, none, .mov (.t 14)⟩]
abbrev r217_7 : List SOper := [
  ⟨some 15, none, .mov (.t 1)⟩,
  ⟨some 16, none, .bin .gtr (.t 15) (.c (.int .i64 0))⟩]
abbrev r217_8 : List SOper := [
  ⟨some 17, none, .mov (.t 0)⟩,
  ⟨some 18, none, .mov (.t 0)⟩,
  ⟨some 19, none, .cap (.t 18)⟩,
  ⟨some 20, none, .slice false 13 (.t 17) none (some (.t 19)) none⟩,
  ⟨some 21, none, .mov (.t 1)⟩,
  ⟨some 22, none, .appendz 13 144 (.agg [.int .i64 0, .int .i64 0, .int .i64 0, .str [], .int .i64 0, .int .i64 0, .int .i64 0, .int .u64 0, .int .i64 0, .int .i64 0, .int .i64 0, .nils, .nils]) (.t 20) (.t 21)⟩,
  ⟨some 23, none, .mov (.t 0)⟩,
  ⟨some 24, none, .len 1 (.t 23)⟩,
  ⟨some 25, none, .slice false 13 (.t 22) none (some (.t 24)) none⟩,
  ⟨some 0, none, .mov (.t 25)⟩]
abbrev c217_9 : SC := .cond (.t 16) (.ops r217_8) (.skip)
abbrev c217_10 : SC := .seq (.ops r217_7) c217_9
abbrev c217_11 : SC := .seq (.ops r217_6) c217_10
abbrev r217_12 : List SOper := [
  ⟨some 26, none, .mov (.t 0)⟩,
  ⟨some 4, none, .mov (.t 26)⟩]
abbrev c217_13 : SC := .seq (.ops r217_12) (.ret)
abbrev c217_14 : SC := .seq c217_11 c217_13
abbrev c217_15 : SC := .seq c217_5 c217_14
abbrev c217_16 : SC := .seq (.ops r217_1) c217_15
def s217 : SF := ⟨[.t 4], c217_16, true, none, none⟩
/-! slices.stableCmpFunc[crannog/api.Inode] -/
abbrev r218_1 : List SOper := [
  ⟨some 6, none, .mov (.c (.int .i64 20))⟩]
abbrev r218_2 : List SOper := [
  ⟨some 10, none, .mov (.t 6)⟩,
  ⟨some 7, none, .mov (.c (.int .i64 0))⟩,
  ⟨some 8, none, .mov (.t 10)⟩]
abbrev r218_3 : List SOper := [
  ⟨some 11, none, .mov (.t 8)⟩,
  ⟨some 12, none, .mov (.t 1)⟩,
  ⟨some 13, none, .bin .leq (.t 11) (.t 12)⟩]
abbrev c218_4 : SC := .cond (.t 13) (.skip) (.exit 0)
abbrev c218_5 : SC := .seq (.ops r218_3) c218_4
abbrev r218_6 : List SOper := [
  ⟨some 14, none, .mov (.t 0)⟩,
  ⟨some 15, none, .mov (.t 7)⟩,
  ⟨some 16, none, .mov (.t 8)⟩,
  ⟨some 17, none, .mov (.t 2)⟩,
  ⟨some 18, none, .call false (.c (.func 264 [])) [.t 14, .t 15, .t 16, .t 17]⟩]
abbrev r218_7 : List SOper := [
  ⟨some 19, none, .mov (.t 8)⟩,
  ⟨some 7, none, .mov (.t 19)⟩]
abbrev r218_8 : List SOper := [
  ⟨some 20, none, .mov (.t 8)⟩,
  ⟨some 21, none, .mov (.t 6)⟩,
  ⟨some 22, none, .bin .add (.t 20) (.t 21)⟩,
  ⟨some 8, none, .mov (.t 22)⟩]
abbrev c218_9 : SC := .seq (.ops r218_7) (.ops r218_8)
abbrev c218_10 : SC := .seq (.ops r218_6) c218_9
abbrev c218_11 : SC := .block 1 [0, 1, 2, 6, 7, 8] [] c218_10
abbrev c218_12 : SC := .seq c218_5 c218_11
abbrev L218_1 : SC := .loop [0, 1, 2, 6, 7, 8] [] c218_12
abbrev c218_13 : SC := .block 0 [0, 1, 2, 6, 7] [] L218_1
abbrev r218_14 : List SOper := [
  ⟨some 23, none, .mov (.t 0)⟩,
  ⟨some 24, none, .mov (.t 7)⟩,
  ⟨some 25, none, .mov (.t 1)⟩,
  ⟨some 26, none, .mov (.t 2)⟩,
  ⟨some 27, none, .call false (.c (.func 264 [])) [.t 23, .t 24, .t 25, .t 26]⟩]
abbrev r218_15 : List SOper := [
  ⟨some 28, none, .mov (.t 6)⟩,
  ⟨some 29, none, .mov (.t 1)⟩,
  ⟨some 30, none, .bin .lss (.t 28) (.t 29)⟩]
abbrev c218_16 : SC := .cond (.t 30) (.skip) (.exit 2)
abbrev c218_17 : SC := .seq (.ops r218_15) c218_16
abbrev r218_18 : List SOper := [
  ⟨some 31, none, .mov (.t 6)⟩,
  ⟨some 32, none, .bin .mul (.c (.int .i64 2)) (.t 31)⟩,
  ⟨some 7, none, .mov (.c (.int .i64 0))⟩,
  ⟨some 8, none, .mov (.t 32)⟩]
abbrev r218_19 : List SOper := [
  ⟨some 33, none, .mov (.t 8)⟩,
  ⟨some 34, none, .mov (.t 1)⟩,
  ⟨some 35, none, .bin .leq (.t 33) (.t 34)⟩]
abbrev c218_20 : SC := .cond (.t 35) (.skip) (.exit 4)
abbrev c218_21 : SC := .seq (.ops r218_19) c218_20
abbrev r218_22 : List SOper := [
  ⟨some 36, none, .mov (.t 0)⟩,
  ⟨some 37, none, .mov (.t 7)⟩,
  ⟨some 38, none, .mov (.t 7)⟩,
  ⟨some 39, none, .mov (.t 6)⟩,
  ⟨some 40, none, .bin .add (.t 38) (.t 39)⟩,
  ⟨some 41, none, .mov (.t 8)⟩,
  ⟨some 42, none, .mov (.t 2)⟩,
  ⟨some 43, none, .call false (.c (.func 265 [])) [.t 36, .t 37, .t 40, .t 41, .t 42]⟩]
abbrev r218_23 : List SOper := [
  ⟨some 44, none, .mov (.t 8)⟩,
  ⟨some 7, none, .mov (.t 44)⟩]
abbrev r218_24 : List SOper := [
  ⟨some 45, none, .mov (.t 8)⟩,
  ⟨some 46, none, .mov (.t 6)⟩,
  ⟨some 47, none, .bin .mul (.c (.int .i64 2)) (.t 46)⟩,
  ⟨some 48, none, .bin .add (.t 45) (.t 47)⟩,
  ⟨some 8, none, .mov (.t 48)⟩]
abbrev c218_25 : SC := .seq (.ops r218_23) (.ops r218_24)
abbrev c218_26 : SC := .seq (.ops r218_22) c218_25
abbrev c218_27 : SC := .block 5 [0, 1, 2, 6, 7, 8] [] c218_26
abbrev c218_28 : SC := .seq c218_21 c218_27
abbrev L218_2 : SC := .loop [0, 1, 2, 6, 7, 8] [] c218_28
abbrev c218_29 : SC := .block 4 [0, 1, 2, 6, 7] [] L218_2
abbrev r218_30 : List SOper := [
  ⟨some 49, none, .mov (.t 7)⟩,
  ⟨some 50, none, .mov (.t 6)⟩,
  ⟨some 51, none, .bin .add (.t 49) (.t 50)⟩,
  ⟨some 9, none, .mov (.t 51)⟩]
abbrev r218_31 : List SOper := [
  ⟨some 52, none, .mov (.t 9)⟩,
  ⟨some 53, none, .mov (.t 1)⟩,
  ⟨some 54, none, .bin .lss (.t 52) (.t 53)⟩]
abbrev r218_32 : List SOper := [
  ⟨some 55, none, .mov (.t 0)⟩,
  ⟨some 56, none, .mov (.t 7)⟩,
  ⟨some 57, none, .mov (.t 9)⟩,
  ⟨some 58, none, .mov (.t 1)⟩,
  ⟨some 59, none, .mov (.t 2)⟩,
  ⟨some 60, none, .call false (.c (.func 265 [])) [.t 55, .t 56, .t 57, .t 58, .t 59]⟩]
abbrev c218_33 : SC := .cond (.t 54) (.ops r218_32) (.skip)
abbrev c218_34 : SC := .seq (.ops r218_31) c218_33
abbrev c218_35 : SC := .seq (.ops r218_30) c218_34
abbrev r218_36 : List SOper := [
  ⟨some 61, none, .mov (.t 6)⟩,
  ⟨some 62, none, .bin .mul (.t 61) (.c (.int .i64 2))⟩,
  ⟨some 6, none, .mov (.t 62)⟩]
abbrev c218_37 : SC := .seq c218_35 (.ops r218_36)
abbrev c218_38 : SC := .seq c218_29 c218_37
abbrev c218_39 : SC := .seq (.ops r218_18) c218_38
abbrev c218_40 : SC := .block 3 [0, 1, 2, 6] [] c218_39
abbrev c218_41 : SC := .seq c218_17 c218_40
abbrev L218_3 : SC := .loop [0, 1, 2, 6] [] c218_41
abbrev c218_42 : SC := .block 2 [] [] L218_3
abbrev c218_43 : SC := .seq (.ops r218_14) c218_42
abbrev c218_44 : SC := .seq c218_13 c218_43
abbrev c218_45 : SC := .seq (.ops r218_2) c218_44
abbrev c218_46 : SC := .seq (.ops r218_1) c218_45
def s218 : SF := ⟨[], c218_46, false, none, none⟩
/-! cmp.isNaN[int] -/
abbrev r219_1 : List SOper := [
  ⟨some 2, none, .mov (.c (.bool false))⟩]
abbrev r219_2 : List SOper := [
  ⟨some 3, none, .mov (.t 0)⟩,
  ⟨some 4, none, .mov (.t 0)⟩,
  ⟨some 5, none, .bin .neq (.t 3) (.t 4)⟩,
  ⟨some 2, none, .mov (.t 5)⟩]
abbrev c219_3 : SC := .seq (.ops r219_2) (.ret)
abbrev c219_4 : SC := .seq (.ops r219_1) c219_3
def s219 : SF := ⟨[.t 2], c219_4, false, none, none⟩
/-! slices.Grow[[]crannog/api.Piece,crannog/api.Piece] -/
abbrev r221_1 : List SOper := [
  ⟨some 4, none, .mov (.c (.nils))⟩]
abbrev r221_2 : List SOper := [
  ⟨some 5, none, .mov (.t 1)⟩,
  ⟨some 6, none, .bin .lss (.t 5) (.c (.int .i64 0))⟩]
abbrev r221_3 : List SOper := [
  ⟨some 7, none, .mkif 9 (.c (.str [99, 97, 110, 110, 111, 116, 32, 98, 101, 32, 110, 101, 103, 97, 116, 105, 118, 101]))⟩,
  ⟨none, none, .panic (.t 7)⟩]
abbrev c221_4 : SC := .cond (.t 6) (.ops r221_3) (.skip)
abbrev c221_5 : SC := .seq (.ops r221_2) c221_4
abbrev r221_6 : List SOper := [
  ⟨some 8, none, .mov (.t 1)⟩,
  ⟨some 9, none, .mov (.t 0)⟩,
  ⟨some 10, none, .cap (.t 9)⟩,
  ⟨some 11, none, .mov (.t 0)⟩,
  ⟨some 12, none, .len 1 (.t 11)⟩,
  ⟨some 13, none, .bin .sub (.t 10) (.t 12)⟩,
  ⟨some 14, none, .bin .sub (.t 8) (.t 13)⟩,
  ⟨some 1, none, .mov (.t 14)⟩]
abbrev r221_7 : List SOper := [
  ⟨some 15, none, .mov (.t 1)⟩,
  ⟨some 16, none, .bin .gtr (.t 15) (.c (.int .i64 0))⟩]
abbrev r221_8 : List SOper := [
  ⟨some 17, none, .mov (.t 0)⟩,
  ⟨some 18, none, .mov (.t 0)⟩,
  ⟨some 19, none, .cap (.t 18)⟩,
  ⟨some 20, none, .slice false 4 (.t 17) none (some (.t 19)) none⟩,
  ⟨some 21, none, .mov (.t 1)⟩,
  ⟨some 22, none, .appendz 4 40 (.agg [.int .i64 0, .int .i64 0, .int .i64 0, .str []]) (.t 20) (.t 21)⟩,
  ⟨some 23, none, .mov (.t 0)⟩,
  ⟨some 24, none, .len 1 (.t 23)⟩,
  ⟨some 25, none, .slice false 4 (.t 22) none (some (.t 24)) none⟩,
  ⟨some 0, none, .mov (.t 25)⟩]
abbrev c221_9 : SC := .cond (.t 16) (.ops r221_8) (.skip)
abbrev c221_10 : SC := .seq (.ops r221_7) c221_9
abbrev c221_11 : SC := .seq (.ops r221_6) c221_10
abbrev r221_12 : List SOper := [
  ⟨some 26, none, .mov (.t 0)⟩,
  ⟨some 4, none, .mov (.t 26)⟩]
abbrev c221_13 : SC := .seq (.ops r221_12) (.ret)
abbrev c221_14 : SC := .seq c221_11 c221_13
abbrev c221_15 : SC := .seq c221_5 c221_14
abbrev c221_16 : SC := .seq (.ops r221_1) c221_15
def s221 : SF := ⟨[.t 4], c221_16, true, none, none⟩
/-! slices.Grow[[]crannog/api.Xattr,crannog/api.Xattr] -/
abbrev r222_1 : List SOper := [
  ⟨some 4, none, .mov (.c (.nils))⟩]
abbrev r222_2 : List SOper := [
  ⟨some 5, none, .mov (.t 1)⟩,
  ⟨some 6, none, .bin .lss (.t 5) (.c (.int .i64 0))⟩]
abbrev r222_3 : List SOper := [
  ⟨some 7, none, .mkif 9 (.c (.str [99, 97, 110, 110, 111, 116, 32, 98, 101, 32, 110, 101, 103, 97, 116, 105, 118, 101]))⟩,
  ⟨none, none, .panic (.t 7)⟩]
abbrev c222_4 : SC := .cond (.t 6) (.ops r222_3) (.skip)
abbrev c222_5 : SC := .seq (.ops r222_2) c222_4
abbrev r222_6 : List SOper := [
  ⟨some 8, none, .mov (.t 1)⟩,
  ⟨some 9, none, .mov (.t 0)⟩,
  ⟨some 10, none, .cap (.t 9)⟩,
  ⟨some 11, none, .mov (.t 0)⟩,
  ⟨some 12, none, .len 1 (.t 11)⟩,
  ⟨some 13, none, .bin .sub (.t 10) (.t 12)⟩,
  ⟨some 14, none, .bin .sub (.t 8) (.t 13)⟩,
  ⟨some 1, none, .mov (.t 14)⟩]
abbrev r222_7 : List SOper := [
  ⟨some 15, none, .mov (.t 1)⟩,
  ⟨some 16, none, .bin .gtr (.t 15) (.c (.int .i64 0))⟩]
abbrev r222_8 : List SOper := [
  ⟨some 17, none, .mov (.t 0)⟩,
  ⟨some 18, none, .mov (.t 0)⟩,
  ⟨some 19, none, .cap (.t 18)⟩,
  ⟨some 20, none, .slice false 5 (.t 17) none (some (.t 19)) none⟩,
  ⟨some 21, none, .mov (.t 1)⟩,
  ⟨some 22, none, .appendz 5 56 (.agg [.str [], .int .i64 0, .int .i64 0, .str [], .bool false]) (.t 20) (.t 21)⟩,
  ⟨some 23, none, .mov (.t 0)⟩,
  ⟨some 24, none, .len 1 (.t 23)⟩,
  ⟨some 25, none, .slice false 5 (.t 22) none (some (.t 24)) none⟩,
  ⟨some 0, none, .mov (.t 25)⟩]
abbrev c222_9 : SC := .cond (.t 16) (.ops r222_8) (.skip)
abbrev c222_10 : SC := .seq (.ops r222_7) c222_9
abbrev c222_11 : SC := .seq (.ops r222_6) c222_10
abbrev r222_12 : List SOper := [
  ⟨some 26, none, .mov (.t 0)⟩,
  ⟨some 4, none, .mov (.t 26)⟩]
abbrev c222_13 : SC := .seq (.ops r222_12) (.ret)
abbrev c222_14 : SC := .seq c222_11 c222_13
abbrev c222_15 : SC := .seq c222_5 c222_14
abbrev c222_16 : SC := .seq (.ops r222_1) c222_15
def s222 : SF := ⟨[.t 4], c222_16, true, none, none⟩
/-! slices.Grow[[]crannog/api.Link,crannog/api.Link] -/
abbrev r223_1 : List SOper := [
  ⟨some 4, none, .mov (.c (.nils))⟩]
abbrev r223_2 : List SOper := [
  ⟨some 5, none, .mov (.t 1)⟩,
  ⟨some 6, none, .bin .lss (.t 5) (.c (.int .i64 0))⟩]
abbrev r223_3 : List SOper := [
  ⟨some 7, none, .mkif 9 (.c (.str [99, 97, 110, 110, 111, 116, 32, 98, 101, 32, 110, 101, 103, 97, 116, 105, 118, 101]))⟩,
  ⟨none, none, .panic (.t 7)⟩]
abbrev c223_4 : SC := .cond (.t 6) (.ops r223_3) (.skip)
abbrev c223_5 : SC := .seq (.ops r223_2) c223_4
abbrev r223_6 : List SOper := [
  ⟨some 8, none, .mov (.t 1)⟩,
  ⟨some 9, none, .mov (.t 0)⟩,
  ⟨some 10, none, .cap (.t 9)⟩,
  ⟨some 11, none, .mov (.t 0)⟩,
  ⟨some 12, none, .len 1 (.t 11)⟩,
  ⟨some 13, none, .bin .sub (.t 10) (.t 12)⟩,
  ⟨some 14, none, .bin .sub (.t 8) (.t 13)⟩,
  ⟨some 1, none, .mov (.t 14)⟩]
abbrev r223_7 : List SOper := [
  ⟨some 15, none, .mov (.t 1)⟩,
  ⟨some 16, none, .bin .gtr (.t 15) (.c (.int .i64 0))⟩]
abbrev r223_8 : List SOper := [
  ⟨some 17, none, .mov (.t 0)⟩,
  ⟨some 18, none, .mov (.t 0)⟩,
  ⟨some 19, none, .cap (.t 18)⟩,
  ⟨some 20, none, .slice false 25 (.t 17) none (some (.t 19)) none⟩,
  ⟨some 21, none, .mov (.t 1)⟩,
  ⟨some 22, none, .appendz 25 208 (.agg [.int .i64 0, .int .i64 0, .int .i64 0, .int .i64 0, .int .i64 0, .int .i64 0, .int .i64 0, .int .i64 0, .str [], .int .i64 0, .int .i64 0, .int .i64 0, .int .i64 0, .int .i64 0, .int .i64 0, .int .i64 0, .int .i64 0, .int .i64 0, .int .i64 0, .int .i64 0, .int .i64 0, .int .i64 0, .int .i64 0, .int .i64 0, .int .i64 0]) (.t 20) (.t 21)⟩,
  ⟨some 23, none, .mov (.t 0)⟩,
  ⟨some 24, none, .len 1 (.t 23)⟩,
  ⟨some 25, none, .slice false 25 (.t 22) none (some (.t 24)) none⟩,
  ⟨some 0, none, .mov (.t 25)⟩]
abbrev c223_9 : SC := .cond (.t 16) (.ops r223_8) (.skip)
abbrev c223_10 : SC := .seq (.ops r223_7) c223_9
abbrev c223_11 : SC := .seq (.ops r223_6) c223_10
abbrev r223_12 : List SOper := [
  ⟨some 26, none, .mov (.t 0)⟩,
  ⟨some 4, none, .mov (.t 26)⟩]
abbrev c223_13 : SC := .seq (.ops r223_12) (.ret)
abbrev c223_14 : SC := .seq c223_11 c223_13
abbrev c223_15 : SC := .seq c223_5 c223_14
abbrev c223_16 : SC := .seq (.ops r223_1) c223_15
def s223 : SF := ⟨[.t 4], c223_16, true, none, none⟩
/-! slices.stableCmpFunc[crannog/api.Link] -/
abbrev r224_1 : List SOper := [
  ⟨some 6, none, .mov (.c (.int .i64 20))⟩]
abbrev r224_2 : List SOper := [
  ⟨some 10, none, .mov (.t 6)⟩,
  ⟨some 7, none, .mov (.c (.int .i64 0))⟩,
  ⟨some 8, none, .mov (.t 10)⟩]
abbrev r224_3 : List SOper := [
  ⟨some 11, none, .mov (.t 8)⟩,
  ⟨some 12, none, .mov (.t 1)⟩,
  ⟨some 13, none, .bin .leq (.t 11) (.t 12)⟩]
abbrev c224_4 : SC := .cond (.t 13) (.skip) (.exit 0)
abbrev c224_5 : SC := .seq (.ops r224_3) c224_4
abbrev r224_6 : List SOper := [
  ⟨some 14, none, .mov (.t 0)⟩,
  ⟨some 15, none, .mov (.t 7)⟩,
  ⟨some 16, none, .mov (.t 8)⟩,
  ⟨some 17, none, .mov (.t 2)⟩,
  ⟨some 18, none, .call false (.c (.func 267 [])) [.t 14, .t 15, .t 16, .t 17]⟩]
abbrev r224_7 : List SOper := [
  ⟨some 19, none, .mov (.t 8)⟩,
  ⟨some 7, none, .mov (.t 19)⟩]
abbrev r224_8 : List SOper := [
  ⟨some 20, none, .mov (.t 8)⟩,
  ⟨some 21, none, .mov (.t 6)⟩,
  ⟨some 22, none, .bin .add (.t 20) (.t 21)⟩,
  ⟨some 8, none, .mov (.t 22)⟩]
abbrev c224_9 : SC := .seq (.ops r224_7) (.ops r224_8)
abbrev c224_10 : SC := .seq (.ops r224_6) c224_9
abbrev c224_11 : SC := .block 1 [0, 1, 2, 6, 7, 8] [] c224_10
abbrev c224_12 : SC := .seq c224_5 c224_11
abbrev L224_1 : SC := .loop [0, 1, 2, 6, 7, 8] [] c224_12
abbrev c224_13 : SC := .block 0 [0, 1, 2, 6, 7] [] L224_1
abbrev r224_14 : List SOper := [
  ⟨some 23, none, .mov (.t 0)⟩,
  ⟨some 24, none, .mov (.t 7)⟩,
  ⟨some 25, none, .mov (.t 1)⟩,
  ⟨some 26, none, .mov (.t 2)⟩,
  ⟨some 27, none, .call false (.c (.func 267 [])) [.t 23, .t 24, .t 25, .t 26]⟩]
abbrev r224_15 : List SOper := [
  ⟨some 28, none, .mov (.t 6)⟩,
  ⟨some 29, none, .mov (.t 1)⟩,
  ⟨some 30, none, .bin .lss (.t 28) (.t 29)⟩]
abbrev c224_16 : SC := .cond (.t 30) (.skip) (.exit 2)
abbrev c224_17 : SC := .seq (.ops r224_15) c224_16
abbrev r224_18 : List SOper := [
  ⟨some 31, none, .mov (.t 6)⟩,
  ⟨some 32, none, .bin .mul (.c (.int .i64 2)) (.t 31)⟩,
  ⟨some 7, none, .mov (.c (.int .i64 0))⟩,
  ⟨some 8, none, .mov (.t 32)⟩]
abbrev r224_19 : List SOper := [
  ⟨some 33, none, .mov (.t 8)⟩,
  ⟨some 34, none, .mov (.t 1)⟩,
  ⟨some 35, none, .bin .leq (.t 33) (.t 34)⟩]
abbrev c224_20 : SC := .cond (.t 35) (.skip) (.exit 4)
abbrev c224_21 : SC := .seq (.ops r224_19) c224_20
abbrev r224_22 : List SOper := [
  ⟨some 36, none, .mov (.t 0)⟩,
  ⟨some 37, none, .mov (.t 7)⟩,
  ⟨some 38, none, .mov (.t 7)⟩,
  ⟨some 39, none, .mov (.t 6)⟩,
  ⟨some 40, none, .bin .add (.t 38) (.t 39)⟩,
  ⟨some 41, none, .mov (.t 8)⟩,
  ⟨some 42, none, .mov (.t 2)⟩,
  ⟨some 43, none, .call false (.c (.func 268 [])) [.t 36, .t 37, .t 40, .t 41, .t 42]⟩]
abbrev r224_23 : List SOper := [
  ⟨some 44, none, .mov (.t 8)⟩,
  ⟨some 7, none, .mov (.t 44)⟩]
abbrev r224_24 : List SOper := [
  ⟨some 45, none, .mov (.t 8)⟩,
  ⟨some 46, none, .mov (.t 6)⟩,
  ⟨some 47, none, .bin .mul (.c (.int .i64 2)) (.t 46)⟩,
  ⟨some 48, none, .bin .add (.t 45) (.t 47)⟩,
  ⟨some 8, none, .mov (.t 48)⟩]
abbrev c224_25 : SC := .seq (.ops r224_23) (.ops r224_24)
abbrev c224_26 : SC := .seq (.ops r224_22) c224_25
abbrev c224_27 : SC := .block 5 [0, 1, 2, 6, 7, 8] [] c224_26
abbrev c224_28 : SC := .seq c224_21 c224_27
abbrev L224_2 : SC := .loop [0, 1, 2, 6, 7, 8] [] c224_28
abbrev c224_29 : SC := .block 4 [0, 1, 2, 6, 7] [] L224_2
abbrev r224_30 : List SOper := [
  ⟨some 49, none, .mov (.t 7)⟩,
  ⟨some 50, none, .mov (.t 6)⟩,
  ⟨some 51, none, .bin .add (.t 49) (.t 50)⟩,
  ⟨some 9, none, .mov (.t 51)⟩]
abbrev r224_31 : List SOper := [
  ⟨some 52, none, .mov (.t 9)⟩,
  ⟨some 53, none, .mov (.t 1)⟩,
  ⟨some 54, none, .bin .lss (.t 52) (.t 53)⟩]
abbrev r224_32 : List SOper := [
  ⟨some 55, none, .mov (.t 0)⟩,
  ⟨some 56, none, .mov (.t 7)⟩,
  ⟨some 57, none, .mov (.t 9)⟩,
  ⟨some 58, none, .mov (.t 1)⟩,
  ⟨some 59, none, .mov (.t 2)⟩,
  ⟨some 60, none, .call false (.c (.func 268 [])) [.t 55, .t 56, .t 57, .t 58, .t 59]⟩]
abbrev c224_33 : SC := .cond (.t 54) (.ops r224_32) (.skip)
abbrev c224_34 : SC := .seq (.ops r224_31) c224_33
abbrev c224_35 : SC := .seq (.ops r224_30) c224_34
abbrev r224_36 : List SOper := [
  ⟨some 61, none, .mov (.t 6)⟩,
  ⟨some 62, none, .bin .mul (.t 61) (.c (.int .i64 2))⟩,
  ⟨some 6, none, .mov (.t 62)⟩]
abbrev c224_37 : SC := .seq c224_35 (.ops r224_36)
abbrev c224_38 : SC := .seq c224_29 c224_37
abbrev c224_39 : SC := .seq (.ops r224_18) c224_38
abbrev c224_40 : SC := .block 3 [0, 1, 2, 6] [] c224_39
abbrev c224_41 : SC := .seq c224_17 c224_40
abbrev L224_3 : SC := .loop [0, 1, 2, 6] [] c224_41
abbrev c224_42 : SC := .block 2 [] [] L224_3
abbrev c224_43 : SC := .seq (.ops r224_14) c224_42
abbrev c224_44 : SC := .seq c224_13 c224_43
abbrev c224_45 : SC := .seq (.ops r224_2) c224_44
abbrev c224_46 : SC := .seq (.ops r224_1) c224_45
def s224 : SF := ⟨[], c224_46, false, none, none⟩
/-! slices.SortStableFunc[[]crannog/api.Piece,crannog/api.Piece] -/
abbrev r225_1 : List SOper := [
  ⟨some 4, none, .mov (.t 0)⟩,
  ⟨some 5, none, .mov (.t 0)⟩,
  ⟨some 6, none, .len 1 (.t 5)⟩,
  ⟨some 7, none, .mov (.t 1)⟩,
  ⟨some 8, none, .call false (.c (.func 269 [])) [.t 4, .t 6, .t 7]⟩]
def s225 : SF := ⟨[], .ops r225_1, false, none, none⟩
/-! slices.SortStableFunc[[]crannog/api.Xattr,crannog/api.Xattr] -/
abbrev r226_1 : List SOper := [
  ⟨some 4, none, .mov (.t 0)⟩,
  ⟨some 5, none, .mov (.t 0)⟩,
  ⟨some 6, none, .len 1 (.t 5)⟩,
  ⟨some 7, none, .mov (.t 1)⟩,
  ⟨some 8, none, .call false (.c (.func 270 [])) [.t 4, .t 6, .t 7]⟩]
def s226 : SF := ⟨[], .ops r226_1, false, none, none⟩
/-! cmp.isNaN[string] -/
abbrev r227_1 : List SOper := [
  ⟨some 2, none, .mov (.c (.bool false))⟩]
abbrev r227_2 : List SOper := [
  ⟨some 3, none, .mov (.t 0)⟩,
  ⟨some 4, none, .mov (.t 0)⟩,
  ⟨some 5, none, .bin .neq (.t 3) (.t 4)⟩,
  ⟨some 2, none, .mov (.t 5)⟩]
abbrev c227_3 : SC := .seq (.ops r227_2) (.ret)
abbrev c227_4 : SC := .seq (.ops r227_1) c227_3
def s227 : SF := ⟨[.t 2], c227_4, false, none, none⟩
/-! strings.genSplit -/
abbrev r229_1 : List SOper := [
  ⟨some 8, none, .mov (.c (.nils))⟩]
abbrev r229_2 : List SOper := [
  ⟨some 12, none, .mov (.t 3)⟩,
  ⟨some 13, none, .bin .eql (.t 12) (.c (.int .i64 0))⟩]
abbrev r229_3 : List SOper := [
  ⟨some 8, none, .mov (.c (.nils))⟩]
abbrev c229_4 : SC := .seq (.ops r229_3) (.ret)
abbrev c229_5 : SC := .cond (.t 13) c229_4 (.skip)
abbrev c229_6 : SC := .seq (.ops r229_2) c229_5
abbrev r229_7 : List SOper := [
  ⟨some 14, none, .mov (.t 1)⟩,
  ⟨some 15, none, .bin .eql (.t 14) (.c (.str []))⟩]
abbrev r229_8 : List SOper := [
  ⟨some 16, none, .mov (.t 0)⟩,
  ⟨some 17, none, .mov (.t 3)⟩,
  ⟨some 18, none, .call false (.c (.func 271 [])) [.t 16, .t 17]⟩,
  ⟨some 8, none, .mov (.t 18)⟩]
abbrev c229_9 : SC := .seq (.ops r229_8) (.ret)
abbrev c229_10 : SC := .cond (.t 15) c229_9 (.skip)
abbrev c229_11 : SC := .seq (.ops r229_7) c229_10
abbrev r229_12 : List SOper := [
  ⟨some 19, none, .mov (.t 3)⟩,
  ⟨some 20, none, .bin .lss (.t 19) (.c (.int .i64 0))⟩]
abbrev r229_13 : List SOper := [
  ⟨some 21, none, .mov (.t 0)⟩,
  ⟨some 22, none, .mov (.t 1)⟩,
  ⟨some 23, none, .call false (.c (.func 272 [])) [.t 21, .t 22]⟩,
  ⟨some 24, none, .bin .add (.t 23) (.c (.int .i64 1))⟩,
  ⟨some 3, none, .mov (.t 24)⟩]
abbrev c229_14 : SC := .cond (.t 20) (.ops r229_13) (.skip)
abbrev c229_15 : SC := .seq (.ops r229_12) c229_14
abbrev r229_16 : List SOper := [
  ⟨some 25, none, .mov (.t 3)⟩,
  ⟨some 26, none, .mov (.t 0)⟩,
  ⟨some 27, none, .len 0 (.t 26)⟩,
  ⟨some 28, none, .bin .add (.t 27) (.c (.int .i64 1))⟩,
  ⟨some 29, none, .minmax false [.t 25, .t 28]⟩,
  ⟨some 3, none, .mov (.t 29)⟩]
abbrev r229_17 : List SOper := [
  ⟨some 30, none, .mov (.t 3)⟩,
  ⟨some 31, none, .mkslice none 16 1 (.str []) (.t 30) (.t 30)⟩,
  ⟨some 9, none, .mov (.t 31)⟩]
abbrev r229_18 : List SOper := [
  ⟨some 32, none, .mov (.t 3)⟩,
  ⟨some 33, none, .bin .sub (.t 32) (.c (.int .i64 1))⟩,
  ⟨some 3, none, .mov (.t 33)⟩]
abbrev r229_19 : List SOper := [
  ⟨some 10, none, .mov (.c (.int .i64 0))⟩]
abbrev r229_20 : List SOper := [
  ⟨some 34, none, .mov (.t 10)⟩,
  ⟨some 35, none, .mov (.t 3)⟩,
  ⟨some 36, none, .bin .lss (.t 34) (.t 35)⟩]
abbrev c229_21 : SC := .cond (.t 36) (.skip) (.exit 0)
abbrev c229_22 : SC := .seq (.ops r229_20) c229_21
abbrev r229_23 : List SOper := [
  ⟨some 37, none, .mov (.t 0)⟩,
  ⟨some 38, none, .mov (.t 1)⟩,
  ⟨some 39, none, .call false (.c (.func 273 [])) [.t 37, .t 38]⟩,
  ⟨some 11, none, .mov (.t 39)⟩]
abbrev r229_24 : List SOper := [
  ⟨some 40, none, .mov (.t 11)⟩,
  ⟨some 41, none, .bin .lss (.t 40) (.c (.int .i64 0))⟩]
abbrev c229_25 : SC := .cond (.t 41) (.exit 0) (.skip)
abbrev c229_26 : SC := .seq (.ops r229_24) c229_25
abbrev r229_27 : List SOper := [
  ⟨some 42, none, .mov (.t 9)⟩,
  ⟨some 43, none, .mov (.t 10)⟩,
  ⟨some 44, none, .mov (.t 0)⟩,
  ⟨some 45, none, .mov (.t 11)⟩,
  ⟨some 46, none, .mov (.t 2)⟩,
  ⟨some 47, none, .bin .add (.t 45) (.t 46)⟩,
  ⟨some 48, none, .slice true 1 (.t 44) none (some (.t 47)) none⟩,
  ⟨some 49, none, .iaddr none 1 (.t 42) (.t 43)⟩,
  ⟨none, none, .store 1 (.t 49) (.t 48)⟩]
abbrev r229_28 : List SOper := [
  ⟨some 50, none, .mov (.t 0)⟩,
  ⟨some 51, none, .mov (.t 11)⟩,
  ⟨some 52, none, .mov (.t 1)⟩,
  ⟨some 53, none, .len 0 (.t 52)⟩,
  ⟨some 54, none, .bin .add (.t 51) (.t 53)⟩,
  ⟨some 55, none, .slice true 1 (.t 50) (some (.t 54)) none none⟩,
  ⟨some 0, none, .mov (.t 55)⟩]
abbrev r229_29 : List SOper := [
  ⟨some 56, none, .mov (.t 10)⟩,
  ⟨some 57, none, .bin .add (.t 56) (.c (.int .i64 1))⟩,
  ⟨some 10, none, .mov (.t 57)⟩]
abbrev c229_30 : SC := .seq (.ops r229_28) (.ops r229_29)
abbrev c229_31 : SC := .seq (.ops r229_27) c229_30
abbrev c229_32 : SC := .seq c229_26 c229_31
abbrev c229_33 : SC := .seq (.ops r229_23) c229_32
abbrev c229_34 : SC := .block 1 [0, 1, 2, 3, 9, 10] [] c229_33
abbrev c229_35 : SC := .seq c229_22 c229_34
abbrev L229_1 : SC := .loop [0, 1, 2, 3, 9, 10] [] c229_35
abbrev c229_36 : SC := .block 0 [0, 9, 10] [] L229_1
abbrev r229_37 : List SOper := [
  ⟨some 58, none, .mov (.t 9)⟩,
  ⟨some 59, none, .mov (.t 10)⟩,
  ⟨some 60, none, .mov (.t 0)⟩,
  ⟨some 61, none, .iaddr none 1 (.t 58) (.t 59)⟩,
  ⟨none, none, .store 1 (.t 61) (.t 60)⟩]
abbrev r229_38 : List SOper := [
  ⟨some 62, none, .mov (.t 9)⟩,
  ⟨some 63, none, .mov (.t 10)⟩,
  ⟨some 64, none, .bin .add (.t 63) (.c (.int .i64 1))⟩,
  ⟨some 65, none, .slice false 1 (.t 62) none (some (.t 64)) none⟩,
  ⟨some 8, none, .mov (.t 65)⟩]
abbrev c229_39 : SC := .seq (.ops r229_38) (.ret)
abbrev c229_40 : SC := .seq (.ops r229_37) c229_39
abbrev c229_41 : SC := .seq c229_36 c229_40
abbrev c229_42 : SC := .seq (.ops r229_19) c229_41
abbrev c229_43 : SC := .seq (.ops r229_18) c229_42
abbrev c229_44 : SC := .seq (.ops r229_17) c229_43
abbrev c229_45 : SC := .seq (.ops r229_16) c229_44
abbrev c229_46 : SC := .seq c229_15 c229_45
abbrev c229_47 : SC := .seq c229_11 c229_46
abbrev c229_48 : SC := .seq c229_6 c229_47
abbrev c229_49 : SC := .seq (.ops r229_1) c229_48
def s229 : SF := ⟨[.t 8], c229_49, false, none, none⟩
/-! strings.Contains -/
abbrev r230_1 : List SOper := [
  ⟨some 4, none, .mov (.c (.bool false))⟩]
abbrev r230_2 : List SOper := [
  ⟨some 5, none, .mov (.t 0)⟩,
  ⟨some 6, none, .mov (.t 1)⟩,
  ⟨some 7, none, .call false (.c (.func 273 [])) [.t 5, .t 6]⟩,
  ⟨some 8, none, .bin .geq (.t 7) (.c (.int .i64 0))⟩,
  ⟨some 4, none, .mov (.t 8)⟩]
abbrev c230_3 : SC := .seq (.ops r230_2) (.ret)
abbrev c230_4 : SC := .seq (.ops r230_1) c230_3
def s230 : SF := ⟨[.t 4], c230_4, false, none, none⟩
/-! crannog/view.step$1 -/
abbrev r231_1 : List SOper := [
  ⟨some 3, none, .boxL (.t 0)⟩,
  ⟨some 4, none, .mov (.c (.bool false))⟩]
abbrev r231_2 : List SOper := [
  ⟨some 5, none, .faddr 4 (.t 3)⟩,
  ⟨some 6, none, .load false true 2 (.t 5)⟩,
  ⟨some 7, none, .load false true 2 (.t 1)⟩,
  ⟨some 8, none, .cmpA false [.int .i64, .int .i64] (.t 6) (.t 7)⟩,
  ⟨some 9, none, .mov (.t 8)⟩,
  ⟨some 10, some (9, true), .faddr 6 (.t 3)⟩,
  ⟨some 11, some (9, true), .load false false 1 (.t 10)⟩,
  ⟨some 12, some (9, true), .load false false 1 (.t 2)⟩,
  ⟨some 13, some (9, true), .bin .eql (.t 11) (.t 12)⟩,
  ⟨some 14, none, .pick (.t 9) (.t 13) (.c (.bool false))⟩,
  ⟨some 4, none, .mov (.t 14)⟩]
abbrev c231_3 : SC := .seq (.ops r231_2) (.ret)
abbrev c231_4 : SC := .seq (.ops r231_1) c231_3
def s231 : SF := ⟨[.t 4], c231_4, false, none, none⟩
/-! crannog/vector.Is -/
abbrev r240_1 : List SOper := [
  ⟨some 1, none, .boxL (.t 0)⟩,
  ⟨some 2, none, .mov (.c (.bool false))⟩]
abbrev r240_2 : List SOper := [
  ⟨some 3, none, .faddr 0 (.t 1)⟩,
  ⟨some 4, none, .load false false 1 (.t 3)⟩,
  ⟨some 5, none, .bin .geq (.t 4) (.c (.int .i64 1))⟩,
  ⟨some 6, none, .mov (.t 5)⟩,
  ⟨some 7, some (6, true), .faddr 0 (.t 1)⟩,
  ⟨some 8, some (6, true), .load false false 1 (.t 7)⟩,
  ⟨some 9, some (6, true), .bin .leq (.t 8) (.c (.int .i64 1099511627776))⟩,
  ⟨some 10, none, .pick (.t 6) (.t 9) (.c (.bool false))⟩,
  ⟨some 11, none, .mov (.t 10)⟩,
  ⟨some 12, some (11, true), .faddr 1 (.t 1)⟩,
  ⟨some 13, some (11, true), .load false false 1 (.t 12)⟩,
  ⟨some 14, some (11, true), .bin .geq (.t 13) (.c (.int .i64 0))⟩,
  ⟨some 15, none, .pick (.t 11) (.t 14) (.c (.bool false))⟩,
  ⟨some 16, none, .mov (.t 15)⟩,
  ⟨some 17, some (16, true), .faddr 1 (.t 1)⟩,
  ⟨some 18, some (16, true), .load false false 1 (.t 17)⟩,
  ⟨some 19, some (16, true), .bin .lss (.t 18) (.c (.int .i64 8))⟩,
  ⟨some 20, none, .pick (.t 16) (.t 19) (.c (.bool false))⟩,
  ⟨some 2, none, .mov (.t 20)⟩]
abbrev c240_3 : SC := .seq (.ops r240_2) (.ret)
abbrev c240_4 : SC := .seq (.ops r240_1) c240_3
def s240 : SF := ⟨[.t 2], c240_4, false, none, none⟩
/-! slices.insertionSortCmpFunc[crannog/api.Shown] -/
abbrev r241_1 : List SOper := [
  ⟨some 10, none, .mov (.t 1)⟩,
  ⟨some 11, none, .bin .add (.t 10) (.c (.int .i64 1))⟩,
  ⟨some 8, none, .mov (.t 11)⟩]
abbrev r241_2 : List SOper := [
  ⟨some 12, none, .mov (.t 8)⟩,
  ⟨some 13, none, .mov (.t 2)⟩,
  ⟨some 14, none, .bin .lss (.t 12) (.t 13)⟩]
abbrev c241_3 : SC := .cond (.t 14) (.skip) (.exit 0)
abbrev c241_4 : SC := .seq (.ops r241_2) c241_3
abbrev r241_5 : List SOper := [
  ⟨some 17, none, .mov (.t 8)⟩,
  ⟨some 9, none, .mov (.t 17)⟩]
abbrev r241_6 : List SOper := [
  ⟨some 18, none, .mov (.t 9)⟩,
  ⟨some 19, none, .mov (.t 1)⟩,
  ⟨some 20, none, .bin .gtr (.t 18) (.t 19)⟩,
  ⟨some 21, none, .mov (.t 20)⟩,
  ⟨some 22, some (21, true), .mov (.t 3)⟩,
  ⟨some 23, some (21, true), .mov (.t 0)⟩,
  ⟨some 24, some (21, true), .mov (.t 9)⟩,
  ⟨some 25, some (21, true), .iaddr none 8 (.t 23) (.t 24)⟩,
  ⟨some 26, some (21, true), .load false true 8 (.t 25)⟩,
  ⟨some 27, some (21, true), .mov (.t 0)⟩,
  ⟨some 28, some (21, true), .mov (.t 9)⟩,
  ⟨some 29, some (21, true), .bin .sub (.t 28) (.c (.int .i64 1))⟩,
  ⟨some 30, some (21, true), .iaddr none 8 (.t 27) (.t 29)⟩,
  ⟨some 31, some (21, true), .load false true 8 (.t 30)⟩,
  ⟨some 32, some (21, true), .call false (.t 22) [.t 26, .t 31]⟩,
  ⟨some 33, some (21, true), .bin .lss (.t 32) (.c (.int .i64 0))⟩,
  ⟨some 34, none, .pick (.t 21) (.t 33) (.c (.bool false))⟩]
abbrev c241_7 : SC := .cond (.t 34) (.skip) (.exit 2)
abbrev c241_8 : SC := .seq (.draw 0 [[], [], [0, 1], [2], [3], [3], [3], [5, 6], [7], [3], [3], [10], [9, 11], [12], [4, 8, 13], [14], [15]] r241_6) c241_7
abbrev r241_9 : List SOper := [
  ⟨some 37, none, .mov (.t 0)⟩,
  ⟨some 38, none, .mov (.t 9)⟩,
  ⟨some 39, none, .mov (.t 0)⟩,
  ⟨some 40, none, .mov (.t 9)⟩,
  ⟨some 41, none, .bin .sub (.t 40) (.c (.int .i64 1))⟩,
  ⟨some 42, none, .mov (.t 0)⟩,
  ⟨some 43, none, .mov (.t 9)⟩,
  ⟨some 44, none, .bin .sub (.t 43) (.c (.int .i64 1))⟩,
  ⟨some 45, none, .iaddr none 8 (.t 42) (.t 44)⟩,
  ⟨some 46, none, .load false true 8 (.t 45)⟩,
  ⟨some 47, none, .mov (.t 0)⟩,
  ⟨some 48, none, .mov (.t 9)⟩,
  ⟨some 49, none, .iaddr none 8 (.t 47) (.t 48)⟩,
  ⟨some 50, none, .load false true 8 (.t 49)⟩,
  ⟨some 51, none, .iaddr none 8 (.t 37) (.t 38)⟩,
  ⟨none, none, .store 8 (.t 51) (.t 46)⟩,
  ⟨some 52, none, .iaddr none 8 (.t 39) (.t 41)⟩,
  ⟨none, none, .store 8 (.t 52) (.t 50)⟩]
abbrev c241_10 : SC := .block 3 [0, 1, 2, 3, 8, 9] [] (.draw 0 [[], [], [], [], [3], [], [], [6], [5, 7], [8], [], [], [10, 11], [12], [0, 1, 9, 13], [14], [2, 4, 15], [16]] r241_9)
abbrev r241_11 : List SOper := [
  ⟨some 35, none, .mov (.t 9)⟩,
  ⟨some 36, none, .bin .sub (.t 35) (.c (.int .i64 1))⟩,
  ⟨some 9, none, .mov (.t 36)⟩]
abbrev c241_12 : SC := .seq c241_10 (.ops r241_11)
abbrev c241_13 : SC := .seq c241_8 c241_12
abbrev L241_1 : SC := .loop [0, 1, 2, 3, 8, 9] [] c241_13
abbrev c241_14 : SC := .block 2 [0, 1, 2, 3, 8] [] L241_1
abbrev c241_15 : SC := .seq (.ops r241_5) c241_14
abbrev c241_16 : SC := .block 1 [0, 1, 2, 3, 8] [] c241_15
abbrev r241_17 : List SOper := [
  ⟨some 15, none, .mov (.t 8)⟩,
  ⟨some 16, none, .bin .add (.t 15) (.c (.int .i64 1))⟩,
  ⟨some 8, none, .mov (.t 16)⟩]
abbrev c241_18 : SC := .seq c241_16 (.ops r241_17)
abbrev c241_19 : SC := .seq c241_4 c241_18
abbrev L241_2 : SC := .loop [0, 1, 2, 3, 8] [] c241_19
abbrev c241_20 : SC := .block 0 [] [] L241_2
abbrev c241_21 : SC := .seq (.ops r241_1) c241_20
def s241 : SF := ⟨[], c241_21, false, none, none⟩
/-! math/bits.Len64 -/
abbrev r250_1 : List SOper := [
  ⟨some 2, none, .mov (.c (.int .i64 0))⟩]
abbrev r250_2 : List SOper := [
  ⟨some 3, none, .mov (.t 0)⟩,
  ⟨some 4, none, .bin .geq (.t 3) (.c (.int .u64 4294967296))⟩]
abbrev r250_3 : List SOper := [
  ⟨some 5, none, .mov (.t 0)⟩,
  ⟨some 6, none, .bin .shr (.t 5) (.c (.int .u64 32))⟩,
  ⟨some 0, none, .mov (.t 6)⟩]
abbrev r250_4 : List SOper := [
  ⟨some 2, none, .mov (.c (.int .i64 32))⟩]
abbrev c250_5 : SC := .seq (.ops r250_3) (.ops r250_4)
abbrev c250_6 : SC := .cond (.t 4) c250_5 (.skip)
abbrev c250_7 : SC := .seq (.ops r250_2) c250_6
abbrev r250_8 : List SOper := [
  ⟨some 7, none, .mov (.t 0)⟩,
  ⟨some 8, none, .bin .geq (.t 7) (.c (.int .u64 65536))⟩]
abbrev r250_9 : List SOper := [
  ⟨some 9, none, .mov (.t 0)⟩,
  ⟨some 10, none, .bin .shr (.t 9) (.c (.int .u64 16))⟩,
  ⟨some 0, none, .mov (.t 10)⟩]
abbrev r250_10 : List SOper := [
  ⟨some 11, none, .mov (.t 2)⟩,
  ⟨some 12, none, .bin .add (.t 11) (.c (.int .i64 16))⟩,
  ⟨some 2, none, .mov (.t 12)⟩]
abbrev c250_11 : SC := .seq (.ops r250_9) (.ops r250_10)
abbrev c250_12 : SC := .cond (.t 8) c250_11 (.skip)
abbrev c250_13 : SC := .seq (.ops r250_8) c250_12
abbrev r250_14 : List SOper := [
  ⟨some 13, none, .mov (.t 0)⟩,
  ⟨some 14, none, .bin .geq (.t 13) (.c (.int .u64 256))⟩]
abbrev r250_15 : List SOper := [
  ⟨some 15, none, .mov (.t 0)⟩,
  ⟨some 16, none, .bin .shr (.t 15) (.c (.int .u64 8))⟩,
  ⟨some 0, none, .mov (.t 16)⟩]
abbrev r250_16 : List SOper := [
  ⟨some 17, none, .mov (.t 2)⟩,
  ⟨some 18, none, .bin .add (.t 17) (.c (.int .i64 8))⟩,
  ⟨some 2, none, .mov (.t 18)⟩]
abbrev c250_17 : SC := .seq (.ops r250_15) (.ops r250_16)
abbrev c250_18 : SC := .cond (.t 14) c250_17 (.skip)
abbrev c250_19 : SC := .seq (.ops r250_14) c250_18
abbrev r250_20 : List SOper := [
  ⟨some 19, none, .mov (.t 2)⟩,
  ⟨some 20, none, .mov (.t 0)⟩,
  ⟨some 21, none, .cvI .u8 (.t 20)⟩,
  ⟨some 22, none, .index none (.c (.str [0, 1, 2, 2, 3, 3, 3, 3, 4, 4, 4, 4, 4, 4, 4, 4, 5, 5, 5, 5, 5, 5, 5, 5, 5, 5, 5, 5, 5, 5, 5, 5, 6, 6, 6, 6, 6, 6, 6, 6, 6, 6, 6, 6, 6, 6, 6, 6, 6, 6, 6, 6, 6, 6, 6, 6, 6, 6, 6, 6, 6, 6, 6, 6, 7, 7, 7, 7, 7, 7, 7, 7, 7, 7, 7, 7, 7, 7, 7, 7, 7, 7, 7, 7, 7, 7, 7, 7, 7, 7, 7, 7, 7, 7, 7, 7, 7, 7, 7, 7, 7, 7, 7, 7, 7, 7, 7, 7, 7, 7, 7, 7, 7, 7, 7, 7, 7, 7, 7, 7, 7, 7, 7, 7, 7, 7, 7, 7, 8, 8, 8, 8, 8, 8, 8, 8, 8, 8, 8, 8, 8, 8, 8, 8, 8, 8, 8, 8, 8, 8, 8, 8, 8, 8, 8, 8, 8, 8, 8, 8, 8, 8, 8, 8, 8, 8, 8, 8, 8, 8, 8, 8, 8, 8, 8, 8, 8, 8, 8, 8, 8, 8, 8, 8, 8, 8, 8, 8, 8, 8, 8, 8, 8, 8, 8, 8, 8, 8, 8, 8, 8, 8, 8, 8, 8, 8, 8, 8, 8, 8, 8, 8, 8, 8, 8, 8, 8, 8, 8, 8, 8, 8, 8, 8, 8, 8, 8, 8, 8, 8, 8, 8, 8, 8, 8, 8, 8, 8, 8, 8, 8, 8, 8, 8, 8, 8, 8, 8, 8, 8, 8, 8, 8, 8, 8, 8])) (.t 21)⟩,
  ⟨some 23, none, .cvI .i64 (.t 22)⟩,
  ⟨some 24, none, .bin .add (.t 19) (.t 23)⟩,
  ⟨some 2, none, .mov (.t 24)⟩]
abbrev c250_21 : SC := .seq (.ops r250_20) (.ret)
abbrev c250_22 : SC := .seq c250_19 c250_21
abbrev c250_23 : SC := .seq c250_13 c250_22
abbrev c250_24 : SC := .seq c250_7 c250_23
abbrev c250_25 : SC := .seq (.ops r250_1) c250_24
def s250 : SF := ⟨[.t 2], c250_25, false, none, none⟩
/-! crannog/names.Parent -/
abbrev r251_1 : List SOper := [
  ⟨some 2, none, .mov (.c (.nils))⟩,
  ⟨some 3, none, .mov (.c (.str []))⟩,
  ⟨some 4, none, .mov (.c (.int .i64 0))⟩]
abbrev r251_2 : List SOper := [
  ⟨some 8, none, .mov (.t 0)⟩,
  ⟨some 9, none, .call false (.c (.func 84 [])) [.t 8]⟩,
  ⟨some 7, none, .mov (.t 9)⟩,
  ⟨some 10, none, .extract (.t 7) 0⟩,
  ⟨some 11, none, .extract (.t 7) 1⟩,
  ⟨some 5, none, .mov (.t 10)⟩,
  ⟨some 6, none, .mov (.t 11)⟩]
abbrev r251_3 : List SOper := [
  ⟨some 12, none, .mov (.t 6)⟩,
  ⟨some 13, none, .bin .neq (.t 12) (.c (.int .i64 0))⟩]
abbrev r251_4 : List SOper := [
  ⟨some 14, none, .mov (.t 6)⟩,
  ⟨some 2, none, .mov (.c (.nils))⟩,
  ⟨some 3, none, .mov (.c (.str []))⟩,
  ⟨some 4, none, .mov (.t 14)⟩]
abbrev c251_5 : SC := .seq (.ops r251_4) (.ret)
abbrev c251_6 : SC := .cond (.t 13) c251_5 (.skip)
abbrev c251_7 : SC := .seq (.ops r251_3) c251_6
abbrev r251_8 : List SOper := [
  ⟨some 15, none, .mov (.t 5)⟩,
  ⟨some 16, none, .len 1 (.t 15)⟩,
  ⟨some 17, none, .bin .eql (.t 16) (.c (.int .i64 0))⟩]
abbrev r251_9 : List SOper := [
  ⟨some 2, none, .mov (.c (.nils))⟩,
  ⟨some 3, none, .mov (.c (.str []))⟩,
  ⟨some 4, none, .mov (.c (.int .i64 16))⟩]
abbrev c251_10 : SC := .seq (.ops r251_9) (.ret)
abbrev c251_11 : SC := .cond (.t 17) c251_10 (.skip)
abbrev c251_12 : SC := .seq (.ops r251_8) c251_11
abbrev r251_13 : List SOper := [
  ⟨some 18, none, .mov (.t 5)⟩,
  ⟨some 19, none, .mov (.t 5)⟩,
  ⟨some 20, none, .len 1 (.t 19)⟩,
  ⟨some 21, none, .bin .sub (.t 20) (.c (.int .i64 1))⟩,
  ⟨some 22, none, .mov (.t 5)⟩,
  ⟨some 23, none, .len 1 (.t 22)⟩,
  ⟨some 24, none, .bin .sub (.t 23) (.c (.int .i64 1))⟩,
  ⟨some 25, none, .slice false 1 (.t 18) none (some (.t 21)) (some (.t 24))⟩,
  ⟨some 26, none, .mov (.t 5)⟩,
  ⟨some 27, none, .mov (.t 5)⟩,
  ⟨some 28, none, .len 1 (.t 27)⟩,
  ⟨some 29, none, .bin .sub (.t 28) (.c (.int .i64 1))⟩,
  ⟨some 30, none, .iaddr none 1 (.t 26) (.t 29)⟩,
  ⟨some 31, none, .load false false 1 (.t 30)⟩,
  ⟨some 2, none, .mov (.t 25)⟩,
  ⟨some 3, none, .mov (.t 31)⟩,
  ⟨some 4, none, .mov (.c (.int .i64 0))⟩]
abbrev c251_14 : SC := .seq (.draw 0 [[], [], [1], [2], [], [4], [5], [0, 3, 6], [], [], [9], [10], [8, 11], [12], [7], [13, 14], [15]] r251_13) (.ret)
abbrev c251_15 : SC := .seq c251_12 c251_14
abbrev c251_16 : SC := .seq c251_7 c251_15
abbrev c251_17 : SC := .seq (.ops r251_2) c251_16
abbrev c251_18 : SC := .seq (.ops r251_1) c251_17
def s251 : SF := ⟨[.t 2, .t 3, .t 4], c251_18, false, none, none⟩
/-! crannog/names.Join -/
abbrev r252_1 : List SOper := [
  ⟨some 2, none, .mov (.c (.str []))⟩,
  ⟨some 3, none, .mov (.c (.int .i64 0))⟩]
abbrev r252_2 : List SOper := [
  ⟨some 7, none, .mov (.t 0)⟩,
  ⟨some 8, none, .mov (.t 0)⟩,
  ⟨some 9, none, .len 1 (.t 8)⟩,
  ⟨some 10, none, .minmax false [.t 9, .c (.int .i64 9)]⟩,
  ⟨some 11, none, .slice false 1 (.t 7) none (some (.t 10)) none⟩,
  ⟨some 12, none, .call false (.c (.func 283 [])) [.t 11, .c (.str [47])]⟩,
  ⟨some 13, none, .bin .add (.c (.str [47])) (.t 12)⟩,
  ⟨some 4, none, .mov (.t 13)⟩]
abbrev r252_3 : List SOper := [
  ⟨some 14, none, .mov (.t 0)⟩,
  ⟨some 15, none, .len 1 (.t 14)⟩,
  ⟨some 16, none, .bin .gtr (.t 15) (.c (.int .i64 8))⟩]
abbrev r252_4 : List SOper := [
  ⟨some 2, none, .mov (.c (.str []))⟩,
  ⟨some 3, none, .mov (.c (.int .i64 36))⟩]
abbrev c252_5 : SC := .seq (.ops r252_4) (.ret)
abbrev c252_6 : SC := .cond (.t 16) c252_5 (.skip)
abbrev c252_7 : SC := .seq (.ops r252_3) c252_6
abbrev r252_8 : List SOper := [
  ⟨some 18, none, .mov (.t 4)⟩,
  ⟨some 19, none, .call false (.c (.func 84 [])) [.t 18]⟩,
  ⟨some 17, none, .mov (.t 19)⟩,
  ⟨some 20, none, .extract (.t 17) 0⟩,
  ⟨some 21, none, .extract (.t 17) 1⟩,
  ⟨some 5, none, .mov (.t 20)⟩,
  ⟨some 6, none, .mov (.t 21)⟩]
abbrev r252_9 : List SOper := [
  ⟨some 22, none, .mov (.t 6)⟩,
  ⟨some 23, none, .bin .neq (.t 22) (.c (.int .i64 0))⟩,
  ⟨some 24, none, .mov (.t 23)⟩,
  ⟨some 25, some (24, false), .mov (.t 5)⟩,
  ⟨some 26, some (24, false), .mov (.t 0)⟩,
  ⟨some 27, some (24, false), .call false (.c (.func 34 [])) [.t 25, .t 26]⟩,
  ⟨some 28, some (24, false), .un .not (.t 27)⟩,
  ⟨some 29, none, .pick (.t 24) (.c (.bool true)) (.t 28)⟩]
abbrev r252_10 : List SOper := [
  ⟨some 30, none, .mov (.t 6)⟩,
  ⟨some 31, none, .minmax true [.t 30, .c (.int .i64 22)]⟩,
  ⟨some 2, none, .mov (.c (.str []))⟩,
  ⟨some 3, none, .mov (.t 31)⟩]
abbrev c252_11 : SC := .seq (.ops r252_10) (.ret)
abbrev c252_12 : SC := .cond (.t 29) c252_11 (.skip)
abbrev c252_13 : SC := .seq (.ops r252_9) c252_12
abbrev c252_14 : SC := .seq (.ops r252_8) c252_13
abbrev r252_15 : List SOper := [
  ⟨some 32, none, .mov (.t 4)⟩,
  ⟨some 2, none, .mov (.t 32)⟩,
  ⟨some 3, none, .mov (.c (.int .i64 0))⟩]
abbrev c252_16 : SC := .seq (.ops r252_15) (.ret)
abbrev c252_17 : SC := .seq c252_14 c252_16
abbrev c252_18 : SC := .seq c252_7 c252_17
abbrev c252_19 : SC := .seq (.ops r252_2) c252_18
abbrev c252_20 : SC := .seq (.ops r252_1) c252_19
def s252 : SF := ⟨[.t 2, .t 3], c252_20, false, none, none⟩
/-! (*crannog/calls.desk).free$1 -/
abbrev r253_1 : List SOper := [
  ⟨some 3, none, .boxL (.t 0)⟩,
  ⟨some 4, none, .mov (.c (.bool false))⟩]
abbrev r253_2 : List SOper := [
  ⟨some 5, none, .faddr 4 (.t 3)⟩,
  ⟨some 6, none, .load false true 2 (.t 5)⟩,
  ⟨some 7, none, .faddr 1 (.t 1)⟩,
  ⟨some 8, none, .load false true 2 (.t 7)⟩,
  ⟨some 9, none, .cmpA false [.int .i64, .int .i64] (.t 6) (.t 8)⟩,
  ⟨some 10, none, .mov (.t 9)⟩,
  ⟨some 11, some (10, true), .faddr 6 (.t 3)⟩,
  ⟨some 12, some (10, true), .load false false 1 (.t 11)⟩,
  ⟨some 13, some (10, true), .load false false 1 (.t 2)⟩,
  ⟨some 14, some (10, true), .bin .eql (.t 12) (.t 13)⟩,
  ⟨some 15, none, .pick (.t 10) (.t 14) (.c (.bool false))⟩,
  ⟨some 4, none, .mov (.t 15)⟩]
abbrev c253_3 : SC := .seq (.ops r253_2) (.ret)
abbrev c253_4 : SC := .seq (.ops r253_1) c253_3
def s253 : SF := ⟨[.t 4], c253_4, false, none, none⟩
/-! crannog/vector.With -/
abbrev r254_1 : List SOper := [
  ⟨some 2, none, .boxL (.t 0)⟩,
  ⟨some 3, none, .boxL (.t 1)⟩,
  ⟨some 4, none, .allocL [.int .i64 0, .int .i64 0, .int .i64 0, .int .i64 0, .int .i64 0, .int .i64 0, .int .i64 0, .int .i64 0]⟩]
abbrev r254_2 : List SOper := [
  ⟨some 5, none, .load false true 2 (.t 3)⟩,
  ⟨some 6, none, .call false (.c (.func 240 [])) [.t 5]⟩]
abbrev r254_3 : List SOper := [
  ⟨some 7, none, .faddr 1 (.t 3)⟩,
  ⟨some 8, none, .load false false 1 (.t 7)⟩,
  ⟨some 9, none, .faddr 1 (.t 3)⟩,
  ⟨some 10, none, .load false false 1 (.t 9)⟩,
  ⟨some 11, none, .iaddr (some 8) 1 (.t 2) (.t 10)⟩,
  ⟨some 12, none, .load false false 1 (.t 11)⟩,
  ⟨some 13, none, .faddr 0 (.t 3)⟩,
  ⟨some 14, none, .load false false 1 (.t 13)⟩,
  ⟨some 15, none, .minmax true [.t 12, .t 14]⟩,
  ⟨some 16, none, .iaddr (some 8) 1 (.t 2) (.t 8)⟩,
  ⟨none, none, .store 1 (.t 16) (.t 15)⟩]
abbrev c254_4 : SC := .cond (.t 6) (.draw 0 [[], [0], [], [2], [3], [4], [], [6], [5, 7], [1, 8], [9]] r254_3) (.skip)
abbrev c254_5 : SC := .seq (.ops r254_2) c254_4
abbrev r254_6 : List SOper := [
  ⟨some 17, none, .load false true 8 (.t 2)⟩,
  ⟨none, none, .store 8 (.t 4) (.t 17)⟩]
abbrev c254_7 : SC := .seq (.ops r254_6) (.ret)
abbrev c254_8 : SC := .seq c254_5 c254_7
abbrev c254_9 : SC := .seq (.ops r254_1) c254_8
def s254 : SF := ⟨[.c 4 true 8], c254_9, false, none, none⟩
/-! slices.IndexFunc[[]crannog/api.Link,crannog/api.Link] -/
abbrev r258_1 : List SOper := [
  ⟨some 4, none, .mov (.c (.int .i64 0))⟩]
abbrev r258_2 : List SOper := [
  ⟨some 6, none, .mov (.t 0)⟩,
  ⟨some 7, none, .len 1 (.t 6)⟩,
  ⟨some 8, none, .mov (.c (.int .i64 0))⟩]
abbrev r258_3 : List SOper := [
  ⟨some 9, none, .bin .lss (.t 8) (.t 7)⟩]
abbrev c258_4 : SC := .cond (.t 9) (.skip) (.exit 0)
abbrev r258_5 : List SOper := [
  ⟨some 10, none, .mov (.t 8)⟩,
  ⟨some 5, none, .mov (.t 10)⟩]
abbrev r258_6 : List SOper := [
  ⟨some 11, none, .mov (.t 1)⟩,
  ⟨some 12, none, .mov (.t 0)⟩,
  ⟨some 13, none, .mov (.t 5)⟩,
  ⟨some 14, none, .iaddr none 25 (.t 12) (.t 13)⟩,
  ⟨some 15, none, .load false true 25 (.t 14)⟩,
  ⟨some 16, none, .call false (.t 11) [.t 15]⟩]
abbrev r258_7 : List SOper := [
  ⟨some 17, none, .mov (.t 5)⟩,
  ⟨some 4, none, .mov (.t 17)⟩]
abbrev c258_8 : SC := .seq (.ops r258_7) (.ret)
abbrev c258_9 : SC := .cond (.t 16) c258_8 (.skip)
abbrev c258_10 : SC := .seq (.ops r258_6) c258_9
abbrev c258_11 : SC := .seq (.ops r258_5) c258_10
abbrev c258_12 : SC := .block 1 [0, 1, 7, 8] [] c258_11
abbrev r258_13 : List SOper := [
  ⟨some 18, none, .bin .add (.t 8) (.c (.int .i64 1))⟩,
  ⟨some 8, none, .mov (.t 18)⟩]
abbrev c258_14 : SC := .seq c258_12 (.ops r258_13)
abbrev c258_15 : SC := .seq c258_4 c258_14
abbrev c258_16 : SC := .seq (.ops r258_3) c258_15
abbrev L258_1 : SC := .loop [0, 1, 7, 8] [] c258_16
abbrev c258_17 : SC := .block 0 [] [] L258_1
abbrev c258_18 : SC := .seq (.ops r258_2) c258_17
abbrev r258_19 : List SOper := [
  ⟨some 4, none, .mov (.c (.int .i64 (-1)))⟩]
abbrev c258_20 : SC := .seq (.ops r258_19) (.ret)
abbrev c258_21 : SC := .seq c258_18 c258_20
abbrev c258_22 : SC := .seq (.ops r258_1) c258_21
def s258 : SF := ⟨[.t 4], c258_22, false, none, none⟩
/-! (*crannog/calls.desk).write$1 -/
abbrev r259_1 : List SOper := [
  ⟨some 2, none, .boxL (.t 0)⟩,
  ⟨some 3, none, .mov (.c (.bool false))⟩]
abbrev r259_2 : List SOper := [
  ⟨some 4, none, .faddr 0 (.t 2)⟩,
  ⟨some 5, none, .load false true 2 (.t 4)⟩,
  ⟨some 6, none, .faddr 0 (.t 1)⟩,
  ⟨some 7, none, .load false true 2 (.t 6)⟩,
  ⟨some 8, none, .cmpA false [.int .i64, .int .i64] (.t 5) (.t 7)⟩,
  ⟨some 3, none, .mov (.t 8)⟩]
abbrev c259_3 : SC := .seq (.ops r259_2) (.ret)
abbrev c259_4 : SC := .seq (.ops r259_1) c259_3
def s259 : SF := ⟨[.t 3], c259_4, false, none, none⟩
/-! slices.SortFunc[[]crannog/api.Link,crannog/api.Link] -/
abbrev r260_1 : List SOper := [
  ⟨some 5, none, .mov (.t 0)⟩,
  ⟨some 6, none, .len 1 (.t 5)⟩,
  ⟨some 4, none, .mov (.t 6)⟩]
abbrev r260_2 : List SOper := [
  ⟨some 7, none, .mov (.t 0)⟩,
  ⟨some 8, none, .mov (.t 4)⟩,
  ⟨some 9, none, .mov (.t 4)⟩,
  ⟨some 10, none, .cvI .u64 (.t 9)⟩,
  ⟨some 11, none, .call false (.c (.func 189 [])) [.t 10]⟩,
  ⟨some 12, none, .mov (.t 1)⟩,
  ⟨some 13, none, .call false (.c (.func 284 [])) [.t 7, .c (.int .i64 0), .t 8, .t 11, .t 12]⟩]
abbrev c260_3 : SC := .seq (.ops r260_1) (.ops r260_2)
def s260 : SF := ⟨[], c260_3, false, none, none⟩
/-! (*crannog/calls.desk).write$2 -/
abbrev r261_1 : List SOper := [
  ⟨some 2, none, .boxL (.t 0)⟩,
  ⟨some 3, none, .boxL (.t 1)⟩,
  ⟨some 4, none, .mov (.c (.int .i64 0))⟩]
abbrev r261_2 : List SOper := [
  ⟨some 5, none, .faddr 0 (.t 2)⟩,
  ⟨some 6, none, .load false true 2 (.t 5)⟩,
  ⟨some 7, none, .faddr 0 (.t 3)⟩,
  ⟨some 8, none, .load false true 2 (.t 7)⟩,
  ⟨some 9, none, .call false (.c (.func 131 [])) [.t 6, .t 8]⟩]
abbrev r261_3 : List SOper := [
  ⟨some 4, none, .mov (.c (.int .i64 (-1)))⟩]
abbrev c261_4 : SC := .seq (.ops r261_3) (.ret)
abbrev c261_5 : SC := .cond (.t 9) c261_4 (.skip)
abbrev c261_6 : SC := .seq (.ops r261_2) c261_5
abbrev r261_7 : List SOper := [
  ⟨some 4, none, .mov (.c (.int .i64 1))⟩]
abbrev c261_8 : SC := .seq (.ops r261_7) (.ret)
abbrev c261_9 : SC := .seq c261_6 c261_8
abbrev c261_10 : SC := .seq (.ops r261_1) c261_9
def s261 : SF := ⟨[.t 4], c261_10, false, none, none⟩
/-! slices.insertionSortCmpFunc[crannog/api.Inode] -/
abbrev r264_1 : List SOper := [
  ⟨some 10, none, .mov (.t 1)⟩,
  ⟨some 11, none, .bin .add (.t 10) (.c (.int .i64 1))⟩,
  ⟨some 8, none, .mov (.t 11)⟩]
abbrev r264_2 : List SOper := [
  ⟨some 12, none, .mov (.t 8)⟩,
  ⟨some 13, none, .mov (.t 2)⟩,
  ⟨some 14, none, .bin .lss (.t 12) (.t 13)⟩]
abbrev c264_3 : SC := .cond (.t 14) (.skip) (.exit 0)
abbrev c264_4 : SC := .seq (.ops r264_2) c264_3
abbrev r264_5 : List SOper := [
  ⟨some 17, none, .mov (.t 8)⟩,
  ⟨some 9, none, .mov (.t 17)⟩]
abbrev r264_6 : List SOper := [
  ⟨some 18, none, .mov (.t 9)⟩,
  ⟨some 19, none, .mov (.t 1)⟩,
  ⟨some 20, none, .bin .gtr (.t 18) (.t 19)⟩,
  ⟨some 21, none, .mov (.t 20)⟩,
  ⟨some 22, some (21, true), .mov (.t 3)⟩,
  ⟨some 23, some (21, true), .mov (.t 0)⟩,
  ⟨some 24, some (21, true), .mov (.t 9)⟩,
  ⟨some 25, some (21, true), .iaddr none 13 (.t 23) (.t 24)⟩,
  ⟨some 26, some (21, true), .load false true 13 (.t 25)⟩,
  ⟨some 27, some (21, true), .mov (.t 0)⟩,
  ⟨some 28, some (21, true), .mov (.t 9)⟩,
  ⟨some 29, some (21, true), .bin .sub (.t 28) (.c (.int .i64 1))⟩,
  ⟨some 30, some (21, true), .iaddr none 13 (.t 27) (.t 29)⟩,
  ⟨some 31, some (21, true), .load false true 13 (.t 30)⟩,
  ⟨some 32, some (21, true), .call false (.t 22) [.t 26, .t 31]⟩,
  ⟨some 33, some (21, true), .bin .lss (.t 32) (.c (.int .i64 0))⟩,
  ⟨some 34, none, .pick (.t 21) (.t 33) (.c (.bool false))⟩]
abbrev c264_7 : SC := .cond (.t 34) (.skip) (.exit 2)
abbrev c264_8 : SC := .seq (.draw 0 [[], [], [0, 1], [2], [3], [3], [3], [5, 6], [7], [3], [3], [10], [9, 11], [12], [4, 8, 13], [14], [15]] r264_6) c264_7
abbrev r264_9 : List SOper := [
  ⟨some 37, none, .mov (.t 0)⟩,
  ⟨some 38, none, .mov (.t 9)⟩,
  ⟨some 39, none, .mov (.t 0)⟩,
  ⟨some 40, none, .mov (.t 9)⟩,
  ⟨some 41, none, .bin .sub (.t 40) (.c (.int .i64 1))⟩,
  ⟨some 42, none, .mov (.t 0)⟩,
  ⟨some 43, none, .mov (.t 9)⟩,
  ⟨some 44, none, .bin .sub (.t 43) (.c (.int .i64 1))⟩,
  ⟨some 45, none, .iaddr none 13 (.t 42) (.t 44)⟩,
  ⟨some 46, none, .load false true 13 (.t 45)⟩,
  ⟨some 47, none, .mov (.t 0)⟩,
  ⟨some 48, none, .mov (.t 9)⟩,
  ⟨some 49, none, .iaddr none 13 (.t 47) (.t 48)⟩,
  ⟨some 50, none, .load false true 13 (.t 49)⟩,
  ⟨some 51, none, .iaddr none 13 (.t 37) (.t 38)⟩,
  ⟨none, none, .store 13 (.t 51) (.t 46)⟩,
  ⟨some 52, none, .iaddr none 13 (.t 39) (.t 41)⟩,
  ⟨none, none, .store 13 (.t 52) (.t 50)⟩]
abbrev c264_10 : SC := .block 3 [0, 1, 2, 3, 8, 9] [] (.draw 0 [[], [], [], [], [3], [], [], [6], [5, 7], [8], [], [], [10, 11], [12], [0, 1, 9, 13], [14], [2, 4, 15], [16]] r264_9)
abbrev r264_11 : List SOper := [
  ⟨some 35, none, .mov (.t 9)⟩,
  ⟨some 36, none, .bin .sub (.t 35) (.c (.int .i64 1))⟩,
  ⟨some 9, none, .mov (.t 36)⟩]
abbrev c264_12 : SC := .seq c264_10 (.ops r264_11)
abbrev c264_13 : SC := .seq c264_8 c264_12
abbrev L264_1 : SC := .loop [0, 1, 2, 3, 8, 9] [] c264_13
abbrev c264_14 : SC := .block 2 [0, 1, 2, 3, 8] [] L264_1
abbrev c264_15 : SC := .seq (.ops r264_5) c264_14
abbrev c264_16 : SC := .block 1 [0, 1, 2, 3, 8] [] c264_15
abbrev r264_17 : List SOper := [
  ⟨some 15, none, .mov (.t 8)⟩,
  ⟨some 16, none, .bin .add (.t 15) (.c (.int .i64 1))⟩,
  ⟨some 8, none, .mov (.t 16)⟩]
abbrev c264_18 : SC := .seq c264_16 (.ops r264_17)
abbrev c264_19 : SC := .seq c264_4 c264_18
abbrev L264_2 : SC := .loop [0, 1, 2, 3, 8] [] c264_19
abbrev c264_20 : SC := .block 0 [] [] L264_2
abbrev c264_21 : SC := .seq (.ops r264_1) c264_20
def s264 : SF := ⟨[], c264_21, false, none, none⟩
/-! slices.insertionSortCmpFunc[crannog/api.Link] -/
abbrev r267_1 : List SOper := [
  ⟨some 10, none, .mov (.t 1)⟩,
  ⟨some 11, none, .bin .add (.t 10) (.c (.int .i64 1))⟩,
  ⟨some 8, none, .mov (.t 11)⟩]
abbrev r267_2 : List SOper := [
  ⟨some 12, none, .mov (.t 8)⟩,
  ⟨some 13, none, .mov (.t 2)⟩,
  ⟨some 14, none, .bin .lss (.t 12) (.t 13)⟩]
abbrev c267_3 : SC := .cond (.t 14) (.skip) (.exit 0)
abbrev c267_4 : SC := .seq (.ops r267_2) c267_3
abbrev r267_5 : List SOper := [
  ⟨some 17, none, .mov (.t 8)⟩,
  ⟨some 9, none, .mov (.t 17)⟩]
abbrev r267_6 : List SOper := [
  ⟨some 18, none, .mov (.t 9)⟩,
  ⟨some 19, none, .mov (.t 1)⟩,
  ⟨some 20, none, .bin .gtr (.t 18) (.t 19)⟩,
  ⟨some 21, none, .mov (.t 20)⟩,
  ⟨some 22, some (21, true), .mov (.t 3)⟩,
  ⟨some 23, some (21, true), .mov (.t 0)⟩,
  ⟨some 24, some (21, true), .mov (.t 9)⟩,
  ⟨some 25, some (21, true), .iaddr none 25 (.t 23) (.t 24)⟩,
  ⟨some 26, some (21, true), .load false true 25 (.t 25)⟩,
  ⟨some 27, some (21, true), .mov (.t 0)⟩,
  ⟨some 28, some (21, true), .mov (.t 9)⟩,
  ⟨some 29, some (21, true), .bin .sub (.t 28) (.c (.int .i64 1))⟩,
  ⟨some 30, some (21, true), .iaddr none 25 (.t 27) (.t 29)⟩,
  ⟨some 31, some (21, true), .load false true 25 (.t 30)⟩,
  ⟨some 32, some (21, true), .call false (.t 22) [.t 26, .t 31]⟩,
  ⟨some 33, some (21, true), .bin .lss (.t 32) (.c (.int .i64 0))⟩,
  ⟨some 34, none, .pick (.t 21) (.t 33) (.c (.bool false))⟩]
abbrev c267_7 : SC := .cond (.t 34) (.skip) (.exit 2)
abbrev c267_8 : SC := .seq (.draw 0 [[], [], [0, 1], [2], [3], [3], [3], [5, 6], [7], [3], [3], [10], [9, 11], [12], [4, 8, 13], [14], [15]] r267_6) c267_7
abbrev r267_9 : List SOper := [
  ⟨some 37, none, .mov (.t 0)⟩,
  ⟨some 38, none, .mov (.t 9)⟩,
  ⟨some 39, none, .mov (.t 0)⟩,
  ⟨some 40, none, .mov (.t 9)⟩,
  ⟨some 41, none, .bin .sub (.t 40) (.c (.int .i64 1))⟩,
  ⟨some 42, none, .mov (.t 0)⟩,
  ⟨some 43, none, .mov (.t 9)⟩,
  ⟨some 44, none, .bin .sub (.t 43) (.c (.int .i64 1))⟩,
  ⟨some 45, none, .iaddr none 25 (.t 42) (.t 44)⟩,
  ⟨some 46, none, .load false true 25 (.t 45)⟩,
  ⟨some 47, none, .mov (.t 0)⟩,
  ⟨some 48, none, .mov (.t 9)⟩,
  ⟨some 49, none, .iaddr none 25 (.t 47) (.t 48)⟩,
  ⟨some 50, none, .load false true 25 (.t 49)⟩,
  ⟨some 51, none, .iaddr none 25 (.t 37) (.t 38)⟩,
  ⟨none, none, .store 25 (.t 51) (.t 46)⟩,
  ⟨some 52, none, .iaddr none 25 (.t 39) (.t 41)⟩,
  ⟨none, none, .store 25 (.t 52) (.t 50)⟩]
abbrev c267_10 : SC := .block 3 [0, 1, 2, 3, 8, 9] [] (.draw 0 [[], [], [], [], [3], [], [], [6], [5, 7], [8], [], [], [10, 11], [12], [0, 1, 9, 13], [14], [2, 4, 15], [16]] r267_9)
abbrev r267_11 : List SOper := [
  ⟨some 35, none, .mov (.t 9)⟩,
  ⟨some 36, none, .bin .sub (.t 35) (.c (.int .i64 1))⟩,
  ⟨some 9, none, .mov (.t 36)⟩]
abbrev c267_12 : SC := .seq c267_10 (.ops r267_11)
abbrev c267_13 : SC := .seq c267_8 c267_12
abbrev L267_1 : SC := .loop [0, 1, 2, 3, 8, 9] [] c267_13
abbrev c267_14 : SC := .block 2 [0, 1, 2, 3, 8] [] L267_1
abbrev c267_15 : SC := .seq (.ops r267_5) c267_14
abbrev c267_16 : SC := .block 1 [0, 1, 2, 3, 8] [] c267_15
abbrev r267_17 : List SOper := [
  ⟨some 15, none, .mov (.t 8)⟩,
  ⟨some 16, none, .bin .add (.t 15) (.c (.int .i64 1))⟩,
  ⟨some 8, none, .mov (.t 16)⟩]
abbrev c267_18 : SC := .seq c267_16 (.ops r267_17)
abbrev c267_19 : SC := .seq c267_4 c267_18
abbrev L267_2 : SC := .loop [0, 1, 2, 3, 8] [] c267_19
abbrev c267_20 : SC := .block 0 [] [] L267_2
abbrev c267_21 : SC := .seq (.ops r267_1) c267_20
def s267 : SF := ⟨[], c267_21, false, none, none⟩
/-! slices.stableCmpFunc[crannog/api.Piece] -/
abbrev r269_1 : List SOper := [
  ⟨some 6, none, .mov (.c (.int .i64 20))⟩]
abbrev r269_2 : List SOper := [
  ⟨some 10, none, .mov (.t 6)⟩,
  ⟨some 7, none, .mov (.c (.int .i64 0))⟩,
  ⟨some 8, none, .mov (.t 10)⟩]
abbrev r269_3 : List SOper := [
  ⟨some 11, none, .mov (.t 8)⟩,
  ⟨some 12, none, .mov (.t 1)⟩,
  ⟨some 13, none, .bin .leq (.t 11) (.t 12)⟩]
abbrev c269_4 : SC := .cond (.t 13) (.skip) (.exit 0)
abbrev c269_5 : SC := .seq (.ops r269_3) c269_4
abbrev r269_6 : List SOper := [
  ⟨some 14, none, .mov (.t 0)⟩,
  ⟨some 15, none, .mov (.t 7)⟩,
  ⟨some 16, none, .mov (.t 8)⟩,
  ⟨some 17, none, .mov (.t 2)⟩,
  ⟨some 18, none, .call false (.c (.func 288 [])) [.t 14, .t 15, .t 16, .t 17]⟩]
abbrev r269_7 : List SOper := [
  ⟨some 19, none, .mov (.t 8)⟩,
  ⟨some 7, none, .mov (.t 19)⟩]
abbrev r269_8 : List SOper := [
  ⟨some 20, none, .mov (.t 8)⟩,
  ⟨some 21, none, .mov (.t 6)⟩,
  ⟨some 22, none, .bin .add (.t 20) (.t 21)⟩,
  ⟨some 8, none, .mov (.t 22)⟩]
abbrev c269_9 : SC := .seq (.ops r269_7) (.ops r269_8)
abbrev c269_10 : SC := .seq (.ops r269_6) c269_9
abbrev c269_11 : SC := .block 1 [0, 1, 2, 6, 7, 8] [] c269_10
abbrev c269_12 : SC := .seq c269_5 c269_11
abbrev L269_1 : SC := .loop [0, 1, 2, 6, 7, 8] [] c269_12
abbrev c269_13 : SC := .block 0 [0, 1, 2, 6, 7] [] L269_1
abbrev r269_14 : List SOper := [
  ⟨some 23, none, .mov (.t 0)⟩,
  ⟨some 24, none, .mov (.t 7)⟩,
  ⟨some 25, none, .mov (.t 1)⟩,
  ⟨some 26, none, .mov (.t 2)⟩,
  ⟨some 27, none, .call false (.c (.func 288 [])) [.t 23, .t 24, .t 25, .t 26]⟩]
abbrev r269_15 : List SOper := [
  ⟨some 28, none, .mov (.t 6)⟩,
  ⟨some 29, none, .mov (.t 1)⟩,
  ⟨some 30, none, .bin .lss (.t 28) (.t 29)⟩]
abbrev c269_16 : SC := .cond (.t 30) (.skip) (.exit 2)
abbrev c269_17 : SC := .seq (.ops r269_15) c269_16
abbrev r269_18 : List SOper := [
  ⟨some 31, none, .mov (.t 6)⟩,
  ⟨some 32, none, .bin .mul (.c (.int .i64 2)) (.t 31)⟩,
  ⟨some 7, none, .mov (.c (.int .i64 0))⟩,
  ⟨some 8, none, .mov (.t 32)⟩]
abbrev r269_19 : List SOper := [
  ⟨some 33, none, .mov (.t 8)⟩,
  ⟨some 34, none, .mov (.t 1)⟩,
  ⟨some 35, none, .bin .leq (.t 33) (.t 34)⟩]
abbrev c269_20 : SC := .cond (.t 35) (.skip) (.exit 4)
abbrev c269_21 : SC := .seq (.ops r269_19) c269_20
abbrev r269_22 : List SOper := [
  ⟨some 36, none, .mov (.t 0)⟩,
  ⟨some 37, none, .mov (.t 7)⟩,
  ⟨some 38, none, .mov (.t 7)⟩,
  ⟨some 39, none, .mov (.t 6)⟩,
  ⟨some 40, none, .bin .add (.t 38) (.t 39)⟩,
  ⟨some 41, none, .mov (.t 8)⟩,
  ⟨some 42, none, .mov (.t 2)⟩,
  ⟨some 43, none, .call false (.c (.func 289 [])) [.t 36, .t 37, .t 40, .t 41, .t 42]⟩]
abbrev r269_23 : List SOper := [
  ⟨some 44, none, .mov (.t 8)⟩,
  ⟨some 7, none, .mov (.t 44)⟩]
abbrev r269_24 : List SOper := [
  ⟨some 45, none, .mov (.t 8)⟩,
  ⟨some 46, none, .mov (.t 6)⟩,
  ⟨some 47, none, .bin .mul (.c (.int .i64 2)) (.t 46)⟩,
  ⟨some 48, none, .bin .add (.t 45) (.t 47)⟩,
  ⟨some 8, none, .mov (.t 48)⟩]
abbrev c269_25 : SC := .seq (.ops r269_23) (.ops r269_24)
abbrev c269_26 : SC := .seq (.ops r269_22) c269_25
abbrev c269_27 : SC := .block 5 [0, 1, 2, 6, 7, 8] [] c269_26
abbrev c269_28 : SC := .seq c269_21 c269_27
abbrev L269_2 : SC := .loop [0, 1, 2, 6, 7, 8] [] c269_28
abbrev c269_29 : SC := .block 4 [0, 1, 2, 6, 7] [] L269_2
abbrev r269_30 : List SOper := [
  ⟨some 49, none, .mov (.t 7)⟩,
  ⟨some 50, none, .mov (.t 6)⟩,
  ⟨some 51, none, .bin .add (.t 49) (.t 50)⟩,
  ⟨some 9, none, .mov (.t 51)⟩]
abbrev r269_31 : List SOper := [
  ⟨some 52, none, .mov (.t 9)⟩,
  ⟨some 53, none, .mov (.t 1)⟩,
  ⟨some 54, none, .bin .lss (.t 52) (.t 53)⟩]
abbrev r269_32 : List SOper := [
  ⟨some 55, none, .mov (.t 0)⟩,
  ⟨some 56, none, .mov (.t 7)⟩,
  ⟨some 57, none, .mov (.t 9)⟩,
  ⟨some 58, none, .mov (.t 1)⟩,
  ⟨some 59, none, .mov (.t 2)⟩,
  ⟨some 60, none, .call false (.c (.func 289 [])) [.t 55, .t 56, .t 57, .t 58, .t 59]⟩]
abbrev c269_33 : SC := .cond (.t 54) (.ops r269_32) (.skip)
abbrev c269_34 : SC := .seq (.ops r269_31) c269_33
abbrev c269_35 : SC := .seq (.ops r269_30) c269_34
abbrev r269_36 : List SOper := [
  ⟨some 61, none, .mov (.t 6)⟩,
  ⟨some 62, none, .bin .mul (.t 61) (.c (.int .i64 2))⟩,
  ⟨some 6, none, .mov (.t 62)⟩]
abbrev c269_37 : SC := .seq c269_35 (.ops r269_36)
abbrev c269_38 : SC := .seq c269_29 c269_37
abbrev c269_39 : SC := .seq (.ops r269_18) c269_38
abbrev c269_40 : SC := .block 3 [0, 1, 2, 6] [] c269_39
abbrev c269_41 : SC := .seq c269_17 c269_40
abbrev L269_3 : SC := .loop [0, 1, 2, 6] [] c269_41
abbrev c269_42 : SC := .block 2 [] [] L269_3
abbrev c269_43 : SC := .seq (.ops r269_14) c269_42
abbrev c269_44 : SC := .seq c269_13 c269_43
abbrev c269_45 : SC := .seq (.ops r269_2) c269_44
abbrev c269_46 : SC := .seq (.ops r269_1) c269_45
def s269 : SF := ⟨[], c269_46, false, none, none⟩
/-! slices.stableCmpFunc[crannog/api.Xattr] -/
abbrev r270_1 : List SOper := [
  ⟨some 6, none, .mov (.c (.int .i64 20))⟩]
abbrev r270_2 : List SOper := [
  ⟨some 10, none, .mov (.t 6)⟩,
  ⟨some 7, none, .mov (.c (.int .i64 0))⟩,
  ⟨some 8, none, .mov (.t 10)⟩]
abbrev r270_3 : List SOper := [
  ⟨some 11, none, .mov (.t 8)⟩,
  ⟨some 12, none, .mov (.t 1)⟩,
  ⟨some 13, none, .bin .leq (.t 11) (.t 12)⟩]
abbrev c270_4 : SC := .cond (.t 13) (.skip) (.exit 0)
abbrev c270_5 : SC := .seq (.ops r270_3) c270_4
abbrev r270_6 : List SOper := [
  ⟨some 14, none, .mov (.t 0)⟩,
  ⟨some 15, none, .mov (.t 7)⟩,
  ⟨some 16, none, .mov (.t 8)⟩,
  ⟨some 17, none, .mov (.t 2)⟩,
  ⟨some 18, none, .call false (.c (.func 290 [])) [.t 14, .t 15, .t 16, .t 17]⟩]
abbrev r270_7 : List SOper := [
  ⟨some 19, none, .mov (.t 8)⟩,
  ⟨some 7, none, .mov (.t 19)⟩]
abbrev r270_8 : List SOper := [
  ⟨some 20, none, .mov (.t 8)⟩,
  ⟨some 21, none, .mov (.t 6)⟩,
  ⟨some 22, none, .bin .add (.t 20) (.t 21)⟩,
  ⟨some 8, none, .mov (.t 22)⟩]
abbrev c270_9 : SC := .seq (.ops r270_7) (.ops r270_8)
abbrev c270_10 : SC := .seq (.ops r270_6) c270_9
abbrev c270_11 : SC := .block 1 [0, 1, 2, 6, 7, 8] [] c270_10
abbrev c270_12 : SC := .seq c270_5 c270_11
abbrev L270_1 : SC := .loop [0, 1, 2, 6, 7, 8] [] c270_12
abbrev c270_13 : SC := .block 0 [0, 1, 2, 6, 7] [] L270_1
abbrev r270_14 : List SOper := [
  ⟨some 23, none, .mov (.t 0)⟩,
  ⟨some 24, none, .mov (.t 7)⟩,
  ⟨some 25, none, .mov (.t 1)⟩,
  ⟨some 26, none, .mov (.t 2)⟩,
  ⟨some 27, none, .call false (.c (.func 290 [])) [.t 23, .t 24, .t 25, .t 26]⟩]
abbrev r270_15 : List SOper := [
  ⟨some 28, none, .mov (.t 6)⟩,
  ⟨some 29, none, .mov (.t 1)⟩,
  ⟨some 30, none, .bin .lss (.t 28) (.t 29)⟩]
abbrev c270_16 : SC := .cond (.t 30) (.skip) (.exit 2)
abbrev c270_17 : SC := .seq (.ops r270_15) c270_16
abbrev r270_18 : List SOper := [
  ⟨some 31, none, .mov (.t 6)⟩,
  ⟨some 32, none, .bin .mul (.c (.int .i64 2)) (.t 31)⟩,
  ⟨some 7, none, .mov (.c (.int .i64 0))⟩,
  ⟨some 8, none, .mov (.t 32)⟩]
abbrev r270_19 : List SOper := [
  ⟨some 33, none, .mov (.t 8)⟩,
  ⟨some 34, none, .mov (.t 1)⟩,
  ⟨some 35, none, .bin .leq (.t 33) (.t 34)⟩]
abbrev c270_20 : SC := .cond (.t 35) (.skip) (.exit 4)
abbrev c270_21 : SC := .seq (.ops r270_19) c270_20
abbrev r270_22 : List SOper := [
  ⟨some 36, none, .mov (.t 0)⟩,
  ⟨some 37, none, .mov (.t 7)⟩,
  ⟨some 38, none, .mov (.t 7)⟩,
  ⟨some 39, none, .mov (.t 6)⟩,
  ⟨some 40, none, .bin .add (.t 38) (.t 39)⟩,
  ⟨some 41, none, .mov (.t 8)⟩,
  ⟨some 42, none, .mov (.t 2)⟩,
  ⟨some 43, none, .call false (.c (.func 291 [])) [.t 36, .t 37, .t 40, .t 41, .t 42]⟩]
abbrev r270_23 : List SOper := [
  ⟨some 44, none, .mov (.t 8)⟩,
  ⟨some 7, none, .mov (.t 44)⟩]
abbrev r270_24 : List SOper := [
  ⟨some 45, none, .mov (.t 8)⟩,
  ⟨some 46, none, .mov (.t 6)⟩,
  ⟨some 47, none, .bin .mul (.c (.int .i64 2)) (.t 46)⟩,
  ⟨some 48, none, .bin .add (.t 45) (.t 47)⟩,
  ⟨some 8, none, .mov (.t 48)⟩]
abbrev c270_25 : SC := .seq (.ops r270_23) (.ops r270_24)
abbrev c270_26 : SC := .seq (.ops r270_22) c270_25
abbrev c270_27 : SC := .block 5 [0, 1, 2, 6, 7, 8] [] c270_26
abbrev c270_28 : SC := .seq c270_21 c270_27
abbrev L270_2 : SC := .loop [0, 1, 2, 6, 7, 8] [] c270_28
abbrev c270_29 : SC := .block 4 [0, 1, 2, 6, 7] [] L270_2
abbrev r270_30 : List SOper := [
  ⟨some 49, none, .mov (.t 7)⟩,
  ⟨some 50, none, .mov (.t 6)⟩,
  ⟨some 51, none, .bin .add (.t 49) (.t 50)⟩,
  ⟨some 9, none, .mov (.t 51)⟩]
abbrev r270_31 : List SOper := [
  ⟨some 52, none, .mov (.t 9)⟩,
  ⟨some 53, none, .mov (.t 1)⟩,
  ⟨some 54, none, .bin .lss (.t 52) (.t 53)⟩]
abbrev r270_32 : List SOper := [
  ⟨some 55, none, .mov (.t 0)⟩,
  ⟨some 56, none, .mov (.t 7)⟩,
  ⟨some 57, none, .mov (.t 9)⟩,
  ⟨some 58, none, .mov (.t 1)⟩,
  ⟨some 59, none, .mov (.t 2)⟩,
  ⟨some 60, none, .call false (.c (.func 291 [])) [.t 55, .t 56, .t 57, .t 58, .t 59]⟩]
abbrev c270_33 : SC := .cond (.t 54) (.ops r270_32) (.skip)
abbrev c270_34 : SC := .seq (.ops r270_31) c270_33
abbrev c270_35 : SC := .seq (.ops r270_30) c270_34
abbrev r270_36 : List SOper := [
  ⟨some 61, none, .mov (.t 6)⟩,
  ⟨some 62, none, .bin .mul (.t 61) (.c (.int .i64 2))⟩,
  ⟨some 6, none, .mov (.t 62)⟩]
abbrev c270_37 : SC := .seq c270_35 (.ops r270_36)
abbrev c270_38 : SC := .seq c270_29 c270_37
abbrev c270_39 : SC := .seq (.ops r270_18) c270_38
abbrev c270_40 : SC := .block 3 [0, 1, 2, 6] [] c270_39
abbrev c270_41 : SC := .seq c270_17 c270_40
abbrev L270_3 : SC := .loop [0, 1, 2, 6] [] c270_41
abbrev c270_42 : SC := .block 2 [] [] L270_3
abbrev c270_43 : SC := .seq (.ops r270_14) c270_42
abbrev c270_44 : SC := .seq c270_13 c270_43
abbrev c270_45 : SC := .seq (.ops r270_2) c270_44
abbrev c270_46 : SC := .seq (.ops r270_1) c270_45
def s270 : SF := ⟨[], c270_46, false, none, none⟩
/-! strings.Count -/
abbrev r272_1 : List SOper := [
  ⟨some 4, none, .mov (.c (.int .i64 0))⟩]
abbrev r272_2 : List SOper := [
  ⟨some 7, none, .mov (.t 1)⟩,
  ⟨some 8, none, .len 0 (.t 7)⟩,
  ⟨some 9, none, .bin .eql (.t 8) (.c (.int .i64 0))⟩]
abbrev r272_3 : List SOper := [
  ⟨some 10, none, .mov (.t 0)⟩,
  ⟨some 11, none, .call false (.c (.func 292 [])) [.t 10]⟩,
  ⟨some 12, none, .bin .add (.t 11) (.c (.int .i64 1))⟩,
  ⟨some 4, none, .mov (.t 12)⟩]
abbrev c272_4 : SC := .seq (.ops r272_3) (.ret)
abbrev c272_5 : SC := .cond (.t 9) c272_4 (.skip)
abbrev c272_6 : SC := .seq (.ops r272_2) c272_5
abbrev r272_7 : List SOper := [
  ⟨some 13, none, .mov (.t 1)⟩,
  ⟨some 14, none, .len 0 (.t 13)⟩,
  ⟨some 15, none, .bin .eql (.t 14) (.c (.int .i64 1))⟩]
abbrev r272_8 : List SOper := [
  ⟨some 16, none, .mov (.t 0)⟩,
  ⟨some 17, none, .mov (.t 1)⟩,
  ⟨some 18, none, .index none (.t 17) (.c (.int .i64 0))⟩,
  ⟨some 19, none, .call false (.c (.func 294 [])) [.t 16, .t 18]⟩,
  ⟨some 4, none, .mov (.t 19)⟩]
abbrev c272_9 : SC := .seq (.ops r272_8) (.ret)
abbrev c272_10 : SC := .cond (.t 15) c272_9 (.skip)
abbrev c272_11 : SC := .seq (.ops r272_7) c272_10
abbrev r272_12 : List SOper := [
  ⟨some 5, none, .mov (.c (.int .i64 0))⟩]
abbrev r272_13 : List SOper := [
  ⟨some 20, none, .mov (.t 0)⟩,
  ⟨some 21, none, .mov (.t 1)⟩,
  ⟨some 22, none, .call false (.c (.func 273 [])) [.t 20, .t 21]⟩,
  ⟨some 6, none, .mov (.t 22)⟩]
abbrev r272_14 : List SOper := [
  ⟨some 23, none, .mov (.t 6)⟩,
  ⟨some 24, none, .bin .eql (.t 23) (.c (.int .i64 (-1)))⟩]
abbrev r272_15 : List SOper := [
  ⟨some 25, none, .mov (.t 5)⟩,
  ⟨some 4, none, .mov (.t 25)⟩]
abbrev c272_16 : SC := .seq (.ops r272_15) (.ret)
abbrev c272_17 : SC := .cond (.t 24) c272_16 (.skip)
abbrev c272_18 : SC := .seq (.ops r272_14) c272_17
abbrev r272_19 : List SOper := [
  ⟨some 26, none, .mov (.t 5)⟩,
  ⟨some 27, none, .bin .add (.t 26) (.c (.int .i64 1))⟩,
  ⟨some 5, none, .mov (.t 27)⟩]
abbrev r272_20 : List SOper := [
  ⟨some 28, none, .mov (.t 0)⟩,
  ⟨some 29, none, .mov (.t 6)⟩,
  ⟨some 30, none, .mov (.t 1)⟩,
  ⟨some 31, none, .len 0 (.t 30)⟩,
  ⟨some 32, none, .bin .add (.t 29) (.t 31)⟩,
  ⟨some 33, none, .slice true 1 (.t 28) (some (.t 32)) none none⟩,
  ⟨some 0, none, .mov (.t 33)⟩]
abbrev c272_21 : SC := .seq (.ops r272_19) (.ops r272_20)
abbrev c272_22 : SC := .seq c272_18 c272_21
abbrev c272_23 : SC := .seq (.ops r272_13) c272_22
abbrev c272_24 : SC := .block 1 [0, 1, 5] [] c272_23
abbrev L272_1 : SC := .loop [0, 1, 5] [] c272_24
abbrev c272_25 : SC := .block 0 [4] [] L272_1
abbrev c272_26 : SC := .seq (.ops r272_12) c272_25
abbrev c272_27 : SC := .seq c272_11 c272_26
abbrev c272_28 : SC := .seq c272_6 c272_27
abbrev c272_29 : SC := .seq (.ops r272_1) c272_28
def s272 : SF := ⟨[.t 4], c272_29, false, none, none⟩
/-! strings.Index -/
abbrev r273_1 : List SOper := [
  ⟨some 4, none, .mov (.c (.int .i64 0))⟩]
abbrev r273_2 : List SOper := [
  ⟨some 5, none, .mov (.t 0)⟩,
  ⟨some 6, none, .mov (.t 1)⟩,
  ⟨some 7, none, .call false (.c (.func 295 [])) [.t 5, .t 6]⟩,
  ⟨some 4, none, .mov (.t 7)⟩]
abbrev c273_3 : SC := .seq (.ops r273_2) (.ret)
abbrev c273_4 : SC := .seq (.ops r273_1) c273_3
def s273 : SF := ⟨[.t 4], c273_4, false, none, none⟩
/-! strings.Join -/
abbrev r283_1 : List SOper := [
  ⟨some 4, none, .mov (.c (.str []))⟩]
abbrev r283_2 : List SOper := [
  ⟨some 11, none, .mov (.t 0)⟩,
  ⟨some 12, none, .len 1 (.t 11)⟩]
abbrev r283_3 : List SOper := [
  ⟨some 14, none, .bin .eql (.t 12) (.c (.int .i64 0))⟩,
  ⟨some 13, none, .mov (.t 14)⟩]
abbrev r283_4 : List SOper := [
  ⟨some 4, none, .mov (.c (.str []))⟩]
abbrev c283_5 : SC := .seq (.ops r283_4) (.ret)
abbrev r283_6 : List SOper := [
  ⟨some 16, none, .bin .eql (.t 12) (.c (.int .i64 1))⟩,
  ⟨some 15, none, .mov (.t 16)⟩]
abbrev r283_7 : List SOper := [
  ⟨some 17, none, .mov (.t 0)⟩,
  ⟨some 18, none, .iaddr none 1 (.t 17) (.c (.int .i64 0))⟩,
  ⟨some 19, none, .load false false 1 (.t 18)⟩,
  ⟨some 4, none, .mov (.t 19)⟩]
abbrev c283_8 : SC := .seq (.ops r283_7) (.ret)
abbrev c283_9 : SC := .cond (.t 15) c283_8 (.skip)
abbrev c283_10 : SC := .seq (.ops r283_6) c283_9
abbrev c283_11 : SC := .cond (.t 13) c283_5 c283_10
abbrev c283_12 : SC := .seq (.ops r283_3) c283_11
abbrev c283_13 : SC := .block 0 [0, 1] [] c283_12
abbrev c283_14 : SC := .seq (.ops r283_2) c283_13
abbrev r283_15 : List SOper := [
  ⟨some 5, none, .mov (.c (.int .i64 0))⟩]
abbrev r283_16 : List SOper := [
  ⟨some 20, none, .mov (.t 1)⟩,
  ⟨some 21, none, .len 0 (.t 20)⟩,
  ⟨some 22, none, .bin .gtr (.t 21) (.c (.int .i64 0))⟩]
abbrev r283_17 : List SOper := [
  ⟨some 23, none, .mov (.t 1)⟩,
  ⟨some 24, none, .len 0 (.t 23)⟩,
  ⟨some 25, none, .mov (.t 0)⟩,
  ⟨some 26, none, .len 1 (.t 25)⟩,
  ⟨some 27, none, .bin .sub (.t 26) (.c (.int .i64 1))⟩,
  ⟨some 28, none, .bin .quo (.c (.int .i64 9223372036854775807)) (.t 27)⟩,
  ⟨some 29, none, .bin .geq (.t 24) (.t 28)⟩]
abbrev r283_18 : List SOper := [
  ⟨some 30, none, .mkif 9 (.c (.str [115, 116, 114, 105, 110, 103, 115, 58, 32, 74, 111, 105, 110, 32, 111, 117, 116, 112, 117, 116, 32, 108, 101, 110, 103, 116, 104, 32, 111, 118, 101, 114, 102, 108, 111, 119]))⟩,
  ⟨none, none, .panic (.t 30)⟩]
abbrev c283_19 : SC := .cond (.t 29) (.ops r283_18) (.skip)
abbrev c283_20 : SC := .seq (.ops r283_17) c283_19
abbrev r283_21 : List SOper := [
  ⟨some 31, none, .mov (.t 5)⟩,
  ⟨some 32, none, .mov (.t 1)⟩,
  ⟨some 33, none, .len 0 (.t 32)⟩,
  ⟨some 34, none, .mov (.t 0)⟩,
  ⟨some 35, none, .len 1 (.t 34)⟩,
  ⟨some 36, none, .bin .sub (.t 35) (.c (.int .i64 1))⟩,
  ⟨some 37, none, .bin .mul (.t 33) (.t 36)⟩,
  ⟨some 38, none, .bin .add (.t 31) (.t 37)⟩,
  ⟨some 5, none, .mov (.t 38)⟩]
abbrev c283_22 : SC := .seq c283_20 (.ops r283_21)
abbrev c283_23 : SC := .cond (.t 22) c283_22 (.skip)
abbrev c283_24 : SC := .seq (.ops r283_16) c283_23
abbrev r283_25 : List SOper := [
  ⟨some 39, none, .mov (.t 0)⟩,
  ⟨some 40, none, .len 1 (.t 39)⟩,
  ⟨some 41, none, .mov (.c (.int .i64 0))⟩]
abbrev r283_26 : List SOper := [
  ⟨some 42, none, .bin .lss (.t 41) (.t 40)⟩]
abbrev c283_27 : SC := .cond (.t 42) (.skip) (.exit 1)
abbrev r283_28 : List SOper := [
  ⟨some 43, none, .iaddr none 1 (.t 39) (.t 41)⟩,
  ⟨some 44, none, .load false false 1 (.t 43)⟩,
  ⟨some 7, none, .mov (.t 44)⟩]
abbrev r283_29 : List SOper := [
  ⟨some 45, none, .mov (.t 7)⟩,
  ⟨some 46, none, .len 0 (.t 45)⟩,
  ⟨some 47, none, .mov (.t 5)⟩,
  ⟨some 48, none, .bin .sub (.c (.int .i64 9223372036854775807)) (.t 47)⟩,
  ⟨some 49, none, .bin .gtr (.t 46) (.t 48)⟩]
abbrev r283_30 : List SOper := [
  ⟨some 50, none, .mkif 9 (.c (.str [115, 116, 114, 105, 110, 103, 115, 58, 32, 74, 111, 105, 110, 32, 111, 117, 116, 112, 117, 116, 32, 108, 101, 110, 103, 116, 104, 32, 111, 118, 101, 114, 102, 108, 111, 119]))⟩,
  ⟨none, none, .panic (.t 50)⟩]
abbrev c283_31 : SC := .cond (.t 49) (.ops r283_30) (.skip)
abbrev c283_32 : SC := .seq (.ops r283_29) c283_31
abbrev r283_33 : List SOper := [
  ⟨some 51, none, .mov (.t 5)⟩,
  ⟨some 52, none, .mov (.t 7)⟩,
  ⟨some 53, none, .len 0 (.t 52)⟩,
  ⟨some 54, none, .bin .add (.t 51) (.t 53)⟩,
  ⟨some 5, none, .mov (.t 54)⟩]
abbrev c283_34 : SC := .seq c283_32 (.ops r283_33)
abbrev c283_35 : SC := .seq (.ops r283_28) c283_34
abbrev c283_36 : SC := .block 2 [0, 1, 5, 39, 40, 41] [] c283_35
abbrev r283_37 : List SOper := [
  ⟨some 55, none, .bin .add (.t 41) (.c (.int .i64 1))⟩,
  ⟨some 41, none, .mov (.t 55)⟩]
abbrev c283_38 : SC := .seq c283_36 (.ops r283_37)
abbrev c283_39 : SC := .seq c283_27 c283_38
abbrev c283_40 : SC := .seq (.ops r283_26) c283_39
abbrev L283_1 : SC := .loop [0, 1, 5, 39, 40, 41] [] c283_40
abbrev c283_41 : SC := .block 1 [0, 1, 5] [] L283_1
abbrev c283_42 : SC := .seq (.ops r283_25) c283_41
abbrev r283_43 : List SOper := [
  ⟨some 8, none, .allocH none [.nilp, .nils]⟩]
abbrev r283_44 : List SOper := [
  ⟨some 56, none, .mov (.t 5)⟩,
  ⟨some 57, none, .call false (.c (.func 298 [])) [.t 8, .t 56]⟩]
abbrev r283_45 : List SOper := [
  ⟨some 58, none, .mov (.t 0)⟩,
  ⟨some 59, none, .iaddr none 1 (.t 58) (.c (.int .i64 0))⟩,
  ⟨some 60, none, .load false false 1 (.t 59)⟩,
  ⟨some 61, none, .call false (.c (.func 299 [])) [.t 8, .t 60]⟩]
abbrev r283_46 : List SOper := [
  ⟨some 62, none, .mov (.t 0)⟩,
  ⟨some 63, none, .slice false 1 (.t 62) (some (.c (.int .i64 1))) none none⟩,
  ⟨some 64, none, .len 1 (.t 63)⟩,
  ⟨some 65, none, .mov (.c (.int .i64 0))⟩]
abbrev r283_47 : List SOper := [
  ⟨some 66, none, .bin .lss (.t 65) (.t 64)⟩]
abbrev c283_48 : SC := .cond (.t 66) (.skip) (.exit 3)
abbrev r283_49 : List SOper := [
  ⟨some 67, none, .iaddr none 1 (.t 63) (.t 65)⟩,
  ⟨some 68, none, .load false false 1 (.t 67)⟩,
  ⟨some 10, none, .mov (.t 68)⟩]
abbrev r283_50 : List SOper := [
  ⟨some 69, none, .mov (.t 1)⟩,
  ⟨some 70, none, .call false (.c (.func 299 [])) [.t 8, .t 69]⟩]
abbrev r283_51 : List SOper := [
  ⟨some 71, none, .mov (.t 10)⟩,
  ⟨some 72, none, .call false (.c (.func 299 [])) [.t 8, .t 71]⟩]
abbrev c283_52 : SC := .seq (.ops r283_50) (.ops r283_51)
abbrev c283_53 : SC := .seq (.ops r283_49) c283_52
abbrev c283_54 : SC := .block 4 [1, 8, 63, 64, 65] [] c283_53
abbrev r283_55 : List SOper := [
  ⟨some 73, none, .bin .add (.t 65) (.c (.int .i64 1))⟩,
  ⟨some 65, none, .mov (.t 73)⟩]
abbrev c283_56 : SC := .seq c283_54 (.ops r283_55)
abbrev c283_57 : SC := .seq c283_48 c283_56
abbrev c283_58 : SC := .seq (.ops r283_47) c283_57
abbrev L283_2 : SC := .loop [1, 8, 63, 64, 65] [] c283_58
abbrev c283_59 : SC := .block 3 [8] [] L283_2
abbrev c283_60 : SC := .seq (.ops r283_46) c283_59
abbrev r283_61 : List SOper := [
  ⟨some 74, none, .call false (.c (.func 300 [])) [.t 8]⟩,
  ⟨some 4, none, .mov (.t 74)⟩]
abbrev c283_62 : SC := .seq (.ops r283_61) (.ret)
abbrev c283_63 : SC := .seq c283_60 c283_62
abbrev c283_64 : SC := .seq (.ops r283_45) c283_63
abbrev c283_65 : SC := .seq (.ops r283_44) c283_64
abbrev c283_66 : SC := .seq (.ops r283_43) c283_65
abbrev c283_67 : SC := .seq c283_42 c283_66
abbrev c283_68 : SC := .seq c283_24 c283_67
abbrev c283_69 : SC := .seq (.ops r283_15) c283_68
abbrev c283_70 : SC := .seq c283_14 c283_69
abbrev c283_71 : SC := .seq (.ops r283_1) c283_70
def s283 : SF := ⟨[.t 4], c283_71, false, none, none⟩
/-! slices.pdqsortCmpFunc[crannog/api.Link] -/
abbrev r284_1 : List SOper := [
  ⟨some 10, none, .mov (.c (.bool true))⟩]
abbrev r284_2 : List SOper := [
  ⟨some 11, none, .mov (.c (.bool true))⟩]
abbrev r284_3 : List SOper := [
  ⟨some 21, none, .mov (.t 2)⟩,
  ⟨some 22, none, .mov (.t 1)⟩,
  ⟨some 23, none, .bin .sub (.t 21) (.t 22)⟩,
  ⟨some 12, none, .mov (.t 23)⟩]
abbrev r284_4 : List SOper := [
  ⟨some 24, none, .mov (.t 12)⟩,
  ⟨some 25, none, .bin .leq (.t 24) (.c (.int .i64 12))⟩]
abbrev r284_5 : List SOper := [
  ⟨some 26, none, .mov (.t 0)⟩,
  ⟨some 27, none, .mov (.t 1)⟩,
  ⟨some 28, none, .mov (.t 2)⟩,
  ⟨some 29, none, .mov (.t 4)⟩,
  ⟨some 30, none, .call false (.c (.func 267 [])) [.t 26, .t 27, .t 28, .t 29]⟩]
abbrev c284_6 : SC := .seq (.ops r284_5) (.ret)
abbrev c284_7 : SC := .cond (.t 25) c284_6 (.skip)
abbrev c284_8 : SC := .seq (.ops r284_4) c284_7
abbrev r284_9 : List SOper := [
  ⟨some 31, none, .mov (.t 3)⟩,
  ⟨some 32, none, .bin .eql (.t 31) (.c (.int .i64 0))⟩]
abbrev r284_10 : List SOper := [
  ⟨some 33, none, .mov (.t 0)⟩,
  ⟨some 34, none, .mov (.t 1)⟩,
  ⟨some 35, none, .mov (.t 2)⟩,
  ⟨some 36, none, .mov (.t 4)⟩,
  ⟨some 37, none, .call false (.c (.func 301 [])) [.t 33, .t 34, .t 35, .t 36]⟩]
abbrev c284_11 : SC := .seq (.ops r284_10) (.ret)
abbrev c284_12 : SC := .cond (.t 32) c284_11 (.skip)
abbrev c284_13 : SC := .seq (.ops r284_9) c284_12
abbrev r284_14 : List SOper := [
  ⟨some 38, none, .mov (.t 10)⟩,
  ⟨some 39, none, .un .not (.t 38)⟩]
abbrev r284_15 : List SOper := [
  ⟨some 40, none, .mov (.t 0)⟩,
  ⟨some 41, none, .mov (.t 1)⟩,
  ⟨some 42, none, .mov (.t 2)⟩,
  ⟨some 43, none, .mov (.t 4)⟩,
  ⟨some 44, none, .call false (.c (.func 302 [])) [.t 40, .t 41, .t 42, .t 43]⟩]
abbrev r284_16 : List SOper := [
  ⟨some 45, none, .mov (.t 3)⟩,
  ⟨some 46, none, .bin .sub (.t 45) (.c (.int .i64 1))⟩,
  ⟨some 3, none, .mov (.t 46)⟩]
abbrev c284_17 : SC := .seq (.ops r284_15) (.ops r284_16)
abbrev c284_18 : SC := .cond (.t 39) c284_17 (.skip)
abbrev c284_19 : SC := .seq (.ops r284_14) c284_18
abbrev r284_20 : List SOper := [
  ⟨some 48, none, .mov (.t 0)⟩,
  ⟨some 49, none, .mov (.t 1)⟩,
  ⟨some 50, none, .mov (.t 2)⟩,
  ⟨some 51, none, .mov (.t 4)⟩,
  ⟨some 52, none, .call false (.c (.func 303 [])) [.t 48, .t 49, .t 50, .t 51]⟩,
  ⟨some 47, none, .mov (.t 52)⟩,
  ⟨some 53, none, .extract (.t 47) 0⟩,
  ⟨some 54, none, .extract (.t 47) 1⟩,
  ⟨some 13, none, .mov (.t 53)⟩,
  ⟨some 14, none, .mov (.t 54)⟩]
abbrev r284_21 : List SOper := [
  ⟨some 55, none, .mov (.t 14)⟩,
  ⟨some 56, none, .bin .eql (.t 55) (.c (.int .i64 2))⟩]
abbrev r284_22 : List SOper := [
  ⟨some 57, none, .mov (.t 0)⟩,
  ⟨some 58, none, .mov (.t 1)⟩,
  ⟨some 59, none, .mov (.t 2)⟩,
  ⟨some 60, none, .mov (.t 4)⟩,
  ⟨some 61, none, .call false (.c (.func 304 [])) [.t 57, .t 58, .t 59, .t 60]⟩]
abbrev r284_23 : List SOper := [
  ⟨some 62, none, .mov (.t 2)⟩,
  ⟨some 63, none, .bin .sub (.t 62) (.c (.int .i64 1))⟩,
  ⟨some 64, none, .mov (.t 13)⟩,
  ⟨some 65, none, .mov (.t 1)⟩,
  ⟨some 66, none, .bin .sub (.t 64) (.t 65)⟩,
  ⟨some 67, none, .bin .sub (.t 63) (.t 66)⟩,
  ⟨some 13, none, .mov (.t 67)⟩]
abbrev r284_24 : List SOper := [
  ⟨some 14, none, .mov (.c (.int .i64 1))⟩]
abbrev c284_25 : SC := .seq (.ops r284_23) (.ops r284_24)
abbrev c284_26 : SC := .seq (.ops r284_22) c284_25
abbrev c284_27 : SC := .cond (.t 56) c284_26 (.skip)
abbrev c284_28 : SC := .seq (.ops r284_21) c284_27
abbrev r284_29 : List SOper := [
  ⟨some 68, none, .mov (.t 10)⟩,
  ⟨some 69, none, .mov (.t 68)⟩,
  ⟨some 70, some (69, true), .mov (.t 11)⟩,
  ⟨some 71, none, .pick (.t 69) (.t 70) (.c (.bool false))⟩,
  ⟨some 72, none, .mov (.t 71)⟩,
  ⟨some 73, some (72, true), .mov (.t 14)⟩,
  ⟨some 74, some (72, true), .bin .eql (.t 73) (.c (.int .i64 1))⟩,
  ⟨some 75, none, .pick (.t 72) (.t 74) (.c (.bool false))⟩]
abbrev r284_30 : List SOper := [
  ⟨some 76, none, .mov (.t 0)⟩,
  ⟨some 77, none, .mov (.t 1)⟩,
  ⟨some 78, none, .mov (.t 2)⟩,
  ⟨some 79, none, .mov (.t 4)⟩,
  ⟨some 80, none, .call false (.c (.func 305 [])) [.t 76, .t 77, .t 78, .t 79]⟩]
abbrev c284_31 : SC := .cond (.t 80) (.ret) (.skip)
abbrev c284_32 : SC := .seq (.ops r284_30) c284_31
abbrev c284_33 : SC := .cond (.t 75) c284_32 (.skip)
abbrev c284_34 : SC := .seq (.ops r284_29) c284_33
abbrev r284_35 : List SOper := [
  ⟨some 81, none, .mov (.t 1)⟩,
  ⟨some 82, none, .bin .gtr (.t 81) (.c (.int .i64 0))⟩,
  ⟨some 83, none, .mov (.t 82)⟩,
  ⟨some 84, some (83, true), .mov (.t 4)⟩,
  ⟨some 85, some (83, true), .mov (.t 0)⟩,
  ⟨some 86, some (83, true), .mov (.t 1)⟩,
  ⟨some 87, some (83, true), .bin .sub (.t 86) (.c (.int .i64 1))⟩,
  ⟨some 88, some (83, true), .iaddr none 25 (.t 85) (.t 87)⟩,
  ⟨some 89, some (83, true), .load false true 25 (.t 88)⟩,
  ⟨some 90, some (83, true), .mov (.t 0)⟩,
  ⟨some 91, some (83, true), .mov (.t 13)⟩,
  ⟨some 92, some (83, true), .iaddr none 25 (.t 90) (.t 91)⟩,
  ⟨some 93, some (83, true), .load false true 25 (.t 92)⟩,
  ⟨some 94, some (83, true), .call false (.t 84) [.t 89, .t 93]⟩,
  ⟨some 95, some (83, true), .bin .lss (.t 94) (.c (.int .i64 0))⟩,
  ⟨some 96, some (83, true), .un .not (.t 95)⟩,
  ⟨some 97, none, .pick (.t 83) (.t 96) (.c (.bool false))⟩]
abbrev r284_36 : List SOper := [
  ⟨some 98, none, .mov (.t 0)⟩,
  ⟨some 99, none, .mov (.t 1)⟩,
  ⟨some 100, none, .mov (.t 2)⟩,
  ⟨some 101, none, .mov (.t 13)⟩,
  ⟨some 102, none, .mov (.t 4)⟩,
  ⟨some 103, none, .call false (.c (.func 306 [])) [.t 98, .t 99, .t 100, .t 101, .t 102]⟩,
  ⟨some 15, none, .mov (.t 103)⟩]
abbrev r284_37 : List SOper := [
  ⟨some 104, none, .mov (.t 15)⟩,
  ⟨some 1, none, .mov (.t 104)⟩]
abbrev c284_38 : SC := .seq (.ops r284_37) (.exit 1)
abbrev c284_39 : SC := .seq (.ops r284_36) c284_38
abbrev c284_40 : SC := .cond (.t 97) c284_39 (.skip)
abbrev c284_41 : SC := .seq (.draw 0 [[], [0], [1], [2], [2], [2], [5], [4, 6], [7], [2], [2], [9, 10], [11], [3, 8, 12], [13], [14], [15]] r284_35) c284_40
abbrev r284_42 : List SOper := [
  ⟨some 106, none, .mov (.t 0)⟩,
  ⟨some 107, none, .mov (.t 1)⟩,
  ⟨some 108, none, .mov (.t 2)⟩,
  ⟨some 109, none, .mov (.t 13)⟩,
  ⟨some 110, none, .mov (.t 4)⟩,
  ⟨some 111, none, .call false (.c (.func 307 [])) [.t 106, .t 107, .t 108, .t 109, .t 110]⟩,
  ⟨some 105, none, .mov (.t 111)⟩,
  ⟨some 112, none, .extract (.t 105) 0⟩,
  ⟨some 113, none, .extract (.t 105) 1⟩,
  ⟨some 16, none, .mov (.t 112)⟩,
  ⟨some 17, none, .mov (.t 113)⟩]
abbrev r284_43 : List SOper := [
  ⟨some 114, none, .mov (.t 17)⟩,
  ⟨some 11, none, .mov (.t 114)⟩]
abbrev r284_44 : List SOper := [
  ⟨some 115, none, .mov (.t 16)⟩,
  ⟨some 116, none, .mov (.t 1)⟩,
  ⟨some 117, none, .bin .sub (.t 115) (.t 116)⟩,
  ⟨some 118, none, .mov (.t 2)⟩,
  ⟨some 119, none, .mov (.t 16)⟩,
  ⟨some 120, none, .bin .sub (.t 118) (.t 119)⟩,
  ⟨some 18, none, .mov (.t 117)⟩,
  ⟨some 19, none, .mov (.t 120)⟩]
abbrev r284_45 : List SOper := [
  ⟨some 121, none, .mov (.t 12)⟩,
  ⟨some 122, none, .bin .quo (.t 121) (.c (.int .i64 8))⟩,
  ⟨some 20, none, .mov (.t 122)⟩]
abbrev r284_46 : List SOper := [
  ⟨some 123, none, .mov (.t 18)⟩,
  ⟨some 124, none, .mov (.t 19)⟩,
  ⟨some 125, none, .bin .lss (.t 123) (.t 124)⟩]
abbrev r284_47 : List SOper := [
  ⟨some 126, none, .mov (.t 18)⟩,
  ⟨some 127, none, .mov (.t 20)⟩,
  ⟨some 128, none, .bin .geq (.t 126) (.t 127)⟩,
  ⟨some 10, none, .mov (.t 128)⟩]
abbrev r284_48 : List SOper := [
  ⟨some 129, none, .mov (.t 0)⟩,
  ⟨some 130, none, .mov (.t 1)⟩,
  ⟨some 131, none, .mov (.t 16)⟩,
  ⟨some 132, none, .mov (.t 3)⟩,
  ⟨some 133, none, .mov (.t 4)⟩,
  ⟨some 134, none, .call false (.c (.func 284 [])) [.t 129, .t 130, .t 131, .t 132, .t 133]⟩]
abbrev r284_49 : List SOper := [
  ⟨some 135, none, .mov (.t 16)⟩,
  ⟨some 136, none, .bin .add (.t 135) (.c (.int .i64 1))⟩,
  ⟨some 1, none, .mov (.t 136)⟩]
abbrev c284_50 : SC := .seq (.ops r284_48) (.ops r284_49)
abbrev c284_51 : SC := .seq (.ops r284_47) c284_50
abbrev r284_52 : List SOper := [
  ⟨some 137, none, .mov (.t 19)⟩,
  ⟨some 138, none, .mov (.t 20)⟩,
  ⟨some 139, none, .bin .geq (.t 137) (.t 138)⟩,
  ⟨some 10, none, .mov (.t 139)⟩]
abbrev r284_53 : List SOper := [
  ⟨some 140, none, .mov (.t 0)⟩,
  ⟨some 141, none, .mov (.t 16)⟩,
  ⟨some 142, none, .bin .add (.t 141) (.c (.int .i64 1))⟩,
  ⟨some 143, none, .mov (.t 2)⟩,
  ⟨some 144, none, .mov (.t 3)⟩,
  ⟨some 145, none, .mov (.t 4)⟩,
  ⟨some 146, none, .call false (.c (.func 284 [])) [.t 140, .t 142, .t 143, .t 144, .t 145]⟩]
abbrev r284_54 : List SOper := [
  ⟨some 147, none, .mov (.t 16)⟩,
  ⟨some 2, none, .mov (.t 147)⟩]
abbrev c284_55 : SC := .seq (.ops r284_53) (.ops r284_54)
abbrev c284_56 : SC := .seq (.ops r284_52) c284_55
abbrev c284_57 : SC := .cond (.t 125) c284_51 c284_56
abbrev c284_58 : SC := .seq (.ops r284_46) c284_57
abbrev c284_59 : SC := .seq (.ops r284_45) c284_58
abbrev c284_60 : SC := .seq (.ops r284_44) c284_59
abbrev c284_61 : SC := .seq (.ops r284_43) c284_60
abbrev c284_62 : SC := .seq (.ops r284_42) c284_61
abbrev c284_63 : SC := .seq c284_41 c284_62
abbrev c284_64 : SC := .seq c284_34 c284_63
abbrev c284_65 : SC := .seq c284_28 c284_64
abbrev c284_66 : SC := .seq (.ops r284_20) c284_65
abbrev c284_67 : SC := .seq c284_19 c284_66
abbrev c284_68 : SC := .seq c284_13 c284_67
abbrev c284_69 : SC := .seq c284_8 c284_68
abbrev c284_70 : SC := .seq (.ops r284_3) c284_69
abbrev c284_71 : SC := .block 1 [0, 1, 2, 3, 4, 10, 11] [] c284_70
abbrev L284_1 : SC := .loop [0, 1, 2, 3, 4, 10, 11] [] c284_71
abbrev c284_72 : SC := .block 0 [] [] L284_1
abbrev c284_73 : SC := .seq (.ops r284_2) c284_72
abbrev c284_74 : SC := .seq (.ops r284_1) c284_73
def s284 : SF := ⟨[], c284_74, false, none, none⟩
/-! slices.insertionSortCmpFunc[crannog/api.Piece] -/
abbrev r288_1 : List SOper := [
  ⟨some 10, none, .mov (.t 1)⟩,
  ⟨some 11, none, .bin .add (.t 10) (.c (.int .i64 1))⟩,
  ⟨some 8, none, .mov (.t 11)⟩]
abbrev r288_2 : List SOper := [
  ⟨some 12, none, .mov (.t 8)⟩,
  ⟨some 13, none, .mov (.t 2)⟩,
  ⟨some 14, none, .bin .lss (.t 12) (.t 13)⟩]
abbrev c288_3 : SC := .cond (.t 14) (.skip) (.exit 0)
abbrev c288_4 : SC := .seq (.ops r288_2) c288_3
abbrev r288_5 : List SOper := [
  ⟨some 17, none, .mov (.t 8)⟩,
  ⟨some 9, none, .mov (.t 17)⟩]
abbrev r288_6 : List SOper := [
  ⟨some 18, none, .mov (.t 9)⟩,
  ⟨some 19, none, .mov (.t 1)⟩,
  ⟨some 20, none, .bin .gtr (.t 18) (.t 19)⟩,
  ⟨some 21, none, .mov (.t 20)⟩,
  ⟨some 22, some (21, true), .mov (.t 3)⟩,
  ⟨some 23, some (21, true), .mov (.t 0)⟩,
  ⟨some 24, some (21, true), .mov (.t 9)⟩,
  ⟨some 25, some (21, true), .iaddr none 4 (.t 23) (.t 24)⟩,
  ⟨some 26, some (21, true), .load false true 4 (.t 25)⟩,
  ⟨some 27, some (21, true), .mov (.t 0)⟩,
  ⟨some 28, some (21, true), .mov (.t 9)⟩,
  ⟨some 29, some (21, true), .bin .sub (.t 28) (.c (.int .i64 1))⟩,
  ⟨some 30, some (21, true), .iaddr none 4 (.t 27) (.t 29)⟩,
  ⟨some 31, some (21, true), .load false true 4 (.t 30)⟩,
  ⟨some 32, some (21, true), .call false (.t 22) [.t 26, .t 31]⟩,
  ⟨some 33, some (21, true), .bin .lss (.t 32) (.c (.int .i64 0))⟩,
  ⟨some 34, none, .pick (.t 21) (.t 33) (.c (.bool false))⟩]
abbrev c288_7 : SC := .cond (.t 34) (.skip) (.exit 2)
abbrev c288_8 : SC := .seq (.draw 0 [[], [], [0, 1], [2], [3], [3], [3], [5, 6], [7], [3], [3], [10], [9, 11], [12], [4, 8, 13], [14], [15]] r288_6) c288_7
abbrev r288_9 : List SOper := [
  ⟨some 37, none, .mov (.t 0)⟩,
  ⟨some 38, none, .mov (.t 9)⟩,
  ⟨some 39, none, .mov (.t 0)⟩,
  ⟨some 40, none, .mov (.t 9)⟩,
  ⟨some 41, none, .bin .sub (.t 40) (.c (.int .i64 1))⟩,
  ⟨some 42, none, .mov (.t 0)⟩,
  ⟨some 43, none, .mov (.t 9)⟩,
  ⟨some 44, none, .bin .sub (.t 43) (.c (.int .i64 1))⟩,
  ⟨some 45, none, .iaddr none 4 (.t 42) (.t 44)⟩,
  ⟨some 46, none, .load false true 4 (.t 45)⟩,
  ⟨some 47, none, .mov (.t 0)⟩,
  ⟨some 48, none, .mov (.t 9)⟩,
  ⟨some 49, none, .iaddr none 4 (.t 47) (.t 48)⟩,
  ⟨some 50, none, .load false true 4 (.t 49)⟩,
  ⟨some 51, none, .iaddr none 4 (.t 37) (.t 38)⟩,
  ⟨none, none, .store 4 (.t 51) (.t 46)⟩,
  ⟨some 52, none, .iaddr none 4 (.t 39) (.t 41)⟩,
  ⟨none, none, .store 4 (.t 52) (.t 50)⟩]
abbrev c288_10 : SC := .block 3 [0, 1, 2, 3, 8, 9] [] (.draw 0 [[], [], [], [], [3], [], [], [6], [5, 7], [8], [], [], [10, 11], [12], [0, 1, 9, 13], [14], [2, 4, 15], [16]] r288_9)
abbrev r288_11 : List SOper := [
  ⟨some 35, none, .mov (.t 9)⟩,
  ⟨some 36, none, .bin .sub (.t 35) (.c (.int .i64 1))⟩,
  ⟨some 9, none, .mov (.t 36)⟩]
abbrev c288_12 : SC := .seq c288_10 (.ops r288_11)
abbrev c288_13 : SC := .seq c288_8 c288_12
abbrev L288_1 : SC := .loop [0, 1, 2, 3, 8, 9] [] c288_13
abbrev c288_14 : SC := .block 2 [0, 1, 2, 3, 8] [] L288_1
abbrev c288_15 : SC := .seq (.ops r288_5) c288_14
abbrev c288_16 : SC := .block 1 [0, 1, 2, 3, 8] [] c288_15
abbrev r288_17 : List SOper := [
  ⟨some 15, none, .mov (.t 8)⟩,
  ⟨some 16, none, .bin .add (.t 15) (.c (.int .i64 1))⟩,
  ⟨some 8, none, .mov (.t 16)⟩]
abbrev c288_18 : SC := .seq c288_16 (.ops r288_17)
abbrev c288_19 : SC := .seq c288_4 c288_18
abbrev L288_2 : SC := .loop [0, 1, 2, 3, 8] [] c288_19
abbrev c288_20 : SC := .block 0 [] [] L288_2
abbrev c288_21 : SC := .seq (.ops r288_1) c288_20
def s288 : SF := ⟨[], c288_21, false, none, none⟩
/-! slices.insertionSortCmpFunc[crannog/api.Xattr] -/
abbrev r290_1 : List SOper := [
  ⟨some 10, none, .mov (.t 1)⟩,
  ⟨some 11, none, .bin .add (.t 10) (.c (.int .i64 1))⟩,
  ⟨some 8, none, .mov (.t 11)⟩]
abbrev r290_2 : List SOper := [
  ⟨some 12, none, .mov (.t 8)⟩,
  ⟨some 13, none, .mov (.t 2)⟩,
  ⟨some 14, none, .bin .lss (.t 12) (.t 13)⟩]
abbrev c290_3 : SC := .cond (.t 14) (.skip) (.exit 0)
abbrev c290_4 : SC := .seq (.ops r290_2) c290_3
abbrev r290_5 : List SOper := [
  ⟨some 17, none, .mov (.t 8)⟩,
  ⟨some 9, none, .mov (.t 17)⟩]
abbrev r290_6 : List SOper := [
  ⟨some 18, none, .mov (.t 9)⟩,
  ⟨some 19, none, .mov (.t 1)⟩,
  ⟨some 20, none, .bin .gtr (.t 18) (.t 19)⟩,
  ⟨some 21, none, .mov (.t 20)⟩,
  ⟨some 22, some (21, true), .mov (.t 3)⟩,
  ⟨some 23, some (21, true), .mov (.t 0)⟩,
  ⟨some 24, some (21, true), .mov (.t 9)⟩,
  ⟨some 25, some (21, true), .iaddr none 5 (.t 23) (.t 24)⟩,
  ⟨some 26, some (21, true), .load false true 5 (.t 25)⟩,
  ⟨some 27, some (21, true), .mov (.t 0)⟩,
  ⟨some 28, some (21, true), .mov (.t 9)⟩,
  ⟨some 29, some (21, true), .bin .sub (.t 28) (.c (.int .i64 1))⟩,
  ⟨some 30, some (21, true), .iaddr none 5 (.t 27) (.t 29)⟩,
  ⟨some 31, some (21, true), .load false true 5 (.t 30)⟩,
  ⟨some 32, some (21, true), .call false (.t 22) [.t 26, .t 31]⟩,
  ⟨some 33, some (21, true), .bin .lss (.t 32) (.c (.int .i64 0))⟩,
  ⟨some 34, none, .pick (.t 21) (.t 33) (.c (.bool false))⟩]
abbrev c290_7 : SC := .cond (.t 34) (.skip) (.exit 2)
abbrev c290_8 : SC := .seq (.draw 0 [[], [], [0, 1], [2], [3], [3], [3], [5, 6], [7], [3], [3], [10], [9, 11], [12], [4, 8, 13], [14], [15]] r290_6) c290_7
abbrev r290_9 : List SOper := [
  ⟨some 37, none, .mov (.t 0)⟩,
  ⟨some 38, none, .mov (.t 9)⟩,
  ⟨some 39, none, .mov (.t 0)⟩,
  ⟨some 40, none, .mov (.t 9)⟩,
  ⟨some 41, none, .bin .sub (.t 40) (.c (.int .i64 1))⟩,
  ⟨some 42, none, .mov (.t 0)⟩,
  ⟨some 43, none, .mov (.t 9)⟩,
  ⟨some 44, none, .bin .sub (.t 43) (.c (.int .i64 1))⟩,
  ⟨some 45, none, .iaddr none 5 (.t 42) (.t 44)⟩,
  ⟨some 46, none, .load false true 5 (.t 45)⟩,
  ⟨some 47, none, .mov (.t 0)⟩,
  ⟨some 48, none, .mov (.t 9)⟩,
  ⟨some 49, none, .iaddr none 5 (.t 47) (.t 48)⟩,
  ⟨some 50, none, .load false true 5 (.t 49)⟩,
  ⟨some 51, none, .iaddr none 5 (.t 37) (.t 38)⟩,
  ⟨none, none, .store 5 (.t 51) (.t 46)⟩,
  ⟨some 52, none, .iaddr none 5 (.t 39) (.t 41)⟩,
  ⟨none, none, .store 5 (.t 52) (.t 50)⟩]
abbrev c290_10 : SC := .block 3 [0, 1, 2, 3, 8, 9] [] (.draw 0 [[], [], [], [], [3], [], [], [6], [5, 7], [8], [], [], [10, 11], [12], [0, 1, 9, 13], [14], [2, 4, 15], [16]] r290_9)
abbrev r290_11 : List SOper := [
  ⟨some 35, none, .mov (.t 9)⟩,
  ⟨some 36, none, .bin .sub (.t 35) (.c (.int .i64 1))⟩,
  ⟨some 9, none, .mov (.t 36)⟩]
abbrev c290_12 : SC := .seq c290_10 (.ops r290_11)
abbrev c290_13 : SC := .seq c290_8 c290_12
abbrev L290_1 : SC := .loop [0, 1, 2, 3, 8, 9] [] c290_13
abbrev c290_14 : SC := .block 2 [0, 1, 2, 3, 8] [] L290_1
abbrev c290_15 : SC := .seq (.ops r290_5) c290_14
abbrev c290_16 : SC := .block 1 [0, 1, 2, 3, 8] [] c290_15
abbrev r290_17 : List SOper := [
  ⟨some 15, none, .mov (.t 8)⟩,
  ⟨some 16, none, .bin .add (.t 15) (.c (.int .i64 1))⟩,
  ⟨some 8, none, .mov (.t 16)⟩]
abbrev c290_18 : SC := .seq c290_16 (.ops r290_17)
abbrev c290_19 : SC := .seq c290_4 c290_18
abbrev L290_2 : SC := .loop [0, 1, 2, 3, 8] [] c290_19
abbrev c290_20 : SC := .block 0 [] [] L290_2
abbrev c290_21 : SC := .seq (.ops r290_1) c290_20
def s290 : SF := ⟨[], c290_21, false, none, none⟩
/-! internal/stringslite.Index -/
abbrev r295_1 : List SOper := [
  ⟨some 4, none, .mov (.c (.int .i64 0))⟩]
abbrev r295_2 : List SOper := [
  ⟨some 14, none, .mov (.t 1)⟩,
  ⟨some 15, none, .len 0 (.t 14)⟩,
  ⟨some 5, none, .mov (.t 15)⟩]
abbrev r295_3 : List SOper := [
  ⟨some 17, none, .mov (.t 5)⟩,
  ⟨some 18, none, .bin .eql (.t 17) (.c (.int .i64 0))⟩,
  ⟨some 19, none, .mov (.t 18)⟩,
  ⟨some 20, some (19, false), .mov (.t 1)⟩,
  ⟨some 21, some (19, false), .mov (.t 0)⟩,
  ⟨some 22, some (19, false), .bin .eql (.t 20) (.t 21)⟩,
  ⟨some 23, none, .pick (.t 19) (.c (.bool true)) (.t 22)⟩,
  ⟨some 16, none, .mov (.t 23)⟩]
abbrev r295_4 : List SOper := [
  ⟨some 4, none, .mov (.c (.int .i64 0))⟩]
abbrev c295_5 : SC := .seq (.ops r295_4) (.ret)
abbrev r295_6 : List SOper := [
  ⟨some 25, none, .mov (.t 5)⟩,
  ⟨some 26, none, .bin .eql (.t 25) (.c (.int .i64 1))⟩,
  ⟨some 24, none, .mov (.t 26)⟩]
abbrev r295_7 : List SOper := [
  ⟨some 27, none, .mov (.t 0)⟩,
  ⟨some 28, none, .mov (.t 1)⟩,
  ⟨some 29, none, .index none (.t 28) (.c (.int .i64 0))⟩,
  ⟨some 30, none, .call false (.c (.func 322 [])) [.t 27, .t 29]⟩,
  ⟨some 4, none, .mov (.t 30)⟩]
abbrev c295_8 : SC := .seq (.ops r295_7) (.ret)
abbrev r295_9 : List SOper := [
  ⟨some 32, none, .mov (.t 5)⟩,
  ⟨some 33, none, .mov (.t 0)⟩,
  ⟨some 34, none, .len 0 (.t 33)⟩,
  ⟨some 35, none, .bin .geq (.t 32) (.t 34)⟩,
  ⟨some 31, none, .mov (.t 35)⟩]
abbrev r295_10 : List SOper := [
  ⟨some 4, none, .mov (.c (.int .i64 (-1)))⟩]
abbrev c295_11 : SC := .seq (.ops r295_10) (.ret)
abbrev r295_12 : List SOper := [
  ⟨some 37, none, .mov (.t 5)⟩,
  ⟨some 38, none, .no⟩,
  ⟨some 39, none, .bin .leq (.t 37) (.t 38)⟩,
  ⟨some 40, none, .mov (.t 39)⟩,
  ⟨some 41, some (40, true), .mov (.t 0)⟩,
  ⟨some 42, some (40, true), .len 0 (.t 41)⟩,
  ⟨some 43, some (40, true), .bin .leq (.t 42) (.c (.int .i64 64))⟩,
  ⟨some 44, none, .pick (.t 40) (.t 43) (.c (.bool false))⟩,
  ⟨some 36, none, .mov (.t 44)⟩]
abbrev r295_13 : List SOper := [
  ⟨some 45, none, .mov (.t 0)⟩,
  ⟨some 46, none, .mov (.t 1)⟩,
  ⟨some 47, none, .call false (.c (.func 323 [])) [.t 45, .t 46]⟩,
  ⟨some 4, none, .mov (.t 47)⟩]
abbrev c295_14 : SC := .seq (.ops r295_13) (.ret)
abbrev c295_15 : SC := .cond (.t 36) c295_14 (.skip)
abbrev c295_16 : SC := .seq (.ops r295_12) c295_15
abbrev c295_17 : SC := .cond (.t 31) c295_11 c295_16
abbrev c295_18 : SC := .seq (.ops r295_9) c295_17
abbrev c295_19 : SC := .cond (.t 24) c295_8 c295_18
abbrev c295_20 : SC := .seq (.ops r295_6) c295_19
abbrev c295_21 : SC := .cond (.t 16) c295_5 c295_20
abbrev c295_22 : SC := .seq (.ops r295_3) c295_21
abbrev c295_23 : SC := .block 0 [0, 1, 5] [] c295_22
abbrev r295_24 : List SOper := [
  ⟨some 48, none, .mov (.t 1)⟩,
  ⟨some 49, none, .index none (.t 48) (.c (.int .i64 0))⟩,
  ⟨some 6, none, .mov (.t 49)⟩]
abbrev r295_25 : List SOper := [
  ⟨some 50, none, .mov (.t 1)⟩,
  ⟨some 51, none, .index none (.t 50) (.c (.int .i64 1))⟩,
  ⟨some 7, none, .mov (.t 51)⟩]
abbrev r295_26 : List SOper := [
  ⟨some 8, none, .mov (.c (.int .i64 0))⟩]
abbrev r295_27 : List SOper := [
  ⟨some 52, none, .mov (.t 0)⟩,
  ⟨some 53, none, .len 0 (.t 52)⟩,
  ⟨some 54, none, .mov (.t 5)⟩,
  ⟨some 55, none, .bin .sub (.t 53) (.t 54)⟩,
  ⟨some 56, none, .bin .add (.t 55) (.c (.int .i64 1))⟩,
  ⟨some 9, none, .mov (.t 56)⟩]
abbrev r295_28 : List SOper := [
  ⟨some 10, none, .mov (.c (.int .i64 0))⟩]
abbrev r295_29 : List SOper := [
  ⟨some 57, none, .mov (.t 8)⟩,
  ⟨some 58, none, .mov (.t 9)⟩,
  ⟨some 59, none, .bin .lss (.t 57) (.t 58)⟩]
abbrev c295_30 : SC := .cond (.t 59) (.skip) (.exit 1)
abbrev c295_31 : SC := .seq (.ops r295_29) c295_30
abbrev r295_32 : List SOper := [
  ⟨some 60, none, .mov (.t 0)⟩,
  ⟨some 61, none, .mov (.t 8)⟩,
  ⟨some 62, none, .index none (.t 60) (.t 61)⟩,
  ⟨some 63, none, .mov (.t 6)⟩,
  ⟨some 64, none, .bin .neq (.t 62) (.t 63)⟩]
abbrev r295_33 : List SOper := [
  ⟨some 65, none, .mov (.t 0)⟩,
  ⟨some 66, none, .mov (.t 8)⟩,
  ⟨some 67, none, .bin .add (.t 66) (.c (.int .i64 1))⟩,
  ⟨some 68, none, .mov (.t 9)⟩,
  ⟨some 69, none, .slice true 1 (.t 65) (some (.t 67)) (some (.t 68)) none⟩,
  ⟨some 70, none, .mov (.t 6)⟩,
  ⟨some 71, none, .call false (.c (.func 322 [])) [.t 69, .t 70]⟩,
  ⟨some 11, none, .mov (.t 71)⟩]
abbrev r295_34 : List SOper := [
  ⟨some 72, none, .mov (.t 11)⟩,
  ⟨some 73, none, .bin .lss (.t 72) (.c (.int .i64 0))⟩]
abbrev r295_35 : List SOper := [
  ⟨some 4, none, .mov (.c (.int .i64 (-1)))⟩]
abbrev c295_36 : SC := .seq (.ops r295_35) (.ret)
abbrev c295_37 : SC := .cond (.t 73) c295_36 (.skip)
abbrev c295_38 : SC := .seq (.ops r295_34) c295_37
abbrev r295_39 : List SOper := [
  ⟨some 74, none, .mov (.t 8)⟩,
  ⟨some 75, none, .mov (.t 11)⟩,
  ⟨some 76, none, .bin .add (.t 75) (.c (.int .i64 1))⟩,
  ⟨some 77, none, .bin .add (.t 74) (.t 76)⟩,
  ⟨some 8, none, .mov (.t 77)⟩]
abbrev c295_40 : SC := .seq c295_38 (.ops r295_39)
abbrev c295_41 : SC := .seq (.ops r295_33) c295_40
abbrev c295_42 : SC := .cond (.t 64) c295_41 (.skip)
abbrev c295_43 : SC := .seq (.ops r295_32) c295_42
abbrev r295_44 : List SOper := [
  ⟨some 78, none, .mov (.t 0)⟩,
  ⟨some 79, none, .mov (.t 8)⟩,
  ⟨some 80, none, .bin .add (.t 79) (.c (.int .i64 1))⟩,
  ⟨some 81, none, .index none (.t 78) (.t 80)⟩,
  ⟨some 82, none, .mov (.t 7)⟩,
  ⟨some 83, none, .bin .eql (.t 81) (.t 82)⟩,
  ⟨some 84, none, .mov (.t 83)⟩,
  ⟨some 85, some (84, true), .mov (.t 0)⟩,
  ⟨some 86, some (84, true), .mov (.t 8)⟩,
  ⟨some 87, some (84, true), .mov (.t 8)⟩,
  ⟨some 88, some (84, true), .mov (.t 5)⟩,
  ⟨some 89, some (84, true), .bin .add (.t 87) (.t 88)⟩,
  ⟨some 90, some (84, true), .slice true 1 (.t 85) (some (.t 86)) (some (.t 89)) none⟩,
  ⟨some 91, some (84, true), .mov (.t 1)⟩,
  ⟨some 92, some (84, true), .bin .eql (.t 90) (.t 91)⟩,
  ⟨some 93, none, .pick (.t 84) (.t 92) (.c (.bool false))⟩]
abbrev r295_45 : List SOper := [
  ⟨some 94, none, .mov (.t 8)⟩,
  ⟨some 4, none, .mov (.t 94)⟩]
abbrev c295_46 : SC := .seq (.ops r295_45) (.ret)
abbrev c295_47 : SC := .cond (.t 93) c295_46 (.skip)
abbrev c295_48 : SC := .seq (.ops r295_44) c295_47
abbrev r295_49 : List SOper := [
  ⟨some 95, none, .mov (.t 8)⟩,
  ⟨some 96, none, .bin .add (.t 95) (.c (.int .i64 1))⟩,
  ⟨some 8, none, .mov (.t 96)⟩]
abbrev r295_50 : List SOper := [
  ⟨some 97, none, .mov (.t 10)⟩,
  ⟨some 98, none, .bin .add (.t 97) (.c (.int .i64 1))⟩,
  ⟨some 10, none, .mov (.t 98)⟩]
abbrev r295_51 : List SOper := [
  ⟨some 99, none, .mov (.t 5)⟩,
  ⟨some 100, none, .no⟩,
  ⟨some 101, none, .bin .leq (.t 99) (.t 100)⟩,
  ⟨some 102, none, .mov (.t 101)⟩,
  ⟨some 103, some (102, true), .mov (.t 10)⟩,
  ⟨some 104, some (102, true), .mov (.t 8)⟩,
  ⟨some 105, some (102, true), .call false (.c (.func 324 [])) [.t 104]⟩,
  ⟨some 106, some (102, true), .bin .gtr (.t 103) (.t 105)⟩,
  ⟨some 107, none, .pick (.t 102) (.t 106) (.c (.bool false))⟩]
abbrev r295_52 : List SOper := [
  ⟨some 108, none, .mov (.t 0)⟩,
  ⟨some 109, none, .mov (.t 8)⟩,
  ⟨some 110, none, .slice true 1 (.t 108) (some (.t 109)) none none⟩,
  ⟨some 111, none, .mov (.t 1)⟩,
  ⟨some 112, none, .call false (.c (.func 323 [])) [.t 110, .t 111]⟩,
  ⟨some 12, none, .mov (.t 112)⟩]
abbrev r295_53 : List SOper := [
  ⟨some 113, none, .mov (.t 12)⟩,
  ⟨some 114, none, .bin .geq (.t 113) (.c (.int .i64 0))⟩]
abbrev r295_54 : List SOper := [
  ⟨some 115, none, .mov (.t 12)⟩,
  ⟨some 116, none, .mov (.t 8)⟩,
  ⟨some 117, none, .bin .add (.t 115) (.t 116)⟩,
  ⟨some 4, none, .mov (.t 117)⟩]
abbrev c295_55 : SC := .seq (.ops r295_54) (.ret)
abbrev c295_56 : SC := .cond (.t 114) c295_55 (.skip)
abbrev c295_57 : SC := .seq (.ops r295_53) c295_56
abbrev r295_58 : List SOper := [
  ⟨some 4, none, .mov (.c (.int .i64 (-1)))⟩]
abbrev c295_59 : SC := .seq (.ops r295_58) (.ret)
abbrev c295_60 : SC := .seq c295_57 c295_59
abbrev c295_61 : SC := .seq (.ops r295_52) c295_60
abbrev r295_62 : List SOper := [
  ⟨some 118, none, .mov (.t 5)⟩,
  ⟨some 119, none, .no⟩,
  ⟨some 120, none, .bin .gtr (.t 118) (.t 119)⟩,
  ⟨some 121, none, .mov (.t 120)⟩,
  ⟨some 122, some (121, true), .mov (.t 10)⟩,
  ⟨some 123, some (121, true), .mov (.t 8)⟩,
  ⟨some 124, some (121, true), .bin .shr (.t 123) (.c (.int .u64 4))⟩,
  ⟨some 125, some (121, true), .bin .add (.c (.int .i64 4)) (.t 124)⟩,
  ⟨some 126, some (121, true), .bin .geq (.t 122) (.t 125)⟩,
  ⟨some 127, none, .pick (.t 121) (.t 126) (.c (.bool false))⟩,
  ⟨some 128, none, .mov (.t 127)⟩,
  ⟨some 129, some (128, true), .mov (.t 8)⟩,
  ⟨some 130, some (128, true), .mov (.t 9)⟩,
  ⟨some 131, some (128, true), .bin .lss (.t 129) (.t 130)⟩,
  ⟨some 132, none, .pick (.t 128) (.t 131) (.c (.bool false))⟩]
abbrev r295_63 : List SOper := [
  ⟨some 133, none, .mov (.t 0)⟩,
  ⟨some 134, none, .mov (.t 8)⟩,
  ⟨some 135, none, .slice true 1 (.t 133) (some (.t 134)) none none⟩,
  ⟨some 136, none, .mov (.t 1)⟩,
  ⟨some 137, none, .call false (.c (.func 325 [])) [.t 135, .t 136]⟩,
  ⟨some 13, none, .mov (.t 137)⟩]
abbrev r295_64 : List SOper := [
  ⟨some 138, none, .mov (.t 13)⟩,
  ⟨some 139, none, .bin .lss (.t 138) (.c (.int .i64 0))⟩]
abbrev r295_65 : List SOper := [
  ⟨some 4, none, .mov (.c (.int .i64 (-1)))⟩]
abbrev c295_66 : SC := .seq (.ops r295_65) (.ret)
abbrev c295_67 : SC := .cond (.t 139) c295_66 (.skip)
abbrev c295_68 : SC := .seq (.ops r295_64) c295_67
abbrev r295_69 : List SOper := [
  ⟨some 140, none, .mov (.t 8)⟩,
  ⟨some 141, none, .mov (.t 13)⟩,
  ⟨some 142, none, .bin .add (.t 140) (.t 141)⟩,
  ⟨some 4, none, .mov (.t 142)⟩]
abbrev c295_70 : SC := .seq (.ops r295_69) (.ret)
abbrev c295_71 : SC := .seq c295_68 c295_70
abbrev c295_72 : SC := .seq (.ops r295_63) c295_71
abbrev c295_73 : SC := .cond (.t 132) c295_72 (.skip)
abbrev c295_74 : SC := .seq (.ops r295_62) c295_73
abbrev c295_75 : SC := .cond (.t 107) c295_61 c295_74
abbrev c295_76 : SC := .seq (.ops r295_51) c295_75
abbrev c295_77 : SC := .seq (.ops r295_50) c295_76
abbrev c295_78 : SC := .seq (.ops r295_49) c295_77
abbrev c295_79 : SC := .seq c295_48 c295_78
abbrev c295_80 : SC := .seq c295_43 c295_79
abbrev c295_81 : SC := .block 2 [0, 1, 5, 6, 7, 8, 9, 10] [] c295_80
abbrev c295_82 : SC := .seq c295_31 c295_81
abbrev L295_1 : SC := .loop [0, 1, 5, 6, 7, 8, 9, 10] [] c295_82
abbrev c295_83 : SC := .block 1 [] [] L295_1
abbrev r295_84 : List SOper := [
  ⟨some 4, none, .mov (.c (.int .i64 (-1)))⟩]
abbrev c295_85 : SC := .seq (.ops r295_84) (.ret)
abbrev c295_86 : SC := .seq c295_83 c295_85
abbrev c295_87 : SC := .seq (.ops r295_28) c295_86
abbrev c295_88 : SC := .seq (.ops r295_27) c295_87
abbrev c295_89 : SC := .seq (.ops r295_26) c295_88
abbrev c295_90 : SC := .seq (.ops r295_25) c295_89
abbrev c295_91 : SC := .seq (.ops r295_24) c295_90
abbrev c295_92 : SC := .seq c295_23 c295_91
abbrev c295_93 : SC := .seq (.ops r295_2) c295_92
abbrev c295_94 : SC := .seq (.ops r295_1) c295_93
def s295 : SF := ⟨[.t 4], c295_94, false, none, none⟩
/-! internal/stringslite.IndexByte -/
abbrev r322_1 : List SOper := [
  ⟨some 4, none, .mov (.c (.int .i64 0))⟩]
abbrev r322_2 : List SOper := [
  ⟨some 5, none, .mov (.t 0)⟩,
  ⟨some 6, none, .mov (.t 1)⟩,
  ⟨some 7, none, .call false (.c (.func 337 [])) [.t 5, .t 6]⟩,
  ⟨some 4, none, .mov (.t 7)⟩]
abbrev c322_3 : SC := .seq (.ops r322_2) (.ret)
abbrev c322_4 : SC := .seq (.ops r322_1) c322_3
def s322 : SF := ⟨[.t 4], c322_4, false, none, none⟩
end Go.Vm.Tryz
end

section
set_option maxRecDepth 100000
namespace Go.Vm.Tryz
open Go Go.Vm
def fns : List (Nat × SF) := [(4, s4), (6, s6), (9, s9), (13, s13), (14, s14), (15, s15), (16, s16), (17, s17), (18, s18), (19, s19), (20, s20), (28, s28), (29, s29), (30, s30), (31, s31), (32, s32), (33, s33), (34, s34), (35, s35), (36, s36), (37, s37), (38, s38), (39, s39), (40, s40), (41, s41), (42, s42), (43, s43), (44, s44), (45, s45), (52, s52), (53, s53), (54, s54), (55, s55), (56, s56), (57, s57), (58, s58), (59, s59), (60, s60), (61, s61), (62, s62), (63, s63), (64, s64), (65, s65), (66, s66), (67, s67), (68, s68), (69, s69), (70, s70), (71, s71), (72, s72), (73, s73), (74, s74), (75, s75), (76, s76), (77, s77), (79, s79), (80, s80), (81, s81), (82, s82), (83, s83), (84, s84), (85, s85), (86, s86), (87, s87), (88, s88), (89, s89), (90, s90), (92, s92), (93, s93), (94, s94), (95, s95), (107, s107), (110, s110), (111, s111), (112, s112), (113, s113), (114, s114), (115, s115), (116, s116), (117, s117), (118, s118), (119, s119), (120, s120), (121, s121), (122, s122), (123, s123), (124, s124), (125, s125), (126, s126), (127, s127), (129, s129), (130, s130), (131, s131), (132, s132), (133, s133), (140, s140), (141, s141), (142, s142), (143, s143), (148, s148), (149, s149), (150, s150), (151, s151), (152, s152), (153, s153), (154, s154), (155, s155), (160, s160), (162, s162), (166, s166), (167, s167), (168, s168), (169, s169), (170, s170), (171, s171), (172, s172), (180, s180), (181, s181), (182, s182), (183, s183), (184, s184), (185, s185), (188, s188), (189, s189), (190, s190), (191, s191), (192, s192), (193, s193), (194, s194), (195, s195), (196, s196), (197, s197), (198, s198), (199, s199), (203, s203), (205, s205), (207, s207), (208, s208), (217, s217), (218, s218), (219, s219), (221, s221), (222, s222), (223, s223), (224, s224), (225, s225), (226, s226), (227, s227), (229, s229), (230, s230), (231, s231), (240, s240), (241, s241), (250, s250), (251, s251), (252, s252), (253, s253), (254, s254), (258, s258), (259, s259), (260, s260), (261, s261), (264, s264), (267, s267), (269, s269), (270, s270), (272, s272), (273, s273), (283, s283), (284, s284), (288, s288), (290, s290), (295, s295), (322, s322)]
def fnOf (f : Nat) : Option SF := (fns.find? fun p => p.1 == f).map (·.2)
def extOf (f : Nat) : Option (List V → List HO → Option (CR × List HO)) :=
  if f = 49 then some xBits else
  if f = 91 then some xFromBits else
  if f = 294 then some xCount else
  if f = 337 then some xIndex else
  none
def X : Env := ⟨fnOf, extOf⟩
theorem v4 (a : List V) (h : List HO) : VC X 4 a h = endOf s4 h (run X [.c s4.body] (St.init a h)) := VC_run (X := X) rfl rfl rfl rfl a h
theorem v6 (a : List V) (h : List HO) : VC X 6 a h = endOf s6 h (run X [.c s6.body] (St.init a h)) := VC_run (X := X) rfl rfl rfl rfl a h
theorem v13 (a : List V) (h : List HO) : VC X 13 a h = endOf s13 h (run X [.c s13.body] (St.init a h)) := VC_run (X := X) rfl rfl rfl rfl a h
theorem v15 (a : List V) (h : List HO) : VC X 15 a h = endOf s15 h (run X [.c s15.body] (St.init a h)) := VC_run (X := X) rfl rfl rfl rfl a h
theorem v16 (a : List V) (h : List HO) : VC X 16 a h = endOf s16 h (run X [.c s16.body] (St.init a h)) := VC_run (X := X) rfl rfl rfl rfl a h
theorem v17 (a : List V) (h : List HO) : VC X 17 a h = endOf s17 h (run X [.c s17.body] (St.init a h)) := VC_run (X := X) rfl rfl rfl rfl a h
theorem v18 (a : List V) (h : List HO) : VC X 18 a h = endOf s18 h (run X [.c s18.body] (St.init a h)) := VC_run (X := X) rfl rfl rfl rfl a h
theorem v19 (a : List V) (h : List HO) : VC X 19 a h = endOf s19 h (run X [.c s19.body] (St.init a h)) := VC_run (X := X) rfl rfl rfl rfl a h
theorem v20 (a : List V) (h : List HO) : VC X 20 a h = endOf s20 h (run X [.c s20.body] (St.init a h)) := VC_run (X := X) rfl rfl rfl rfl a h
theorem v37 (a : List V) (h : List HO) : VC X 37 a h = endOf s37 h (run X [.c s37.body] (St.init a h)) := VC_run (X := X) rfl rfl rfl rfl a h
theorem v38 (a : List V) (h : List HO) : VC X 38 a h = endOf s38 h (run X [.c s38.body] (St.init a h)) := VC_run (X := X) rfl rfl rfl rfl a h
theorem v39 (a : List V) (h : List HO) : VC X 39 a h = endOf s39 h (run X [.c s39.body] (St.init a h)) := VC_run (X := X) rfl rfl rfl rfl a h
theorem v40 (a : List V) (h : List HO) : VC X 40 a h = endOf s40 h (run X [.c s40.body] (St.init a h)) := VC_run (X := X) rfl rfl rfl rfl a h
theorem v41 (a : List V) (h : List HO) : VC X 41 a h = endOf s41 h (run X [.c s41.body] (St.init a h)) := VC_run (X := X) rfl rfl rfl rfl a h
theorem v42 (a : List V) (h : List HO) : VC X 42 a h = endOf s42 h (run X [.c s42.body] (St.init a h)) := VC_run (X := X) rfl rfl rfl rfl a h
theorem v43 (a : List V) (h : List HO) : VC X 43 a h = endOf s43 h (run X [.c s43.body] (St.init a h)) := VC_run (X := X) rfl rfl rfl rfl a h
theorem v44 (a : List V) (h : List HO) : VC X 44 a h = endOf s44 h (run X [.c s44.body] (St.init a h)) := VC_run (X := X) rfl rfl rfl rfl a h
theorem v45 (a : List V) (h : List HO) : VC X 45 a h = endOf s45 h (run X [.c s45.body] (St.init a h)) := VC_run (X := X) rfl rfl rfl rfl a h
theorem v67 (a : List V) (h : List HO) : VC X 67 a h = endOf s67 h (run X [.c s67.body] (St.init a h)) := VC_run (X := X) rfl rfl rfl rfl a h
theorem v88 (a : List V) (h : List HO) : VC X 88 a h = endOf s88 h (run X [.c s88.body] (St.init a h)) := VC_run (X := X) rfl rfl rfl rfl a h
theorem v89 (a : List V) (h : List HO) : VC X 89 a h = endOf s89 h (run X [.c s89.body] (St.init a h)) := VC_run (X := X) rfl rfl rfl rfl a h
theorem v90 (a : List V) (h : List HO) : VC X 90 a h = endOf s90 h (run X [.c s90.body] (St.init a h)) := VC_run (X := X) rfl rfl rfl rfl a h
theorem v92 (a : List V) (h : List HO) : VC X 92 a h = endOf s92 h (run X [.c s92.body] (St.init a h)) := VC_run (X := X) rfl rfl rfl rfl a h
theorem v93 (a : List V) (h : List HO) : VC X 93 a h = endOf s93 h (run X [.c s93.body] (St.init a h)) := VC_run (X := X) rfl rfl rfl rfl a h
theorem v94 (a : List V) (h : List HO) : VC X 94 a h = endOf s94 h (run X [.c s94.body] (St.init a h)) := VC_run (X := X) rfl rfl rfl rfl a h
theorem v95 (a : List V) (h : List HO) : VC X 95 a h = endOf s95 h (run X [.c s95.body] (St.init a h)) := VC_run (X := X) rfl rfl rfl rfl a h
theorem v113 (a : List V) (h : List HO) : VC X 113 a h = endOf s113 h (run X [.c s113.body] (St.init a h)) := VC_run (X := X) rfl rfl rfl rfl a h
theorem v170 (a : List V) (h : List HO) : VC X 170 a h = endOf s170 h (run X [.c s170.body] (St.init a h)) := VC_run (X := X) rfl rfl rfl rfl a h
theorem v171 (a : List V) (h : List HO) : VC X 171 a h = endOf s171 h (run X [.c s171.body] (St.init a h)) := VC_run (X := X) rfl rfl rfl rfl a h
theorem v172 (a : List V) (h : List HO) : VC X 172 a h = endOf s172 h (run X [.c s172.body] (St.init a h)) := VC_run (X := X) rfl rfl rfl rfl a h
theorem v28 (a : List V) (h : List HO) : VC X 28 a h = endOf s28 h (run X [.c s28.body] (St.init a h)) := VC_run (X := X) rfl rfl rfl rfl a h
theorem v29 (a : List V) (h : List HO) : VC X 29 a h = endOf s29 h (run X [.c s29.body] (St.init a h)) := VC_run (X := X) rfl rfl rfl rfl a h
theorem v30 (a : List V) (h : List HO) : VC X 30 a h = endOf s30 h (run X [.c s30.body] (St.init a h)) := VC_run (X := X) rfl rfl rfl rfl a h
theorem v52 (a : List V) (h : List HO) : VC X 52 a h = endOf s52 h (run X [.c s52.body] (St.init a h)) := VC_run (X := X) rfl rfl rfl rfl a h
theorem v54 (a : List V) (h : List HO) : VC X 54 a h = endOf s54 h (run X [.c s54.body] (St.init a h)) := VC_run (X := X) rfl rfl rfl rfl a h
theorem v55 (a : List V) (h : List HO) : VC X 55 a h = endOf s55 h (run X [.c s55.body] (St.init a h)) := VC_run (X := X) rfl rfl rfl rfl a h
theorem v56 (a : List V) (h : List HO) : VC X 56 a h = endOf s56 h (run X [.c s56.body] (St.init a h)) := VC_run (X := X) rfl rfl rfl rfl a h
theorem v57 (a : List V) (h : List HO) : VC X 57 a h = endOf s57 h (run X [.c s57.body] (St.init a h)) := VC_run (X := X) rfl rfl rfl rfl a h
theorem v58 (a : List V) (h : List HO) : VC X 58 a h = endOf s58 h (run X [.c s58.body] (St.init a h)) := VC_run (X := X) rfl rfl rfl rfl a h
theorem v59 (a : List V) (h : List HO) : VC X 59 a h = endOf s59 h (run X [.c s59.body] (St.init a h)) := VC_run (X := X) rfl rfl rfl rfl a h
theorem v60 (a : List V) (h : List HO) : VC X 60 a h = endOf s60 h (run X [.c s60.body] (St.init a h)) := VC_run (X := X) rfl rfl rfl rfl a h
theorem v61 (a : List V) (h : List HO) : VC X 61 a h = endOf s61 h (run X [.c s61.body] (St.init a h)) := VC_run (X := X) rfl rfl rfl rfl a h
theorem v62 (a : List V) (h : List HO) : VC X 62 a h = endOf s62 h (run X [.c s62.body] (St.init a h)) := VC_run (X := X) rfl rfl rfl rfl a h
theorem v63 (a : List V) (h : List HO) : VC X 63 a h = endOf s63 h (run X [.c s63.body] (St.init a h)) := VC_run (X := X) rfl rfl rfl rfl a h
theorem v64 (a : List V) (h : List HO) : VC X 64 a h = endOf s64 h (run X [.c s64.body] (St.init a h)) := VC_run (X := X) rfl rfl rfl rfl a h
theorem v65 (a : List V) (h : List HO) : VC X 65 a h = endOf s65 h (run X [.c s65.body] (St.init a h)) := VC_run (X := X) rfl rfl rfl rfl a h
theorem v66 (a : List V) (h : List HO) : VC X 66 a h = endOf s66 h (run X [.c s66.body] (St.init a h)) := VC_run (X := X) rfl rfl rfl rfl a h
theorem v107 (a : List V) (h : List HO) : VC X 107 a h = endOf s107 h (run X [.c s107.body] (St.init a h)) := VC_run (X := X) rfl rfl rfl rfl a h
theorem v110 (a : List V) (h : List HO) : VC X 110 a h = endOf s110 h (run X [.c s110.body] (St.init a h)) := VC_run (X := X) rfl rfl rfl rfl a h
theorem v111 (a : List V) (h : List HO) : VC X 111 a h = endOf s111 h (run X [.c s111.body] (St.init a h)) := VC_run (X := X) rfl rfl rfl rfl a h
theorem v112 (a : List V) (h : List HO) : VC X 112 a h = endOf s112 h (run X [.c s112.body] (St.init a h)) := VC_run (X := X) rfl rfl rfl rfl a h
theorem v14 (a : List V) (h : List HO) : VC X 14 a h = endOf s14 h (run X [.c s14.body] (St.init a h)) := VC_run (X := X) rfl rfl rfl rfl a h
@[simp] theorem dr13_7 : drawOk [[], [], [], [1, 2], [3], [4], [5], [6], [], [], [8, 9], [10], [11], [12], [13], [7, 14], [0, 15], [16]] r13_7 = true := by kernel_rfl
@[simp] theorem dr15_20 : drawOk [[], [0], [], [2], [1, 3], [4]] r15_20 = true := by kernel_rfl
@[simp] theorem dr16_12 : drawOk [[], [], [], [], [3], [2, 4], [5], [6], [1, 7], [], [], [10], [9, 11], [8, 12], [13], [0, 14], [15]] r16_12 = true := by kernel_rfl
@[simp] theorem dr18_15 : drawOk [[], [], [1], [0, 2], [], [4], [3, 5], [6]] r18_15 = true := by kernel_rfl
@[simp] theorem dr18_10 : drawOk [[], [], [1], [0, 2], [], [4], [5], [3, 6], [7]] r18_10 = true := by kernel_rfl
@[simp] theorem dr18_9 : drawOk [[], [], [1], [0, 2], [], [4], [5], [6], [3, 7], [], [9], [10], [11], [8, 12], [13]] r18_9 = true := by kernel_rfl
@[simp] theorem dr18_8 : drawOk [[], [], [1], [0, 2], [], [4], [5], [3, 6], [7]] r18_8 = true := by kernel_rfl
@[simp] theorem dr20_11 : drawOk [[], [], [0, 1], [2], [], [], [4, 5], [6], [3, 7]] r20_11 = true := by kernel_rfl
@[simp] theorem dr29_19 : drawOk [[], [0], [], [2], [3], [1, 4], [5], [6]] r29_19 = true := by kernel_rfl
@[simp] theorem dr57_8 : drawOk [[], [0], [], [2], [], [3, 4], [5], [6], [1, 7], [8], [9]] r57_8 = true := by kernel_rfl
@[simp] theorem dpr57_8 : panOk [[], [0], [], [2], [], [3, 4], [5], [6], [1, 7], [8], [9]] r57_8 = true := by kernel_rfl
@[simp] theorem dr59_7 : drawOk [[], [], [1], [2], [0, 3], [], [], [6], [7], [5, 8], [9], [], [10, 11], [4, 10], [12, 13]] r59_7 = true := by kernel_rfl
@[simp] theorem dr63_2 : drawOk [[], [0], [1], [2], [3], [4], [5], [6], [7], [8], [5], [10], [11], [12], [13], [9, 14], [15]] r63_2 = true := by kernel_rfl
@[simp] theorem dr66_11 : drawOk [[], [], [0, 1], [2], [], [], [4, 5], [6], [3, 7]] r66_11 = true := by kernel_rfl
@[simp] theorem dr111_7 : drawOk [[], [0], [1], [2], [2], [4], [5], [6], [7], [2], [9], [10], [11], [8, 12], [3, 13], [14]] r111_7 = true := by kernel_rfl
@[simp] theorem dr111_15 : drawOk [[], [0], [1], [2], [], [4], [5], [6], [], [7, 8], [], [10], [11], [12], [3, 9, 13], [14]] r111_15 = true := by kernel_rfl
theorem do4 : s4.drawsOk = true := by kernel_rfl
theorem do6 : s6.drawsOk = true := by kernel_rfl
theorem do9 : s9.drawsOk = true := by kernel_rfl
theorem do13 : s13.drawsOk = true := by kernel_rfl
theorem do14 : s14.drawsOk = true := by kernel_rfl
theorem do15 : s15.drawsOk = true := by kernel_rfl
theorem do16 : s16.drawsOk = true := by kernel_rfl
theorem do17 : s17.drawsOk = true := by kernel_rfl
theorem do18 : s18.drawsOk = true := by kernel_rfl
theorem do19 : s19.drawsOk = true := by kernel_rfl
theorem do20 : s20.drawsOk = true := by kernel_rfl
theorem do28 : s28.drawsOk = true := by kernel_rfl
theorem do29 : s29.drawsOk = true := by kernel_rfl
theorem do30 : s30.drawsOk = true := by kernel_rfl
theorem do31 : s31.drawsOk = true := by kernel_rfl
theorem do32 : s32.drawsOk = true := by kernel_rfl
theorem do33 : s33.drawsOk = true := by kernel_rfl
theorem do34 : s34.drawsOk = true := by kernel_rfl
theorem do35 : s35.drawsOk = true := by kernel_rfl
theorem do36 : s36.drawsOk = true := by kernel_rfl
theorem do37 : s37.drawsOk = true := by kernel_rfl
theorem do38 : s38.drawsOk = true := by kernel_rfl
theorem do39 : s39.drawsOk = true := by kernel_rfl
theorem do40 : s40.drawsOk = true := by kernel_rfl
theorem do41 : s41.drawsOk = true := by kernel_rfl
theorem do42 : s42.drawsOk = true := by kernel_rfl
theorem do43 : s43.drawsOk = true := by kernel_rfl
theorem do44 : s44.drawsOk = true := by kernel_rfl
theorem do45 : s45.drawsOk = true := by kernel_rfl
theorem do52 : s52.drawsOk = true := by kernel_rfl
theorem do53 : s53.drawsOk = true := by kernel_rfl
theorem do54 : s54.drawsOk = true := by kernel_rfl
theorem do55 : s55.drawsOk = true := by kernel_rfl
theorem do56 : s56.drawsOk = true := by kernel_rfl
theorem do57 : s57.drawsOk = true := by kernel_rfl
theorem do58 : s58.drawsOk = true := by kernel_rfl
theorem do59 : s59.drawsOk = true := by kernel_rfl
theorem do60 : s60.drawsOk = true := by kernel_rfl
theorem do61 : s61.drawsOk = true := by kernel_rfl
theorem do62 : s62.drawsOk = true := by kernel_rfl
theorem do63 : s63.drawsOk = true := by kernel_rfl
theorem do64 : s64.drawsOk = true := by kernel_rfl
theorem do65 : s65.drawsOk = true := by kernel_rfl
theorem do66 : s66.drawsOk = true := by kernel_rfl
theorem do67 : s67.drawsOk = true := by kernel_rfl
theorem do68 : s68.drawsOk = true := by kernel_rfl
theorem do69 : s69.drawsOk = true := by kernel_rfl
theorem do70 : s70.drawsOk = true := by kernel_rfl
theorem do71 : s71.drawsOk = true := by kernel_rfl
theorem do72 : s72.drawsOk = true := by kernel_rfl
theorem do73 : s73.drawsOk = true := by kernel_rfl
theorem do74 : s74.drawsOk = true := by kernel_rfl
theorem do75 : s75.drawsOk = true := by kernel_rfl
theorem do76 : s76.drawsOk = true := by kernel_rfl
theorem do77 : s77.drawsOk = true := by kernel_rfl
theorem do79 : s79.drawsOk = true := by kernel_rfl
theorem do80 : s80.drawsOk = true := by kernel_rfl
theorem do81 : s81.drawsOk = true := by kernel_rfl
theorem do82 : s82.drawsOk = true := by kernel_rfl
theorem do83 : s83.drawsOk = true := by kernel_rfl
theorem do84 : s84.drawsOk = true := by kernel_rfl
theorem do85 : s85.drawsOk = true := by kernel_rfl
theorem do86 : s86.drawsOk = true := by kernel_rfl
theorem do87 : s87.drawsOk = true := by kernel_rfl
theorem do88 : s88.drawsOk = true := by kernel_rfl
theorem do89 : s89.drawsOk = true := by kernel_rfl
theorem do90 : s90.drawsOk = true := by kernel_rfl
theorem do92 : s92.drawsOk = true := by kernel_rfl
theorem do93 : s93.drawsOk = true := by kernel_rfl
theorem do94 : s94.drawsOk = true := by kernel_rfl
theorem do95 : s95.drawsOk = true := by kernel_rfl
theorem do107 : s107.drawsOk = true := by kernel_rfl
theorem do110 : s110.drawsOk = true := by kernel_rfl
theorem do111 : s111.drawsOk = true := by kernel_rfl
theorem do112 : s112.drawsOk = true := by kernel_rfl
theorem do113 : s113.drawsOk = true := by kernel_rfl
theorem do114 : s114.drawsOk = true := by kernel_rfl
theorem do115 : s115.drawsOk = true := by kernel_rfl
theorem do116 : s116.drawsOk = true := by kernel_rfl
theorem do117 : s117.drawsOk = true := by kernel_rfl
theorem do118 : s118.drawsOk = true := by kernel_rfl
theorem do119 : s119.drawsOk = true := by kernel_rfl
theorem do120 : s120.drawsOk = true := by kernel_rfl
theorem do121 : s121.drawsOk = true := by kernel_rfl
theorem do122 : s122.drawsOk = true := by kernel_rfl
theorem do123 : s123.drawsOk = true := by kernel_rfl
theorem do124 : s124.drawsOk = true := by kernel_rfl
theorem do125 : s125.drawsOk = true := by kernel_rfl
theorem do126 : s126.drawsOk = true := by kernel_rfl
theorem do127 : s127.drawsOk = true := by kernel_rfl
theorem do129 : s129.drawsOk = true := by kernel_rfl
theorem do130 : s130.drawsOk = true := by kernel_rfl
theorem do131 : s131.drawsOk = true := by kernel_rfl
theorem do132 : s132.drawsOk = true := by kernel_rfl
theorem do133 : s133.drawsOk = true := by kernel_rfl
theorem do140 : s140.drawsOk = true := by kernel_rfl
theorem do141 : s141.drawsOk = true := by kernel_rfl
theorem do142 : s142.drawsOk = true := by kernel_rfl
theorem do143 : s143.drawsOk = true := by kernel_rfl
theorem do148 : s148.drawsOk = true := by kernel_rfl
theorem do149 : s149.drawsOk = true := by kernel_rfl
theorem do150 : s150.drawsOk = true := by kernel_rfl
theorem do151 : s151.drawsOk = true := by kernel_rfl
theorem do152 : s152.drawsOk = true := by kernel_rfl
theorem do153 : s153.drawsOk = true := by kernel_rfl
theorem do154 : s154.drawsOk = true := by kernel_rfl
theorem do155 : s155.drawsOk = true := by kernel_rfl
theorem do160 : s160.drawsOk = true := by kernel_rfl
theorem do162 : s162.drawsOk = true := by kernel_rfl
theorem do166 : s166.drawsOk = true := by kernel_rfl
theorem do167 : s167.drawsOk = true := by kernel_rfl
theorem do168 : s168.drawsOk = true := by kernel_rfl
theorem do169 : s169.drawsOk = true := by kernel_rfl
theorem do170 : s170.drawsOk = true := by kernel_rfl
theorem do171 : s171.drawsOk = true := by kernel_rfl
theorem do172 : s172.drawsOk = true := by kernel_rfl
theorem do180 : s180.drawsOk = true := by kernel_rfl
theorem do181 : s181.drawsOk = true := by kernel_rfl
theorem do182 : s182.drawsOk = true := by kernel_rfl
theorem do183 : s183.drawsOk = true := by kernel_rfl
theorem do184 : s184.drawsOk = true := by kernel_rfl
theorem do185 : s185.drawsOk = true := by kernel_rfl
theorem do188 : s188.drawsOk = true := by kernel_rfl
theorem do189 : s189.drawsOk = true := by kernel_rfl
theorem do190 : s190.drawsOk = true := by kernel_rfl
theorem do191 : s191.drawsOk = true := by kernel_rfl
theorem do192 : s192.drawsOk = true := by kernel_rfl
theorem do193 : s193.drawsOk = true := by kernel_rfl
theorem do194 : s194.drawsOk = true := by kernel_rfl
theorem do195 : s195.drawsOk = true := by kernel_rfl
theorem do196 : s196.drawsOk = true := by kernel_rfl
theorem do197 : s197.drawsOk = true := by kernel_rfl
theorem do198 : s198.drawsOk = true := by kernel_rfl
theorem do199 : s199.drawsOk = true := by kernel_rfl
theorem do203 : s203.drawsOk = true := by kernel_rfl
theorem do205 : s205.drawsOk = true := by kernel_rfl
theorem do207 : s207.drawsOk = true := by kernel_rfl
theorem do208 : s208.drawsOk = true := by kernel_rfl
theorem do217 : s217.drawsOk = true := by kernel_rfl
theorem do218 : s218.drawsOk = true := by kernel_rfl
theorem do219 : s219.drawsOk = true := by kernel_rfl
theorem do221 : s221.drawsOk = true := by kernel_rfl
theorem do222 : s222.drawsOk = true := by kernel_rfl
theorem do223 : s223.drawsOk = true := by kernel_rfl
theorem do224 : s224.drawsOk = true := by kernel_rfl
theorem do225 : s225.drawsOk = true := by kernel_rfl
theorem do226 : s226.drawsOk = true := by kernel_rfl
theorem do227 : s227.drawsOk = true := by kernel_rfl
theorem do229 : s229.drawsOk = true := by kernel_rfl
theorem do230 : s230.drawsOk = true := by kernel_rfl
theorem do231 : s231.drawsOk = true := by kernel_rfl
theorem do240 : s240.drawsOk = true := by kernel_rfl
theorem do241 : s241.drawsOk = true := by kernel_rfl
theorem do250 : s250.drawsOk = true := by kernel_rfl
theorem do251 : s251.drawsOk = true := by kernel_rfl
theorem do252 : s252.drawsOk = true := by kernel_rfl
theorem do253 : s253.drawsOk = true := by kernel_rfl
theorem do254 : s254.drawsOk = true := by kernel_rfl
theorem do258 : s258.drawsOk = true := by kernel_rfl
theorem do259 : s259.drawsOk = true := by kernel_rfl
theorem do260 : s260.drawsOk = true := by kernel_rfl
theorem do261 : s261.drawsOk = true := by kernel_rfl
theorem do264 : s264.drawsOk = true := by kernel_rfl
theorem do267 : s267.drawsOk = true := by kernel_rfl
theorem do269 : s269.drawsOk = true := by kernel_rfl
theorem do270 : s270.drawsOk = true := by kernel_rfl
theorem do272 : s272.drawsOk = true := by kernel_rfl
theorem do273 : s273.drawsOk = true := by kernel_rfl
theorem do283 : s283.drawsOk = true := by kernel_rfl
theorem do284 : s284.drawsOk = true := by kernel_rfl
theorem do288 : s288.drawsOk = true := by kernel_rfl
theorem do290 : s290.drawsOk = true := by kernel_rfl
theorem do295 : s295.drawsOk = true := by kernel_rfl
theorem do322 : s322.drawsOk = true := by kernel_rfl
theorem drawsAll : ∀ p ∈ fns, p.2.drawsOk = true := by
  unfold fns
  simp only [List.forall_mem_cons]
  exact ⟨do4, do6, do9, do13, do14, do15, do16, do17, do18, do19, do20, do28, do29, do30, do31, do32, do33, do34, do35, do36, do37, do38, do39, do40, do41, do42, do43, do44, do45, do52, do53, do54, do55, do56, do57, do58, do59, do60, do61, do62, do63, do64, do65, do66, do67, do68, do69, do70, do71, do72, do73, do74, do75, do76, do77, do79, do80, do81, do82, do83, do84, do85, do86, do87, do88, do89, do90, do92, do93, do94, do95, do107, do110, do111, do112, do113, do114, do115, do116, do117, do118, do119, do120, do121, do122, do123, do124, do125, do126, do127, do129, do130, do131, do132, do133, do140, do141, do142, do143, do148, do149, do150, do151, do152, do153, do154, do155, do160, do162, do166, do167, do168, do169, do170, do171, do172, do180, do181, do182, do183, do184, do185, do188, do189, do190, do191, do192, do193, do194, do195, do196, do197, do198, do199, do203, do205, do207, do208, do217, do218, do219, do221, do222, do223, do224, do225, do226, do227, do229, do230, do231, do240, do241, do250, do251, do252, do253, do254, do258, do259, do260, do261, do264, do267, do269, do270, do272, do273, do283, do284, do288, do290, do295, do322, by simp⟩
theorem draws_ok : ∀ f sf, X.fn f = some sf → sf.drawsOk = true := by
  intro f sf h
  obtain ⟨p, hp, rfl⟩ := Option.map_eq_some_iff.1 (show (fns.find? fun p => p.1 == f).map (·.2) = some sf from h)
  exact drawsAll p (List.mem_of_find?_eq_some hp)
end Go.Vm.Tryz
end
