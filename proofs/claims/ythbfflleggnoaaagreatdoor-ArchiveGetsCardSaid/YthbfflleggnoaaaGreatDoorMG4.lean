/- The functions as the VM's code. -/
import Derived.Test.YthbfflleggnoaaaGreatDoorMG1
section
set_option linter.unusedVariables false
set_option linter.unusedSimpArgs false
namespace Go.Vm.Tryz
open Go Go.Vm
/-! crannog/crannoglaw26.ArchiveGets -/
abbrev r6_1 : List SOper := [
  ⟨some 2, none, .mov (.c (.bool false))⟩]
abbrev r6_2 : List SOper := [
  ⟨some 7, none, .mov (.t 0)⟩,
  ⟨some 8, none, .len 0 (.t 7)⟩,
  ⟨some 9, none, .bin .gtr (.t 8) (.c (.int .i64 4096))⟩]
abbrev r6_3 : List SOper := [
  ⟨some 10, none, .call false (.c (.func 14 [])) []⟩,
  ⟨some 2, none, .mov (.t 10)⟩]
abbrev c6_4 : SC := .seq (.ops r6_3) (.ret)
abbrev c6_5 : SC := .cond (.t 9) c6_4 (.skip)
abbrev c6_6 : SC := .seq (.ops r6_2) c6_5
abbrev r6_7 : List SOper := [
  ⟨some 12, none, .mov (.t 0)⟩,
  ⟨some 13, none, .call false (.c (.func 28 [])) [.t 12]⟩,
  ⟨some 11, none, .mov (.t 13)⟩,
  ⟨some 14, none, .extract (.t 11) 0⟩,
  ⟨some 15, none, .extract (.t 11) 1⟩,
  ⟨some 3, none, .mov (.t 14)⟩,
  ⟨some 4, none, .mov (.t 15)⟩]
abbrev r6_8 : List SOper := [
  ⟨some 17, none, .mov (.t 0)⟩,
  ⟨some 18, none, .call false (.c (.func 29 [])) [.t 17]⟩,
  ⟨some 16, none, .mov (.t 18)⟩,
  ⟨some 19, none, .extract (.t 16) 0⟩,
  ⟨some 20, none, .extract (.t 16) 1⟩,
  ⟨some 5, none, .mov (.t 19)⟩,
  ⟨some 6, none, .mov (.t 20)⟩]
abbrev r6_9 : List SOper := [
  ⟨some 21, none, .mov (.t 3)⟩,
  ⟨some 22, none, .call false (.c (.func 17 [])) [.t 21]⟩,
  ⟨some 23, none, .mov (.t 5)⟩,
  ⟨some 24, none, .call false (.c (.func 30 [])) [.t 22, .t 23]⟩,
  ⟨some 25, none, .mov (.t 24)⟩,
  ⟨some 26, some (25, true), .mov (.t 4)⟩,
  ⟨some 27, some (25, true), .mov (.t 6)⟩,
  ⟨some 28, some (25, true), .bin .eql (.t 26) (.t 27)⟩,
  ⟨some 29, none, .pick (.t 25) (.t 28) (.c (.bool false))⟩,
  ⟨some 30, none, .mov (.t 29)⟩,
  ⟨some 31, some (30, true), .call false (.c (.func 14 [])) []⟩,
  ⟨some 32, none, .pick (.t 30) (.t 31) (.c (.bool false))⟩,
  ⟨some 2, none, .mov (.t 32)⟩]
abbrev c6_10 : SC := .seq (.ops r6_9) (.ret)
abbrev c6_11 : SC := .seq (.ops r6_8) c6_10
abbrev c6_12 : SC := .seq (.ops r6_7) c6_11
abbrev c6_13 : SC := .seq c6_6 c6_12
abbrev c6_14 : SC := .seq (.ops r6_1) c6_13
def s6 : SF := ⟨[.t 2], c6_14, false, none, none⟩
/-! crannog/calls.Bytes -/
abbrev r9_1 : List SOper := [
  ⟨some 1, none, .boxL (.t 0)⟩,
  ⟨some 2, none, .mov (.c (.str []))⟩]
abbrev r9_2 : List SOper := [
  ⟨some 6, none, .faddr 8 (.t 1)⟩,
  ⟨some 7, none, .faddr 2 (.t 6)⟩,
  ⟨some 8, none, .load false false 1 (.t 7)⟩,
  ⟨some 9, none, .minmax false [.t 8, .c (.int .i64 1024)]⟩,
  ⟨some 10, none, .minmax true [.c (.int .i64 0), .t 9]⟩,
  ⟨some 11, none, .mkslice none 1 1 (.int .u8 0) (.t 10) (.t 10)⟩,
  ⟨some 3, none, .mov (.t 11)⟩]
abbrev r9_3 : List SOper := [
  ⟨some 12, none, .faddr 11 (.t 1)⟩,
  ⟨some 13, none, .load false false 1 (.t 12)⟩,
  ⟨some 14, none, .len 1 (.t 13)⟩,
  ⟨some 15, none, .mov (.c (.int .i64 0))⟩]
abbrev r9_4 : List SOper := [
  ⟨some 16, none, .bin .lss (.t 15) (.t 14)⟩]
abbrev c9_5 : SC := .cond (.t 16) (.skip) (.exit 0)
abbrev r9_6 : List SOper := [
  ⟨some 17, none, .iaddr none 4 (.t 13) (.t 15)⟩,
  ⟨some 18, none, .load false true 4 (.t 17)⟩,
  ⟨some 5, none, .allocL [.int .i64 0, .int .i64 0, .int .i64 0, .str []]⟩,
  ⟨none, none, .store 4 (.t 5) (.t 18)⟩]
abbrev r9_7 : List SOper := [
  ⟨some 19, none, .faddr 0 (.t 5)⟩,
  ⟨some 20, none, .load false false 1 (.t 19)⟩,
  ⟨some 21, none, .bin .geq (.t 20) (.c (.int .i64 0))⟩,
  ⟨some 22, none, .mov (.t 21)⟩,
  ⟨some 23, some (22, true), .faddr 0 (.t 5)⟩,
  ⟨some 24, some (22, true), .load false false 1 (.t 23)⟩,
  ⟨some 25, some (22, true), .bin .lss (.t 24) (.c (.int .i64 16))⟩,
  ⟨some 26, none, .pick (.t 22) (.t 25) (.c (.bool false))⟩,
  ⟨some 27, none, .mov (.t 26)⟩,
  ⟨some 28, some (27, true), .faddr 0 (.t 5)⟩,
  ⟨some 29, some (27, true), .load false false 1 (.t 28)⟩,
  ⟨some 30, some (27, true), .bin .mul (.t 29) (.c (.int .i64 64))⟩,
  ⟨some 31, some (27, true), .mov (.t 3)⟩,
  ⟨some 32, some (27, true), .len 1 (.t 31)⟩,
  ⟨some 33, some (27, true), .bin .lss (.t 30) (.t 32)⟩,
  ⟨some 34, none, .pick (.t 27) (.t 33) (.c (.bool false))⟩]
abbrev r9_8 : List SOper := [
  ⟨some 35, none, .mov (.t 3)⟩,
  ⟨some 36, none, .faddr 0 (.t 5)⟩,
  ⟨some 37, none, .load false false 1 (.t 36)⟩,
  ⟨some 38, none, .bin .mul (.t 37) (.c (.int .i64 64))⟩,
  ⟨some 39, none, .slice false 1 (.t 35) (some (.t 38)) none none⟩,
  ⟨some 40, none, .faddr 3 (.t 5)⟩,
  ⟨some 41, none, .load false false 1 (.t 40)⟩,
  ⟨some 42, none, .faddr 3 (.t 5)⟩,
  ⟨some 43, none, .load false false 1 (.t 42)⟩,
  ⟨some 44, none, .len 0 (.t 43)⟩,
  ⟨some 45, none, .minmax false [.t 44, .c (.int .i64 64)]⟩,
  ⟨some 46, none, .slice true 1 (.t 41) none (some (.t 45)) none⟩,
  ⟨some 47, none, .copy (.t 39) (.t 46)⟩]
abbrev c9_9 : SC := .cond (.t 34) (.draw 0 [[], [], [1], [2], [0, 3], [], [5], [], [7], [8], [9], [6, 10], [4, 11]] r9_8) (.skip)
abbrev c9_10 : SC := .seq (.ops r9_7) c9_9
abbrev c9_11 : SC := .seq (.ops r9_6) c9_10
abbrev c9_12 : SC := .block 1 [3, 13, 14, 15] [] c9_11
abbrev r9_13 : List SOper := [
  ⟨some 48, none, .bin .add (.t 15) (.c (.int .i64 1))⟩,
  ⟨some 15, none, .mov (.t 48)⟩]
abbrev c9_14 : SC := .seq c9_12 (.ops r9_13)
abbrev c9_15 : SC := .seq c9_5 c9_14
abbrev c9_16 : SC := .seq (.ops r9_4) c9_15
abbrev L9_1 : SC := .loop [3, 13, 14, 15] [] c9_16
abbrev c9_17 : SC := .block 0 [3] [] L9_1
abbrev c9_18 : SC := .seq (.ops r9_3) c9_17
abbrev r9_19 : List SOper := [
  ⟨some 49, none, .mov (.t 3)⟩,
  ⟨some 50, none, .cvBS (.t 49)⟩,
  ⟨some 2, none, .mov (.t 50)⟩]
abbrev c9_20 : SC := .seq (.ops r9_19) (.ret)
abbrev c9_21 : SC := .seq c9_18 c9_20
abbrev c9_22 : SC := .seq (.ops r9_2) c9_21
abbrev c9_23 : SC := .seq (.ops r9_1) c9_22
def s9 : SF := ⟨[.t 2], c9_23, false, none, none⟩
/-! crannog/crannoglaw26.awake -/
abbrev r14_1 : List SOper := [
  ⟨some 0, none, .mov (.c (.bool false))⟩]
abbrev r14_2 : List SOper := [
  ⟨some 6, none, .call false (.c (.func 31 [])) []⟩,
  ⟨some 7, none, .build [.int .i64 0, .str [], .str [], .int .i64 0, .int .i64 0, .str [], .float .f64 0] [(0, 1, .c (.int .i64 1)), (1, 1, .c (.str [47, 100]))]⟩,
  ⟨some 8, none, .build [.int .i64 0, .str [], .str [], .int .i64 0, .int .i64 0, .str [], .float .f64 0] [(0, 1, .c (.int .i64 2)), (1, 1, .c (.str [47, 100, 47, 102]))]⟩,
  ⟨some 9, none, .build [.int .i64 0, .str [], .str [], .int .i64 0, .int .i64 0, .str [], .float .f64 0] [(0, 1, .c (.int .i64 3)), (1, 1, .c (.str [47, 100, 47, 102])), (2, 1, .c (.str [47, 100, 47, 103]))]⟩,
  ⟨some 10, none, .bsnap 7 [.t 7, .t 8, .t 9]⟩,
  ⟨some 11, none, .call false (.c (.func 35 [])) [.t 6, .t 10]⟩,
  ⟨some 5, none, .mov (.t 11)⟩,
  ⟨some 12, none, .extract (.t 5) 0⟩,
  ⟨some 13, none, .extract (.t 5) 1⟩,
  ⟨some 1, none, .allocL [.int .i64 0, .int .i64 0, .int .i64 0, .int .i64 0, .int .i64 0, .int .i64 0, .int .i64 0, .int .i64 0, .nils, .nils]⟩,
  ⟨none, none, .store 10 (.t 1) (.t 12)⟩,
  ⟨some 2, none, .mov (.t 13)⟩]
abbrev r14_3 : List SOper := [
  ⟨some 15, none, .load false true 10 (.t 1)⟩,
  ⟨some 16, none, .call false (.c (.func 36 [])) [.t 15, .c (.str [47, 100])]⟩,
  ⟨some 14, none, .mov (.t 16)⟩,
  ⟨some 17, none, .extract (.t 14) 0⟩,
  ⟨some 18, none, .extract (.t 14) 1⟩,
  ⟨some 3, none, .mov (.t 17)⟩,
  ⟨some 4, none, .mov (.t 18)⟩]
abbrev r14_4 : List SOper := [
  ⟨some 19, none, .mov (.t 2)⟩,
  ⟨some 20, none, .mov (.t 19)⟩,
  ⟨some 21, some (20, true), .mov (.t 4)⟩,
  ⟨some 22, some (20, true), .bin .eql (.t 21) (.c (.int .i64 0))⟩,
  ⟨some 23, none, .pick (.t 20) (.t 22) (.c (.bool false))⟩,
  ⟨some 24, none, .mov (.t 23)⟩,
  ⟨some 25, some (24, true), .mov (.t 3)⟩,
  ⟨some 26, some (24, true), .len 1 (.t 25)⟩,
  ⟨some 27, some (24, true), .bin .eql (.t 26) (.c (.int .i64 2))⟩,
  ⟨some 28, none, .pick (.t 24) (.t 27) (.c (.bool false))⟩,
  ⟨some 29, none, .mov (.t 28)⟩,
  ⟨some 30, some (29, true), .mov (.t 3)⟩,
  ⟨some 31, some (29, true), .iaddr none 7 (.t 30) (.c (.int .i64 0))⟩,
  ⟨some 32, some (29, true), .faddr 0 (.t 31)⟩,
  ⟨some 33, some (29, true), .load false false 1 (.t 32)⟩,
  ⟨some 34, some (29, true), .bin .eql (.t 33) (.c (.str [47, 102]))⟩,
  ⟨some 35, none, .pick (.t 29) (.t 34) (.c (.bool false))⟩,
  ⟨some 36, none, .mov (.t 35)⟩,
  ⟨some 37, some (36, true), .mov (.t 3)⟩,
  ⟨some 38, some (36, true), .iaddr none 7 (.t 37) (.c (.int .i64 0))⟩,
  ⟨some 39, some (36, true), .faddr 6 (.t 38)⟩,
  ⟨some 40, some (36, true), .load false false 1 (.t 39)⟩,
  ⟨some 41, some (36, true), .bin .eql (.t 40) (.c (.int .i64 (-1)))⟩,
  ⟨some 42, none, .pick (.t 36) (.t 41) (.c (.bool false))⟩,
  ⟨some 43, none, .mov (.t 42)⟩,
  ⟨some 44, some (43, true), .mov (.t 3)⟩,
  ⟨some 45, some (43, true), .iaddr none 7 (.t 44) (.c (.int .i64 1))⟩,
  ⟨some 46, some (43, true), .faddr 0 (.t 45)⟩,
  ⟨some 47, some (43, true), .load false false 1 (.t 46)⟩,
  ⟨some 48, some (43, true), .bin .eql (.t 47) (.c (.str [47, 103]))⟩,
  ⟨some 49, none, .pick (.t 43) (.t 48) (.c (.bool false))⟩,
  ⟨some 50, none, .mov (.t 49)⟩,
  ⟨some 51, some (50, true), .mov (.t 3)⟩,
  ⟨some 52, some (50, true), .iaddr none 7 (.t 51) (.c (.int .i64 1))⟩,
  ⟨some 53, some (50, true), .faddr 6 (.t 52)⟩,
  ⟨some 54, some (50, true), .load false false 1 (.t 53)⟩,
  ⟨some 55, some (50, true), .bin .eql (.t 54) (.c (.int .i64 0))⟩,
  ⟨some 56, none, .pick (.t 50) (.t 55) (.c (.bool false))⟩,
  ⟨some 0, none, .mov (.t 56)⟩]
abbrev c14_5 : SC := .seq (.ops r14_4) (.ret)
abbrev c14_6 : SC := .seq (.ops r14_3) c14_5
abbrev c14_7 : SC := .seq (.ops r14_2) c14_6
abbrev c14_8 : SC := .seq (.ops r14_1) c14_7
def s14 : SF := ⟨[.t 0], c14_8, false, none, none⟩
/-! crannog/crannoglaw26.also -/
abbrev r17_1 : List SOper := [
  ⟨some 2, none, .mov (.c (.nils))⟩]
abbrev r17_2 : List SOper := [
  ⟨some 3, none, .mov (.c (.nils))⟩]
abbrev r17_3 : List SOper := [
  ⟨some 6, none, .mov (.t 0)⟩,
  ⟨some 7, none, .len 1 (.t 6)⟩,
  ⟨some 8, none, .mov (.c (.int .i64 0))⟩]
abbrev r17_4 : List SOper := [
  ⟨some 9, none, .bin .lss (.t 8) (.t 7)⟩]
abbrev c17_5 : SC := .cond (.t 9) (.skip) (.exit 0)
abbrev r17_6 : List SOper := [
  ⟨some 10, none, .iaddr none 7 (.t 6) (.t 8)⟩,
  ⟨some 11, none, .load false true 7 (.t 10)⟩,
  ⟨some 5, none, .allocL [.str [], .int .i64 0, .int .i64 0, .int .u64 0, .str [], .nils, .int .i64 0]⟩,
  ⟨none, none, .store 7 (.t 5) (.t 11)⟩]
abbrev r17_7 : List SOper := [
  ⟨some 12, none, .mov (.t 3)⟩,
  ⟨some 13, none, .faddr 0 (.t 5)⟩,
  ⟨some 14, none, .load false false 1 (.t 13)⟩,
  ⟨some 15, none, .faddr 1 (.t 5)⟩,
  ⟨some 16, none, .load false false 1 (.t 15)⟩,
  ⟨some 17, none, .faddr 2 (.t 5)⟩,
  ⟨some 18, none, .load false false 1 (.t 17)⟩,
  ⟨some 19, none, .faddr 3 (.t 5)⟩,
  ⟨some 20, none, .load false false 1 (.t 19)⟩,
  ⟨some 21, none, .faddr 4 (.t 5)⟩,
  ⟨some 22, none, .load false false 1 (.t 21)⟩,
  ⟨some 23, none, .faddr 5 (.t 5)⟩,
  ⟨some 24, none, .load false false 1 (.t 23)⟩,
  ⟨some 25, none, .faddr 6 (.t 5)⟩,
  ⟨some 26, none, .load false false 1 (.t 25)⟩,
  ⟨some 27, none, .build [.str [], .int .i64 0, .int .i64 0, .int .u64 0, .str [], .nils, .int .i64 0, .int .i64 0, .int .i64 0] [(0, 1, .t 14), (1, 1, .t 16), (2, 1, .t 18), (3, 1, .t 20), (4, 1, .t 22), (5, 1, .t 24), (6, 1, .t 26)]⟩,
  ⟨some 28, none, .bsnap 9 [.t 27]⟩,
  ⟨some 29, none, .append 9 104 (.t 12) (.t 28)⟩,
  ⟨some 3, none, .mov (.t 29)⟩]
abbrev c17_8 : SC := .seq (.ops r17_6) (.ops r17_7)
abbrev c17_9 : SC := .block 1 [3, 6, 7, 8] [] c17_8
abbrev r17_10 : List SOper := [
  ⟨some 30, none, .bin .add (.t 8) (.c (.int .i64 1))⟩,
  ⟨some 8, none, .mov (.t 30)⟩]
abbrev c17_11 : SC := .seq c17_9 (.ops r17_10)
abbrev c17_12 : SC := .seq c17_5 c17_11
abbrev c17_13 : SC := .seq (.ops r17_4) c17_12
abbrev L17_1 : SC := .loop [3, 6, 7, 8] [] c17_13
abbrev c17_14 : SC := .block 0 [3] [] L17_1
abbrev c17_15 : SC := .seq (.ops r17_3) c17_14
abbrev r17_16 : List SOper := [
  ⟨some 31, none, .mov (.t 3)⟩,
  ⟨some 2, none, .mov (.t 31)⟩]
abbrev c17_17 : SC := .seq (.ops r17_16) (.ret)
abbrev c17_18 : SC := .seq c17_15 c17_17
abbrev c17_19 : SC := .seq (.ops r17_2) c17_18
abbrev c17_20 : SC := .seq (.ops r17_1) c17_19
def s17 : SF := ⟨[.t 2], c17_20, false, none, none⟩
/-! crannog/archive.Get -/
abbrev r28_1 : List SOper := [
  ⟨some 2, none, .mov (.c (.nils))⟩,
  ⟨some 3, none, .mov (.c (.int .i64 0))⟩]
abbrev r28_2 : List SOper := [
  ⟨some 9, none, .mov (.t 0)⟩,
  ⟨some 10, none, .call false (.c (.func 52 [])) [.t 9]⟩,
  ⟨some 8, none, .mov (.t 10)⟩,
  ⟨some 11, none, .extract (.t 8) 0⟩,
  ⟨some 12, none, .extract (.t 8) 1⟩,
  ⟨some 4, none, .mov (.t 11)⟩,
  ⟨some 5, none, .mov (.t 12)⟩]
abbrev r28_3 : List SOper := [
  ⟨some 13, none, .mov (.t 5)⟩,
  ⟨some 14, none, .un .not (.t 13)⟩]
abbrev r28_4 : List SOper := [
  ⟨some 2, none, .mov (.c (.nils))⟩,
  ⟨some 3, none, .mov (.c (.int .i64 201))⟩]
abbrev c28_5 : SC := .seq (.ops r28_4) (.ret)
abbrev c28_6 : SC := .cond (.t 14) c28_5 (.skip)
abbrev c28_7 : SC := .seq (.ops r28_3) c28_6
abbrev r28_8 : List SOper := [
  ⟨some 6, none, .allocH none [.nils]⟩]
abbrev r28_9 : List SOper := [
  ⟨some 15, none, .mov (.t 4)⟩,
  ⟨some 16, none, .cvSB (.t 15)⟩,
  ⟨some 17, none, .mkfn 54 [.t 6]⟩,
  ⟨some 18, none, .call false (.c (.func 53 [])) [.t 16, .t 17]⟩,
  ⟨some 7, none, .mov (.t 18)⟩]
abbrev r28_10 : List SOper := [
  ⟨some 19, none, .mov (.t 7)⟩,
  ⟨some 20, none, .bin .neq (.t 19) (.c (.int .i64 0))⟩]
abbrev r28_11 : List SOper := [
  ⟨some 2, none, .mov (.c (.nils))⟩,
  ⟨some 3, none, .mov (.c (.int .i64 201))⟩]
abbrev c28_12 : SC := .seq (.ops r28_11) (.ret)
abbrev c28_13 : SC := .cond (.t 20) c28_12 (.skip)
abbrev c28_14 : SC := .seq (.ops r28_10) c28_13
abbrev r28_15 : List SOper := [
  ⟨some 21, none, .load false false 1 (.t 6)⟩,
  ⟨some 2, none, .mov (.t 21)⟩,
  ⟨some 3, none, .mov (.c (.int .i64 0))⟩]
abbrev c28_16 : SC := .seq (.ops r28_15) (.ret)
abbrev c28_17 : SC := .seq c28_14 c28_16
abbrev c28_18 : SC := .seq (.ops r28_9) c28_17
abbrev c28_19 : SC := .seq (.ops r28_8) c28_18
abbrev c28_20 : SC := .seq c28_7 c28_19
abbrev c28_21 : SC := .seq (.ops r28_2) c28_20
abbrev c28_22 : SC := .seq (.ops r28_1) c28_21
def s28 : SF := ⟨[.t 2, .t 3], c28_22, false, none, none⟩
/-! crannog/crannogref26.Get -/
abbrev r29_1 : List SOper := [
  ⟨some 2, none, .mov (.c (.nils))⟩,
  ⟨some 3, none, .mov (.c (.int .i64 0))⟩]
abbrev r29_2 : List SOper := [
  ⟨some 13, none, .mov (.t 0)⟩,
  ⟨some 14, none, .call false (.c (.func 59 [])) [.t 13]⟩,
  ⟨some 12, none, .mov (.t 14)⟩,
  ⟨some 15, none, .extract (.t 12) 0⟩,
  ⟨some 16, none, .extract (.t 12) 1⟩,
  ⟨some 4, none, .mov (.t 15)⟩,
  ⟨some 5, none, .mov (.t 16)⟩]
abbrev r29_3 : List SOper := [
  ⟨some 17, none, .mov (.t 4)⟩,
  ⟨some 18, none, .build [.str [], .int .i64 0, .bool false, .int .i64 0] [(0, 1, .t 17)]⟩,
  ⟨some 19, none, .boxH none (.t 18)⟩,
  ⟨some 6, none, .mov (.t 19)⟩]
abbrev r29_4 : List SOper := [
  ⟨some 20, none, .mov (.t 6)⟩,
  ⟨some 21, none, .call false (.c (.func 60 [])) [.t 20, .c (.int .i64 2)]⟩,
  ⟨some 7, none, .mov (.t 21)⟩]
abbrev r29_5 : List SOper := [
  ⟨some 22, none, .mov (.t 5)⟩,
  ⟨some 23, none, .un .not (.t 22)⟩,
  ⟨some 24, none, .mov (.t 23)⟩,
  ⟨some 25, some (24, false), .mov (.t 7)⟩,
  ⟨some 26, some (24, false), .bin .gtr (.t 25) (.c (.int .i64 1000))⟩,
  ⟨some 27, none, .pick (.t 24) (.c (.bool true)) (.t 26)⟩]
abbrev r29_6 : List SOper := [
  ⟨some 2, none, .mov (.c (.nils))⟩,
  ⟨some 3, none, .mov (.c (.int .i64 201))⟩]
abbrev c29_7 : SC := .seq (.ops r29_6) (.ret)
abbrev c29_8 : SC := .cond (.t 27) c29_7 (.skip)
abbrev c29_9 : SC := .seq (.ops r29_5) c29_8
abbrev r29_10 : List SOper := [
  ⟨some 8, none, .mov (.c (.nils))⟩]
abbrev r29_11 : List SOper := [
  ⟨some 28, none, .mov (.t 7)⟩,
  ⟨some 29, none, .mov (.c (.int .i64 0))⟩]
abbrev r29_12 : List SOper := [
  ⟨some 30, none, .bin .lss (.t 29) (.t 28)⟩]
abbrev c29_13 : SC := .cond (.t 30) (.skip) (.exit 0)
abbrev r29_14 : List SOper := [
  ⟨some 31, none, .mov (.t 6)⟩,
  ⟨some 32, none, .call false (.c (.func 61 [])) [.t 31, .c (.int .i64 8192)]⟩,
  ⟨some 33, none, .build [.str [], .int .i64 0, .int .i64 0, .int .u64 0, .str [], .nils, .int .i64 0, .int .i64 0, .int .i64 0] [(0, 1, .t 32)]⟩,
  ⟨some 9, none, .allocL [.str [], .int .i64 0, .int .i64 0, .int .u64 0, .str [], .nils, .int .i64 0, .int .i64 0, .int .i64 0]⟩,
  ⟨none, none, .store 9 (.t 9) (.t 33)⟩]
abbrev r29_15 : List SOper := [
  ⟨some 34, none, .mov (.t 6)⟩,
  ⟨some 35, none, .call false (.c (.func 60 [])) [.t 34, .c (.int .i64 1)]⟩,
  ⟨some 36, none, .faddr 1 (.t 9)⟩,
  ⟨none, none, .store 1 (.t 36) (.t 35)⟩]
abbrev r29_16 : List SOper := [
  ⟨some 37, none, .mov (.t 6)⟩,
  ⟨some 38, none, .call false (.c (.func 60 [])) [.t 37, .c (.int .i64 2)]⟩,
  ⟨some 39, none, .bin .sub (.t 38) (.c (.int .i64 1))⟩,
  ⟨some 40, none, .faddr 6 (.t 9)⟩,
  ⟨none, none, .store 1 (.t 40) (.t 39)⟩]
abbrev r29_17 : List SOper := [
  ⟨some 41, none, .mov (.t 6)⟩,
  ⟨some 42, none, .call false (.c (.func 60 [])) [.t 41, .c (.int .i64 2)]⟩,
  ⟨some 43, none, .faddr 2 (.t 9)⟩,
  ⟨none, none, .store 1 (.t 43) (.t 42)⟩]
abbrev r29_18 : List SOper := [
  ⟨some 44, none, .mov (.t 6)⟩,
  ⟨some 45, none, .call false (.c (.func 60 [])) [.t 44, .c (.int .i64 4)]⟩,
  ⟨some 46, none, .cvI .u64 (.t 45)⟩,
  ⟨some 47, none, .bin .mul (.t 46) (.c (.int .u64 4294967296))⟩,
  ⟨some 48, none, .faddr 3 (.t 9)⟩,
  ⟨none, none, .store 1 (.t 48) (.t 47)⟩]
abbrev r29_19 : List SOper := [
  ⟨some 49, none, .faddr 3 (.t 9)⟩,
  ⟨some 50, none, .loadA (.loc 9) false 1 (.t 49)⟩,
  ⟨some 51, none, .mov (.t 6)⟩,
  ⟨some 52, none, .call false (.c (.func 60 [])) [.t 51, .c (.int .i64 4)]⟩,
  ⟨some 53, none, .cvI .u64 (.t 52)⟩,
  ⟨some 54, none, .bin .add (.t 50) (.t 53)⟩,
  ⟨some 55, none, .faddr 3 (.t 9)⟩,
  ⟨none, none, .store 1 (.t 55) (.t 54)⟩]
abbrev r29_20 : List SOper := [
  ⟨some 56, none, .mov (.t 6)⟩,
  ⟨some 57, none, .call false (.c (.func 61 [])) [.t 56, .c (.int .i64 1024)]⟩,
  ⟨some 58, none, .faddr 4 (.t 9)⟩,
  ⟨none, none, .store 1 (.t 58) (.t 57)⟩]
abbrev r29_21 : List SOper := [
  ⟨some 59, none, .mov (.t 6)⟩,
  ⟨some 60, none, .call false (.c (.func 60 [])) [.t 59, .c (.int .i64 1)]⟩,
  ⟨some 10, none, .mov (.t 60)⟩]
abbrev r29_22 : List SOper := [
  ⟨some 61, none, .mov (.t 10)⟩,
  ⟨some 62, none, .mov (.c (.int .i64 0))⟩]
abbrev r29_23 : List SOper := [
  ⟨some 63, none, .bin .lss (.t 62) (.t 61)⟩]
abbrev c29_24 : SC := .cond (.t 63) (.skip) (.exit 2)
abbrev r29_25 : List SOper := [
  ⟨some 64, none, .mov (.t 6)⟩,
  ⟨some 65, none, .call false (.c (.func 61 [])) [.t 64, .c (.int .i64 16)]⟩,
  ⟨some 66, none, .build [.str [], .int .i64 0, .int .i64 0, .str [], .bool false] [(0, 1, .t 65)]⟩,
  ⟨some 11, none, .allocL [.str [], .int .i64 0, .int .i64 0, .str [], .bool false]⟩,
  ⟨none, none, .store 5 (.t 11) (.t 66)⟩]
abbrev r29_26 : List SOper := [
  ⟨some 67, none, .mov (.t 6)⟩,
  ⟨some 68, none, .call false (.c (.func 61 [])) [.t 67, .c (.int .i64 32)]⟩,
  ⟨some 69, none, .faddr 3 (.t 11)⟩,
  ⟨none, none, .store 1 (.t 69) (.t 68)⟩]
abbrev r29_27 : List SOper := [
  ⟨some 70, none, .faddr 5 (.t 9)⟩,
  ⟨some 71, none, .load false false 1 (.t 70)⟩,
  ⟨some 72, none, .load false true 5 (.t 11)⟩,
  ⟨some 73, none, .bsnap 5 [.t 72]⟩,
  ⟨some 74, none, .append 5 56 (.t 71) (.t 73)⟩,
  ⟨some 75, none, .faddr 5 (.t 9)⟩,
  ⟨none, none, .store 1 (.t 75) (.t 74)⟩]
abbrev c29_28 : SC := .seq (.ops r29_26) (.ops r29_27)
abbrev c29_29 : SC := .seq (.ops r29_25) c29_28
abbrev c29_30 : SC := .block 3 [6, 8, 9, 28, 29, 61, 62] [9] c29_29
abbrev r29_31 : List SOper := [
  ⟨some 76, none, .bin .add (.t 62) (.c (.int .i64 1))⟩,
  ⟨some 62, none, .mov (.t 76)⟩]
abbrev c29_32 : SC := .seq c29_30 (.ops r29_31)
abbrev c29_33 : SC := .seq c29_24 c29_32
abbrev c29_34 : SC := .seq (.ops r29_23) c29_33
abbrev L29_1 : SC := .loop [6, 8, 9, 28, 29, 61, 62] [9] c29_34
abbrev c29_35 : SC := .block 2 [6, 8, 9, 28, 29] [9] L29_1
abbrev c29_36 : SC := .seq (.ops r29_22) c29_35
abbrev r29_37 : List SOper := [
  ⟨some 77, none, .mov (.t 6)⟩,
  ⟨some 78, none, .nilck (.t 77)⟩,
  ⟨some 79, none, .faddr 2 (.t 78)⟩,
  ⟨some 80, none, .load false false 1 (.t 79)⟩,
  ⟨some 81, none, .mov (.t 80)⟩,
  ⟨some 82, some (81, false), .load false true 9 (.t 9)⟩,
  ⟨some 83, some (81, false), .mov (.t 8)⟩,
  ⟨some 84, some (81, false), .call false (.c (.func 62 [])) [.t 82, .t 83]⟩,
  ⟨some 85, some (81, false), .un .not (.t 84)⟩,
  ⟨some 86, none, .pick (.t 81) (.c (.bool true)) (.t 85)⟩]
abbrev r29_38 : List SOper := [
  ⟨some 2, none, .mov (.c (.nils))⟩,
  ⟨some 3, none, .mov (.c (.int .i64 201))⟩]
abbrev c29_39 : SC := .seq (.ops r29_38) (.ret)
abbrev c29_40 : SC := .cond (.t 86) c29_39 (.skip)
abbrev c29_41 : SC := .seq (.ops r29_37) c29_40
abbrev r29_42 : List SOper := [
  ⟨some 87, none, .mov (.t 8)⟩,
  ⟨some 88, none, .load false true 9 (.t 9)⟩,
  ⟨some 89, none, .bsnap 9 [.t 88]⟩,
  ⟨some 90, none, .append 9 104 (.t 87) (.t 89)⟩,
  ⟨some 8, none, .mov (.t 90)⟩]
abbrev c29_43 : SC := .seq c29_41 (.ops r29_42)
abbrev c29_44 : SC := .seq c29_36 c29_43
abbrev c29_45 : SC := .seq (.ops r29_21) c29_44
abbrev c29_46 : SC := .seq (.ops r29_20) c29_45
abbrev c29_47 : SC := .seq (.draw 0 [[], [0], [], [2], [3], [1, 4], [5], [6]] r29_19) c29_46
abbrev c29_48 : SC := .seq (.ops r29_18) c29_47
abbrev c29_49 : SC := .seq (.ops r29_17) c29_48
abbrev c29_50 : SC := .seq (.ops r29_16) c29_49
abbrev c29_51 : SC := .seq (.ops r29_15) c29_50
abbrev c29_52 : SC := .seq (.ops r29_14) c29_51
abbrev c29_53 : SC := .block 1 [6, 8, 28, 29] [] c29_52
abbrev r29_54 : List SOper := [
  ⟨some 91, none, .bin .add (.t 29) (.c (.int .i64 1))⟩,
  ⟨some 29, none, .mov (.t 91)⟩]
abbrev c29_55 : SC := .seq c29_53 (.ops r29_54)
abbrev c29_56 : SC := .seq c29_13 c29_55
abbrev c29_57 : SC := .seq (.ops r29_12) c29_56
abbrev L29_2 : SC := .loop [6, 8, 28, 29] [] c29_57
abbrev c29_58 : SC := .block 0 [6, 8] [] L29_2
abbrev c29_59 : SC := .seq (.ops r29_11) c29_58
abbrev r29_60 : List SOper := [
  ⟨some 92, none, .mov (.t 6)⟩,
  ⟨some 93, none, .call false (.c (.func 63 [])) [.t 92]⟩,
  ⟨some 94, none, .bin .neq (.t 93) (.c (.int .i64 0))⟩]
abbrev r29_61 : List SOper := [
  ⟨some 2, none, .mov (.c (.nils))⟩,
  ⟨some 3, none, .mov (.c (.int .i64 201))⟩]
abbrev c29_62 : SC := .seq (.ops r29_61) (.ret)
abbrev c29_63 : SC := .cond (.t 94) c29_62 (.skip)
abbrev c29_64 : SC := .seq (.ops r29_60) c29_63
abbrev r29_65 : List SOper := [
  ⟨some 95, none, .mov (.t 8)⟩,
  ⟨some 2, none, .mov (.t 95)⟩,
  ⟨some 3, none, .mov (.c (.int .i64 0))⟩]
abbrev c29_66 : SC := .seq (.ops r29_65) (.ret)
abbrev c29_67 : SC := .seq c29_64 c29_66
abbrev c29_68 : SC := .seq c29_59 c29_67
abbrev c29_69 : SC := .seq (.ops r29_10) c29_68
abbrev c29_70 : SC := .seq c29_9 c29_69
abbrev c29_71 : SC := .seq (.ops r29_4) c29_70
abbrev c29_72 : SC := .seq (.ops r29_3) c29_71
abbrev c29_73 : SC := .seq (.ops r29_2) c29_72
abbrev c29_74 : SC := .seq (.ops r29_1) c29_73
def s29 : SF := ⟨[.t 2, .t 3], c29_74, false, none, none⟩
/-! crannog/crannoglaw26.same -/
abbrev r30_1 : List SOper := [
  ⟨some 4, none, .mov (.c (.bool false))⟩]
abbrev r30_2 : List SOper := [
  ⟨some 5, none, .mov (.t 0)⟩,
  ⟨some 6, none, .mov (.t 1)⟩,
  ⟨some 7, none, .call false (.c (.func 64 [])) [.t 5, .t 6, .c (.func 65 [])]⟩,
  ⟨some 4, none, .mov (.t 7)⟩]
abbrev c30_3 : SC := .seq (.ops r30_2) (.ret)
abbrev c30_4 : SC := .seq (.ops r30_1) c30_3
def s30 : SF := ⟨[.t 4], c30_4, false, none, none⟩
/-! crannog/facts.Empty -/
abbrev r31_1 : List SOper := [
  ⟨some 0, none, .allocL [.int .i64 0, .int .i64 0, .int .i64 0, .int .i64 0, .int .i64 0, .int .i64 0, .int .i64 0, .int .i64 0, .nils, .nils]⟩]
abbrev r31_2 : List SOper := [
  ⟨some 4, none, .call false (.c (.func 67 [])) [.c (.float .f64 0)]⟩,
  ⟨some 3, none, .mov (.t 4)⟩,
  ⟨some 5, none, .extract (.t 3) 0⟩,
  ⟨some 6, none, .extract (.t 3) 1⟩,
  ⟨some 1, none, .mov (.t 5)⟩,
  ⟨some 2, none, .mov (.t 6)⟩]
abbrev r31_3 : List SOper := [
  ⟨some 7, none, .mov (.t 1)⟩,
  ⟨some 8, none, .build [.int .i64 0, .int .i64 0, .int .i64 0, .int .u64 0] [(2, 1, .c (.int .i64 493)), (3, 1, .t 7)]⟩,
  ⟨some 9, none, .build [.int .i64 0, .int .i64 0, .int .i64 0, .str [], .int .i64 0, .int .i64 0, .int .i64 0, .int .u64 0, .int .i64 0, .int .i64 0, .int .i64 0, .nils, .nils] [(2, 1, .c (.int .i64 2)), (4, 4, .t 8)]⟩,
  ⟨some 10, none, .bsnap 13 [.t 9]⟩,
  ⟨some 11, none, .build [.int .i64 0, .int .i64 0, .int .i64 0, .int .i64 0, .int .i64 0, .int .i64 0, .int .i64 0, .int .i64 0, .nils, .nils] [(8, 1, .t 10)]⟩,
  ⟨none, none, .store 10 (.t 0) (.t 11)⟩]
abbrev c31_4 : SC := .seq (.ops r31_3) (.ret)
abbrev c31_5 : SC := .seq (.ops r31_2) c31_4
abbrev c31_6 : SC := .seq (.ops r31_1) c31_5
def s31 : SF := ⟨[.c 0 true 10], c31_6, false, none, none⟩
/-! crannog/calls.Do -/
abbrev r32_1 : List SOper := [
  ⟨some 9, none, .mkfn 68 [.t 6, .t 7]⟩]
abbrev r32_2 : List SOper := [
  ⟨some 3, none, .boxL (.t 0)⟩,
  ⟨some 5, none, .boxL (.t 2)⟩,
  ⟨some 6, none, .allocH none [.int .i64 0, .str [], .nils, .int .i64 0, .int .i64 0, .int .i64 0, .int .i64 0, .int .u64 0, .int .i64 0, .int .i64 0]⟩,
  ⟨some 7, none, .allocH none [.int .i64 0, .int .i64 0, .int .i64 0, .int .i64 0, .int .i64 0, .int .i64 0, .int .i64 0, .int .i64 0, .nils, .nils]⟩]
abbrev r32_3 : List SOper := [
  ⟨some 10, none, .load false true 10 (.t 3)⟩,
  ⟨some 11, none, .call false (.c (.func 70 [])) [.t 10]⟩,
  ⟨some 12, none, .call false (.c (.func 69 [])) [.t 11]⟩]
abbrev r32_4 : List SOper := [
  ⟨some 13, none, .loadA (.loc 3) true 10 (.t 3)⟩,
  ⟨some 14, none, .load false true 10 (.t 3)⟩,
  ⟨some 15, none, .call false (.c (.func 71 [])) [.t 14]⟩,
  ⟨some 16, none, .build [.int .i64 0, .int .i64 0, .int .i64 0, .int .i64 0, .int .i64 0, .int .i64 0, .int .i64 0, .int .i64 0, .nils, .nils, .nils, .int .i64 0, .int .i64 0, .int .i64 0, .int .i64 0, .int .i64 0, .int .i64 0, .int .i64 0, .int .i64 0, .int .i64 0, .int .i64 0, .int .i64 0, .nils, .nils] [(0, 10, .t 13), (10, 1, .t 15)]⟩,
  ⟨some 17, none, .boxH none (.t 16)⟩,
  ⟨some 8, none, .mov (.t 17)⟩]
abbrev r32_5 : List SOper := [
  ⟨some 19, none, .mov (.t 8)⟩,
  ⟨some 20, none, .mov (.t 8)⟩,
  ⟨some 21, none, .faddr 0 (.t 3)⟩,
  ⟨some 22, none, .load false true 8 (.t 21)⟩,
  ⟨some 23, none, .mov (.t 1)⟩,
  ⟨some 24, none, .call false (.c (.func 72 [])) [.t 22, .t 23]⟩,
  ⟨some 18, none, .mov (.t 24)⟩,
  ⟨some 25, none, .extract (.t 18) 0⟩,
  ⟨some 26, none, .extract (.t 18) 1⟩,
  ⟨some 27, none, .nilck (.t 19)⟩,
  ⟨some 28, none, .faddr 11 (.t 27)⟩,
  ⟨none, none, .store 2 (.t 28) (.t 25)⟩,
  ⟨some 29, none, .nilck (.t 20)⟩,
  ⟨some 30, none, .faddr 13 (.t 29)⟩,
  ⟨none, none, .store 1 (.t 30) (.t 26)⟩]
abbrev r32_6 : List SOper := [
  ⟨some 31, none, .mov (.t 8)⟩,
  ⟨some 32, none, .load false true 7 (.t 5)⟩,
  ⟨some 33, none, .call false (.c (.func 73 [])) [.t 31, .t 32]⟩,
  ⟨none, none, .store 10 (.t 6) (.t 33)⟩]
abbrev r32_7 : List SOper := [
  ⟨some 34, none, .load false true 10 (.t 6)⟩,
  ⟨some 35, none, .mov (.t 8)⟩,
  ⟨some 36, none, .nilck (.t 35)⟩,
  ⟨some 37, none, .faddr 14 (.t 36)⟩,
  ⟨some 38, none, .loadN 6 true 10 (.t 37)⟩,
  ⟨none, none, .storeA .ptr 10 (.t 6) (.t 34)⟩,
  ⟨none, none, .store 10 (.t 7) (.t 38)⟩]
abbrev c32_8 : SC := .seq (.draw 0 [[], [], [1], [2], [3], [0], [4, 5]] r32_7) (.ret)
abbrev c32_9 : SC := .seq (.ops r32_6) c32_8
abbrev c32_10 : SC := .seq (.ops r32_5) c32_9
abbrev c32_11 : SC := .seq (.draw 0 [[], [], [1], [0, 2], [3], [4]] r32_4) c32_10
abbrev c32_12 : SC := .seq (.ops r32_3) c32_11
abbrev c32_13 : SC := .seq (.ops r32_2) (.ops r32_1)
def s32 : SF := ⟨[.c 6 true 10, .c 7 true 10], .skip, false, some ⟨c32_13, 9, c32_12⟩, none⟩
/-! crannog/join.States -/
abbrev r33_1 : List SOper := [
  ⟨some 2, none, .boxL (.t 0)⟩,
  ⟨some 3, none, .boxL (.t 1)⟩,
  ⟨some 4, none, .allocL [.int .i64 0, .int .i64 0, .int .i64 0, .int .i64 0, .int .i64 0, .int .i64 0, .int .i64 0, .int .i64 0, .nils, .nils]⟩]
abbrev r33_2 : List SOper := [
  ⟨some 8, none, .faddr 0 (.t 2)⟩,
  ⟨some 9, none, .load false true 8 (.t 8)⟩,
  ⟨some 10, none, .faddr 0 (.t 3)⟩,
  ⟨some 11, none, .load false true 8 (.t 10)⟩,
  ⟨some 12, none, .call false (.c (.func 74 [])) [.t 9, .t 11]⟩,
  ⟨some 13, none, .build [.int .i64 0, .int .i64 0, .int .i64 0, .int .i64 0, .int .i64 0, .int .i64 0, .int .i64 0, .int .i64 0, .nils, .nils] [(0, 8, .t 12)]⟩,
  ⟨some 5, none, .allocL [.int .i64 0, .int .i64 0, .int .i64 0, .int .i64 0, .int .i64 0, .int .i64 0, .int .i64 0, .int .i64 0, .nils, .nils]⟩,
  ⟨none, none, .store 10 (.t 5) (.t 13)⟩]
abbrev r33_3 : List SOper := [
  ⟨some 14, none, .faddr 8 (.t 2)⟩,
  ⟨some 15, none, .load false false 1 (.t 14)⟩,
  ⟨some 16, none, .faddr 8 (.t 3)⟩,
  ⟨some 17, none, .load false false 1 (.t 16)⟩,
  ⟨some 18, none, .call false (.c (.func 75 [])) [.t 15, .t 17, .c (.func 76 []), .c (.func 78 [])]⟩,
  ⟨some 19, none, .faddr 8 (.t 5)⟩,
  ⟨none, none, .store 1 (.t 19) (.t 18)⟩]
abbrev r33_4 : List SOper := [
  ⟨some 20, none, .faddr 9 (.t 2)⟩,
  ⟨some 21, none, .load false false 1 (.t 20)⟩,
  ⟨some 22, none, .faddr 9 (.t 3)⟩,
  ⟨some 23, none, .load false false 1 (.t 22)⟩,
  ⟨some 24, none, .call false (.c (.func 79 [])) [.t 21, .t 23, .c (.func 80 []), .c (.func 81 [])]⟩,
  ⟨some 25, none, .faddr 9 (.t 5)⟩,
  ⟨none, none, .store 1 (.t 25) (.t 24)⟩]
abbrev r33_5 : List SOper := [
  ⟨some 26, none, .faddr 8 (.t 5)⟩,
  ⟨some 27, none, .load false false 1 (.t 26)⟩,
  ⟨some 28, none, .len 1 (.t 27)⟩,
  ⟨some 29, none, .mov (.c (.int .i64 0))⟩]
abbrev r33_6 : List SOper := [
  ⟨some 30, none, .bin .lss (.t 29) (.t 28)⟩]
abbrev c33_7 : SC := .cond (.t 30) (.skip) (.exit 0)
abbrev r33_8 : List SOper := [
  ⟨some 31, none, .mov (.t 29)⟩,
  ⟨some 32, none, .iaddr none 13 (.t 27) (.t 29)⟩,
  ⟨some 33, none, .load false true 13 (.t 32)⟩,
  ⟨some 7, none, .allocL [.int .i64 0, .int .i64 0, .int .i64 0, .str [], .int .i64 0, .int .i64 0, .int .i64 0, .int .u64 0, .int .i64 0, .int .i64 0, .int .i64 0, .nils, .nils]⟩,
  ⟨some 6, none, .mov (.t 31)⟩,
  ⟨none, none, .store 13 (.t 7) (.t 33)⟩]
abbrev r33_9 : List SOper := [
  ⟨some 34, none, .faddr 8 (.t 5)⟩,
  ⟨some 35, none, .loadA (.loc 5) false 1 (.t 34)⟩,
  ⟨some 36, none, .mov (.t 6)⟩,
  ⟨some 37, none, .faddr 8 (.t 5)⟩,
  ⟨some 38, none, .loadA (.loc 5) false 1 (.t 37)⟩,
  ⟨some 39, none, .mov (.t 6)⟩,
  ⟨some 40, none, .faddr 11 (.t 7)⟩,
  ⟨some 41, none, .load false false 1 (.t 40)⟩,
  ⟨some 42, none, .call false (.c (.func 82 [])) [.t 41]⟩,
  ⟨some 43, none, .faddr 12 (.t 7)⟩,
  ⟨some 44, none, .loadA (.loc 7) false 1 (.t 43)⟩,
  ⟨some 45, none, .call false (.c (.func 83 [])) [.t 44]⟩,
  ⟨some 46, none, .iaddr none 13 (.t 35) (.t 36)⟩,
  ⟨some 47, none, .faddr 11 (.t 46)⟩,
  ⟨none, none, .storeA .eptr 1 (.t 47) (.t 42)⟩,
  ⟨some 48, none, .iaddr none 13 (.t 38) (.t 39)⟩,
  ⟨some 49, none, .faddr 12 (.t 48)⟩,
  ⟨none, none, .store 1 (.t 49) (.t 45)⟩]
abbrev c33_10 : SC := .seq (.ops r33_8) (.draw 0 [[], [0], [], [], [3], [], [], [6], [7], [], [9], [8, 10], [1, 2, 11], [12], [13], [4, 5, 14], [15], [16]] r33_9)
abbrev c33_11 : SC := .block 1 [4, 5, 27, 28, 29] [4, 5] c33_10
abbrev r33_12 : List SOper := [
  ⟨some 50, none, .bin .add (.t 29) (.c (.int .i64 1))⟩,
  ⟨some 29, none, .mov (.t 50)⟩]
abbrev c33_13 : SC := .seq c33_11 (.ops r33_12)
abbrev c33_14 : SC := .seq c33_7 c33_13
abbrev c33_15 : SC := .seq (.ops r33_6) c33_14
abbrev L33_1 : SC := .loop [4, 5, 27, 28, 29] [4, 5] c33_15
abbrev c33_16 : SC := .block 0 [4, 5] [4, 5] L33_1
abbrev c33_17 : SC := .seq (.ops r33_5) c33_16
abbrev r33_18 : List SOper := [
  ⟨some 51, none, .load false true 10 (.t 5)⟩,
  ⟨none, none, .store 10 (.t 4) (.t 51)⟩]
abbrev c33_19 : SC := .seq (.ops r33_18) (.ret)
abbrev c33_20 : SC := .seq c33_17 c33_19
abbrev c33_21 : SC := .seq (.ops r33_4) c33_20
abbrev c33_22 : SC := .seq (.ops r33_3) c33_21
abbrev c33_23 : SC := .seq (.ops r33_2) c33_22
abbrev c33_24 : SC := .seq (.ops r33_1) c33_23
def s33 : SF := ⟨[.c 4 true 10], c33_24, false, none, none⟩
/-! slices.Equal[[]string,string] -/
abbrev r34_1 : List SOper := [
  ⟨some 4, none, .mov (.c (.bool false))⟩]
abbrev r34_2 : List SOper := [
  ⟨some 6, none, .mov (.t 0)⟩,
  ⟨some 7, none, .len 1 (.t 6)⟩,
  ⟨some 8, none, .mov (.t 1)⟩,
  ⟨some 9, none, .len 1 (.t 8)⟩,
  ⟨some 10, none, .bin .neq (.t 7) (.t 9)⟩]
abbrev r34_3 : List SOper := [
  ⟨some 4, none, .mov (.c (.bool false))⟩]
abbrev c34_4 : SC := .seq (.ops r34_3) (.ret)
abbrev c34_5 : SC := .cond (.t 10) c34_4 (.skip)
abbrev c34_6 : SC := .seq (.ops r34_2) c34_5
abbrev r34_7 : List SOper := [
  ⟨some 11, none, .mov (.t 0)⟩,
  ⟨some 12, none, .len 1 (.t 11)⟩,
  ⟨some 13, none, .mov (.c (.int .i64 0))⟩]
abbrev r34_8 : List SOper := [
  ⟨some 14, none, .bin .lss (.t 13) (.t 12)⟩]
abbrev c34_9 : SC := .cond (.t 14) (.skip) (.exit 0)
abbrev r34_10 : List SOper := [
  ⟨some 15, none, .mov (.t 13)⟩,
  ⟨some 5, none, .mov (.t 15)⟩]
abbrev r34_11 : List SOper := [
  ⟨some 16, none, .mov (.t 0)⟩,
  ⟨some 17, none, .mov (.t 5)⟩,
  ⟨some 18, none, .iaddr none 1 (.t 16) (.t 17)⟩,
  ⟨some 19, none, .load false false 1 (.t 18)⟩,
  ⟨some 20, none, .mov (.t 1)⟩,
  ⟨some 21, none, .mov (.t 5)⟩,
  ⟨some 22, none, .iaddr none 1 (.t 20) (.t 21)⟩,
  ⟨some 23, none, .load false false 1 (.t 22)⟩,
  ⟨some 24, none, .bin .neq (.t 19) (.t 23)⟩]
abbrev r34_12 : List SOper := [
  ⟨some 4, none, .mov (.c (.bool false))⟩]
abbrev c34_13 : SC := .seq (.ops r34_12) (.ret)
abbrev c34_14 : SC := .cond (.t 24) c34_13 (.skip)
abbrev c34_15 : SC := .seq (.draw 0 [[], [], [0, 1], [2], [], [], [4, 5], [6], [3, 7]] r34_11) c34_14
abbrev c34_16 : SC := .seq (.ops r34_10) c34_15
abbrev c34_17 : SC := .block 1 [0, 1, 12, 13] [] c34_16
abbrev r34_18 : List SOper := [
  ⟨some 25, none, .bin .add (.t 13) (.c (.int .i64 1))⟩,
  ⟨some 13, none, .mov (.t 25)⟩]
abbrev c34_19 : SC := .seq c34_17 (.ops r34_18)
abbrev c34_20 : SC := .seq c34_9 c34_19
abbrev c34_21 : SC := .seq (.ops r34_8) c34_20
abbrev L34_1 : SC := .loop [0, 1, 12, 13] [] c34_21
abbrev c34_22 : SC := .block 0 [] [] L34_1
abbrev c34_23 : SC := .seq (.ops r34_7) c34_22
abbrev r34_24 : List SOper := [
  ⟨some 4, none, .mov (.c (.bool true))⟩]
abbrev c34_25 : SC := .seq (.ops r34_24) (.ret)
abbrev c34_26 : SC := .seq c34_23 c34_25
abbrev c34_27 : SC := .seq c34_6 c34_26
abbrev c34_28 : SC := .seq (.ops r34_1) c34_27
def s34 : SF := ⟨[.t 4], c34_28, false, none, none⟩
/-! crannog/crannoglaw26.run -/
abbrev r35_1 : List SOper := [
  ⟨some 2, none, .boxL (.t 0)⟩,
  ⟨some 4, none, .allocL [.int .i64 0, .int .i64 0, .int .i64 0, .int .i64 0, .int .i64 0, .int .i64 0, .int .i64 0, .int .i64 0, .nils, .nils]⟩,
  ⟨some 5, none, .mov (.c (.bool false))⟩]
abbrev r35_2 : List SOper := [
  ⟨some 10, none, .mov (.t 1)⟩,
  ⟨some 11, none, .len 1 (.t 10)⟩,
  ⟨some 12, none, .mov (.c (.int .i64 0))⟩]
abbrev r35_3 : List SOper := [
  ⟨some 13, none, .bin .lss (.t 12) (.t 11)⟩]
abbrev c35_4 : SC := .cond (.t 13) (.skip) (.exit 0)
abbrev r35_5 : List SOper := [
  ⟨some 14, none, .iaddr none 7 (.t 10) (.t 12)⟩,
  ⟨some 15, none, .load false true 7 (.t 14)⟩,
  ⟨some 7, none, .allocL [.int .i64 0, .str [], .str [], .int .i64 0, .int .i64 0, .str [], .float .f64 0]⟩,
  ⟨none, none, .store 7 (.t 7) (.t 15)⟩]
abbrev r35_6 : List SOper := [
  ⟨some 17, none, .load false true 10 (.t 2)⟩,
  ⟨some 18, none, .load false true 7 (.t 7)⟩,
  ⟨some 19, none, .call false (.c (.func 32 [])) [.t 17, .c (.int .i64 0), .t 18]⟩,
  ⟨some 16, none, .mov (.t 19)⟩,
  ⟨some 20, none, .extract (.t 16) 0⟩,
  ⟨some 21, none, .extract (.t 16) 1⟩,
  ⟨some 8, none, .allocL [.int .i64 0, .str [], .nils, .int .i64 0, .int .i64 0, .int .i64 0, .int .i64 0, .int .u64 0, .int .i64 0, .int .i64 0]⟩,
  ⟨some 9, none, .allocL [.int .i64 0, .int .i64 0, .int .i64 0, .int .i64 0, .int .i64 0, .int .i64 0, .int .i64 0, .int .i64 0, .nils, .nils]⟩,
  ⟨none, none, .store 10 (.t 8) (.t 20)⟩,
  ⟨none, none, .store 10 (.t 9) (.t 21)⟩]
abbrev r35_7 : List SOper := [
  ⟨some 22, none, .faddr 0 (.t 8)⟩,
  ⟨some 23, none, .load false false 1 (.t 22)⟩,
  ⟨some 24, none, .bin .neq (.t 23) (.c (.int .i64 0))⟩]
abbrev r35_8 : List SOper := [
  ⟨some 25, none, .load false true 10 (.t 2)⟩,
  ⟨none, none, .store 10 (.t 4) (.t 25)⟩,
  ⟨some 5, none, .mov (.c (.bool false))⟩]
abbrev c35_9 : SC := .seq (.ops r35_8) (.ret)
abbrev c35_10 : SC := .cond (.t 24) c35_9 (.skip)
abbrev c35_11 : SC := .seq (.ops r35_7) c35_10
abbrev r35_12 : List SOper := [
  ⟨some 26, none, .load false true 10 (.t 2)⟩,
  ⟨some 27, none, .load false true 10 (.t 9)⟩,
  ⟨some 28, none, .call false (.c (.func 33 [])) [.t 26, .t 27]⟩,
  ⟨none, none, .store 10 (.t 2) (.t 28)⟩]
abbrev c35_13 : SC := .seq c35_11 (.ops r35_12)
abbrev c35_14 : SC := .seq (.ops r35_6) c35_13
abbrev c35_15 : SC := .seq (.ops r35_5) c35_14
abbrev c35_16 : SC := .block 1 [2, 4, 10, 11, 12] [2, 4] c35_15
abbrev r35_17 : List SOper := [
  ⟨some 29, none, .bin .add (.t 12) (.c (.int .i64 1))⟩,
  ⟨some 12, none, .mov (.t 29)⟩]
abbrev c35_18 : SC := .seq c35_16 (.ops r35_17)
abbrev c35_19 : SC := .seq c35_4 c35_18
abbrev c35_20 : SC := .seq (.ops r35_3) c35_19
abbrev L35_1 : SC := .loop [2, 4, 10, 11, 12] [2, 4] c35_20
abbrev c35_21 : SC := .block 0 [2, 4] [2, 4] L35_1
abbrev c35_22 : SC := .seq (.ops r35_2) c35_21
abbrev r35_23 : List SOper := [
  ⟨some 30, none, .load false true 10 (.t 2)⟩,
  ⟨none, none, .store 10 (.t 4) (.t 30)⟩,
  ⟨some 5, none, .mov (.c (.bool true))⟩]
abbrev c35_24 : SC := .seq (.ops r35_23) (.ret)
abbrev c35_25 : SC := .seq c35_22 c35_24
abbrev c35_26 : SC := .seq (.ops r35_1) c35_25
def s35 : SF := ⟨[.c 4 true 10, .t 5], c35_26, false, none, none⟩
/-! crannog/archive.Items -/
abbrev r36_1 : List SOper := [
  ⟨some 2, none, .boxL (.t 0)⟩,
  ⟨some 4, none, .mov (.c (.nils))⟩,
  ⟨some 5, none, .mov (.c (.int .i64 0))⟩]
abbrev r36_2 : List SOper := [
  ⟨some 12, none, .load false true 10 (.t 2)⟩,
  ⟨some 13, none, .call false (.c (.func 70 [])) [.t 12]⟩,
  ⟨some 6, none, .mov (.t 13)⟩]
abbrev r36_3 : List SOper := [
  ⟨some 14, none, .mov (.t 6)⟩,
  ⟨some 15, none, .bin .neq (.t 14) (.c (.int .i64 0))⟩]
abbrev r36_4 : List SOper := [
  ⟨some 16, none, .mov (.t 6)⟩,
  ⟨some 4, none, .mov (.c (.nils))⟩,
  ⟨some 5, none, .mov (.t 16)⟩]
abbrev c36_5 : SC := .seq (.ops r36_4) (.ret)
abbrev c36_6 : SC := .cond (.t 15) c36_5 (.skip)
abbrev c36_7 : SC := .seq (.ops r36_3) c36_6
abbrev c36_8 : SC := .seq (.ops r36_2) c36_7
abbrev r36_9 : List SOper := [
  ⟨some 18, none, .mov (.t 1)⟩,
  ⟨some 19, none, .call false (.c (.func 84 [])) [.t 18]⟩,
  ⟨some 17, none, .mov (.t 19)⟩,
  ⟨some 20, none, .extract (.t 17) 0⟩,
  ⟨some 21, none, .extract (.t 17) 1⟩,
  ⟨some 7, none, .mov (.t 20)⟩,
  ⟨some 8, none, .mov (.t 21)⟩]
abbrev r36_10 : List SOper := [
  ⟨some 22, none, .mov (.t 8)⟩,
  ⟨some 23, none, .bin .neq (.t 22) (.c (.int .i64 0))⟩]
abbrev r36_11 : List SOper := [
  ⟨some 24, none, .mov (.t 8)⟩,
  ⟨some 4, none, .mov (.c (.nils))⟩,
  ⟨some 5, none, .mov (.t 24)⟩]
abbrev c36_12 : SC := .seq (.ops r36_11) (.ret)
abbrev c36_13 : SC := .cond (.t 23) c36_12 (.skip)
abbrev c36_14 : SC := .seq (.ops r36_10) c36_13
abbrev r36_15 : List SOper := [
  ⟨some 25, none, .loadA (.loc 2) true 10 (.t 2)⟩,
  ⟨some 26, none, .load true true 10 (.t 2)⟩,
  ⟨some 27, none, .pcall (.c (.func 71 [])) [.t 26]⟩,
  ⟨some 28, none, .mkmap (some 0)⟩,
  ⟨some 29, none, .build [.int .i64 0, .int .i64 0, .int .i64 0, .int .i64 0, .int .i64 0, .int .i64 0, .int .i64 0, .int .i64 0, .nils, .nils, .nils, .nilm, .nils] [(0, 10, .t 25), (10, 1, .t 27), (11, 1, .t 28)]⟩,
  ⟨some 30, none, .boxH none (.t 29)⟩,
  ⟨some 9, none, .mov (.t 30)⟩]
abbrev r36_16 : List SOper := [
  ⟨some 32, none, .load false true 10 (.t 2)⟩,
  ⟨some 33, none, .mov (.t 9)⟩,
  ⟨some 34, none, .nilck (.t 33)⟩,
  ⟨some 35, none, .faddr 10 (.t 34)⟩,
  ⟨some 36, none, .load false false 1 (.t 35)⟩,
  ⟨some 37, none, .mov (.t 7)⟩,
  ⟨some 38, none, .call false (.c (.func 85 [])) [.t 32, .t 36, .t 37]⟩,
  ⟨some 31, none, .mov (.t 38)⟩,
  ⟨some 39, none, .extract (.t 31) 0⟩,
  ⟨some 40, none, .extract (.t 31) 1⟩,
  ⟨some 10, none, .mov (.t 39)⟩,
  ⟨some 8, none, .mov (.t 40)⟩]
abbrev r36_17 : List SOper := [
  ⟨some 41, none, .mov (.t 8)⟩,
  ⟨some 42, none, .bin .neq (.t 41) (.c (.int .i64 0))⟩]
abbrev r36_18 : List SOper := [
  ⟨some 43, none, .mov (.t 8)⟩,
  ⟨some 4, none, .mov (.c (.nils))⟩,
  ⟨some 5, none, .mov (.t 43)⟩]
abbrev c36_19 : SC := .seq (.ops r36_18) (.ret)
abbrev c36_20 : SC := .cond (.t 42) c36_19 (.skip)
abbrev c36_21 : SC := .seq (.ops r36_17) c36_20
abbrev r36_22 : List SOper := [
  ⟨some 44, none, .build [.int .i64 0, .int .i64 0] []⟩,
  ⟨some 11, none, .allocL [.int .i64 0, .int .i64 0]⟩,
  ⟨none, none, .store 2 (.t 11) (.t 44)⟩]
abbrev r36_23 : List SOper := [
  ⟨some 45, none, .mov (.t 10)⟩,
  ⟨some 46, none, .len 1 (.t 45)⟩,
  ⟨some 47, none, .bin .gtr (.t 46) (.c (.int .i64 0))⟩]
abbrev r36_24 : List SOper := [
  ⟨some 48, none, .mov (.t 10)⟩,
  ⟨some 49, none, .mov (.t 10)⟩,
  ⟨some 50, none, .len 1 (.t 49)⟩,
  ⟨some 51, none, .bin .sub (.t 50) (.c (.int .i64 1))⟩,
  ⟨some 52, none, .iaddr none 8 (.t 48) (.t 51)⟩,
  ⟨some 53, none, .faddr 2 (.t 52)⟩,
  ⟨some 54, none, .load false true 2 (.t 53)⟩,
  ⟨none, none, .store 2 (.t 11) (.t 54)⟩]
abbrev c36_25 : SC := .cond (.t 47) (.ops r36_24) (.skip)
abbrev c36_26 : SC := .seq (.ops r36_23) c36_25
abbrev r36_27 : List SOper := [
  ⟨some 55, none, .load false true 10 (.t 2)⟩,
  ⟨some 56, none, .load false true 2 (.t 11)⟩,
  ⟨some 57, none, .call false (.c (.func 86 [])) [.t 55, .t 56]⟩,
  ⟨some 58, none, .bin .neq (.t 57) (.c (.int .i64 2))⟩]
abbrev r36_28 : List SOper := [
  ⟨some 4, none, .mov (.c (.nils))⟩,
  ⟨some 5, none, .mov (.c (.int .i64 20))⟩]
abbrev c36_29 : SC := .seq (.ops r36_28) (.ret)
abbrev c36_30 : SC := .cond (.t 58) c36_29 (.skip)
abbrev c36_31 : SC := .seq (.ops r36_27) c36_30
abbrev r36_32 : List SOper := [
  ⟨some 59, none, .mov (.t 9)⟩,
  ⟨some 60, none, .load false true 2 (.t 11)⟩,
  ⟨some 61, none, .call false (.c (.func 87 [])) [.t 59, .t 60, .c (.str [])]⟩]
abbrev r36_33 : List SOper := [
  ⟨some 62, none, .mov (.t 9)⟩,
  ⟨some 63, none, .nilck (.t 62)⟩,
  ⟨some 64, none, .faddr 12 (.t 63)⟩,
  ⟨some 65, none, .load false false 1 (.t 64)⟩,
  ⟨some 4, none, .mov (.t 65)⟩,
  ⟨some 5, none, .mov (.c (.int .i64 0))⟩]
abbrev c36_34 : SC := .seq (.ops r36_33) (.ret)
abbrev c36_35 : SC := .seq (.ops r36_32) c36_34
abbrev c36_36 : SC := .seq c36_31 c36_35
abbrev c36_37 : SC := .seq c36_26 c36_36
abbrev c36_38 : SC := .seq (.ops r36_22) c36_37
abbrev c36_39 : SC := .seq c36_21 c36_38
abbrev c36_40 : SC := .seq (.draw 0 [[], [], [1], [2], [3], [], [0, 4, 5], [6], [7], [7], [8], [9, 10]] r36_16) c36_39
abbrev c36_41 : SC := .seq (.draw 2 [[], [], [1], [], [0, 2, 3], [4], [5]] r36_15) c36_40
abbrev c36_42 : SC := .seq c36_14 c36_41
abbrev c36_43 : SC := .seq (.ops r36_9) c36_42
abbrev c36_44 : SC := .seq c36_8 c36_43
abbrev c36_45 : SC := .seq (.ops r36_1) c36_44
def s36 : SF := ⟨[.t 4, .t 5], c36_45, false, none, none⟩
/-! crannog/instant.To -/
abbrev r38_1 : List SOper := [
  ⟨some 2, none, .mov (.c (.float .f64 0))⟩,
  ⟨some 3, none, .mov (.c (.int .i64 0))⟩]
abbrev r38_2 : List SOper := [
  ⟨some 4, none, .mov (.t 0)⟩,
  ⟨some 5, none, .call false (.c (.func 89 [])) [.t 4]⟩,
  ⟨some 6, none, .un .not (.t 5)⟩]
abbrev r38_3 : List SOper := [
  ⟨some 2, none, .mov (.c (.float .f64 0))⟩,
  ⟨some 3, none, .mov (.c (.int .i64 202))⟩]
abbrev c38_4 : SC := .seq (.ops r38_3) (.ret)
abbrev c38_5 : SC := .cond (.t 6) c38_4 (.skip)
abbrev c38_6 : SC := .seq (.ops r38_2) c38_5
abbrev r38_7 : List SOper := [
  ⟨some 7, none, .mov (.t 0)⟩,
  ⟨some 8, none, .call false (.c (.func 90 [])) [.t 7]⟩,
  ⟨some 2, none, .mov (.t 8)⟩,
  ⟨some 3, none, .mov (.c (.int .i64 0))⟩]
abbrev c38_8 : SC := .seq (.ops r38_7) (.ret)
abbrev c38_9 : SC := .seq c38_6 c38_8
abbrev c38_10 : SC := .seq (.ops r38_1) c38_9
def s38 : SF := ⟨[.t 2, .t 3], c38_10, false, none, none⟩
/-! crannog/crannogref02.To -/
abbrev r39_1 : List SOper := [
  ⟨some 2, none, .mov (.c (.float .f64 0))⟩,
  ⟨some 3, none, .mov (.c (.int .i64 0))⟩]
abbrev r39_2 : List SOper := [
  ⟨some 7, none, .mov (.t 0)⟩,
  ⟨some 8, none, .bin .sub (.t 7) (.c (.int .u64 9223372036854775808))⟩,
  ⟨some 9, none, .call false (.c (.func 91 [])) [.t 8]⟩,
  ⟨some 4, none, .mov (.t 9)⟩]
abbrev r39_3 : List SOper := [
  ⟨some 10, none, .mov (.t 0)⟩,
  ⟨some 11, none, .bin .lss (.t 10) (.c (.int .u64 9223372036854775808))⟩]
abbrev r39_4 : List SOper := [
  ⟨some 12, none, .mov (.t 0)⟩,
  ⟨some 13, none, .bin .sub (.c (.int .u64 18446744073709551615)) (.t 12)⟩,
  ⟨some 14, none, .call false (.c (.func 91 [])) [.t 13]⟩,
  ⟨some 4, none, .mov (.t 14)⟩]
abbrev c39_5 : SC := .cond (.t 11) (.ops r39_4) (.skip)
abbrev c39_6 : SC := .seq (.ops r39_3) c39_5
abbrev r39_7 : List SOper := [
  ⟨some 16, none, .mov (.t 4)⟩,
  ⟨some 17, none, .call false (.c (.func 92 [])) [.t 16]⟩,
  ⟨some 15, none, .mov (.t 17)⟩,
  ⟨some 18, none, .extract (.t 15) 0⟩,
  ⟨some 19, none, .extract (.t 15) 1⟩,
  ⟨some 5, none, .mov (.t 18)⟩,
  ⟨some 6, none, .mov (.t 19)⟩]
abbrev r39_8 : List SOper := [
  ⟨some 20, none, .mov (.t 6)⟩,
  ⟨some 21, none, .bin .neq (.t 20) (.c (.int .i64 0))⟩,
  ⟨some 22, none, .mov (.t 21)⟩,
  ⟨some 23, some (22, false), .mov (.t 5)⟩,
  ⟨some 24, some (22, false), .mov (.t 0)⟩,
  ⟨some 25, some (22, false), .bin .neq (.t 23) (.t 24)⟩,
  ⟨some 26, none, .pick (.t 22) (.c (.bool true)) (.t 25)⟩]
abbrev r39_9 : List SOper := [
  ⟨some 2, none, .mov (.c (.float .f64 0))⟩,
  ⟨some 3, none, .mov (.c (.int .i64 202))⟩]
abbrev c39_10 : SC := .seq (.ops r39_9) (.ret)
abbrev c39_11 : SC := .cond (.t 26) c39_10 (.skip)
abbrev c39_12 : SC := .seq (.ops r39_8) c39_11
abbrev r39_13 : List SOper := [
  ⟨some 27, none, .mov (.t 4)⟩,
  ⟨some 2, none, .mov (.t 27)⟩,
  ⟨some 3, none, .mov (.c (.int .i64 0))⟩]
abbrev c39_14 : SC := .seq (.ops r39_13) (.ret)
abbrev c39_15 : SC := .seq c39_12 c39_14
abbrev c39_16 : SC := .seq (.ops r39_7) c39_15
abbrev c39_17 : SC := .seq c39_6 c39_16
abbrev c39_18 : SC := .seq (.ops r39_2) c39_17
abbrev c39_19 : SC := .seq (.ops r39_1) c39_18
def s39 : SF := ⟨[.t 2, .t 3], c39_19, false, none, none⟩
/-! crannog/crc.Seal -/
abbrev r42_1 : List SOper := [
  ⟨some 2, none, .mov (.c (.str []))⟩]
abbrev r42_2 : List SOper := [
  ⟨some 6, none, .mov (.t 0)⟩,
  ⟨some 7, none, .call false (.c (.func 94 [])) [.t 6]⟩,
  ⟨some 3, none, .mov (.t 7)⟩]
abbrev r42_3 : List SOper := [
  ⟨some 4, none, .allocL [.int .u8 0, .int .u8 0, .int .u8 0, .int .u8 0, .int .u8 0, .int .u8 0, .int .u8 0, .int .u8 0]⟩]
abbrev r42_4 : List SOper := [
  ⟨some 8, none, .mov (.c (.int .i64 0))⟩]
abbrev r42_5 : List SOper := [
  ⟨some 9, none, .bin .lss (.t 8) (.c (.int .i64 8))⟩]
abbrev c42_6 : SC := .cond (.t 9) (.skip) (.exit 0)
abbrev r42_7 : List SOper := [
  ⟨some 10, none, .mov (.t 8)⟩,
  ⟨some 5, none, .mov (.t 10)⟩]
abbrev r42_8 : List SOper := [
  ⟨some 11, none, .mov (.t 5)⟩,
  ⟨some 12, none, .mov (.t 3)⟩,
  ⟨some 13, none, .mov (.t 5)⟩,
  ⟨some 14, none, .bin .mul (.c (.int .i64 8)) (.t 13)⟩,
  ⟨some 15, none, .bin .shr (.t 12) (.t 14)⟩,
  ⟨some 16, none, .cvI .u8 (.t 15)⟩,
  ⟨some 17, none, .iaddr (some 8) 1 (.t 4) (.t 11)⟩,
  ⟨none, none, .store 1 (.t 17) (.t 16)⟩]
abbrev c42_9 : SC := .seq (.ops r42_7) (.ops r42_8)
abbrev c42_10 : SC := .block 1 [0, 3, 4, 8] [4] c42_9
abbrev r42_11 : List SOper := [
  ⟨some 18, none, .bin .add (.t 8) (.c (.int .i64 1))⟩,
  ⟨some 8, none, .mov (.t 18)⟩]
abbrev c42_12 : SC := .seq c42_10 (.ops r42_11)
abbrev c42_13 : SC := .seq c42_6 c42_12
abbrev c42_14 : SC := .seq (.ops r42_5) c42_13
abbrev L42_1 : SC := .loop [0, 3, 4, 8] [4] c42_14
abbrev c42_15 : SC := .block 0 [0, 4] [4] L42_1
abbrev c42_16 : SC := .seq (.ops r42_4) c42_15
abbrev r42_17 : List SOper := [
  ⟨some 19, none, .mov (.t 0)⟩,
  ⟨some 20, none, .frzL 8 (.t 4)⟩,
  ⟨some 21, none, .cvBS (.t 20)⟩,
  ⟨some 22, none, .bin .add (.t 19) (.t 21)⟩,
  ⟨some 2, none, .mov (.t 22)⟩]
abbrev c42_18 : SC := .seq (.ops r42_17) (.ret)
abbrev c42_19 : SC := .seq c42_16 c42_18
abbrev c42_20 : SC := .seq (.ops r42_3) c42_19
abbrev c42_21 : SC := .seq (.ops r42_2) c42_20
abbrev c42_22 : SC := .seq (.ops r42_1) c42_21
def s42 : SF := ⟨[.t 2], c42_22, false, none, none⟩
/-! crannog/crannogref03.Seal -/
abbrev r45_1 : List SOper := [
  ⟨some 2, none, .mov (.c (.str []))⟩]
abbrev r45_2 : List SOper := [
  ⟨some 5, none, .mov (.t 0)⟩,
  ⟨some 3, none, .mov (.t 5)⟩]
abbrev r45_3 : List SOper := [
  ⟨some 6, none, .mov (.t 0)⟩,
  ⟨some 7, none, .call false (.c (.func 95 [])) [.t 6]⟩,
  ⟨some 4, none, .mov (.t 7)⟩]
abbrev r45_4 : List SOper := [
  ⟨some 8, none, .mov (.c (.int .i64 0))⟩]
abbrev r45_5 : List SOper := [
  ⟨some 9, none, .bin .lss (.t 8) (.c (.int .i64 8))⟩]
abbrev c45_6 : SC := .cond (.t 9) (.skip) (.exit 0)
abbrev r45_7 : List SOper := [
  ⟨some 10, none, .mov (.t 3)⟩,
  ⟨some 11, none, .mov (.t 4)⟩,
  ⟨some 12, none, .bin .rem (.t 11) (.c (.int .u64 256))⟩,
  ⟨some 13, none, .cvI .u8 (.t 12)⟩,
  ⟨some 14, none, .bsnap 1 [.t 13]⟩,
  ⟨some 15, none, .cvBS (.t 14)⟩,
  ⟨some 16, none, .bin .add (.t 10) (.t 15)⟩,
  ⟨some 3, none, .mov (.t 16)⟩]
abbrev r45_8 : List SOper := [
  ⟨some 17, none, .mov (.t 4)⟩,
  ⟨some 18, none, .bin .quo (.t 17) (.c (.int .u64 256))⟩,
  ⟨some 4, none, .mov (.t 18)⟩]
abbrev c45_9 : SC := .seq (.ops r45_7) (.ops r45_8)
abbrev c45_10 : SC := .block 1 [3, 4, 8] [] c45_9
abbrev r45_11 : List SOper := [
  ⟨some 19, none, .bin .add (.t 8) (.c (.int .i64 1))⟩,
  ⟨some 8, none, .mov (.t 19)⟩]
abbrev c45_12 : SC := .seq c45_10 (.ops r45_11)
abbrev c45_13 : SC := .seq c45_6 c45_12
abbrev c45_14 : SC := .seq (.ops r45_5) c45_13
abbrev L45_1 : SC := .loop [3, 4, 8] [] c45_14
abbrev c45_15 : SC := .block 0 [3] [] L45_1
abbrev c45_16 : SC := .seq (.ops r45_4) c45_15
abbrev r45_17 : List SOper := [
  ⟨some 20, none, .mov (.t 3)⟩,
  ⟨some 2, none, .mov (.t 20)⟩]
abbrev c45_18 : SC := .seq (.ops r45_17) (.ret)
abbrev c45_19 : SC := .seq c45_16 c45_18
abbrev c45_20 : SC := .seq (.ops r45_3) c45_19
abbrev c45_21 : SC := .seq (.ops r45_2) c45_20
abbrev c45_22 : SC := .seq (.ops r45_1) c45_21
def s45 : SF := ⟨[.t 2], c45_22, false, none, none⟩
/-! crannog/crc.Open -/
abbrev r52_1 : List SOper := [
  ⟨some 2, none, .mov (.c (.str []))⟩,
  ⟨some 3, none, .mov (.c (.bool false))⟩]
abbrev r52_2 : List SOper := [
  ⟨some 5, none, .mov (.t 0)⟩,
  ⟨some 6, none, .len 0 (.t 5)⟩,
  ⟨some 7, none, .bin .lss (.t 6) (.c (.int .i64 8))⟩]
abbrev r52_3 : List SOper := [
  ⟨some 2, none, .mov (.c (.str []))⟩,
  ⟨some 3, none, .mov (.c (.bool false))⟩]
abbrev c52_4 : SC := .seq (.ops r52_3) (.ret)
abbrev c52_5 : SC := .cond (.t 7) c52_4 (.skip)
abbrev c52_6 : SC := .seq (.ops r52_2) c52_5
abbrev r52_7 : List SOper := [
  ⟨some 8, none, .mov (.t 0)⟩,
  ⟨some 9, none, .mov (.t 0)⟩,
  ⟨some 10, none, .len 0 (.t 9)⟩,
  ⟨some 11, none, .bin .sub (.t 10) (.c (.int .i64 8))⟩,
  ⟨some 12, none, .slice true 1 (.t 8) none (some (.t 11)) none⟩,
  ⟨some 4, none, .mov (.t 12)⟩]
abbrev r52_8 : List SOper := [
  ⟨some 13, none, .mov (.t 4)⟩,
  ⟨some 14, none, .mov (.t 4)⟩,
  ⟨some 15, none, .call false (.c (.func 42 [])) [.t 14]⟩,
  ⟨some 16, none, .mov (.t 0)⟩,
  ⟨some 17, none, .bin .eql (.t 15) (.t 16)⟩,
  ⟨some 2, none, .mov (.t 13)⟩,
  ⟨some 3, none, .mov (.t 17)⟩]
abbrev c52_9 : SC := .seq (.ops r52_8) (.ret)
abbrev c52_10 : SC := .seq (.ops r52_7) c52_9
abbrev c52_11 : SC := .seq c52_6 c52_10
abbrev c52_12 : SC := .seq (.ops r52_1) c52_11
def s52 : SF := ⟨[.t 2, .t 3], c52_12, false, none, none⟩
/-! crannog/octet.Read -/
abbrev r53_1 : List SOper := [
  ⟨some 10, none, .mkfn 106 [.t 5, .t 4]⟩]
abbrev r53_2 : List SOper := [
  ⟨some 4, none, .allocH none [.int .i64 0]⟩]
abbrev r53_3 : List SOper := [
  ⟨some 6, none, .mov (.t 0)⟩,
  ⟨some 7, none, .cvBS (.t 6)⟩,
  ⟨some 8, none, .build [.str [], .bool false] [(0, 1, .t 7), (1, 1, .c (.bool true))]⟩,
  ⟨some 9, none, .boxH none (.t 8)⟩,
  ⟨some 5, none, .allocH none [.nilp]⟩,
  ⟨none, none, .store 1 (.t 5) (.t 9)⟩]
abbrev r53_4 : List SOper := [
  ⟨some 11, none, .mov (.t 1)⟩,
  ⟨some 12, none, .cmpN true 3 (.t 11) (.c (.nilf))⟩]
abbrev r53_5 : List SOper := [
  ⟨some 13, none, .mov (.t 1)⟩,
  ⟨some 14, none, .load false false 1 (.t 5)⟩,
  ⟨some 15, none, .call false (.t 13) [.t 14]⟩]
abbrev c53_6 : SC := .cond (.t 12) (.ops r53_5) (.skip)
abbrev c53_7 : SC := .seq (.ops r53_4) c53_6
abbrev r53_8 : List SOper := [
  ⟨some 16, none, .load false false 1 (.t 5)⟩,
  ⟨some 17, none, .nilck (.t 16)⟩,
  ⟨some 18, none, .faddr 0 (.t 17)⟩,
  ⟨some 19, none, .load false false 1 (.t 18)⟩,
  ⟨some 20, none, .bin .neq (.t 19) (.c (.str []))⟩]
abbrev r53_9 : List SOper := [
  ⟨some 21, none, .load false false 1 (.t 5)⟩,
  ⟨some 22, none, .call false (.c (.func 56 [])) [.t 21, .c (.int .i64 201)]⟩]
abbrev c53_10 : SC := .cond (.t 20) (.ops r53_9) (.skip)
abbrev c53_11 : SC := .seq (.ops r53_8) c53_10
abbrev r53_12 : List SOper := [
  ⟨none, none, .store 1 (.t 4) (.c (.int .i64 0))⟩]
abbrev c53_13 : SC := .seq (.ops r53_12) (.ret)
abbrev c53_14 : SC := .seq c53_11 c53_13
abbrev c53_15 : SC := .seq c53_7 c53_14
abbrev c53_16 : SC := .seq (.ops r53_3) (.ops r53_1)
abbrev c53_17 : SC := .seq (.ops r53_2) c53_16
def s53 : SF := ⟨[.c 4 false 1], .skip, false, some ⟨c53_17, 10, c53_15⟩, none⟩
/-! crannog/archive.Get$1 -/
abbrev r54_1 : List SOper := [
  ⟨some 5, none, .mov (.t 0)⟩,
  ⟨some 6, none, .call false (.c (.func 55 [])) [.t 5, .c (.int .i64 2)]⟩,
  ⟨some 3, none, .mov (.t 6)⟩]
abbrev r54_2 : List SOper := [
  ⟨some 7, none, .mov (.t 3)⟩,
  ⟨some 8, none, .bin .gtr (.t 7) (.c (.int .i64 1000))⟩]
abbrev r54_3 : List SOper := [
  ⟨some 9, none, .mov (.t 0)⟩,
  ⟨some 10, none, .call false (.c (.func 56 [])) [.t 9, .c (.int .i64 201)]⟩]
abbrev c54_4 : SC := .cond (.t 8) (.ops r54_3) (.skip)
abbrev c54_5 : SC := .seq (.ops r54_2) c54_4
abbrev r54_6 : List SOper := [
  ⟨some 11, none, .mov (.t 3)⟩,
  ⟨some 12, none, .mov (.c (.int .i64 0))⟩]
abbrev r54_7 : List SOper := [
  ⟨some 13, none, .bin .lss (.t 12) (.t 11)⟩]
abbrev c54_8 : SC := .cond (.t 13) (.skip) (.exit 0)
abbrev r54_9 : List SOper := [
  ⟨some 14, none, .mov (.t 0)⟩,
  ⟨some 15, none, .call false (.c (.func 57 [])) [.t 14]⟩,
  ⟨some 4, none, .allocL [.str [], .int .i64 0, .int .i64 0, .int .u64 0, .str [], .nils, .int .i64 0]⟩,
  ⟨none, none, .store 7 (.t 4) (.t 15)⟩]
abbrev r54_10 : List SOper := [
  ⟨some 16, none, .load false true 7 (.t 4)⟩,
  ⟨some 17, none, .load false false 1 (.t 1)⟩,
  ⟨some 18, none, .call false (.c (.func 58 [])) [.t 16, .t 17]⟩,
  ⟨some 19, none, .un .not (.t 18)⟩]
abbrev r54_11 : List SOper := [
  ⟨some 20, none, .mov (.t 0)⟩,
  ⟨some 21, none, .call false (.c (.func 56 [])) [.t 20, .c (.int .i64 201)]⟩]
abbrev c54_12 : SC := .cond (.t 19) (.ops r54_11) (.skip)
abbrev c54_13 : SC := .seq (.ops r54_10) c54_12
abbrev r54_14 : List SOper := [
  ⟨some 22, none, .load false false 1 (.t 1)⟩,
  ⟨some 23, none, .load false true 7 (.t 4)⟩,
  ⟨some 24, none, .bsnap 7 [.t 23]⟩,
  ⟨some 25, none, .append 7 88 (.t 22) (.t 24)⟩,
  ⟨none, none, .store 1 (.t 1) (.t 25)⟩]
abbrev c54_15 : SC := .seq c54_13 (.ops r54_14)
abbrev c54_16 : SC := .seq (.ops r54_9) c54_15
abbrev c54_17 : SC := .block 1 [0, 1, 11, 12] [] c54_16
abbrev r54_18 : List SOper := [
  ⟨some 26, none, .bin .add (.t 12) (.c (.int .i64 1))⟩,
  ⟨some 12, none, .mov (.t 26)⟩]
abbrev c54_19 : SC := .seq c54_17 (.ops r54_18)
abbrev c54_20 : SC := .seq c54_8 c54_19
abbrev c54_21 : SC := .seq (.ops r54_7) c54_20
abbrev L54_1 : SC := .loop [0, 1, 11, 12] [] c54_21
abbrev c54_22 : SC := .block 0 [] [] L54_1
abbrev c54_23 : SC := .seq (.ops r54_6) c54_22
abbrev c54_24 : SC := .seq c54_5 c54_23
abbrev c54_25 : SC := .seq (.ops r54_1) c54_24
def s54 : SF := ⟨[], c54_25, false, none, none⟩
/-! (*crannog/octet.Eye).Num -/
abbrev r55_1 : List SOper := [
  ⟨some 4, none, .mov (.c (.int .i64 0))⟩]
abbrev r55_2 : List SOper := [
  ⟨some 8, none, .mov (.t 0)⟩,
  ⟨some 9, none, .call false (.c (.func 107 [])) [.t 8]⟩]
abbrev r55_3 : List SOper := [
  ⟨some 4, none, .mov (.c (.int .i64 0))⟩]
abbrev c55_4 : SC := .seq (.ops r55_3) (.ret)
abbrev c55_5 : SC := .cond (.t 9) c55_4 (.skip)
abbrev c55_6 : SC := .seq (.ops r55_2) c55_5
abbrev r55_7 : List SOper := [
  ⟨some 10, none, .mov (.t 1)⟩,
  ⟨some 11, none, .call false (.c (.func 93 [])) [.t 10]⟩,
  ⟨some 12, none, .un .not (.t 11)⟩]
abbrev r55_8 : List SOper := [
  ⟨some 13, none, .mov (.t 0)⟩,
  ⟨some 14, none, .call false (.c (.func 56 [])) [.t 13, .c (.int .i64 22)]⟩]
abbrev c55_9 : SC := .cond (.t 12) (.ops r55_8) (.skip)
abbrev c55_10 : SC := .seq (.ops r55_7) c55_9
abbrev r55_11 : List SOper := [
  ⟨some 5, none, .mov (.c (.int .i64 0))⟩]
abbrev r55_12 : List SOper := [
  ⟨some 15, none, .mov (.t 0)⟩,
  ⟨some 16, none, .mov (.t 1)⟩,
  ⟨some 17, none, .call false (.c (.func 108 [])) [.t 15, .t 16]⟩,
  ⟨some 18, none, .cvSB (.t 17)⟩,
  ⟨some 19, none, .len 1 (.t 18)⟩,
  ⟨some 20, none, .mov (.c (.int .i64 0))⟩]
abbrev r55_13 : List SOper := [
  ⟨some 21, none, .bin .lss (.t 20) (.t 19)⟩]
abbrev c55_14 : SC := .cond (.t 21) (.skip) (.exit 0)
abbrev r55_15 : List SOper := [
  ⟨some 22, none, .iaddr none 1 (.t 18) (.t 20)⟩,
  ⟨some 23, none, .load false false 1 (.t 22)⟩,
  ⟨some 7, none, .mov (.t 23)⟩]
abbrev r55_16 : List SOper := [
  ⟨some 24, none, .mov (.t 5)⟩,
  ⟨some 25, none, .bin .shl (.t 24) (.c (.int .u64 8))⟩,
  ⟨some 26, none, .mov (.t 7)⟩,
  ⟨some 27, none, .cvI .i64 (.t 26)⟩,
  ⟨some 28, none, .bin .or (.t 25) (.t 27)⟩,
  ⟨some 5, none, .mov (.t 28)⟩]
abbrev c55_17 : SC := .seq (.ops r55_15) (.ops r55_16)
abbrev c55_18 : SC := .block 1 [0, 5, 18, 19, 20] [] c55_17
abbrev r55_19 : List SOper := [
  ⟨some 29, none, .bin .add (.t 20) (.c (.int .i64 1))⟩,
  ⟨some 20, none, .mov (.t 29)⟩]
abbrev c55_20 : SC := .seq c55_18 (.ops r55_19)
abbrev c55_21 : SC := .seq c55_14 c55_20
abbrev c55_22 : SC := .seq (.ops r55_13) c55_21
abbrev L55_1 : SC := .loop [0, 5, 18, 19, 20] [] c55_22
abbrev c55_23 : SC := .block 0 [0, 5] [] L55_1
abbrev c55_24 : SC := .seq (.ops r55_12) c55_23
abbrev r55_25 : List SOper := [
  ⟨some 30, none, .mov (.t 5)⟩,
  ⟨some 31, none, .bin .lss (.t 30) (.c (.int .i64 0))⟩]
abbrev r55_26 : List SOper := [
  ⟨some 32, none, .mov (.t 0)⟩,
  ⟨some 33, none, .call false (.c (.func 56 [])) [.t 32, .c (.int .i64 201)]⟩]
abbrev c55_27 : SC := .cond (.t 31) (.ops r55_26) (.skip)
abbrev c55_28 : SC := .seq (.ops r55_25) c55_27
abbrev r55_29 : List SOper := [
  ⟨some 34, none, .mov (.t 5)⟩,
  ⟨some 4, none, .mov (.t 34)⟩]
abbrev c55_30 : SC := .seq (.ops r55_29) (.ret)
abbrev c55_31 : SC := .seq c55_28 c55_30
abbrev c55_32 : SC := .seq c55_24 c55_31
abbrev c55_33 : SC := .seq (.ops r55_11) c55_32
abbrev c55_34 : SC := .seq c55_10 c55_33
abbrev c55_35 : SC := .seq c55_6 c55_34
abbrev c55_36 : SC := .seq (.ops r55_1) c55_35
def s55 : SF := ⟨[.t 4], c55_36, false, none, none⟩
/-! (*crannog/octet.Eye).Fail -/
abbrev r56_1 : List SOper := [
  ⟨some 4, none, .mov (.t 0)⟩,
  ⟨some 5, none, .call false (.c (.func 107 [])) [.t 4]⟩,
  ⟨some 6, none, .un .not (.t 5)⟩]
abbrev r56_2 : List SOper := [
  ⟨some 7, none, .mov (.t 1)⟩,
  ⟨some 8, none, .build [.int .i64 0] [(0, 1, .t 7)]⟩,
  ⟨some 9, none, .mkif 181 (.t 8)⟩,
  ⟨none, none, .panic (.t 9)⟩]
abbrev c56_3 : SC := .cond (.t 6) (.ops r56_2) (.skip)
abbrev c56_4 : SC := .seq (.ops r56_1) c56_3
def s56 : SF := ⟨[], c56_4, false, none, none⟩
/-! crannog/archive.item -/
abbrev r57_1 : List SOper := [
  ⟨some 2, none, .allocL [.str [], .int .i64 0, .int .i64 0, .int .u64 0, .str [], .nils, .int .i64 0]⟩]
abbrev r57_2 : List SOper := [
  ⟨some 4, none, .mov (.t 0)⟩,
  ⟨some 5, none, .call false (.c (.func 109 [])) [.t 4, .c (.int .i64 8192)]⟩,
  ⟨some 6, none, .mov (.t 0)⟩,
  ⟨some 7, none, .call false (.c (.func 55 [])) [.t 6, .c (.int .i64 1)]⟩,
  ⟨some 8, none, .mov (.t 0)⟩,
  ⟨some 9, none, .call false (.c (.func 55 [])) [.t 8, .c (.int .i64 2)]⟩,
  ⟨some 10, none, .bin .sub (.t 9) (.c (.int .i64 1))⟩,
  ⟨some 11, none, .mov (.t 0)⟩,
  ⟨some 12, none, .call false (.c (.func 55 [])) [.t 11, .c (.int .i64 2)]⟩,
  ⟨some 13, none, .build [.str [], .int .i64 0, .int .i64 0, .int .u64 0, .str [], .nils, .int .i64 0] [(0, 1, .t 5), (1, 1, .t 7), (6, 1, .t 10), (2, 1, .t 12)]⟩,
  ⟨some 3, none, .allocL [.str [], .int .i64 0, .int .i64 0, .int .u64 0, .str [], .nils, .int .i64 0]⟩,
  ⟨none, none, .store 7 (.t 3) (.t 13)⟩]
abbrev r57_3 : List SOper := [
  ⟨some 14, none, .mov (.t 0)⟩,
  ⟨some 15, none, .call false (.c (.func 55 [])) [.t 14, .c (.int .i64 4)]⟩,
  ⟨some 16, none, .cvI .u64 (.t 15)⟩,
  ⟨some 17, none, .bin .shl (.t 16) (.c (.int .u64 32))⟩,
  ⟨some 18, none, .mov (.t 0)⟩,
  ⟨some 19, none, .call false (.c (.func 55 [])) [.t 18, .c (.int .i64 4)]⟩,
  ⟨some 20, none, .cvI .u64 (.t 19)⟩,
  ⟨some 21, none, .bin .or (.t 17) (.t 20)⟩,
  ⟨some 22, none, .faddr 3 (.t 3)⟩,
  ⟨none, none, .store 1 (.t 22) (.t 21)⟩]
abbrev r57_4 : List SOper := [
  ⟨some 23, none, .mov (.t 0)⟩,
  ⟨some 24, none, .call false (.c (.func 109 [])) [.t 23, .c (.int .i64 1024)]⟩,
  ⟨some 25, none, .faddr 4 (.t 3)⟩,
  ⟨none, none, .store 1 (.t 25) (.t 24)⟩]
abbrev r57_5 : List SOper := [
  ⟨some 26, none, .mov (.t 0)⟩,
  ⟨some 27, none, .call false (.c (.func 55 [])) [.t 26, .c (.int .i64 1)]⟩,
  ⟨some 28, none, .mov (.c (.int .i64 0))⟩]
abbrev r57_6 : List SOper := [
  ⟨some 29, none, .bin .lss (.t 28) (.t 27)⟩]
abbrev c57_7 : SC := .cond (.t 29) (.skip) (.exit 0)
abbrev r57_8 : List SOper := [
  ⟨some 30, none, .faddr 5 (.t 3)⟩,
  ⟨some 31, none, .loadA (.loc 3) false 1 (.t 30)⟩,
  ⟨some 32, none, .mov (.t 0)⟩,
  ⟨some 33, none, .call false (.c (.func 109 [])) [.t 32, .c (.int .i64 16)]⟩,
  ⟨some 34, none, .mov (.t 0)⟩,
  ⟨some 35, none, .call false (.c (.func 109 [])) [.t 34, .c (.int .i64 32)]⟩,
  ⟨some 36, none, .build [.str [], .int .i64 0, .int .i64 0, .str [], .bool false] [(0, 1, .t 33), (3, 1, .t 35)]⟩,
  ⟨some 37, none, .bsnap 5 [.t 36]⟩,
  ⟨some 38, none, .append 5 56 (.t 31) (.t 37)⟩,
  ⟨some 39, none, .faddr 5 (.t 3)⟩,
  ⟨none, none, .store 1 (.t 39) (.t 38)⟩]
abbrev c57_9 : SC := .block 1 [0, 2, 3, 27, 28] [2, 3] (.draw 1 [[], [0], [], [2], [], [3, 4], [5], [6], [1, 7], [8], [9]] r57_8)
abbrev r57_10 : List SOper := [
  ⟨some 40, none, .bin .add (.t 28) (.c (.int .i64 1))⟩,
  ⟨some 28, none, .mov (.t 40)⟩]
abbrev c57_11 : SC := .seq c57_9 (.ops r57_10)
abbrev c57_12 : SC := .seq c57_7 c57_11
abbrev c57_13 : SC := .seq (.ops r57_6) c57_12
abbrev L57_1 : SC := .loop [0, 2, 3, 27, 28] [2, 3] c57_13
abbrev c57_14 : SC := .block 0 [2, 3] [2, 3] L57_1
abbrev c57_15 : SC := .seq (.ops r57_5) c57_14
abbrev r57_16 : List SOper := [
  ⟨some 41, none, .load false true 7 (.t 3)⟩,
  ⟨none, none, .store 7 (.t 2) (.t 41)⟩]
abbrev c57_17 : SC := .seq (.ops r57_16) (.ret)
abbrev c57_18 : SC := .seq c57_15 c57_17
abbrev c57_19 : SC := .seq (.ops r57_4) c57_18
abbrev c57_20 : SC := .seq (.ops r57_3) c57_19
abbrev c57_21 : SC := .seq (.ops r57_2) c57_20
abbrev c57_22 : SC := .seq (.ops r57_1) c57_21
def s57 : SF := ⟨[.c 2 true 7], c57_22, false, none, none⟩
/-! crannog/archive.fit -/
abbrev r58_1 : List SOper := [
  ⟨some 2, none, .boxL (.t 0)⟩,
  ⟨some 4, none, .mov (.c (.bool false))⟩]
abbrev r58_2 : List SOper := [
  ⟨some 6, none, .faddr 1 (.t 2)⟩,
  ⟨some 7, none, .load false false 1 (.t 6)⟩,
  ⟨some 8, none, .bin .lss (.t 7) (.c (.int .i64 1))⟩,
  ⟨some 9, none, .mov (.t 8)⟩,
  ⟨some 10, some (9, false), .faddr 1 (.t 2)⟩,
  ⟨some 11, some (9, false), .load false false 1 (.t 10)⟩,
  ⟨some 12, some (9, false), .bin .gtr (.t 11) (.c (.int .i64 3))⟩,
  ⟨some 13, none, .pick (.t 9) (.c (.bool true)) (.t 12)⟩,
  ⟨some 14, none, .mov (.t 13)⟩,
  ⟨some 15, some (14, false), .faddr 2 (.t 2)⟩,
  ⟨some 16, some (14, false), .load false false 1 (.t 15)⟩,
  ⟨some 17, some (14, false), .bin .gtr (.t 16) (.c (.int .i64 511))⟩,
  ⟨some 18, none, .pick (.t 14) (.c (.bool true)) (.t 17)⟩,
  ⟨some 19, none, .mov (.t 18)⟩,
  ⟨some 20, some (19, false), .faddr 6 (.t 2)⟩,
  ⟨some 21, some (19, false), .load false false 1 (.t 20)⟩,
  ⟨some 22, some (19, false), .mov (.t 1)⟩,
  ⟨some 23, some (19, false), .len 1 (.t 22)⟩,
  ⟨some 24, some (19, false), .bin .geq (.t 21) (.t 23)⟩,
  ⟨some 25, none, .pick (.t 19) (.c (.bool true)) (.t 24)⟩]
abbrev r58_3 : List SOper := [
  ⟨some 4, none, .mov (.c (.bool false))⟩]
abbrev c58_4 : SC := .seq (.ops r58_3) (.ret)
abbrev c58_5 : SC := .cond (.t 25) c58_4 (.skip)
abbrev c58_6 : SC := .seq (.ops r58_2) c58_5
abbrev r58_7 : List SOper := [
  ⟨some 26, none, .faddr 6 (.t 2)⟩,
  ⟨some 27, none, .load false false 1 (.t 26)⟩,
  ⟨some 28, none, .bin .geq (.t 27) (.c (.int .i64 0))⟩]
abbrev r58_8 : List SOper := [
  ⟨some 29, none, .mov (.t 1)⟩,
  ⟨some 30, none, .faddr 6 (.t 2)⟩,
  ⟨some 31, none, .load false false 1 (.t 30)⟩,
  ⟨some 32, none, .iaddr none 7 (.t 29) (.t 31)⟩,
  ⟨some 33, none, .load false true 7 (.t 32)⟩,
  ⟨some 5, none, .allocL [.str [], .int .i64 0, .int .i64 0, .int .u64 0, .str [], .nils, .int .i64 0]⟩,
  ⟨none, none, .store 7 (.t 5) (.t 33)⟩]
abbrev r58_9 : List SOper := [
  ⟨some 34, none, .faddr 1 (.t 5)⟩,
  ⟨some 35, none, .load false false 1 (.t 34)⟩,
  ⟨some 36, none, .faddr 1 (.t 2)⟩,
  ⟨some 37, none, .load false false 1 (.t 36)⟩,
  ⟨some 38, none, .bin .eql (.t 35) (.t 37)⟩,
  ⟨some 39, none, .mov (.t 38)⟩,
  ⟨some 40, some (39, true), .faddr 1 (.t 2)⟩,
  ⟨some 41, some (39, true), .load false false 1 (.t 40)⟩,
  ⟨some 42, some (39, true), .bin .neq (.t 41) (.c (.int .i64 2))⟩,
  ⟨some 43, none, .pick (.t 39) (.t 42) (.c (.bool false))⟩,
  ⟨some 44, none, .mov (.t 43)⟩,
  ⟨some 45, some (44, true), .faddr 6 (.t 5)⟩,
  ⟨some 46, some (44, true), .load false false 1 (.t 45)⟩,
  ⟨some 47, some (44, true), .bin .lss (.t 46) (.c (.int .i64 0))⟩,
  ⟨some 48, none, .pick (.t 44) (.t 47) (.c (.bool false))⟩,
  ⟨some 49, none, .mov (.t 48)⟩,
  ⟨some 50, some (49, true), .faddr 2 (.t 2)⟩,
  ⟨some 51, some (49, true), .load false false 1 (.t 50)⟩,
  ⟨some 52, some (49, true), .bin .eql (.t 51) (.c (.int .i64 0))⟩,
  ⟨some 53, none, .pick (.t 49) (.t 52) (.c (.bool false))⟩,
  ⟨some 54, none, .mov (.t 53)⟩,
  ⟨some 55, some (54, true), .faddr 3 (.t 2)⟩,
  ⟨some 56, some (54, true), .load false false 1 (.t 55)⟩,
  ⟨some 57, some (54, true), .bin .eql (.t 56) (.c (.int .u64 0))⟩,
  ⟨some 58, none, .pick (.t 54) (.t 57) (.c (.bool false))⟩,
  ⟨some 59, none, .mov (.t 58)⟩,
  ⟨some 60, some (59, true), .faddr 4 (.t 2)⟩,
  ⟨some 61, some (59, true), .load false false 1 (.t 60)⟩,
  ⟨some 62, some (59, true), .bin .eql (.t 61) (.c (.str []))⟩,
  ⟨some 63, none, .pick (.t 59) (.t 62) (.c (.bool false))⟩,
  ⟨some 64, none, .mov (.t 63)⟩,
  ⟨some 65, some (64, true), .faddr 5 (.t 2)⟩,
  ⟨some 66, some (64, true), .load false false 1 (.t 65)⟩,
  ⟨some 67, some (64, true), .len 1 (.t 66)⟩,
  ⟨some 68, some (64, true), .bin .eql (.t 67) (.c (.int .i64 0))⟩,
  ⟨some 69, none, .pick (.t 64) (.t 68) (.c (.bool false))⟩,
  ⟨some 4, none, .mov (.t 69)⟩]
abbrev c58_10 : SC := .seq (.ops r58_9) (.ret)
abbrev c58_11 : SC := .seq (.ops r58_8) c58_10
abbrev c58_12 : SC := .cond (.t 28) c58_11 (.skip)
abbrev c58_13 : SC := .seq (.ops r58_7) c58_12
abbrev r58_14 : List SOper := [
  ⟨some 70, none, .faddr 3 (.t 2)⟩,
  ⟨some 71, none, .load false false 1 (.t 70)⟩,
  ⟨some 72, none, .call false (.c (.func 89 [])) [.t 71]⟩,
  ⟨some 73, none, .mov (.t 72)⟩,
  ⟨some 74, some (73, true), .faddr 1 (.t 2)⟩,
  ⟨some 75, some (73, true), .load false false 1 (.t 74)⟩,
  ⟨some 76, some (73, true), .bin .neq (.t 75) (.c (.int .i64 2))⟩,
  ⟨some 77, some (73, true), .mov (.t 76)⟩,
  ⟨some 78, some (77, false), .faddr 4 (.t 2)⟩,
  ⟨some 79, some (77, false), .load false false 1 (.t 78)⟩,
  ⟨some 80, some (77, false), .bin .eql (.t 79) (.c (.str []))⟩,
  ⟨some 81, some (73, true), .pick (.t 77) (.c (.bool true)) (.t 80)⟩,
  ⟨some 82, none, .pick (.t 73) (.t 81) (.c (.bool false))⟩,
  ⟨some 83, none, .mov (.t 82)⟩,
  ⟨some 84, some (83, true), .faddr 1 (.t 2)⟩,
  ⟨some 85, some (83, true), .load false false 1 (.t 84)⟩,
  ⟨some 86, some (83, true), .bin .neq (.t 85) (.c (.int .i64 3))⟩,
  ⟨some 87, some (83, true), .mov (.t 86)⟩,
  ⟨some 88, some (87, false), .faddr 4 (.t 2)⟩,
  ⟨some 89, some (87, false), .load false false 1 (.t 88)⟩,
  ⟨some 90, some (87, false), .bin .neq (.t 89) (.c (.str []))⟩,
  ⟨some 91, some (87, false), .mov (.t 90)⟩,
  ⟨some 92, some (91, true), .faddr 4 (.t 2)⟩,
  ⟨some 93, some (91, true), .load false false 1 (.t 92)⟩,
  ⟨some 94, some (91, true), .len 0 (.t 93)⟩,
  ⟨some 95, some (91, true), .bin .leq (.t 94) (.c (.int .i64 120))⟩,
  ⟨some 96, some (87, false), .pick (.t 91) (.t 95) (.c (.bool false))⟩,
  ⟨some 97, some (83, true), .pick (.t 87) (.c (.bool true)) (.t 96)⟩,
  ⟨some 98, none, .pick (.t 83) (.t 97) (.c (.bool false))⟩,
  ⟨some 4, none, .mov (.t 98)⟩]
abbrev c58_15 : SC := .seq (.ops r58_14) (.ret)
abbrev c58_16 : SC := .seq c58_13 c58_15
abbrev c58_17 : SC := .seq c58_6 c58_16
abbrev c58_18 : SC := .seq (.ops r58_1) c58_17
def s58 : SF := ⟨[.t 4], c58_18, false, none, none⟩
/-! crannog/crannogref03.Open -/
abbrev r59_1 : List SOper := [
  ⟨some 2, none, .mov (.c (.str []))⟩,
  ⟨some 3, none, .mov (.c (.bool false))⟩]
abbrev r59_2 : List SOper := [
  ⟨some 4, none, .mov (.t 0)⟩,
  ⟨some 5, none, .len 0 (.t 4)⟩,
  ⟨some 6, none, .bin .lss (.t 5) (.c (.int .i64 8))⟩]
abbrev r59_3 : List SOper := [
  ⟨some 2, none, .mov (.c (.str []))⟩,
  ⟨some 3, none, .mov (.c (.bool false))⟩]
abbrev c59_4 : SC := .seq (.ops r59_3) (.ret)
abbrev c59_5 : SC := .cond (.t 6) c59_4 (.skip)
abbrev c59_6 : SC := .seq (.ops r59_2) c59_5
abbrev r59_7 : List SOper := [
  ⟨some 7, none, .mov (.t 0)⟩,
  ⟨some 8, none, .mov (.t 0)⟩,
  ⟨some 9, none, .len 0 (.t 8)⟩,
  ⟨some 10, none, .bin .sub (.t 9) (.c (.int .i64 8))⟩,
  ⟨some 11, none, .slice true 1 (.t 7) none (some (.t 10)) none⟩,
  ⟨some 12, none, .mov (.t 0)⟩,
  ⟨some 13, none, .mov (.t 0)⟩,
  ⟨some 14, none, .len 0 (.t 13)⟩,
  ⟨some 15, none, .bin .sub (.t 14) (.c (.int .i64 8))⟩,
  ⟨some 16, none, .slice true 1 (.t 12) none (some (.t 15)) none⟩,
  ⟨some 17, none, .call false (.c (.func 45 [])) [.t 16]⟩,
  ⟨some 18, none, .mov (.t 0)⟩,
  ⟨some 19, none, .bin .eql (.t 17) (.t 18)⟩,
  ⟨some 2, none, .mov (.t 11)⟩,
  ⟨some 3, none, .mov (.t 19)⟩]
abbrev c59_8 : SC := .seq (.draw 0 [[], [], [1], [2], [0, 3], [], [], [6], [7], [5, 8], [9], [], [10, 11], [4, 10], [12, 13]] r59_7) (.ret)
abbrev c59_9 : SC := .seq c59_6 c59_8
abbrev c59_10 : SC := .seq (.ops r59_1) c59_9
def s59 : SF := ⟨[.t 2, .t 3], c59_10, false, none, none⟩
/-! (*crannog/crannogref01.Eye).Num -/
abbrev r60_1 : List SOper := [
  ⟨some 4, none, .mov (.c (.int .i64 0))⟩]
abbrev r60_2 : List SOper := [
  ⟨some 8, none, .mov (.t 0)⟩,
  ⟨some 9, none, .nilck (.t 8)⟩,
  ⟨some 10, none, .faddr 2 (.t 9)⟩,
  ⟨some 11, none, .load false false 1 (.t 10)⟩]
abbrev r60_3 : List SOper := [
  ⟨some 4, none, .mov (.c (.int .i64 0))⟩]
abbrev c60_4 : SC := .seq (.ops r60_3) (.ret)
abbrev c60_5 : SC := .cond (.t 11) c60_4 (.skip)
abbrev c60_6 : SC := .seq (.ops r60_2) c60_5
abbrev r60_7 : List SOper := [
  ⟨some 12, none, .mov (.t 1)⟩,
  ⟨some 13, none, .bin .lss (.t 12) (.c (.int .i64 1))⟩,
  ⟨some 14, none, .mov (.t 13)⟩,
  ⟨some 15, some (14, false), .mov (.t 1)⟩,
  ⟨some 16, some (14, false), .bin .gtr (.t 15) (.c (.int .i64 8))⟩,
  ⟨some 17, none, .pick (.t 14) (.c (.bool true)) (.t 16)⟩]
abbrev r60_8 : List SOper := [
  ⟨some 18, none, .mov (.t 0)⟩,
  ⟨some 19, none, .call false (.c (.func 110 [])) [.t 18, .c (.int .i64 22)]⟩]
abbrev r60_9 : List SOper := [
  ⟨some 4, none, .mov (.c (.int .i64 0))⟩]
abbrev c60_10 : SC := .seq (.ops r60_9) (.ret)
abbrev c60_11 : SC := .seq (.ops r60_8) c60_10
abbrev c60_12 : SC := .cond (.t 17) c60_11 (.skip)
abbrev c60_13 : SC := .seq (.ops r60_7) c60_12
abbrev r60_14 : List SOper := [
  ⟨some 20, none, .mov (.t 0)⟩,
  ⟨some 21, none, .mov (.t 1)⟩,
  ⟨some 22, none, .call false (.c (.func 111 [])) [.t 20, .t 21]⟩,
  ⟨some 5, none, .mov (.t 22)⟩]
abbrev r60_15 : List SOper := [
  ⟨some 6, none, .mov (.c (.int .u64 0))⟩]
abbrev r60_16 : List SOper := [
  ⟨some 23, none, .mov (.t 5)⟩,
  ⟨some 24, none, .len 0 (.t 23)⟩,
  ⟨some 25, none, .mov (.c (.int .i64 0))⟩]
abbrev r60_17 : List SOper := [
  ⟨some 26, none, .bin .lss (.t 25) (.t 24)⟩]
abbrev c60_18 : SC := .cond (.t 26) (.skip) (.exit 0)
abbrev r60_19 : List SOper := [
  ⟨some 27, none, .mov (.t 25)⟩,
  ⟨some 7, none, .mov (.t 27)⟩]
abbrev r60_20 : List SOper := [
  ⟨some 28, none, .mov (.t 6)⟩,
  ⟨some 29, none, .bin .mul (.t 28) (.c (.int .u64 256))⟩,
  ⟨some 30, none, .mov (.t 5)⟩,
  ⟨some 31, none, .mov (.t 7)⟩,
  ⟨some 32, none, .index none (.t 30) (.t 31)⟩,
  ⟨some 33, none, .cvI .u64 (.t 32)⟩,
  ⟨some 34, none, .bin .add (.t 29) (.t 33)⟩,
  ⟨some 6, none, .mov (.t 34)⟩]
abbrev c60_21 : SC := .seq (.ops r60_19) (.ops r60_20)
abbrev c60_22 : SC := .block 1 [0, 5, 6, 24, 25] [] c60_21
abbrev r60_23 : List SOper := [
  ⟨some 35, none, .bin .add (.t 25) (.c (.int .i64 1))⟩,
  ⟨some 25, none, .mov (.t 35)⟩]
abbrev c60_24 : SC := .seq c60_22 (.ops r60_23)
abbrev c60_25 : SC := .seq c60_18 c60_24
abbrev c60_26 : SC := .seq (.ops r60_17) c60_25
abbrev L60_1 : SC := .loop [0, 5, 6, 24, 25] [] c60_26
abbrev c60_27 : SC := .block 0 [0, 6] [] L60_1
abbrev c60_28 : SC := .seq (.ops r60_16) c60_27
abbrev r60_29 : List SOper := [
  ⟨some 36, none, .mov (.t 6)⟩,
  ⟨some 37, none, .bin .geq (.t 36) (.c (.int .u64 9223372036854775808))⟩]
abbrev r60_30 : List SOper := [
  ⟨some 38, none, .mov (.t 0)⟩,
  ⟨some 39, none, .call false (.c (.func 110 [])) [.t 38, .c (.int .i64 201)]⟩]
abbrev r60_31 : List SOper := [
  ⟨some 4, none, .mov (.c (.int .i64 0))⟩]
abbrev c60_32 : SC := .seq (.ops r60_31) (.ret)
abbrev c60_33 : SC := .seq (.ops r60_30) c60_32
abbrev c60_34 : SC := .cond (.t 37) c60_33 (.skip)
abbrev c60_35 : SC := .seq (.ops r60_29) c60_34
abbrev r60_36 : List SOper := [
  ⟨some 40, none, .mov (.t 6)⟩,
  ⟨some 41, none, .cvI .i64 (.t 40)⟩,
  ⟨some 4, none, .mov (.t 41)⟩]
abbrev c60_37 : SC := .seq (.ops r60_36) (.ret)
abbrev c60_38 : SC := .seq c60_35 c60_37
abbrev c60_39 : SC := .seq c60_28 c60_38
abbrev c60_40 : SC := .seq (.ops r60_15) c60_39
abbrev c60_41 : SC := .seq (.ops r60_14) c60_40
abbrev c60_42 : SC := .seq c60_13 c60_41
abbrev c60_43 : SC := .seq c60_6 c60_42
abbrev c60_44 : SC := .seq (.ops r60_1) c60_43
def s60 : SF := ⟨[.t 4], c60_44, false, none, none⟩
/-! (*crannog/crannogref01.Eye).Text -/
abbrev r61_1 : List SOper := [
  ⟨some 4, none, .mov (.c (.str []))⟩]
abbrev r61_2 : List SOper := [
  ⟨some 6, none, .mov (.t 0)⟩,
  ⟨some 7, none, .call false (.c (.func 60 [])) [.t 6, .c (.int .i64 2)]⟩,
  ⟨some 5, none, .mov (.t 7)⟩]
abbrev r61_3 : List SOper := [
  ⟨some 8, none, .mov (.t 5)⟩,
  ⟨some 9, none, .mov (.t 1)⟩,
  ⟨some 10, none, .bin .gtr (.t 8) (.t 9)⟩]
abbrev r61_4 : List SOper := [
  ⟨some 11, none, .mov (.t 0)⟩,
  ⟨some 12, none, .call false (.c (.func 110 [])) [.t 11, .c (.int .i64 203)]⟩]
abbrev c61_5 : SC := .cond (.t 10) (.ops r61_4) (.skip)
abbrev c61_6 : SC := .seq (.ops r61_3) c61_5
abbrev r61_7 : List SOper := [
  ⟨some 13, none, .mov (.t 0)⟩,
  ⟨some 14, none, .mov (.t 5)⟩,
  ⟨some 15, none, .call false (.c (.func 111 [])) [.t 13, .t 14]⟩,
  ⟨some 4, none, .mov (.t 15)⟩]
abbrev c61_8 : SC := .seq (.ops r61_7) (.ret)
abbrev c61_9 : SC := .seq c61_6 c61_8
abbrev c61_10 : SC := .seq (.ops r61_2) c61_9
abbrev c61_11 : SC := .seq (.ops r61_1) c61_10
def s61 : SF := ⟨[.t 4], c61_11, false, none, none⟩
/-! crannog/crannogref26.fit -/
abbrev r62_1 : List SOper := [
  ⟨some 2, none, .boxL (.t 0)⟩,
  ⟨some 4, none, .mov (.c (.bool false))⟩]
abbrev r62_2 : List SOper := [
  ⟨some 6, none, .faddr 1 (.t 2)⟩,
  ⟨some 7, none, .load false false 1 (.t 6)⟩,
  ⟨some 8, none, .bin .lss (.t 7) (.c (.int .i64 1))⟩,
  ⟨some 9, none, .mov (.t 8)⟩,
  ⟨some 10, some (9, false), .faddr 1 (.t 2)⟩,
  ⟨some 11, some (9, false), .load false false 1 (.t 10)⟩,
  ⟨some 12, some (9, false), .bin .gtr (.t 11) (.c (.int .i64 3))⟩,
  ⟨some 13, none, .pick (.t 9) (.c (.bool true)) (.t 12)⟩,
  ⟨some 14, none, .mov (.t 13)⟩,
  ⟨some 15, some (14, false), .faddr 2 (.t 2)⟩,
  ⟨some 16, some (14, false), .load false false 1 (.t 15)⟩,
  ⟨some 17, some (14, false), .bin .gtr (.t 16) (.c (.int .i64 511))⟩,
  ⟨some 18, none, .pick (.t 14) (.c (.bool true)) (.t 17)⟩,
  ⟨some 19, none, .mov (.t 18)⟩,
  ⟨some 20, some (19, false), .faddr 6 (.t 2)⟩,
  ⟨some 21, some (19, false), .load false false 1 (.t 20)⟩,
  ⟨some 22, some (19, false), .mov (.t 1)⟩,
  ⟨some 23, some (19, false), .len 1 (.t 22)⟩,
  ⟨some 24, some (19, false), .bin .geq (.t 21) (.t 23)⟩,
  ⟨some 25, none, .pick (.t 19) (.c (.bool true)) (.t 24)⟩]
abbrev r62_3 : List SOper := [
  ⟨some 4, none, .mov (.c (.bool false))⟩]
abbrev c62_4 : SC := .seq (.ops r62_3) (.ret)
abbrev c62_5 : SC := .cond (.t 25) c62_4 (.skip)
abbrev c62_6 : SC := .seq (.ops r62_2) c62_5
abbrev r62_7 : List SOper := [
  ⟨some 26, none, .faddr 6 (.t 2)⟩,
  ⟨some 27, none, .load false false 1 (.t 26)⟩,
  ⟨some 28, none, .bin .geq (.t 27) (.c (.int .i64 0))⟩]
abbrev r62_8 : List SOper := [
  ⟨some 29, none, .mov (.t 1)⟩,
  ⟨some 30, none, .faddr 6 (.t 2)⟩,
  ⟨some 31, none, .load false false 1 (.t 30)⟩,
  ⟨some 32, none, .iaddr none 9 (.t 29) (.t 31)⟩,
  ⟨some 33, none, .load false true 9 (.t 32)⟩,
  ⟨some 5, none, .allocL [.str [], .int .i64 0, .int .i64 0, .int .u64 0, .str [], .nils, .int .i64 0, .int .i64 0, .int .i64 0]⟩,
  ⟨none, none, .store 9 (.t 5) (.t 33)⟩]
abbrev r62_9 : List SOper := [
  ⟨some 34, none, .faddr 6 (.t 5)⟩,
  ⟨some 35, none, .load false false 1 (.t 34)⟩,
  ⟨some 36, none, .bin .lss (.t 35) (.c (.int .i64 0))⟩,
  ⟨some 37, none, .mov (.t 36)⟩,
  ⟨some 38, some (37, true), .faddr 1 (.t 5)⟩,
  ⟨some 39, some (37, true), .load false false 1 (.t 38)⟩,
  ⟨some 40, some (37, true), .faddr 1 (.t 2)⟩,
  ⟨some 41, some (37, true), .load false false 1 (.t 40)⟩,
  ⟨some 42, some (37, true), .bin .eql (.t 39) (.t 41)⟩,
  ⟨some 43, none, .pick (.t 37) (.t 42) (.c (.bool false))⟩,
  ⟨some 44, none, .mov (.t 43)⟩,
  ⟨some 45, some (44, true), .faddr 1 (.t 2)⟩,
  ⟨some 46, some (44, true), .load false false 1 (.t 45)⟩,
  ⟨some 47, some (44, true), .bin .neq (.t 46) (.c (.int .i64 2))⟩,
  ⟨some 48, none, .pick (.t 44) (.t 47) (.c (.bool false))⟩,
  ⟨some 49, none, .mov (.t 48)⟩,
  ⟨some 50, some (49, true), .faddr 2 (.t 2)⟩,
  ⟨some 51, some (49, true), .load false false 1 (.t 50)⟩,
  ⟨some 52, some (49, true), .bin .eql (.t 51) (.c (.int .i64 0))⟩,
  ⟨some 53, none, .pick (.t 49) (.t 52) (.c (.bool false))⟩,
  ⟨some 54, none, .mov (.t 53)⟩,
  ⟨some 55, some (54, true), .faddr 3 (.t 2)⟩,
  ⟨some 56, some (54, true), .load false false 1 (.t 55)⟩,
  ⟨some 57, some (54, true), .bin .eql (.t 56) (.c (.int .u64 0))⟩,
  ⟨some 58, none, .pick (.t 54) (.t 57) (.c (.bool false))⟩,
  ⟨some 59, none, .mov (.t 58)⟩,
  ⟨some 60, some (59, true), .faddr 4 (.t 2)⟩,
  ⟨some 61, some (59, true), .load false false 1 (.t 60)⟩,
  ⟨some 62, some (59, true), .bin .eql (.t 61) (.c (.str []))⟩,
  ⟨some 63, none, .pick (.t 59) (.t 62) (.c (.bool false))⟩,
  ⟨some 64, none, .mov (.t 63)⟩,
  ⟨some 65, some (64, true), .faddr 5 (.t 2)⟩,
  ⟨some 66, some (64, true), .load false false 1 (.t 65)⟩,
  ⟨some 67, some (64, true), .len 1 (.t 66)⟩,
  ⟨some 68, some (64, true), .bin .eql (.t 67) (.c (.int .i64 0))⟩,
  ⟨some 69, none, .pick (.t 64) (.t 68) (.c (.bool false))⟩,
  ⟨some 4, none, .mov (.t 69)⟩]
abbrev c62_10 : SC := .seq (.ops r62_9) (.ret)
abbrev c62_11 : SC := .seq (.ops r62_8) c62_10
abbrev c62_12 : SC := .cond (.t 28) c62_11 (.skip)
abbrev c62_13 : SC := .seq (.ops r62_7) c62_12
abbrev r62_14 : List SOper := [
  ⟨some 70, none, .faddr 1 (.t 2)⟩,
  ⟨some 71, none, .load false false 1 (.t 70)⟩,
  ⟨some 72, none, .bin .eql (.t 71) (.c (.int .i64 2))⟩,
  ⟨some 73, none, .mov (.t 72)⟩,
  ⟨some 74, some (73, true), .faddr 4 (.t 2)⟩,
  ⟨some 75, some (73, true), .load false false 1 (.t 74)⟩,
  ⟨some 76, some (73, true), .bin .neq (.t 75) (.c (.str []))⟩,
  ⟨some 77, none, .pick (.t 73) (.t 76) (.c (.bool false))⟩,
  ⟨some 78, none, .mov (.t 77)⟩,
  ⟨some 79, some (78, false), .faddr 1 (.t 2)⟩,
  ⟨some 80, some (78, false), .load false false 1 (.t 79)⟩,
  ⟨some 81, some (78, false), .bin .eql (.t 80) (.c (.int .i64 3))⟩,
  ⟨some 82, some (78, false), .mov (.t 81)⟩,
  ⟨some 83, some (82, true), .faddr 4 (.t 2)⟩,
  ⟨some 84, some (82, true), .load false false 1 (.t 83)⟩,
  ⟨some 85, some (82, true), .bin .eql (.t 84) (.c (.str []))⟩,
  ⟨some 86, some (82, true), .mov (.t 85)⟩,
  ⟨some 87, some (86, false), .faddr 4 (.t 2)⟩,
  ⟨some 88, some (86, false), .load false false 1 (.t 87)⟩,
  ⟨some 89, some (86, false), .len 0 (.t 88)⟩,
  ⟨some 90, some (86, false), .bin .gtr (.t 89) (.c (.int .i64 120))⟩,
  ⟨some 91, some (82, true), .pick (.t 86) (.c (.bool true)) (.t 90)⟩,
  ⟨some 92, some (78, false), .pick (.t 82) (.t 91) (.c (.bool false))⟩,
  ⟨some 93, none, .pick (.t 78) (.c (.bool true)) (.t 92)⟩]
abbrev r62_15 : List SOper := [
  ⟨some 4, none, .mov (.c (.bool false))⟩]
abbrev c62_16 : SC := .seq (.ops r62_15) (.ret)
abbrev c62_17 : SC := .cond (.t 93) c62_16 (.skip)
abbrev c62_18 : SC := .seq (.ops r62_14) c62_17
abbrev r62_19 : List SOper := [
  ⟨some 94, none, .faddr 3 (.t 2)⟩,
  ⟨some 95, none, .load false false 1 (.t 94)⟩,
  ⟨some 96, none, .call false (.c (.func 112 [])) [.t 95]⟩,
  ⟨some 4, none, .mov (.t 96)⟩]
abbrev c62_20 : SC := .seq (.ops r62_19) (.ret)
abbrev c62_21 : SC := .seq c62_18 c62_20
abbrev c62_22 : SC := .seq c62_13 c62_21
abbrev c62_23 : SC := .seq c62_6 c62_22
abbrev c62_24 : SC := .seq (.ops r62_1) c62_23
def s62 : SF := ⟨[.t 4], c62_24, false, none, none⟩
/-! (*crannog/crannogref01.Eye).End -/
abbrev r63_1 : List SOper := [
  ⟨some 2, none, .mov (.c (.int .i64 0))⟩]
abbrev r63_2 : List SOper := [
  ⟨some 3, none, .mov (.t 0)⟩,
  ⟨some 4, none, .nilck (.t 3)⟩,
  ⟨some 5, none, .faddr 2 (.t 4)⟩,
  ⟨some 6, none, .load false false 1 (.t 5)⟩,
  ⟨some 7, none, .un .not (.t 6)⟩,
  ⟨some 8, none, .mov (.t 7)⟩,
  ⟨some 9, some (8, true), .mov (.t 0)⟩,
  ⟨some 10, some (8, true), .nilck (.t 9)⟩,
  ⟨some 11, some (8, true), .faddr 1 (.t 10)⟩,
  ⟨some 12, some (8, true), .load false false 1 (.t 11)⟩,
  ⟨some 13, some (8, true), .mov (.t 0)⟩,
  ⟨some 14, some (8, true), .nilck (.t 13)⟩,
  ⟨some 15, some (8, true), .faddr 0 (.t 14)⟩,
  ⟨some 16, some (8, true), .load false false 1 (.t 15)⟩,
  ⟨some 17, some (8, true), .len 0 (.t 16)⟩,
  ⟨some 18, some (8, true), .bin .lss (.t 12) (.t 17)⟩,
  ⟨some 19, none, .pick (.t 8) (.t 18) (.c (.bool false))⟩]
abbrev r63_3 : List SOper := [
  ⟨some 20, none, .mov (.t 0)⟩,
  ⟨some 21, none, .call false (.c (.func 110 [])) [.t 20, .c (.int .i64 201)]⟩]
abbrev c63_4 : SC := .cond (.t 19) (.ops r63_3) (.skip)
abbrev c63_5 : SC := .seq (.draw 0 [[], [0], [1], [2], [3], [4], [5], [6], [7], [8], [5], [10], [11], [12], [13], [9, 14], [15]] r63_2) c63_4
abbrev r63_6 : List SOper := [
  ⟨some 22, none, .mov (.t 0)⟩,
  ⟨some 23, none, .nilck (.t 22)⟩,
  ⟨some 24, none, .faddr 3 (.t 23)⟩,
  ⟨some 25, none, .load false false 1 (.t 24)⟩,
  ⟨some 2, none, .mov (.t 25)⟩]
abbrev c63_7 : SC := .seq (.ops r63_6) (.ret)
abbrev c63_8 : SC := .seq c63_5 c63_7
abbrev c63_9 : SC := .seq (.ops r63_1) c63_8
def s63 : SF := ⟨[.t 2], c63_9, false, none, none⟩
/-! slices.EqualFunc[[]crannog/crannogref26.Item,[]crannog/crannogref26.Item,crannog/crannogref26.Item,crannog/crannogref26.Item] -/
abbrev r64_1 : List SOper := [
  ⟨some 6, none, .mov (.c (.bool false))⟩]
abbrev r64_2 : List SOper := [
  ⟨some 10, none, .mov (.t 0)⟩,
  ⟨some 11, none, .len 1 (.t 10)⟩,
  ⟨some 12, none, .mov (.t 1)⟩,
  ⟨some 13, none, .len 1 (.t 12)⟩,
  ⟨some 14, none, .bin .neq (.t 11) (.t 13)⟩]
abbrev r64_3 : List SOper := [
  ⟨some 6, none, .mov (.c (.bool false))⟩]
abbrev c64_4 : SC := .seq (.ops r64_3) (.ret)
abbrev c64_5 : SC := .cond (.t 14) c64_4 (.skip)
abbrev c64_6 : SC := .seq (.ops r64_2) c64_5
abbrev r64_7 : List SOper := [
  ⟨some 15, none, .mov (.t 0)⟩,
  ⟨some 16, none, .len 1 (.t 15)⟩,
  ⟨some 17, none, .mov (.c (.int .i64 0))⟩]
abbrev r64_8 : List SOper := [
  ⟨some 18, none, .bin .lss (.t 17) (.t 16)⟩]
abbrev c64_9 : SC := .cond (.t 18) (.skip) (.exit 0)
abbrev r64_10 : List SOper := [
  ⟨some 19, none, .mov (.t 17)⟩,
  ⟨some 20, none, .iaddr none 9 (.t 15) (.t 17)⟩,
  ⟨some 21, none, .load false true 9 (.t 20)⟩,
  ⟨some 8, none, .allocL [.str [], .int .i64 0, .int .i64 0, .int .u64 0, .str [], .nils, .int .i64 0, .int .i64 0, .int .i64 0]⟩,
  ⟨some 7, none, .mov (.t 19)⟩,
  ⟨none, none, .store 9 (.t 8) (.t 21)⟩]
abbrev r64_11 : List SOper := [
  ⟨some 22, none, .mov (.t 1)⟩,
  ⟨some 23, none, .mov (.t 7)⟩,
  ⟨some 24, none, .iaddr none 9 (.t 22) (.t 23)⟩,
  ⟨some 25, none, .load false true 9 (.t 24)⟩,
  ⟨some 9, none, .allocL [.str [], .int .i64 0, .int .i64 0, .int .u64 0, .str [], .nils, .int .i64 0, .int .i64 0, .int .i64 0]⟩,
  ⟨none, none, .store 9 (.t 9) (.t 25)⟩]
abbrev r64_12 : List SOper := [
  ⟨some 26, none, .mov (.t 2)⟩,
  ⟨some 27, none, .load false true 9 (.t 8)⟩,
  ⟨some 28, none, .load false true 9 (.t 9)⟩,
  ⟨some 29, none, .call false (.t 26) [.t 27, .t 28]⟩,
  ⟨some 30, none, .un .not (.t 29)⟩]
abbrev r64_13 : List SOper := [
  ⟨some 6, none, .mov (.c (.bool false))⟩]
abbrev c64_14 : SC := .seq (.ops r64_13) (.ret)
abbrev c64_15 : SC := .cond (.t 30) c64_14 (.skip)
abbrev c64_16 : SC := .seq (.ops r64_12) c64_15
abbrev c64_17 : SC := .seq (.ops r64_11) c64_16
abbrev c64_18 : SC := .seq (.ops r64_10) c64_17
abbrev c64_19 : SC := .block 1 [1, 2, 15, 16, 17] [] c64_18
abbrev r64_20 : List SOper := [
  ⟨some 31, none, .bin .add (.t 17) (.c (.int .i64 1))⟩,
  ⟨some 17, none, .mov (.t 31)⟩]
abbrev c64_21 : SC := .seq c64_19 (.ops r64_20)
abbrev c64_22 : SC := .seq c64_9 c64_21
abbrev c64_23 : SC := .seq (.ops r64_8) c64_22
abbrev L64_1 : SC := .loop [1, 2, 15, 16, 17] [] c64_23
abbrev c64_24 : SC := .block 0 [] [] L64_1
abbrev c64_25 : SC := .seq (.ops r64_7) c64_24
abbrev r64_26 : List SOper := [
  ⟨some 6, none, .mov (.c (.bool true))⟩]
abbrev c64_27 : SC := .seq (.ops r64_26) (.ret)
abbrev c64_28 : SC := .seq c64_25 c64_27
abbrev c64_29 : SC := .seq c64_6 c64_28
abbrev c64_30 : SC := .seq (.ops r64_1) c64_29
def s64 : SF := ⟨[.t 6], c64_30, false, none, none⟩
/-! crannog/crannoglaw26.same$1 -/
abbrev r65_1 : List SOper := [
  ⟨some 2, none, .boxL (.t 0)⟩,
  ⟨some 3, none, .boxL (.t 1)⟩,
  ⟨some 4, none, .mov (.c (.bool false))⟩]
abbrev r65_2 : List SOper := [
  ⟨some 5, none, .faddr 0 (.t 2)⟩,
  ⟨some 6, none, .load false false 1 (.t 5)⟩,
  ⟨some 7, none, .faddr 0 (.t 3)⟩,
  ⟨some 8, none, .load false false 1 (.t 7)⟩,
  ⟨some 9, none, .bin .eql (.t 6) (.t 8)⟩,
  ⟨some 10, none, .mov (.t 9)⟩,
  ⟨some 11, some (10, true), .faddr 1 (.t 2)⟩,
  ⟨some 12, some (10, true), .load false false 1 (.t 11)⟩,
  ⟨some 13, some (10, true), .faddr 1 (.t 3)⟩,
  ⟨some 14, some (10, true), .load false false 1 (.t 13)⟩,
  ⟨some 15, some (10, true), .bin .eql (.t 12) (.t 14)⟩,
  ⟨some 16, none, .pick (.t 10) (.t 15) (.c (.bool false))⟩,
  ⟨some 17, none, .mov (.t 16)⟩,
  ⟨some 18, some (17, true), .faddr 2 (.t 2)⟩,
  ⟨some 19, some (17, true), .load false false 1 (.t 18)⟩,
  ⟨some 20, some (17, true), .faddr 2 (.t 3)⟩,
  ⟨some 21, some (17, true), .load false false 1 (.t 20)⟩,
  ⟨some 22, some (17, true), .bin .eql (.t 19) (.t 21)⟩,
  ⟨some 23, none, .pick (.t 17) (.t 22) (.c (.bool false))⟩,
  ⟨some 24, none, .mov (.t 23)⟩,
  ⟨some 25, some (24, true), .faddr 3 (.t 2)⟩,
  ⟨some 26, some (24, true), .load false false 1 (.t 25)⟩,
  ⟨some 27, some (24, true), .faddr 3 (.t 3)⟩,
  ⟨some 28, some (24, true), .load false false 1 (.t 27)⟩,
  ⟨some 29, some (24, true), .bin .eql (.t 26) (.t 28)⟩,
  ⟨some 30, none, .pick (.t 24) (.t 29) (.c (.bool false))⟩,
  ⟨some 31, none, .mov (.t 30)⟩,
  ⟨some 32, some (31, true), .faddr 4 (.t 2)⟩,
  ⟨some 33, some (31, true), .load false false 1 (.t 32)⟩,
  ⟨some 34, some (31, true), .faddr 4 (.t 3)⟩,
  ⟨some 35, some (31, true), .load false false 1 (.t 34)⟩,
  ⟨some 36, some (31, true), .bin .eql (.t 33) (.t 35)⟩,
  ⟨some 37, none, .pick (.t 31) (.t 36) (.c (.bool false))⟩,
  ⟨some 38, none, .mov (.t 37)⟩,
  ⟨some 39, some (38, true), .faddr 6 (.t 2)⟩,
  ⟨some 40, some (38, true), .load false false 1 (.t 39)⟩,
  ⟨some 41, some (38, true), .faddr 6 (.t 3)⟩,
  ⟨some 42, some (38, true), .load false false 1 (.t 41)⟩,
  ⟨some 43, some (38, true), .bin .eql (.t 40) (.t 42)⟩,
  ⟨some 44, none, .pick (.t 38) (.t 43) (.c (.bool false))⟩,
  ⟨some 45, none, .mov (.t 44)⟩,
  ⟨some 46, some (45, true), .faddr 5 (.t 2)⟩,
  ⟨some 47, some (45, true), .load false false 1 (.t 46)⟩,
  ⟨some 48, some (45, true), .faddr 5 (.t 3)⟩,
  ⟨some 49, some (45, true), .load false false 1 (.t 48)⟩,
  ⟨some 50, some (45, true), .call false (.c (.func 66 [])) [.t 47, .t 49]⟩,
  ⟨some 51, none, .pick (.t 45) (.t 50) (.c (.bool false))⟩,
  ⟨some 4, none, .mov (.t 51)⟩]
abbrev c65_3 : SC := .seq (.ops r65_2) (.ret)
abbrev c65_4 : SC := .seq (.ops r65_1) c65_3
def s65 : SF := ⟨[.t 4], c65_4, false, none, none⟩
/-! slices.Equal[[]crannog/api.Xattr,crannog/api.Xattr] -/
abbrev r66_1 : List SOper := [
  ⟨some 4, none, .mov (.c (.bool false))⟩]
abbrev r66_2 : List SOper := [
  ⟨some 6, none, .mov (.t 0)⟩,
  ⟨some 7, none, .len 1 (.t 6)⟩,
  ⟨some 8, none, .mov (.t 1)⟩,
  ⟨some 9, none, .len 1 (.t 8)⟩,
  ⟨some 10, none, .bin .neq (.t 7) (.t 9)⟩]
abbrev r66_3 : List SOper := [
  ⟨some 4, none, .mov (.c (.bool false))⟩]
abbrev c66_4 : SC := .seq (.ops r66_3) (.ret)
abbrev c66_5 : SC := .cond (.t 10) c66_4 (.skip)
abbrev c66_6 : SC := .seq (.ops r66_2) c66_5
abbrev r66_7 : List SOper := [
  ⟨some 11, none, .mov (.t 0)⟩,
  ⟨some 12, none, .len 1 (.t 11)⟩,
  ⟨some 13, none, .mov (.c (.int .i64 0))⟩]
abbrev r66_8 : List SOper := [
  ⟨some 14, none, .bin .lss (.t 13) (.t 12)⟩]
abbrev c66_9 : SC := .cond (.t 14) (.skip) (.exit 0)
abbrev r66_10 : List SOper := [
  ⟨some 15, none, .mov (.t 13)⟩,
  ⟨some 5, none, .mov (.t 15)⟩]
abbrev r66_11 : List SOper := [
  ⟨some 16, none, .mov (.t 0)⟩,
  ⟨some 17, none, .mov (.t 5)⟩,
  ⟨some 18, none, .iaddr none 5 (.t 16) (.t 17)⟩,
  ⟨some 19, none, .load false true 5 (.t 18)⟩,
  ⟨some 20, none, .mov (.t 1)⟩,
  ⟨some 21, none, .mov (.t 5)⟩,
  ⟨some 22, none, .iaddr none 5 (.t 20) (.t 21)⟩,
  ⟨some 23, none, .load false true 5 (.t 22)⟩,
  ⟨some 24, none, .cmpA true [.str, .int .i64, .int .i64, .str, .bool] (.t 19) (.t 23)⟩]
abbrev r66_12 : List SOper := [
  ⟨some 4, none, .mov (.c (.bool false))⟩]
abbrev c66_13 : SC := .seq (.ops r66_12) (.ret)
abbrev c66_14 : SC := .cond (.t 24) c66_13 (.skip)
abbrev c66_15 : SC := .seq (.draw 0 [[], [], [0, 1], [2], [], [], [4, 5], [6], [3, 7]] r66_11) c66_14
abbrev c66_16 : SC := .seq (.ops r66_10) c66_15
abbrev c66_17 : SC := .block 1 [0, 1, 12, 13] [] c66_16
abbrev r66_18 : List SOper := [
  ⟨some 25, none, .bin .add (.t 13) (.c (.int .i64 1))⟩,
  ⟨some 13, none, .mov (.t 25)⟩]
abbrev c66_19 : SC := .seq c66_17 (.ops r66_18)
abbrev c66_20 : SC := .seq c66_9 c66_19
abbrev c66_21 : SC := .seq (.ops r66_8) c66_20
abbrev L66_1 : SC := .loop [0, 1, 12, 13] [] c66_21
abbrev c66_22 : SC := .block 0 [] [] L66_1
abbrev c66_23 : SC := .seq (.ops r66_7) c66_22
abbrev r66_24 : List SOper := [
  ⟨some 4, none, .mov (.c (.bool true))⟩]
abbrev c66_25 : SC := .seq (.ops r66_24) (.ret)
abbrev c66_26 : SC := .seq c66_23 c66_25
abbrev c66_27 : SC := .seq c66_6 c66_26
abbrev c66_28 : SC := .seq (.ops r66_1) c66_27
def s66 : SF := ⟨[.t 4], c66_28, false, none, none⟩
/-! crannog/instant.Of -/
abbrev r67_1 : List SOper := [
  ⟨some 2, none, .mov (.c (.int .u64 0))⟩,
  ⟨some 3, none, .mov (.c (.int .i64 0))⟩]
abbrev r67_2 : List SOper := [
  ⟨some 5, none, .mov (.t 0)⟩,
  ⟨some 6, none, .call false (.c (.func 113 [])) [.t 5]⟩]
abbrev r67_3 : List SOper := [
  ⟨some 2, none, .mov (.c (.int .u64 0))⟩,
  ⟨some 3, none, .mov (.c (.int .i64 202))⟩]
abbrev c67_4 : SC := .seq (.ops r67_3) (.ret)
abbrev c67_5 : SC := .cond (.t 6) c67_4 (.skip)
abbrev c67_6 : SC := .seq (.ops r67_2) c67_5
abbrev r67_7 : List SOper := [
  ⟨some 7, none, .mov (.t 0)⟩,
  ⟨some 8, none, .bin .eql (.t 7) (.c (.float .f64 0))⟩]
abbrev r67_8 : List SOper := [
  ⟨some 2, none, .mov (.c (.int .u64 9223372036854775808))⟩,
  ⟨some 3, none, .mov (.c (.int .i64 0))⟩]
abbrev c67_9 : SC := .seq (.ops r67_8) (.ret)
abbrev c67_10 : SC := .cond (.t 8) c67_9 (.skip)
abbrev c67_11 : SC := .seq (.ops r67_7) c67_10
abbrev r67_12 : List SOper := [
  ⟨some 9, none, .mov (.t 0)⟩,
  ⟨some 10, none, .call false (.c (.func 49 [])) [.t 9]⟩,
  ⟨some 4, none, .mov (.t 10)⟩]
abbrev r67_13 : List SOper := [
  ⟨some 11, none, .mov (.t 4)⟩,
  ⟨some 12, none, .bin .and (.t 11) (.c (.int .u64 9223372036854775808))⟩,
  ⟨some 13, none, .bin .neq (.t 12) (.c (.int .u64 0))⟩]
abbrev r67_14 : List SOper := [
  ⟨some 14, none, .mov (.t 4)⟩,
  ⟨some 15, none, .un .xor (.t 14)⟩,
  ⟨some 2, none, .mov (.t 15)⟩,
  ⟨some 3, none, .mov (.c (.int .i64 0))⟩]
abbrev c67_15 : SC := .seq (.ops r67_14) (.ret)
abbrev c67_16 : SC := .cond (.t 13) c67_15 (.skip)
abbrev c67_17 : SC := .seq (.ops r67_13) c67_16
abbrev r67_18 : List SOper := [
  ⟨some 16, none, .mov (.t 4)⟩,
  ⟨some 17, none, .bin .or (.t 16) (.c (.int .u64 9223372036854775808))⟩,
  ⟨some 2, none, .mov (.t 17)⟩,
  ⟨some 3, none, .mov (.c (.int .i64 0))⟩]
abbrev c67_19 : SC := .seq (.ops r67_18) (.ret)
abbrev c67_20 : SC := .seq c67_17 c67_19
abbrev c67_21 : SC := .seq (.ops r67_12) c67_20
abbrev c67_22 : SC := .seq c67_11 c67_21
abbrev c67_23 : SC := .seq c67_6 c67_22
abbrev c67_24 : SC := .seq (.ops r67_1) c67_23
def s67 : SF := ⟨[.t 2, .t 3], c67_24, false, none, none⟩
/-! crannog/calls.Do$1 -/
abbrev r68_1 : List SOper := [
  ⟨some 7, none, .ifn false (.t 5)⟩]
abbrev r68_2 : List SOper := [
  ⟨some 2, none, .mov (.t 5)⟩]
abbrev r68_3 : List SOper := [
  ⟨some 8, none, .tassert 132 (.t 5)⟩,
  ⟨some 9, none, .extract (.t 8) 1⟩,
  ⟨some 10, none, .extract (.t 8) 0⟩]
abbrev r68_4 : List SOper := [
  ⟨some 3, none, .allocL [.int .i64 0]⟩,
  ⟨none, none, .store 1 (.t 3) (.t 10)⟩]
abbrev r68_5 : List SOper := [
  ⟨some 11, none, .faddr 0 (.t 3)⟩,
  ⟨some 12, none, .load false false 1 (.t 11)⟩,
  ⟨some 13, none, .build [.int .i64 0, .str [], .nils, .int .i64 0, .int .i64 0, .int .i64 0, .int .i64 0, .int .u64 0, .int .i64 0, .int .i64 0] [(0, 1, .t 12)]⟩,
  ⟨some 14, none, .build [.int .i64 0, .int .i64 0, .int .i64 0, .int .i64 0, .int .i64 0, .int .i64 0, .int .i64 0, .int .i64 0, .nils, .nils] []⟩,
  ⟨none, none, .store 10 (.t 0) (.t 13)⟩,
  ⟨none, none, .store 10 (.t 1) (.t 14)⟩]
abbrev c68_6 : SC := .seq (.ops r68_4) (.ops r68_5)
abbrev r68_7 : List SOper := [
  ⟨some 4, none, .mov (.t 5)⟩]
abbrev r68_8 : List SOper := [
  ⟨some 6, none, .mov (.t 4)⟩,
  ⟨none, none, .panic (.t 6)⟩]
abbrev c68_9 : SC := .seq (.ops r68_7) (.ops r68_8)
abbrev c68_10 : SC := .cond (.t 9) c68_6 c68_9
abbrev c68_11 : SC := .seq (.ops r68_3) c68_10
abbrev c68_12 : SC := .cond (.t 7) (.ops r68_2) c68_11
abbrev c68_13 : SC := .seq (.ops r68_1) c68_12
abbrev c68_14 : SC := .block 0 [] [] c68_13
def s68 : SF := ⟨[], .skip, false, none, some ⟨.skip, 5, c68_14⟩⟩
/-! crannog/calls.fine -/
abbrev r69_1 : List SOper := [
  ⟨some 2, none, .mov (.t 0)⟩,
  ⟨some 3, none, .bin .eql (.t 2) (.c (.int .i64 0))⟩,
  ⟨some 4, none, .mov (.t 0)⟩,
  ⟨some 5, none, .call false (.c (.func 114 [])) [.t 3, .t 4]⟩]
def s69 : SF := ⟨[], .ops r69_1, false, none, none⟩
/-! crannog/facts.Check -/
abbrev r70_1 : List SOper := [
  ⟨some 1, none, .boxL (.t 0)⟩,
  ⟨some 2, none, .mov (.c (.int .i64 0))⟩]
abbrev r70_2 : List SOper := [
  ⟨some 10, none, .faddr 0 (.t 1)⟩,
  ⟨some 11, none, .load false true 8 (.t 10)⟩,
  ⟨some 12, none, .call false (.c (.func 115 [])) [.t 11]⟩,
  ⟨some 13, none, .un .not (.t 12)⟩,
  ⟨some 14, none, .mov (.t 13)⟩,
  ⟨some 15, some (14, false), .faddr 8 (.t 1)⟩,
  ⟨some 16, some (14, false), .load false false 1 (.t 15)⟩,
  ⟨some 17, some (14, false), .len 1 (.t 16)⟩,
  ⟨some 18, some (14, false), .bin .lss (.t 17) (.c (.int .i64 1))⟩,
  ⟨some 19, none, .pick (.t 14) (.c (.bool true)) (.t 18)⟩,
  ⟨some 20, none, .mov (.t 19)⟩,
  ⟨some 21, some (20, false), .faddr 8 (.t 1)⟩,
  ⟨some 22, some (20, false), .load false false 1 (.t 21)⟩,
  ⟨some 23, some (20, false), .len 1 (.t 22)⟩,
  ⟨some 24, some (20, false), .bin .gtr (.t 23) (.c (.int .i64 480))⟩,
  ⟨some 25, none, .pick (.t 20) (.c (.bool true)) (.t 24)⟩,
  ⟨some 26, none, .mov (.t 25)⟩,
  ⟨some 27, some (26, false), .faddr 9 (.t 1)⟩,
  ⟨some 28, some (26, false), .load false false 1 (.t 27)⟩,
  ⟨some 29, some (26, false), .len 1 (.t 28)⟩,
  ⟨some 30, some (26, false), .bin .gtr (.t 29) (.c (.int .i64 640))⟩,
  ⟨some 31, none, .pick (.t 26) (.c (.bool true)) (.t 30)⟩]
abbrev r70_3 : List SOper := [
  ⟨some 2, none, .mov (.c (.int .i64 201))⟩]
abbrev c70_4 : SC := .seq (.ops r70_3) (.ret)
abbrev c70_5 : SC := .cond (.t 31) c70_4 (.skip)
abbrev c70_6 : SC := .seq (.ops r70_2) c70_5
abbrev r70_7 : List SOper := [
  ⟨some 32, none, .faddr 8 (.t 1)⟩,
  ⟨some 33, none, .load false false 1 (.t 32)⟩,
  ⟨some 34, none, .call false (.c (.func 116 [])) [.t 33, .c (.func 117 [])]⟩,
  ⟨some 35, none, .un .not (.t 34)⟩,
  ⟨some 36, none, .mov (.t 35)⟩,
  ⟨some 37, some (36, false), .faddr 9 (.t 1)⟩,
  ⟨some 38, some (36, false), .load false false 1 (.t 37)⟩,
  ⟨some 39, some (36, false), .call false (.c (.func 118 [])) [.t 38, .c (.func 119 [])]⟩,
  ⟨some 40, some (36, false), .un .not (.t 39)⟩,
  ⟨some 41, none, .pick (.t 36) (.c (.bool true)) (.t 40)⟩]
abbrev r70_8 : List SOper := [
  ⟨some 2, none, .mov (.c (.int .i64 201))⟩]
abbrev c70_9 : SC := .seq (.ops r70_8) (.ret)
abbrev c70_10 : SC := .cond (.t 41) c70_9 (.skip)
abbrev c70_11 : SC := .seq (.ops r70_7) c70_10
abbrev r70_12 : List SOper := [
  ⟨some 42, none, .load false true 10 (.t 1)⟩,
  ⟨some 43, none, .mkmap none⟩,
  ⟨some 44, none, .mkmap none⟩,
  ⟨some 45, none, .build [.int .i64 0, .int .i64 0, .int .i64 0, .int .i64 0, .int .i64 0, .int .i64 0, .int .i64 0, .int .i64 0, .nils, .nils, .nilm, .nilm] [(0, 10, .t 42), (10, 1, .t 43), (11, 1, .t 44)]⟩,
  ⟨some 46, none, .boxH none (.t 45)⟩,
  ⟨some 3, none, .mov (.t 46)⟩]
abbrev r70_13 : List SOper := [
  ⟨some 47, none, .faddr 8 (.t 1)⟩,
  ⟨some 48, none, .load false false 1 (.t 47)⟩,
  ⟨some 49, none, .len 1 (.t 48)⟩,
  ⟨some 50, none, .mov (.c (.int .i64 0))⟩]
abbrev r70_14 : List SOper := [
  ⟨some 51, none, .bin .lss (.t 50) (.t 49)⟩]
abbrev c70_15 : SC := .cond (.t 51) (.skip) (.exit 0)
abbrev r70_16 : List SOper := [
  ⟨some 52, none, .mov (.t 50)⟩,
  ⟨some 53, none, .iaddr none 13 (.t 48) (.t 50)⟩,
  ⟨some 54, none, .load false true 13 (.t 53)⟩,
  ⟨some 5, none, .allocL [.int .i64 0, .int .i64 0, .int .i64 0, .str [], .int .i64 0, .int .i64 0, .int .i64 0, .int .u64 0, .int .i64 0, .int .i64 0, .int .i64 0, .nils, .nils]⟩,
  ⟨some 4, none, .mov (.t 52)⟩,
  ⟨none, none, .store 13 (.t 5) (.t 54)⟩]
abbrev r70_17 : List SOper := [
  ⟨some 55, none, .mov (.t 3)⟩,
  ⟨some 56, none, .mov (.t 4)⟩,
  ⟨some 57, none, .load false true 13 (.t 5)⟩,
  ⟨some 58, none, .call false (.c (.func 120 [])) [.t 55, .t 56, .t 57]⟩,
  ⟨some 59, none, .un .not (.t 58)⟩]
abbrev r70_18 : List SOper := [
  ⟨some 2, none, .mov (.c (.int .i64 201))⟩]
abbrev c70_19 : SC := .seq (.ops r70_18) (.ret)
abbrev c70_20 : SC := .cond (.t 59) c70_19 (.skip)
abbrev c70_21 : SC := .seq (.ops r70_17) c70_20
abbrev r70_22 : List SOper := [
  ⟨some 60, none, .mov (.t 3)⟩,
  ⟨some 61, none, .nilck (.t 60)⟩,
  ⟨some 62, none, .faddr 10 (.t 61)⟩,
  ⟨some 63, none, .load false false 1 (.t 62)⟩,
  ⟨some 64, none, .faddr 0 (.t 5)⟩,
  ⟨some 65, none, .load false true 2 (.t 64)⟩,
  ⟨some 66, none, .faddr 2 (.t 5)⟩,
  ⟨some 67, none, .load false false 1 (.t 66)⟩,
  ⟨none, none, .mapup (.agg [.int .i64, .int .i64]) (.t 63) (.t 65) (.t 67)⟩]
abbrev c70_23 : SC := .seq c70_21 (.draw 0 [[], [0], [1], [2], [], [4], [], [6], [3, 5, 7]] r70_22)
abbrev c70_24 : SC := .seq (.ops r70_16) c70_23
abbrev c70_25 : SC := .block 1 [1, 3, 48, 49, 50] [1] c70_24
abbrev r70_26 : List SOper := [
  ⟨some 68, none, .bin .add (.t 50) (.c (.int .i64 1))⟩,
  ⟨some 50, none, .mov (.t 68)⟩]
abbrev c70_27 : SC := .seq c70_25 (.ops r70_26)
abbrev c70_28 : SC := .seq c70_15 c70_27
abbrev c70_29 : SC := .seq (.ops r70_14) c70_28
abbrev L70_1 : SC := .loop [1, 3, 48, 49, 50] [1] c70_29
abbrev c70_30 : SC := .block 0 [1, 3] [1] L70_1
abbrev c70_31 : SC := .seq (.ops r70_13) c70_30
abbrev r70_32 : List SOper := [
  ⟨some 69, none, .faddr 9 (.t 1)⟩,
  ⟨some 70, none, .load false false 1 (.t 69)⟩,
  ⟨some 71, none, .len 1 (.t 70)⟩,
  ⟨some 72, none, .mov (.c (.int .i64 0))⟩]
abbrev r70_33 : List SOper := [
  ⟨some 73, none, .bin .lss (.t 72) (.t 71)⟩]
abbrev c70_34 : SC := .cond (.t 73) (.skip) (.exit 2)
abbrev r70_35 : List SOper := [
  ⟨some 74, none, .iaddr none 25 (.t 70) (.t 72)⟩,
  ⟨some 75, none, .load false true 25 (.t 74)⟩,
  ⟨some 7, none, .allocL [.int .i64 0, .int .i64 0, .int .i64 0, .int .i64 0, .int .i64 0, .int .i64 0, .int .i64 0, .int .i64 0, .str [], .int .i64 0, .int .i64 0, .int .i64 0, .int .i64 0, .int .i64 0, .int .i64 0, .int .i64 0, .int .i64 0, .int .i64 0, .int .i64 0, .int .i64 0, .int .i64 0, .int .i64 0, .int .i64 0, .int .i64 0, .int .i64 0]⟩,
  ⟨none, none, .store 25 (.t 7) (.t 75)⟩]
abbrev r70_36 : List SOper := [
  ⟨some 76, none, .mov (.t 3)⟩,
  ⟨some 77, none, .load false true 25 (.t 7)⟩,
  ⟨some 78, none, .call false (.c (.func 121 [])) [.t 76, .t 77]⟩,
  ⟨some 79, none, .un .not (.t 78)⟩]
abbrev r70_37 : List SOper := [
  ⟨some 2, none, .mov (.c (.int .i64 201))⟩]
abbrev c70_38 : SC := .seq (.ops r70_37) (.ret)
abbrev c70_39 : SC := .cond (.t 79) c70_38 (.skip)
abbrev c70_40 : SC := .seq (.ops r70_36) c70_39
abbrev c70_41 : SC := .seq (.ops r70_35) c70_40
abbrev c70_42 : SC := .block 3 [1, 3, 70, 71, 72] [1] c70_41
abbrev r70_43 : List SOper := [
  ⟨some 80, none, .bin .add (.t 72) (.c (.int .i64 1))⟩,
  ⟨some 72, none, .mov (.t 80)⟩]
abbrev c70_44 : SC := .seq c70_42 (.ops r70_43)
abbrev c70_45 : SC := .seq c70_34 c70_44
abbrev c70_46 : SC := .seq (.ops r70_33) c70_45
abbrev L70_2 : SC := .loop [1, 3, 70, 71, 72] [1] c70_46
abbrev c70_47 : SC := .block 2 [1, 3] [1] L70_2
abbrev c70_48 : SC := .seq (.ops r70_32) c70_47
abbrev r70_49 : List SOper := [
  ⟨some 81, none, .faddr 8 (.t 1)⟩,
  ⟨some 82, none, .load false false 1 (.t 81)⟩,
  ⟨some 83, none, .slice false 13 (.t 82) (some (.c (.int .i64 1))) none none⟩,
  ⟨some 84, none, .len 1 (.t 83)⟩,
  ⟨some 85, none, .mov (.c (.int .i64 0))⟩]
abbrev r70_50 : List SOper := [
  ⟨some 86, none, .bin .lss (.t 85) (.t 84)⟩]
abbrev c70_51 : SC := .cond (.t 86) (.skip) (.exit 4)
abbrev r70_52 : List SOper := [
  ⟨some 87, none, .iaddr none 13 (.t 83) (.t 85)⟩,
  ⟨some 88, none, .load false true 13 (.t 87)⟩,
  ⟨some 9, none, .allocL [.int .i64 0, .int .i64 0, .int .i64 0, .str [], .int .i64 0, .int .i64 0, .int .i64 0, .int .u64 0, .int .i64 0, .int .i64 0, .int .i64 0, .nils, .nils]⟩,
  ⟨none, none, .store 13 (.t 9) (.t 88)⟩]
abbrev r70_53 : List SOper := [
  ⟨some 89, none, .faddr 2 (.t 9)⟩,
  ⟨some 90, none, .load false false 1 (.t 89)⟩,
  ⟨some 91, none, .bin .eql (.t 90) (.c (.int .i64 2))⟩,
  ⟨some 92, none, .mov (.t 91)⟩,
  ⟨some 93, some (92, true), .mov (.t 3)⟩,
  ⟨some 94, some (92, true), .nilck (.t 93)⟩,
  ⟨some 95, some (92, true), .faddr 11 (.t 94)⟩,
  ⟨some 96, some (92, true), .load false false 1 (.t 95)⟩,
  ⟨some 97, some (92, true), .faddr 0 (.t 9)⟩,
  ⟨some 98, some (92, true), .load false true 2 (.t 97)⟩,
  ⟨some 99, some (92, true), .lookup (.agg [.int .i64, .int .i64]) (.int .i64 0) false (.t 96) (.t 98)⟩,
  ⟨some 100, some (92, true), .bin .eql (.t 99) (.c (.int .i64 0))⟩,
  ⟨some 101, none, .pick (.t 92) (.t 100) (.c (.bool false))⟩]
abbrev r70_54 : List SOper := [
  ⟨some 2, none, .mov (.c (.int .i64 201))⟩]
abbrev c70_55 : SC := .seq (.ops r70_54) (.ret)
abbrev c70_56 : SC := .cond (.t 101) c70_55 (.skip)
abbrev c70_57 : SC := .seq (.draw 0 [[], [0], [1], [2], [3], [4], [5], [6], [3], [8], [7, 9], [10], [11]] r70_53) c70_56
abbrev c70_58 : SC := .seq (.ops r70_52) c70_57
abbrev c70_59 : SC := .block 5 [3, 83, 84, 85] [] c70_58
abbrev r70_60 : List SOper := [
  ⟨some 102, none, .bin .add (.t 85) (.c (.int .i64 1))⟩,
  ⟨some 85, none, .mov (.t 102)⟩]
abbrev c70_61 : SC := .seq c70_59 (.ops r70_60)
abbrev c70_62 : SC := .seq c70_51 c70_61
abbrev c70_63 : SC := .seq (.ops r70_50) c70_62
abbrev L70_3 : SC := .loop [3, 83, 84, 85] [] c70_63
abbrev c70_64 : SC := .block 4 [] [] L70_3
abbrev c70_65 : SC := .seq (.ops r70_49) c70_64
abbrev r70_66 : List SOper := [
  ⟨some 2, none, .mov (.c (.int .i64 0))⟩]
abbrev c70_67 : SC := .seq (.ops r70_66) (.ret)
abbrev c70_68 : SC := .seq c70_65 c70_67
abbrev c70_69 : SC := .seq c70_48 c70_68
abbrev c70_70 : SC := .seq c70_31 c70_69
abbrev c70_71 : SC := .seq (.ops r70_12) c70_70
abbrev c70_72 : SC := .seq c70_11 c70_71
abbrev c70_73 : SC := .seq c70_6 c70_72
abbrev c70_74 : SC := .seq (.ops r70_1) c70_73
def s70 : SF := ⟨[.t 2], c70_74, false, none, none⟩
/-! crannog/view.Shown -/
abbrev r71_1 : List SOper := [
  ⟨some 1, none, .boxL (.t 0)⟩,
  ⟨some 2, none, .mov (.c (.nils))⟩]
abbrev r71_2 : List SOper := [
  ⟨some 13, none, .load false true 10 (.t 1)⟩,
  ⟨some 14, none, .call false (.c (.func 70 [])) [.t 13]⟩,
  ⟨some 15, none, .bin .neq (.t 14) (.c (.int .i64 0))⟩]
abbrev r71_3 : List SOper := [
  ⟨some 2, none, .mov (.c (.nils))⟩]
abbrev c71_4 : SC := .seq (.ops r71_3) (.ret)
abbrev c71_5 : SC := .cond (.t 15) c71_4 (.skip)
abbrev c71_6 : SC := .seq (.ops r71_2) c71_5
abbrev r71_7 : List SOper := [
  ⟨some 16, none, .faddr 9 (.t 1)⟩,
  ⟨some 17, none, .load true false 1 (.t 16)⟩,
  ⟨some 18, none, .mkmap (some 0)⟩,
  ⟨some 19, none, .faddr 9 (.t 1)⟩,
  ⟨some 20, none, .load true false 1 (.t 19)⟩,
  ⟨some 21, none, .len 1 (.t 20)⟩,
  ⟨some 22, none, .mkslice (some 1) 1 1 (.bool false) (.t 21) (.t 21)⟩,
  ⟨some 23, none, .faddr 9 (.t 1)⟩,
  ⟨some 24, none, .load true false 1 (.t 23)⟩,
  ⟨some 25, none, .len 1 (.t 24)⟩,
  ⟨some 26, none, .mkslice (some 2) 1 1 (.bool false) (.t 25) (.t 25)⟩,
  ⟨some 27, none, .build [.nils, .nilm, .nils, .nils] [(0, 1, .t 17), (1, 1, .t 18), (2, 1, .t 22), (3, 1, .t 26)]⟩,
  ⟨some 28, none, .boxH none (.t 27)⟩,
  ⟨some 3, none, .mov (.t 28)⟩]
abbrev r71_8 : List SOper := [
  ⟨some 29, none, .faddr 9 (.t 1)⟩,
  ⟨some 30, none, .load false false 1 (.t 29)⟩,
  ⟨some 31, none, .len 1 (.t 30)⟩,
  ⟨some 32, none, .mov (.c (.int .i64 0))⟩]
abbrev r71_9 : List SOper := [
  ⟨some 33, none, .bin .lss (.t 32) (.t 31)⟩]
abbrev c71_10 : SC := .cond (.t 33) (.skip) (.exit 0)
abbrev r71_11 : List SOper := [
  ⟨some 34, none, .mov (.t 32)⟩,
  ⟨some 35, none, .iaddr none 25 (.t 30) (.t 32)⟩,
  ⟨some 36, none, .load false true 25 (.t 35)⟩,
  ⟨some 5, none, .allocL [.int .i64 0, .int .i64 0, .int .i64 0, .int .i64 0, .int .i64 0, .int .i64 0, .int .i64 0, .int .i64 0, .str [], .int .i64 0, .int .i64 0, .int .i64 0, .int .i64 0, .int .i64 0, .int .i64 0, .int .i64 0, .int .i64 0, .int .i64 0, .int .i64 0, .int .i64 0, .int .i64 0, .int .i64 0, .int .i64 0, .int .i64 0, .int .i64 0]⟩,
  ⟨some 4, none, .mov (.t 34)⟩,
  ⟨none, none, .store 25 (.t 5) (.t 36)⟩]
abbrev r71_12 : List SOper := [
  ⟨some 38, none, .load false true 10 (.t 1)⟩,
  ⟨some 39, none, .faddr 2 (.t 5)⟩,
  ⟨some 40, none, .load false true 2 (.t 39)⟩,
  ⟨some 41, none, .call false (.c (.func 122 [])) [.t 38, .t 40]⟩,
  ⟨some 37, none, .mov (.t 41)⟩,
  ⟨some 42, none, .extract (.t 37) 0⟩,
  ⟨some 43, none, .extract (.t 37) 1⟩,
  ⟨some 6, none, .allocL [.int .i64 0, .int .i64 0, .int .i64 0, .str [], .int .i64 0, .int .i64 0, .int .i64 0, .int .u64 0, .int .i64 0, .int .i64 0, .int .i64 0, .nils, .nils]⟩,
  ⟨none, none, .store 13 (.t 6) (.t 42)⟩,
  ⟨some 7, none, .mov (.t 43)⟩]
abbrev r71_13 : List SOper := [
  ⟨some 44, none, .faddr 2 (.t 6)⟩,
  ⟨some 45, none, .load false false 1 (.t 44)⟩,
  ⟨some 46, none, .bin .eql (.t 45) (.c (.int .i64 2))⟩]
abbrev r71_14 : List SOper := [
  ⟨some 47, none, .mov (.t 3)⟩,
  ⟨some 48, none, .nilck (.t 47)⟩,
  ⟨some 49, none, .faddr 1 (.t 48)⟩,
  ⟨some 50, none, .load false false 1 (.t 49)⟩,
  ⟨some 51, none, .faddr 2 (.t 5)⟩,
  ⟨some 52, none, .load false true 2 (.t 51)⟩,
  ⟨some 53, none, .mov (.t 4)⟩,
  ⟨none, none, .mapup (.agg [.int .i64, .int .i64]) (.t 50) (.t 52) (.t 53)⟩]
abbrev c71_15 : SC := .cond (.t 46) (.draw 0 [[], [0], [1], [2], [], [4], [], [3, 5, 6]] r71_14) (.skip)
abbrev c71_16 : SC := .seq (.ops r71_13) c71_15
abbrev c71_17 : SC := .seq (.ops r71_12) c71_16
abbrev c71_18 : SC := .seq (.ops r71_11) c71_17
abbrev c71_19 : SC := .block 1 [1, 3, 30, 31, 32] [1] c71_18
abbrev r71_20 : List SOper := [
  ⟨some 54, none, .bin .add (.t 32) (.c (.int .i64 1))⟩,
  ⟨some 32, none, .mov (.t 54)⟩]
abbrev c71_21 : SC := .seq c71_19 (.ops r71_20)
abbrev c71_22 : SC := .seq c71_10 c71_21
abbrev c71_23 : SC := .seq (.ops r71_9) c71_22
abbrev L71_1 : SC := .loop [1, 3, 30, 31, 32] [1] c71_23
abbrev c71_24 : SC := .block 0 [1, 3] [1] L71_1
abbrev c71_25 : SC := .seq (.ops r71_8) c71_24
abbrev r71_26 : List SOper := [
  ⟨some 55, none, .faddr 9 (.t 1)⟩,
  ⟨some 56, none, .load false false 1 (.t 55)⟩,
  ⟨some 57, none, .len 1 (.t 56)⟩,
  ⟨some 58, none, .mov (.c (.int .i64 0))⟩]
abbrev r71_27 : List SOper := [
  ⟨some 59, none, .bin .lss (.t 58) (.t 57)⟩]
abbrev c71_28 : SC := .cond (.t 59) (.skip) (.exit 2)
abbrev r71_29 : List SOper := [
  ⟨some 60, none, .mov (.t 58)⟩,
  ⟨some 61, none, .iaddr none 25 (.t 56) (.t 58)⟩,
  ⟨some 62, none, .load false true 25 (.t 61)⟩,
  ⟨some 9, none, .allocL [.int .i64 0, .int .i64 0, .int .i64 0, .int .i64 0, .int .i64 0, .int .i64 0, .int .i64 0, .int .i64 0, .str [], .int .i64 0, .int .i64 0, .int .i64 0, .int .i64 0, .int .i64 0, .int .i64 0, .int .i64 0, .int .i64 0, .int .i64 0, .int .i64 0, .int .i64 0, .int .i64 0, .int .i64 0, .int .i64 0, .int .i64 0, .int .i64 0]⟩,
  ⟨some 8, none, .mov (.t 60)⟩,
  ⟨none, none, .store 25 (.t 9) (.t 62)⟩]
abbrev r71_30 : List SOper := [
  ⟨some 63, none, .load false true 25 (.t 9)⟩,
  ⟨some 64, none, .call false (.c (.func 123 [])) [.t 63]⟩]
abbrev r71_31 : List SOper := [
  ⟨some 65, none, .mov (.t 3)⟩,
  ⟨some 66, none, .mov (.t 8)⟩,
  ⟨some 67, none, .call false (.c (.func 124 [])) [.t 65, .t 66]⟩]
abbrev c71_32 : SC := .cond (.t 64) (.ops r71_31) (.skip)
abbrev c71_33 : SC := .seq (.ops r71_30) c71_32
abbrev c71_34 : SC := .seq (.ops r71_29) c71_33
abbrev c71_35 : SC := .block 3 [1, 3, 56, 57, 58] [1] c71_34
abbrev r71_36 : List SOper := [
  ⟨some 68, none, .bin .add (.t 58) (.c (.int .i64 1))⟩,
  ⟨some 58, none, .mov (.t 68)⟩]
abbrev c71_37 : SC := .seq c71_35 (.ops r71_36)
abbrev c71_38 : SC := .seq c71_28 c71_37
abbrev c71_39 : SC := .seq (.ops r71_27) c71_38
abbrev L71_2 : SC := .loop [1, 3, 56, 57, 58] [1] c71_39
abbrev c71_40 : SC := .block 2 [1, 3] [1] L71_2
abbrev c71_41 : SC := .seq (.ops r71_26) c71_40
abbrev r71_42 : List SOper := [
  ⟨some 69, none, .mov (.t 3)⟩,
  ⟨some 70, none, .call false (.c (.func 125 [])) [.t 69]⟩]
abbrev r71_43 : List SOper := [
  ⟨some 71, none, .mov (.t 3)⟩,
  ⟨some 72, none, .call false (.c (.func 126 [])) [.t 71]⟩]
abbrev r71_44 : List SOper := [
  ⟨some 10, none, .mov (.c (.nils))⟩]
abbrev r71_45 : List SOper := [
  ⟨some 73, none, .faddr 9 (.t 1)⟩,
  ⟨some 74, none, .load false false 1 (.t 73)⟩,
  ⟨some 75, none, .len 1 (.t 74)⟩,
  ⟨some 76, none, .mov (.c (.int .i64 0))⟩]
abbrev r71_46 : List SOper := [
  ⟨some 77, none, .bin .lss (.t 76) (.t 75)⟩]
abbrev c71_47 : SC := .cond (.t 77) (.skip) (.exit 4)
abbrev r71_48 : List SOper := [
  ⟨some 78, none, .mov (.t 76)⟩,
  ⟨some 79, none, .iaddr none 25 (.t 74) (.t 76)⟩,
  ⟨some 80, none, .load false true 25 (.t 79)⟩,
  ⟨some 12, none, .allocL [.int .i64 0, .int .i64 0, .int .i64 0, .int .i64 0, .int .i64 0, .int .i64 0, .int .i64 0, .int .i64 0, .str [], .int .i64 0, .int .i64 0, .int .i64 0, .int .i64 0, .int .i64 0, .int .i64 0, .int .i64 0, .int .i64 0, .int .i64 0, .int .i64 0, .int .i64 0, .int .i64 0, .int .i64 0, .int .i64 0, .int .i64 0, .int .i64 0]⟩,
  ⟨some 11, none, .mov (.t 78)⟩,
  ⟨none, none, .store 25 (.t 12) (.t 80)⟩]
abbrev r71_49 : List SOper := [
  ⟨some 94, none, .mov (.t 3)⟩,
  ⟨some 95, none, .nilck (.t 94)⟩,
  ⟨some 96, none, .faddr 2 (.t 95)⟩,
  ⟨some 97, none, .load false false 1 (.t 96)⟩,
  ⟨some 98, none, .mov (.t 11)⟩,
  ⟨some 99, none, .iaddr none 1 (.t 97) (.t 98)⟩,
  ⟨some 100, none, .load false false 1 (.t 99)⟩,
  ⟨some 101, none, .un .not (.t 100)⟩,
  ⟨some 93, none, .mov (.t 101)⟩]
abbrev r71_50 : List SOper := [
  ⟨some 103, none, .mov (.t 3)⟩,
  ⟨some 104, none, .nilck (.t 103)⟩,
  ⟨some 105, none, .faddr 3 (.t 104)⟩,
  ⟨some 106, none, .load false false 1 (.t 105)⟩,
  ⟨some 107, none, .mov (.t 11)⟩,
  ⟨some 108, none, .iaddr none 1 (.t 106) (.t 107)⟩,
  ⟨some 109, none, .load false false 1 (.t 108)⟩,
  ⟨some 102, none, .mov (.t 109)⟩]
abbrev r71_51 : List SOper := [
  ⟨some 110, none, .mov (.t 10)⟩,
  ⟨some 111, none, .faddr 0 (.t 12)⟩,
  ⟨some 112, none, .loadA (.loc 12) true 2 (.t 111)⟩,
  ⟨some 113, none, .faddr 2 (.t 12)⟩,
  ⟨some 114, none, .loadA (.loc 12) true 2 (.t 113)⟩,
  ⟨some 115, none, .call false (.c (.func 127 [])) []⟩,
  ⟨some 116, none, .faddr 0 (.t 12)⟩,
  ⟨some 117, none, .loadA (.loc 12) true 2 (.t 116)⟩,
  ⟨some 118, none, .call false (.c (.func 128 [])) [.t 117]⟩,
  ⟨some 119, none, .build [.int .i64 0, .int .i64 0, .int .i64 0, .int .i64 0, .int .i64 0, .int .i64 0, .str [], .bool false] [(0, 2, .t 112), (2, 2, .t 114), (4, 2, .t 115), (6, 1, .t 118), (7, 1, .c (.bool true))]⟩,
  ⟨some 120, none, .bsnap 8 [.t 119]⟩,
  ⟨some 121, none, .append 8 72 (.t 110) (.t 120)⟩,
  ⟨some 10, none, .mov (.t 121)⟩]
abbrev r71_52 : List SOper := [
  ⟨some 81, none, .mov (.t 10)⟩,
  ⟨some 82, none, .faddr 0 (.t 12)⟩,
  ⟨some 83, none, .load false true 2 (.t 82)⟩,
  ⟨some 84, none, .faddr 2 (.t 12)⟩,
  ⟨some 85, none, .load false true 2 (.t 84)⟩,
  ⟨some 86, none, .faddr 6 (.t 12)⟩,
  ⟨some 87, none, .load false true 2 (.t 86)⟩,
  ⟨some 88, none, .faddr 8 (.t 12)⟩,
  ⟨some 89, none, .load false false 1 (.t 88)⟩,
  ⟨some 90, none, .build [.int .i64 0, .int .i64 0, .int .i64 0, .int .i64 0, .int .i64 0, .int .i64 0, .str [], .bool false] [(0, 2, .t 83), (2, 2, .t 85), (4, 2, .t 87), (6, 1, .t 89)]⟩,
  ⟨some 91, none, .bsnap 8 [.t 90]⟩,
  ⟨some 92, none, .append 8 72 (.t 81) (.t 91)⟩,
  ⟨some 10, none, .mov (.t 92)⟩]
abbrev c71_53 : SC := .cond (.t 102) (.draw 0 [[], [], [1], [], [3], [], [], [6], [5, 7], [2, 4, 8], [9], [0, 10], [11]] r71_51) (.ops r71_52)
abbrev c71_54 : SC := .seq (.ops r71_50) c71_53
abbrev c71_55 : SC := .cond (.t 93) (.skip) c71_54
abbrev c71_56 : SC := .seq (.ops r71_49) c71_55
abbrev c71_57 : SC := .block 6 [3, 10, 74, 75, 76] [] c71_56
abbrev c71_58 : SC := .seq (.ops r71_48) c71_57
abbrev c71_59 : SC := .block 5 [3, 10, 74, 75, 76] [] c71_58
abbrev r71_60 : List SOper := [
  ⟨some 122, none, .bin .add (.t 76) (.c (.int .i64 1))⟩,
  ⟨some 76, none, .mov (.t 122)⟩]
abbrev c71_61 : SC := .seq c71_59 (.ops r71_60)
abbrev c71_62 : SC := .seq c71_47 c71_61
abbrev c71_63 : SC := .seq (.ops r71_46) c71_62
abbrev L71_3 : SC := .loop [3, 10, 74, 75, 76] [] c71_63
abbrev c71_64 : SC := .block 4 [10] [] L71_3
abbrev c71_65 : SC := .seq (.ops r71_45) c71_64
abbrev r71_66 : List SOper := [
  ⟨some 123, none, .mov (.t 10)⟩,
  ⟨some 124, none, .call false (.c (.func 129 [])) [.t 123, .c (.func 130 [])]⟩]
abbrev r71_67 : List SOper := [
  ⟨some 125, none, .mov (.t 10)⟩,
  ⟨some 2, none, .mov (.t 125)⟩]
abbrev c71_68 : SC := .seq (.ops r71_67) (.ret)
abbrev c71_69 : SC := .seq (.ops r71_66) c71_68
abbrev c71_70 : SC := .seq c71_65 c71_69
abbrev c71_71 : SC := .seq (.ops r71_44) c71_70
abbrev c71_72 : SC := .seq (.ops r71_43) c71_71
abbrev c71_73 : SC := .seq (.ops r71_42) c71_72
abbrev c71_74 : SC := .seq c71_41 c71_73
abbrev c71_75 : SC := .seq c71_25 c71_74
abbrev c71_76 : SC := .seq (.draw 6 [[], [0], [], [], [3], [4], [5], [], [7], [8], [9], [1, 2, 6, 10], [11], [12]] r71_7) c71_75
abbrev c71_77 : SC := .seq c71_6 c71_76
abbrev c71_78 : SC := .seq (.ops r71_1) c71_77
def s71 : SF := ⟨[.t 2], c71_78, false, none, none⟩
/-! crannog/vector.Next -/
abbrev r72_1 : List SOper := [
  ⟨some 2, none, .boxL (.t 0)⟩,
  ⟨some 4, none, .allocL [.int .i64 0, .int .i64 0]⟩,
  ⟨some 5, none, .mov (.c (.int .i64 0))⟩]
abbrev r72_2 : List SOper := [
  ⟨some 9, none, .mov (.t 1)⟩,
  ⟨some 10, none, .bin .lss (.t 9) (.c (.int .i64 0))⟩,
  ⟨some 11, none, .mov (.t 10)⟩,
  ⟨some 12, some (11, false), .mov (.t 1)⟩,
  ⟨some 13, some (11, false), .bin .geq (.t 12) (.c (.int .i64 8))⟩,
  ⟨some 14, none, .pick (.t 11) (.c (.bool true)) (.t 13)⟩,
  ⟨some 15, none, .mov (.t 14)⟩,
  ⟨some 16, some (15, false), .load false true 8 (.t 2)⟩,
  ⟨some 17, some (15, false), .call false (.c (.func 115 [])) [.t 16]⟩,
  ⟨some 18, some (15, false), .un .not (.t 17)⟩,
  ⟨some 19, none, .pick (.t 15) (.c (.bool true)) (.t 18)⟩]
abbrev r72_3 : List SOper := [
  ⟨some 20, none, .build [.int .i64 0, .int .i64 0] []⟩,
  ⟨none, none, .store 2 (.t 4) (.t 20)⟩,
  ⟨some 5, none, .mov (.c (.int .i64 22))⟩]
abbrev c72_4 : SC := .seq (.ops r72_3) (.ret)
abbrev c72_5 : SC := .cond (.t 19) c72_4 (.skip)
abbrev c72_6 : SC := .seq (.ops r72_2) c72_5
abbrev r72_7 : List SOper := [
  ⟨some 21, none, .mov (.t 1)⟩,
  ⟨some 22, none, .build [.int .i64 0, .int .i64 0] [(1, 1, .t 21)]⟩,
  ⟨some 6, none, .allocL [.int .i64 0, .int .i64 0]⟩,
  ⟨none, none, .store 2 (.t 6) (.t 22)⟩]
abbrev r72_8 : List SOper := [
  ⟨some 23, none, .load false true 8 (.t 2)⟩,
  ⟨some 24, none, .mov (.c (.int .i64 0))⟩]
abbrev r72_9 : List SOper := [
  ⟨some 25, none, .bin .lss (.t 24) (.c (.int .i64 8))⟩]
abbrev c72_10 : SC := .cond (.t 25) (.skip) (.exit 0)
abbrev r72_11 : List SOper := [
  ⟨some 26, none, .index (some (8, 1, false)) (.t 23) (.t 24)⟩,
  ⟨some 8, none, .mov (.t 26)⟩]
abbrev r72_12 : List SOper := [
  ⟨some 27, none, .faddr 0 (.t 6)⟩,
  ⟨some 28, none, .load false false 1 (.t 27)⟩,
  ⟨some 29, none, .mov (.t 8)⟩,
  ⟨some 30, none, .minmax true [.t 28, .t 29]⟩,
  ⟨some 31, none, .faddr 0 (.t 6)⟩,
  ⟨none, none, .store 1 (.t 31) (.t 30)⟩]
abbrev c72_13 : SC := .seq (.ops r72_11) (.ops r72_12)
abbrev c72_14 : SC := .block 1 [4, 6, 23, 24] [4, 6] c72_13
abbrev r72_15 : List SOper := [
  ⟨some 32, none, .bin .add (.t 24) (.c (.int .i64 1))⟩,
  ⟨some 24, none, .mov (.t 32)⟩]
abbrev c72_16 : SC := .seq c72_14 (.ops r72_15)
abbrev c72_17 : SC := .seq c72_10 c72_16
abbrev c72_18 : SC := .seq (.ops r72_9) c72_17
abbrev L72_1 : SC := .loop [4, 6, 23, 24] [4, 6] c72_18
abbrev c72_19 : SC := .block 0 [4, 6] [4, 6] L72_1
abbrev c72_20 : SC := .seq (.ops r72_8) c72_19
abbrev r72_21 : List SOper := [
  ⟨some 33, none, .faddr 0 (.t 6)⟩,
  ⟨some 34, none, .load false false 1 (.t 33)⟩,
  ⟨some 35, none, .bin .geq (.t 34) (.c (.int .i64 1099511627776))⟩]
abbrev r72_22 : List SOper := [
  ⟨some 36, none, .build [.int .i64 0, .int .i64 0] []⟩,
  ⟨none, none, .store 2 (.t 4) (.t 36)⟩,
  ⟨some 5, none, .mov (.c (.int .i64 75))⟩]
abbrev c72_23 : SC := .seq (.ops r72_22) (.ret)
abbrev c72_24 : SC := .cond (.t 35) c72_23 (.skip)
abbrev c72_25 : SC := .seq (.ops r72_21) c72_24
abbrev r72_26 : List SOper := [
  ⟨some 37, none, .faddr 0 (.t 6)⟩,
  ⟨some 38, none, .load false false 1 (.t 37)⟩,
  ⟨some 39, none, .bin .add (.t 38) (.c (.int .i64 1))⟩,
  ⟨some 40, none, .faddr 0 (.t 6)⟩,
  ⟨none, none, .store 1 (.t 40) (.t 39)⟩]
abbrev r72_27 : List SOper := [
  ⟨some 41, none, .load false true 2 (.t 6)⟩,
  ⟨none, none, .store 2 (.t 4) (.t 41)⟩,
  ⟨some 5, none, .mov (.c (.int .i64 0))⟩]
abbrev c72_28 : SC := .seq (.ops r72_27) (.ret)
abbrev c72_29 : SC := .seq (.ops r72_26) c72_28
abbrev c72_30 : SC := .seq c72_25 c72_29
abbrev c72_31 : SC := .seq c72_20 c72_30
abbrev c72_32 : SC := .seq (.ops r72_7) c72_31
abbrev c72_33 : SC := .seq c72_6 c72_32
abbrev c72_34 : SC := .seq (.ops r72_1) c72_33
def s72 : SF := ⟨[.c 4 true 2, .t 5], c72_34, false, none, none⟩
/-! (*crannog/calls.desk).call -/
abbrev r73_1 : List SOper := [
  ⟨some 3, none, .boxL (.t 1)⟩,
  ⟨some 4, none, .allocL [.int .i64 0, .str [], .nils, .int .i64 0, .int .i64 0, .int .i64 0, .int .i64 0, .int .u64 0, .int .i64 0, .int .i64 0]⟩]
abbrev r73_2 : List SOper := [
  ⟨some 5, none, .faddr 0 (.t 3)⟩,
  ⟨some 6, none, .load false false 1 (.t 5)⟩]
abbrev r73_3 : List SOper := [
  ⟨some 11, none, .bin .eql (.t 6) (.c (.int .i64 1))⟩,
  ⟨some 10, none, .mov (.t 11)⟩]
abbrev r73_4 : List SOper := [
  ⟨some 12, none, .bin .eql (.t 6) (.c (.int .i64 2))⟩,
  ⟨some 10, none, .mov (.t 12)⟩]
abbrev r73_5 : List SOper := [
  ⟨some 13, none, .bin .eql (.t 6) (.c (.int .i64 4))⟩,
  ⟨some 10, none, .mov (.t 13)⟩]
abbrev c73_6 : SC := .cond (.t 10) (.skip) (.ops r73_5)
abbrev c73_7 : SC := .seq (.ops r73_4) c73_6
abbrev c73_8 : SC := .cond (.t 10) (.skip) c73_7
abbrev c73_9 : SC := .seq (.ops r73_3) c73_8
abbrev r73_10 : List SOper := [
  ⟨some 14, none, .mov (.t 0)⟩,
  ⟨some 15, none, .load false true 7 (.t 3)⟩,
  ⟨some 16, none, .call false (.c (.func 132 [])) [.t 14, .t 15]⟩]
abbrev r73_11 : List SOper := [
  ⟨some 18, none, .bin .eql (.t 6) (.c (.int .i64 3))⟩,
  ⟨some 17, none, .mov (.t 18)⟩]
abbrev r73_12 : List SOper := [
  ⟨some 19, none, .mov (.t 0)⟩,
  ⟨some 20, none, .load false true 7 (.t 3)⟩,
  ⟨some 21, none, .call false (.c (.func 133 [])) [.t 19, .t 20]⟩]
abbrev r73_13 : List SOper := [
  ⟨some 23, none, .bin .eql (.t 6) (.c (.int .i64 5))⟩,
  ⟨some 22, none, .mov (.t 23)⟩]
abbrev r73_14 : List SOper := [
  ⟨some 24, none, .bin .eql (.t 6) (.c (.int .i64 6))⟩,
  ⟨some 22, none, .mov (.t 24)⟩]
abbrev c73_15 : SC := .cond (.t 22) (.skip) (.ops r73_14)
abbrev c73_16 : SC := .seq (.ops r73_13) c73_15
abbrev r73_17 : List SOper := [
  ⟨some 25, none, .mov (.t 0)⟩,
  ⟨some 26, none, .load false true 7 (.t 3)⟩,
  ⟨some 27, none, .call false (.c (.func 134 [])) [.t 25, .t 26]⟩]
abbrev r73_18 : List SOper := [
  ⟨some 29, none, .bin .eql (.t 6) (.c (.int .i64 7))⟩,
  ⟨some 28, none, .mov (.t 29)⟩]
abbrev r73_19 : List SOper := [
  ⟨some 30, none, .mov (.t 0)⟩,
  ⟨some 31, none, .load false true 7 (.t 3)⟩,
  ⟨some 32, none, .call false (.c (.func 135 [])) [.t 30, .t 31]⟩]
abbrev r73_20 : List SOper := [
  ⟨some 34, none, .bin .eql (.t 6) (.c (.int .i64 8))⟩,
  ⟨some 33, none, .mov (.t 34)⟩]
abbrev r73_21 : List SOper := [
  ⟨some 35, none, .bin .eql (.t 6) (.c (.int .i64 9))⟩,
  ⟨some 33, none, .mov (.t 35)⟩]
abbrev c73_22 : SC := .cond (.t 33) (.skip) (.ops r73_21)
abbrev c73_23 : SC := .seq (.ops r73_20) c73_22
abbrev r73_24 : List SOper := [
  ⟨some 36, none, .mov (.t 0)⟩,
  ⟨some 37, none, .load false true 7 (.t 3)⟩,
  ⟨some 38, none, .call false (.c (.func 136 [])) [.t 36, .t 37]⟩]
abbrev r73_25 : List SOper := [
  ⟨some 40, none, .bin .eql (.t 6) (.c (.int .i64 10))⟩,
  ⟨some 39, none, .mov (.t 40)⟩]
abbrev r73_26 : List SOper := [
  ⟨some 41, none, .bin .eql (.t 6) (.c (.int .i64 11))⟩,
  ⟨some 39, none, .mov (.t 41)⟩]
abbrev c73_27 : SC := .cond (.t 39) (.skip) (.ops r73_26)
abbrev c73_28 : SC := .seq (.ops r73_25) c73_27
abbrev r73_29 : List SOper := [
  ⟨some 42, none, .mov (.t 0)⟩,
  ⟨some 43, none, .load false true 7 (.t 3)⟩,
  ⟨some 44, none, .call false (.c (.func 137 [])) [.t 42, .t 43]⟩]
abbrev r73_30 : List SOper := [
  ⟨some 46, none, .bin .eql (.t 6) (.c (.int .i64 12))⟩,
  ⟨some 45, none, .mov (.t 46)⟩]
abbrev r73_31 : List SOper := [
  ⟨some 47, none, .bin .eql (.t 6) (.c (.int .i64 13))⟩,
  ⟨some 45, none, .mov (.t 47)⟩]
abbrev c73_32 : SC := .cond (.t 45) (.skip) (.ops r73_31)
abbrev c73_33 : SC := .seq (.ops r73_30) c73_32
abbrev r73_34 : List SOper := [
  ⟨some 48, none, .mov (.t 0)⟩,
  ⟨some 49, none, .load false true 7 (.t 3)⟩,
  ⟨some 50, none, .call false (.c (.func 138 [])) [.t 48, .t 49]⟩]
abbrev r73_35 : List SOper := [
  ⟨some 7, none, .mov (.t 0)⟩,
  ⟨some 8, none, .load false true 7 (.t 3)⟩,
  ⟨some 9, none, .call false (.c (.func 139 [])) [.t 7, .t 8]⟩,
  ⟨none, none, .store 10 (.t 4) (.t 9)⟩]
abbrev c73_36 : SC := .seq (.ops r73_35) (.ret)
abbrev c73_37 : SC := .cond (.t 45) (.ops r73_34) c73_36
abbrev c73_38 : SC := .seq c73_33 c73_37
abbrev c73_39 : SC := .cond (.t 39) (.ops r73_29) c73_38
abbrev c73_40 : SC := .seq c73_28 c73_39
abbrev c73_41 : SC := .cond (.t 33) (.ops r73_24) c73_40
abbrev c73_42 : SC := .seq c73_23 c73_41
abbrev c73_43 : SC := .cond (.t 28) (.ops r73_19) c73_42
abbrev c73_44 : SC := .seq (.ops r73_18) c73_43
abbrev c73_45 : SC := .cond (.t 22) (.ops r73_17) c73_44
abbrev c73_46 : SC := .seq c73_16 c73_45
abbrev c73_47 : SC := .cond (.t 17) (.ops r73_12) c73_46
abbrev c73_48 : SC := .seq (.ops r73_11) c73_47
abbrev c73_49 : SC := .cond (.t 10) (.ops r73_10) c73_48
abbrev c73_50 : SC := .seq c73_9 c73_49
abbrev c73_51 : SC := .block 0 [4] [4] c73_50
abbrev c73_52 : SC := .seq (.ops r73_2) c73_51
abbrev r73_53 : List SOper := [
  ⟨some 51, none, .build [.int .i64 0, .str [], .nils, .int .i64 0, .int .i64 0, .int .i64 0, .int .i64 0, .int .u64 0, .int .i64 0, .int .i64 0] []⟩,
  ⟨none, none, .store 10 (.t 4) (.t 51)⟩]
abbrev c73_54 : SC := .seq (.ops r73_53) (.ret)
abbrev c73_55 : SC := .seq c73_52 c73_54
abbrev c73_56 : SC := .seq (.ops r73_1) c73_55
def s73 : SF := ⟨[.c 4 true 10], c73_56, false, none, none⟩
/-! crannog/vector.Join -/
abbrev r74_1 : List SOper := [
  ⟨some 2, none, .boxL (.t 0)⟩,
  ⟨some 3, none, .boxL (.t 1)⟩,
  ⟨some 4, none, .allocL [.int .i64 0, .int .i64 0, .int .i64 0, .int .i64 0, .int .i64 0, .int .i64 0, .int .i64 0, .int .i64 0]⟩]
abbrev r74_2 : List SOper := [
  ⟨some 7, none, .load false true 8 (.t 3)⟩,
  ⟨some 8, none, .mov (.c (.int .i64 0))⟩]
abbrev r74_3 : List SOper := [
  ⟨some 9, none, .bin .lss (.t 8) (.c (.int .i64 8))⟩]
abbrev c74_4 : SC := .cond (.t 9) (.skip) (.exit 0)
abbrev r74_5 : List SOper := [
  ⟨some 10, none, .mov (.t 8)⟩,
  ⟨some 11, none, .index (some (8, 1, false)) (.t 7) (.t 8)⟩,
  ⟨some 5, none, .mov (.t 10)⟩,
  ⟨some 6, none, .mov (.t 11)⟩]
abbrev r74_6 : List SOper := [
  ⟨some 12, none, .mov (.t 5)⟩,
  ⟨some 13, none, .mov (.t 5)⟩,
  ⟨some 14, none, .iaddr (some 8) 1 (.t 2) (.t 13)⟩,
  ⟨some 15, none, .load false false 1 (.t 14)⟩,
  ⟨some 16, none, .mov (.t 6)⟩,
  ⟨some 17, none, .minmax true [.t 15, .t 16]⟩,
  ⟨some 18, none, .iaddr (some 8) 1 (.t 2) (.t 12)⟩,
  ⟨none, none, .store 1 (.t 18) (.t 17)⟩]
abbrev c74_7 : SC := .seq (.ops r74_5) (.ops r74_6)
abbrev c74_8 : SC := .block 1 [2, 4, 7, 8] [2, 4] c74_7
abbrev r74_9 : List SOper := [
  ⟨some 19, none, .bin .add (.t 8) (.c (.int .i64 1))⟩,
  ⟨some 8, none, .mov (.t 19)⟩]
abbrev c74_10 : SC := .seq c74_8 (.ops r74_9)
abbrev c74_11 : SC := .seq c74_4 c74_10
abbrev c74_12 : SC := .seq (.ops r74_3) c74_11
abbrev L74_1 : SC := .loop [2, 4, 7, 8] [2, 4] c74_12
abbrev c74_13 : SC := .block 0 [2, 4] [2, 4] L74_1
abbrev c74_14 : SC := .seq (.ops r74_2) c74_13
abbrev r74_15 : List SOper := [
  ⟨some 20, none, .load false true 8 (.t 2)⟩,
  ⟨none, none, .store 8 (.t 4) (.t 20)⟩]
abbrev c74_16 : SC := .seq (.ops r74_15) (.ret)
abbrev c74_17 : SC := .seq c74_14 c74_16
abbrev c74_18 : SC := .seq (.ops r74_1) c74_17
def s74 : SF := ⟨[.c 4 true 8], c74_18, false, none, none⟩
/-! crannog/join.merged[crannog/api.Inode] -/
abbrev r75_1 : List SOper := [
  ⟨some 8, none, .mov (.c (.nils))⟩]
abbrev r75_2 : List SOper := [
  ⟨some 9, none, .mov (.c (.nils))⟩]
abbrev r75_3 : List SOper := [
  ⟨some 14, none, .mov (.t 0)⟩,
  ⟨some 15, none, .mov (.t 1)⟩,
  ⟨some 16, none, .bsnap 1 [.t 14, .t 15]⟩,
  ⟨some 17, none, .call false (.c (.func 140 [])) [.t 16]⟩,
  ⟨some 10, none, .mov (.t 17)⟩]
abbrev r75_4 : List SOper := [
  ⟨some 18, none, .mov (.t 10)⟩,
  ⟨some 19, none, .mov (.t 2)⟩,
  ⟨some 20, none, .call false (.c (.func 141 [])) [.t 18, .t 19]⟩]
abbrev r75_5 : List SOper := [
  ⟨some 21, none, .mov (.t 10)⟩,
  ⟨some 22, none, .len 1 (.t 21)⟩,
  ⟨some 23, none, .mov (.c (.int .i64 0))⟩]
abbrev r75_6 : List SOper := [
  ⟨some 24, none, .bin .lss (.t 23) (.t 22)⟩]
abbrev c75_7 : SC := .cond (.t 24) (.skip) (.exit 0)
abbrev r75_8 : List SOper := [
  ⟨some 25, none, .iaddr none 13 (.t 21) (.t 23)⟩,
  ⟨some 26, none, .load false true 13 (.t 25)⟩,
  ⟨some 12, none, .allocL [.int .i64 0, .int .i64 0, .int .i64 0, .str [], .int .i64 0, .int .i64 0, .int .i64 0, .int .u64 0, .int .i64 0, .int .i64 0, .int .i64 0, .nils, .nils]⟩,
  ⟨none, none, .store 13 (.t 12) (.t 26)⟩]
abbrev r75_9 : List SOper := [
  ⟨some 27, none, .mov (.t 9)⟩,
  ⟨some 28, none, .len 1 (.t 27)⟩,
  ⟨some 13, none, .mov (.t 28)⟩]
abbrev r75_10 : List SOper := [
  ⟨some 29, none, .mov (.t 13)⟩,
  ⟨some 30, none, .bin .gtr (.t 29) (.c (.int .i64 0))⟩,
  ⟨some 31, none, .mov (.t 30)⟩,
  ⟨some 32, some (31, true), .mov (.t 2)⟩,
  ⟨some 33, some (31, true), .mov (.t 9)⟩,
  ⟨some 34, some (31, true), .mov (.t 13)⟩,
  ⟨some 35, some (31, true), .bin .sub (.t 34) (.c (.int .i64 1))⟩,
  ⟨some 36, some (31, true), .iaddr none 13 (.t 33) (.t 35)⟩,
  ⟨some 37, some (31, true), .load false true 13 (.t 36)⟩,
  ⟨some 38, some (31, true), .load false true 13 (.t 12)⟩,
  ⟨some 39, some (31, true), .call false (.t 32) [.t 37, .t 38]⟩,
  ⟨some 40, some (31, true), .bin .eql (.t 39) (.c (.int .i64 0))⟩,
  ⟨some 41, none, .pick (.t 31) (.t 40) (.c (.bool false))⟩]
abbrev r75_11 : List SOper := [
  ⟨some 42, none, .mov (.t 9)⟩,
  ⟨some 43, none, .mov (.t 13)⟩,
  ⟨some 44, none, .bin .sub (.t 43) (.c (.int .i64 1))⟩,
  ⟨some 45, none, .mov (.t 3)⟩,
  ⟨some 46, none, .mov (.t 9)⟩,
  ⟨some 47, none, .mov (.t 13)⟩,
  ⟨some 48, none, .bin .sub (.t 47) (.c (.int .i64 1))⟩,
  ⟨some 49, none, .iaddr none 13 (.t 46) (.t 48)⟩,
  ⟨some 50, none, .load false true 13 (.t 49)⟩,
  ⟨some 51, none, .load false true 13 (.t 12)⟩,
  ⟨some 52, none, .call false (.t 45) [.t 50, .t 51]⟩,
  ⟨some 53, none, .iaddr none 13 (.t 42) (.t 44)⟩,
  ⟨none, none, .store 13 (.t 53) (.t 52)⟩]
abbrev c75_12 : SC := .seq (.draw 0 [[], [], [1], [], [], [], [5], [4, 6], [7], [], [3, 8, 9], [0, 2, 10], [11]] r75_11) (.exit 1)
abbrev c75_13 : SC := .cond (.t 41) c75_12 (.skip)
abbrev c75_14 : SC := .seq (.draw 0 [[], [0], [1], [2], [2], [2], [5], [4, 6], [7], [2], [3, 8, 9], [10], [11]] r75_10) c75_13
abbrev c75_15 : SC := .seq (.ops r75_9) c75_14
abbrev r75_16 : List SOper := [
  ⟨some 54, none, .mov (.t 9)⟩,
  ⟨some 55, none, .load false true 13 (.t 12)⟩,
  ⟨some 56, none, .bsnap 13 [.t 55]⟩,
  ⟨some 57, none, .append 13 144 (.t 54) (.t 56)⟩,
  ⟨some 9, none, .mov (.t 57)⟩]
abbrev c75_17 : SC := .seq c75_15 (.ops r75_16)
abbrev c75_18 : SC := .seq (.ops r75_8) c75_17
abbrev c75_19 : SC := .block 1 [2, 3, 9, 21, 22, 23] [] c75_18
abbrev r75_20 : List SOper := [
  ⟨some 58, none, .bin .add (.t 23) (.c (.int .i64 1))⟩,
  ⟨some 23, none, .mov (.t 58)⟩]
abbrev c75_21 : SC := .seq c75_19 (.ops r75_20)
abbrev c75_22 : SC := .seq c75_7 c75_21
abbrev c75_23 : SC := .seq (.ops r75_6) c75_22
abbrev L75_1 : SC := .loop [2, 3, 9, 21, 22, 23] [] c75_23
abbrev c75_24 : SC := .block 0 [9] [] L75_1
abbrev c75_25 : SC := .seq (.ops r75_5) c75_24
abbrev r75_26 : List SOper := [
  ⟨some 59, none, .mov (.t 9)⟩,
  ⟨some 8, none, .mov (.t 59)⟩]
abbrev c75_27 : SC := .seq (.ops r75_26) (.ret)
abbrev c75_28 : SC := .seq c75_25 c75_27
abbrev c75_29 : SC := .seq (.ops r75_4) c75_28
abbrev c75_30 : SC := .seq (.ops r75_3) c75_29
abbrev c75_31 : SC := .seq (.ops r75_2) c75_30
abbrev c75_32 : SC := .seq (.ops r75_1) c75_31
def s75 : SF := ⟨[.t 8], c75_32, true, none, none⟩
/-! crannog/join.States$1 -/
abbrev r76_1 : List SOper := [
  ⟨some 2, none, .boxL (.t 0)⟩,
  ⟨some 3, none, .boxL (.t 1)⟩,
  ⟨some 4, none, .mov (.c (.int .i64 0))⟩]
abbrev r76_2 : List SOper := [
  ⟨some 5, none, .faddr 0 (.t 2)⟩,
  ⟨some 6, none, .load false true 2 (.t 5)⟩,
  ⟨some 7, none, .faddr 0 (.t 3)⟩,
  ⟨some 8, none, .load false true 2 (.t 7)⟩,
  ⟨some 9, none, .call false (.c (.func 77 [])) [.t 6, .t 8]⟩,
  ⟨some 4, none, .mov (.t 9)⟩]
abbrev c76_3 : SC := .seq (.ops r76_2) (.ret)
abbrev c76_4 : SC := .seq (.ops r76_1) c76_3
def s76 : SF := ⟨[.t 4], c76_4, false, none, none⟩
/-! crannog/join.stamps -/
abbrev r77_1 : List SOper := [
  ⟨some 2, none, .boxL (.t 0)⟩,
  ⟨some 3, none, .boxL (.t 1)⟩,
  ⟨some 4, none, .mov (.c (.int .i64 0))⟩]
abbrev r77_2 : List SOper := [
  ⟨some 5, none, .faddr 0 (.t 2)⟩,
  ⟨some 6, none, .load false false 1 (.t 5)⟩,
  ⟨some 7, none, .faddr 0 (.t 3)⟩,
  ⟨some 8, none, .load false false 1 (.t 7)⟩,
  ⟨some 9, none, .call false (.c (.func 143 [])) [.t 6, .t 8]⟩,
  ⟨some 10, none, .faddr 1 (.t 2)⟩,
  ⟨some 11, none, .loadA (.loc 2) false 1 (.t 10)⟩,
  ⟨some 12, none, .faddr 1 (.t 3)⟩,
  ⟨some 13, none, .loadA (.loc 3) false 1 (.t 12)⟩,
  ⟨some 14, none, .call false (.c (.func 143 [])) [.t 11, .t 13]⟩,
  ⟨some 15, none, .bsnap 1 [.t 9, .t 14]⟩,
  ⟨some 16, none, .call false (.c (.func 142 [])) [.t 15]⟩,
  ⟨some 4, none, .mov (.t 16)⟩]
abbrev c77_3 : SC := .seq (.draw 0 [[], [0], [], [2], [1, 3], [], [5], [], [7], [4, 6, 8], [9], [10], [11]] r77_2) (.ret)
abbrev c77_4 : SC := .seq (.ops r77_1) c77_3
def s77 : SF := ⟨[.t 4], c77_4, false, none, none⟩
/-! crannog/join.merged[crannog/api.Link] -/
abbrev r79_1 : List SOper := [
  ⟨some 8, none, .mov (.c (.nils))⟩]
abbrev r79_2 : List SOper := [
  ⟨some 9, none, .mov (.c (.nils))⟩]
abbrev r79_3 : List SOper := [
  ⟨some 14, none, .mov (.t 0)⟩,
  ⟨some 15, none, .mov (.t 1)⟩,
  ⟨some 16, none, .bsnap 1 [.t 14, .t 15]⟩,
  ⟨some 17, none, .call false (.c (.func 150 [])) [.t 16]⟩,
  ⟨some 10, none, .mov (.t 17)⟩]
abbrev r79_4 : List SOper := [
  ⟨some 18, none, .mov (.t 10)⟩,
  ⟨some 19, none, .mov (.t 2)⟩,
  ⟨some 20, none, .call false (.c (.func 151 [])) [.t 18, .t 19]⟩]
abbrev r79_5 : List SOper := [
  ⟨some 21, none, .mov (.t 10)⟩,
  ⟨some 22, none, .len 1 (.t 21)⟩,
  ⟨some 23, none, .mov (.c (.int .i64 0))⟩]
abbrev r79_6 : List SOper := [
  ⟨some 24, none, .bin .lss (.t 23) (.t 22)⟩]
abbrev c79_7 : SC := .cond (.t 24) (.skip) (.exit 0)
abbrev r79_8 : List SOper := [
  ⟨some 25, none, .iaddr none 25 (.t 21) (.t 23)⟩,
  ⟨some 26, none, .load false true 25 (.t 25)⟩,
  ⟨some 12, none, .allocL [.int .i64 0, .int .i64 0, .int .i64 0, .int .i64 0, .int .i64 0, .int .i64 0, .int .i64 0, .int .i64 0, .str [], .int .i64 0, .int .i64 0, .int .i64 0, .int .i64 0, .int .i64 0, .int .i64 0, .int .i64 0, .int .i64 0, .int .i64 0, .int .i64 0, .int .i64 0, .int .i64 0, .int .i64 0, .int .i64 0, .int .i64 0, .int .i64 0]⟩,
  ⟨none, none, .store 25 (.t 12) (.t 26)⟩]
abbrev r79_9 : List SOper := [
  ⟨some 27, none, .mov (.t 9)⟩,
  ⟨some 28, none, .len 1 (.t 27)⟩,
  ⟨some 13, none, .mov (.t 28)⟩]
abbrev r79_10 : List SOper := [
  ⟨some 29, none, .mov (.t 13)⟩,
  ⟨some 30, none, .bin .gtr (.t 29) (.c (.int .i64 0))⟩,
  ⟨some 31, none, .mov (.t 30)⟩,
  ⟨some 32, some (31, true), .mov (.t 2)⟩,
  ⟨some 33, some (31, true), .mov (.t 9)⟩,
  ⟨some 34, some (31, true), .mov (.t 13)⟩,
  ⟨some 35, some (31, true), .bin .sub (.t 34) (.c (.int .i64 1))⟩,
  ⟨some 36, some (31, true), .iaddr none 25 (.t 33) (.t 35)⟩,
  ⟨some 37, some (31, true), .load false true 25 (.t 36)⟩,
  ⟨some 38, some (31, true), .load false true 25 (.t 12)⟩,
  ⟨some 39, some (31, true), .call false (.t 32) [.t 37, .t 38]⟩,
  ⟨some 40, some (31, true), .bin .eql (.t 39) (.c (.int .i64 0))⟩,
  ⟨some 41, none, .pick (.t 31) (.t 40) (.c (.bool false))⟩]
abbrev r79_11 : List SOper := [
  ⟨some 42, none, .mov (.t 9)⟩,
  ⟨some 43, none, .mov (.t 13)⟩,
  ⟨some 44, none, .bin .sub (.t 43) (.c (.int .i64 1))⟩,
  ⟨some 45, none, .mov (.t 3)⟩,
  ⟨some 46, none, .mov (.t 9)⟩,
  ⟨some 47, none, .mov (.t 13)⟩,
  ⟨some 48, none, .bin .sub (.t 47) (.c (.int .i64 1))⟩,
  ⟨some 49, none, .iaddr none 25 (.t 46) (.t 48)⟩,
  ⟨some 50, none, .load false true 25 (.t 49)⟩,
  ⟨some 51, none, .load false true 25 (.t 12)⟩,
  ⟨some 52, none, .call false (.t 45) [.t 50, .t 51]⟩,
  ⟨some 53, none, .iaddr none 25 (.t 42) (.t 44)⟩,
  ⟨none, none, .store 25 (.t 53) (.t 52)⟩]
abbrev c79_12 : SC := .seq (.draw 0 [[], [], [1], [], [], [], [5], [4, 6], [7], [], [3, 8, 9], [0, 2, 10], [11]] r79_11) (.exit 1)
abbrev c79_13 : SC := .cond (.t 41) c79_12 (.skip)
abbrev c79_14 : SC := .seq (.draw 0 [[], [0], [1], [2], [2], [2], [5], [4, 6], [7], [2], [3, 8, 9], [10], [11]] r79_10) c79_13
abbrev c79_15 : SC := .seq (.ops r79_9) c79_14
abbrev r79_16 : List SOper := [
  ⟨some 54, none, .mov (.t 9)⟩,
  ⟨some 55, none, .load false true 25 (.t 12)⟩,
  ⟨some 56, none, .bsnap 25 [.t 55]⟩,
  ⟨some 57, none, .append 25 208 (.t 54) (.t 56)⟩,
  ⟨some 9, none, .mov (.t 57)⟩]
abbrev c79_17 : SC := .seq c79_15 (.ops r79_16)
abbrev c79_18 : SC := .seq (.ops r79_8) c79_17
abbrev c79_19 : SC := .block 1 [2, 3, 9, 21, 22, 23] [] c79_18
abbrev r79_20 : List SOper := [
  ⟨some 58, none, .bin .add (.t 23) (.c (.int .i64 1))⟩,
  ⟨some 23, none, .mov (.t 58)⟩]
abbrev c79_21 : SC := .seq c79_19 (.ops r79_20)
abbrev c79_22 : SC := .seq c79_7 c79_21
abbrev c79_23 : SC := .seq (.ops r79_6) c79_22
abbrev L79_1 : SC := .loop [2, 3, 9, 21, 22, 23] [] c79_23
abbrev c79_24 : SC := .block 0 [9] [] L79_1
abbrev c79_25 : SC := .seq (.ops r79_5) c79_24
abbrev r79_26 : List SOper := [
  ⟨some 59, none, .mov (.t 9)⟩,
  ⟨some 8, none, .mov (.t 59)⟩]
abbrev c79_27 : SC := .seq (.ops r79_26) (.ret)
abbrev c79_28 : SC := .seq c79_25 c79_27
abbrev c79_29 : SC := .seq (.ops r79_4) c79_28
abbrev c79_30 : SC := .seq (.ops r79_3) c79_29
abbrev c79_31 : SC := .seq (.ops r79_2) c79_30
abbrev c79_32 : SC := .seq (.ops r79_1) c79_31
def s79 : SF := ⟨[.t 8], c79_32, true, none, none⟩
/-! crannog/join.States$2 -/
abbrev r80_1 : List SOper := [
  ⟨some 2, none, .boxL (.t 0)⟩,
  ⟨some 3, none, .boxL (.t 1)⟩,
  ⟨some 4, none, .mov (.c (.int .i64 0))⟩]
abbrev r80_2 : List SOper := [
  ⟨some 5, none, .faddr 0 (.t 2)⟩,
  ⟨some 6, none, .load false true 2 (.t 5)⟩,
  ⟨some 7, none, .faddr 0 (.t 3)⟩,
  ⟨some 8, none, .load false true 2 (.t 7)⟩,
  ⟨some 9, none, .call false (.c (.func 77 [])) [.t 6, .t 8]⟩,
  ⟨some 4, none, .mov (.t 9)⟩]
abbrev c80_3 : SC := .seq (.ops r80_2) (.ret)
abbrev c80_4 : SC := .seq (.ops r80_1) c80_3
def s80 : SF := ⟨[.t 4], c80_4, false, none, none⟩
/-! crannog/join.link -/
abbrev r81_1 : List SOper := [
  ⟨some 2, none, .boxL (.t 0)⟩,
  ⟨some 3, none, .boxL (.t 1)⟩,
  ⟨some 4, none, .allocL [.int .i64 0, .int .i64 0, .int .i64 0, .int .i64 0, .int .i64 0, .int .i64 0, .int .i64 0, .int .i64 0, .str [], .int .i64 0, .int .i64 0, .int .i64 0, .int .i64 0, .int .i64 0, .int .i64 0, .int .i64 0, .int .i64 0, .int .i64 0, .int .i64 0, .int .i64 0, .int .i64 0, .int .i64 0, .int .i64 0, .int .i64 0, .int .i64 0]⟩]
abbrev r81_2 : List SOper := [
  ⟨some 6, none, .load false true 25 (.t 2)⟩,
  ⟨some 7, none, .load false true 25 (.t 3)⟩,
  ⟨some 8, none, .call false (.c (.func 152 [])) [.t 6, .t 7, .c (.func 153 [])]⟩,
  ⟨some 5, none, .allocL [.int .i64 0, .int .i64 0, .int .i64 0, .int .i64 0, .int .i64 0, .int .i64 0, .int .i64 0, .int .i64 0, .str [], .int .i64 0, .int .i64 0, .int .i64 0, .int .i64 0, .int .i64 0, .int .i64 0, .int .i64 0, .int .i64 0, .int .i64 0, .int .i64 0, .int .i64 0, .int .i64 0, .int .i64 0, .int .i64 0, .int .i64 0, .int .i64 0]⟩,
  ⟨none, none, .store 25 (.t 5) (.t 8)⟩]
abbrev r81_3 : List SOper := [
  ⟨some 9, none, .faddr 4 (.t 5)⟩,
  ⟨some 10, none, .load false true 2 (.t 9)⟩,
  ⟨some 11, none, .faddr 6 (.t 5)⟩,
  ⟨some 12, none, .loadA (.loc 5) true 2 (.t 11)⟩,
  ⟨some 13, none, .faddr 8 (.t 5)⟩,
  ⟨some 14, none, .loadA (.loc 5) false 1 (.t 13)⟩,
  ⟨some 15, none, .faddr 4 (.t 2)⟩,
  ⟨none, none, .storeA (.loc 2) 2 (.t 15) (.t 10)⟩,
  ⟨some 16, none, .faddr 6 (.t 2)⟩,
  ⟨none, none, .storeA (.loc 2) 2 (.t 16) (.t 12)⟩,
  ⟨some 17, none, .faddr 8 (.t 2)⟩,
  ⟨none, none, .store 1 (.t 17) (.t 14)⟩]
abbrev r81_4 : List SOper := [
  ⟨some 18, none, .faddr 2 (.t 2)⟩,
  ⟨some 19, none, .load false true 2 (.t 18)⟩,
  ⟨some 20, none, .faddr 2 (.t 3)⟩,
  ⟨some 21, none, .load false true 2 (.t 20)⟩,
  ⟨some 22, none, .call false (.c (.func 154 [])) [.t 19, .t 21, .c (.func 77 [])]⟩,
  ⟨some 23, none, .faddr 2 (.t 2)⟩,
  ⟨none, none, .store 2 (.t 23) (.t 22)⟩]
abbrev r81_5 : List SOper := [
  ⟨some 24, none, .faddr 9 (.t 2)⟩,
  ⟨some 25, none, .load false true 8 (.t 24)⟩,
  ⟨some 26, none, .faddr 9 (.t 3)⟩,
  ⟨some 27, none, .load false true 8 (.t 26)⟩,
  ⟨some 28, none, .call false (.c (.func 74 [])) [.t 25, .t 27]⟩,
  ⟨some 29, none, .faddr 17 (.t 2)⟩,
  ⟨some 30, none, .loadA (.loc 2) true 8 (.t 29)⟩,
  ⟨some 31, none, .faddr 17 (.t 3)⟩,
  ⟨some 32, none, .loadA (.loc 3) true 8 (.t 31)⟩,
  ⟨some 33, none, .call false (.c (.func 74 [])) [.t 30, .t 32]⟩,
  ⟨some 34, none, .faddr 9 (.t 2)⟩,
  ⟨none, none, .store 8 (.t 34) (.t 28)⟩,
  ⟨some 35, none, .faddr 17 (.t 2)⟩,
  ⟨none, none, .store 8 (.t 35) (.t 33)⟩]
abbrev r81_6 : List SOper := [
  ⟨some 36, none, .load false true 25 (.t 2)⟩,
  ⟨none, none, .store 25 (.t 4) (.t 36)⟩]
abbrev c81_7 : SC := .seq (.ops r81_6) (.ret)
abbrev c81_8 : SC := .seq (.draw 0 [[], [0], [], [2], [1, 3], [], [5], [], [7], [4, 6, 8], [4, 6], [9, 10], [11], [12]] r81_5) c81_7
abbrev c81_9 : SC := .seq (.ops r81_4) c81_8
abbrev c81_10 : SC := .seq (.draw 0 [[], [0], [], [2], [], [4], [1], [6], [3, 7], [8], [5, 9], [10]] r81_3) c81_9
abbrev c81_11 : SC := .seq (.ops r81_2) c81_10
abbrev c81_12 : SC := .seq (.ops r81_1) c81_11
def s81 : SF := ⟨[.c 4 true 25], c81_12, false, none, none⟩
/-! crannog/join.listed -/
abbrev r82_1 : List SOper := [
  ⟨some 2, none, .mov (.c (.nils))⟩]
abbrev r82_2 : List SOper := [
  ⟨some 3, none, .mov (.t 0)⟩,
  ⟨some 4, none, .call false (.c (.func 155 [])) [.t 3, .c (.nils), .c (.func 156 []), .c (.func 157 [])]⟩,
  ⟨some 2, none, .mov (.t 4)⟩]
abbrev c82_3 : SC := .seq (.ops r82_2) (.ret)
abbrev c82_4 : SC := .seq (.ops r82_1) c82_3
def s82 : SF := ⟨[.t 2], c82_4, false, none, none⟩
/-! crannog/join.named -/
abbrev r83_1 : List SOper := [
  ⟨some 2, none, .mov (.c (.nils))⟩]
abbrev r83_2 : List SOper := [
  ⟨some 3, none, .mov (.t 0)⟩,
  ⟨some 4, none, .call false (.c (.func 160 [])) [.t 3, .c (.nils), .c (.func 161 []), .c (.func 163 [])]⟩,
  ⟨some 2, none, .mov (.t 4)⟩]
abbrev c83_3 : SC := .seq (.ops r83_2) (.ret)
abbrev c83_4 : SC := .seq (.ops r83_1) c83_3
def s83 : SF := ⟨[.t 2], c83_4, false, none, none⟩
/-! crannog/names.Split -/
abbrev r84_1 : List SOper := [
  ⟨some 2, none, .mov (.c (.nils))⟩,
  ⟨some 3, none, .mov (.c (.int .i64 0))⟩]
abbrev r84_2 : List SOper := [
  ⟨some 8, none, .mov (.t 0)⟩,
  ⟨some 9, none, .len 0 (.t 8)⟩,
  ⟨some 10, none, .bin .gtr (.t 9) (.c (.int .i64 120))⟩]
abbrev r84_3 : List SOper := [
  ⟨some 2, none, .mov (.c (.nils))⟩,
  ⟨some 3, none, .mov (.c (.int .i64 36))⟩]
abbrev c84_4 : SC := .seq (.ops r84_3) (.ret)
abbrev c84_5 : SC := .cond (.t 10) c84_4 (.skip)
abbrev c84_6 : SC := .seq (.ops r84_2) c84_5
abbrev r84_7 : List SOper := [
  ⟨some 11, none, .mov (.t 0)⟩,
  ⟨some 12, none, .bin .eql (.t 11) (.c (.str []))⟩,
  ⟨some 13, none, .mov (.t 12)⟩,
  ⟨some 14, some (13, false), .mov (.t 0)⟩,
  ⟨some 15, some (13, false), .index none (.t 14) (.c (.int .i64 0))⟩,
  ⟨some 16, some (13, false), .bin .neq (.t 15) (.c (.int .u8 47))⟩,
  ⟨some 17, none, .pick (.t 13) (.c (.bool true)) (.t 16)⟩]
abbrev r84_8 : List SOper := [
  ⟨some 2, none, .mov (.c (.nils))⟩,
  ⟨some 3, none, .mov (.c (.int .i64 22))⟩]
abbrev c84_9 : SC := .seq (.ops r84_8) (.ret)
abbrev c84_10 : SC := .cond (.t 17) c84_9 (.skip)
abbrev c84_11 : SC := .seq (.ops r84_7) c84_10
abbrev r84_12 : List SOper := [
  ⟨some 18, none, .mov (.t 0)⟩,
  ⟨some 19, none, .bin .eql (.t 18) (.c (.str [47]))⟩]
abbrev r84_13 : List SOper := [
  ⟨some 2, none, .mov (.c (.nils))⟩,
  ⟨some 3, none, .mov (.c (.int .i64 0))⟩]
abbrev c84_14 : SC := .seq (.ops r84_13) (.ret)
abbrev c84_15 : SC := .cond (.t 19) c84_14 (.skip)
abbrev c84_16 : SC := .seq (.ops r84_12) c84_15
abbrev r84_17 : List SOper := [
  ⟨some 20, none, .mov (.t 0)⟩,
  ⟨some 21, none, .slice true 1 (.t 20) (some (.c (.int .i64 1))) none none⟩,
  ⟨some 22, none, .call false (.c (.func 166 [])) [.t 21, .c (.str [47])]⟩,
  ⟨some 4, none, .mov (.t 22)⟩]
abbrev r84_18 : List SOper := [
  ⟨some 23, none, .mov (.t 4)⟩,
  ⟨some 24, none, .len 1 (.t 23)⟩,
  ⟨some 25, none, .bin .gtr (.t 24) (.c (.int .i64 8))⟩]
abbrev r84_19 : List SOper := [
  ⟨some 2, none, .mov (.c (.nils))⟩,
  ⟨some 3, none, .mov (.c (.int .i64 36))⟩]
abbrev c84_20 : SC := .seq (.ops r84_19) (.ret)
abbrev c84_21 : SC := .cond (.t 25) c84_20 (.skip)
abbrev c84_22 : SC := .seq (.ops r84_18) c84_21
abbrev r84_23 : List SOper := [
  ⟨some 26, none, .mov (.t 4)⟩,
  ⟨some 27, none, .len 1 (.t 26)⟩,
  ⟨some 28, none, .mov (.c (.int .i64 0))⟩]
abbrev r84_24 : List SOper := [
  ⟨some 29, none, .bin .lss (.t 28) (.t 27)⟩]
abbrev c84_25 : SC := .cond (.t 29) (.skip) (.exit 0)
abbrev r84_26 : List SOper := [
  ⟨some 30, none, .iaddr none 1 (.t 26) (.t 28)⟩,
  ⟨some 31, none, .load false false 1 (.t 30)⟩,
  ⟨some 6, none, .mov (.t 31)⟩]
abbrev r84_27 : List SOper := [
  ⟨some 32, none, .mov (.t 6)⟩,
  ⟨some 33, none, .call false (.c (.func 167 [])) [.t 32]⟩,
  ⟨some 7, none, .mov (.t 33)⟩]
abbrev r84_28 : List SOper := [
  ⟨some 34, none, .mov (.t 7)⟩,
  ⟨some 35, none, .bin .neq (.t 34) (.c (.int .i64 0))⟩]
abbrev r84_29 : List SOper := [
  ⟨some 36, none, .mov (.t 7)⟩,
  ⟨some 2, none, .mov (.c (.nils))⟩,
  ⟨some 3, none, .mov (.t 36)⟩]
abbrev c84_30 : SC := .seq (.ops r84_29) (.ret)
abbrev c84_31 : SC := .cond (.t 35) c84_30 (.skip)
abbrev c84_32 : SC := .seq (.ops r84_28) c84_31
abbrev c84_33 : SC := .seq (.ops r84_27) c84_32
abbrev c84_34 : SC := .seq (.ops r84_26) c84_33
abbrev c84_35 : SC := .block 1 [4, 26, 27, 28] [] c84_34
abbrev r84_36 : List SOper := [
  ⟨some 37, none, .bin .add (.t 28) (.c (.int .i64 1))⟩,
  ⟨some 28, none, .mov (.t 37)⟩]
abbrev c84_37 : SC := .seq c84_35 (.ops r84_36)
abbrev c84_38 : SC := .seq c84_25 c84_37
abbrev c84_39 : SC := .seq (.ops r84_24) c84_38
abbrev L84_1 : SC := .loop [4, 26, 27, 28] [] c84_39
abbrev c84_40 : SC := .block 0 [4] [] L84_1
abbrev c84_41 : SC := .seq (.ops r84_23) c84_40
abbrev r84_42 : List SOper := [
  ⟨some 38, none, .mov (.t 4)⟩,
  ⟨some 2, none, .mov (.t 38)⟩,
  ⟨some 3, none, .mov (.c (.int .i64 0))⟩]
abbrev c84_43 : SC := .seq (.ops r84_42) (.ret)
abbrev c84_44 : SC := .seq c84_41 c84_43
abbrev c84_45 : SC := .seq c84_22 c84_44
abbrev c84_46 : SC := .seq (.ops r84_17) c84_45
abbrev c84_47 : SC := .seq c84_16 c84_46
abbrev c84_48 : SC := .seq c84_11 c84_47
abbrev c84_49 : SC := .seq c84_6 c84_48
abbrev c84_50 : SC := .seq (.ops r84_1) c84_49
def s84 : SF := ⟨[.t 2, .t 3], c84_50, false, none, none⟩
/-! crannog/view.Walk -/
abbrev r85_1 : List SOper := [
  ⟨some 3, none, .boxL (.t 0)⟩,
  ⟨some 6, none, .mov (.c (.nils))⟩,
  ⟨some 7, none, .mov (.c (.int .i64 0))⟩]
abbrev r85_2 : List SOper := [
  ⟨some 8, none, .mov (.c (.nils))⟩]
abbrev r85_3 : List SOper := [
  ⟨some 14, none, .build [.int .i64 0, .int .i64 0] []⟩,
  ⟨some 9, none, .allocL [.int .i64 0, .int .i64 0]⟩,
  ⟨none, none, .store 2 (.t 9) (.t 14)⟩]
abbrev r85_4 : List SOper := [
  ⟨some 15, none, .mov (.t 2)⟩,
  ⟨some 16, none, .len 1 (.t 15)⟩,
  ⟨some 17, none, .mov (.c (.int .i64 0))⟩]
abbrev r85_5 : List SOper := [
  ⟨some 18, none, .bin .lss (.t 17) (.t 16)⟩]
abbrev c85_6 : SC := .cond (.t 18) (.skip) (.exit 0)
abbrev r85_7 : List SOper := [
  ⟨some 19, none, .mov (.t 17)⟩,
  ⟨some 20, none, .iaddr none 1 (.t 15) (.t 17)⟩,
  ⟨some 21, none, .load false false 1 (.t 20)⟩,
  ⟨some 10, none, .mov (.t 19)⟩,
  ⟨some 11, none, .mov (.t 21)⟩]
abbrev r85_8 : List SOper := [
  ⟨some 22, none, .mov (.t 10)⟩,
  ⟨some 23, none, .bin .gtr (.t 22) (.c (.int .i64 0))⟩,
  ⟨some 24, none, .mov (.t 23)⟩,
  ⟨some 25, some (24, true), .load false true 10 (.t 3)⟩,
  ⟨some 26, some (24, true), .load false true 2 (.t 9)⟩,
  ⟨some 27, some (24, true), .call false (.c (.func 86 [])) [.t 25, .t 26]⟩,
  ⟨some 28, some (24, true), .bin .neq (.t 27) (.c (.int .i64 2))⟩,
  ⟨some 29, none, .pick (.t 24) (.t 28) (.c (.bool false))⟩]
abbrev r85_9 : List SOper := [
  ⟨some 6, none, .mov (.c (.nils))⟩,
  ⟨some 7, none, .mov (.c (.int .i64 20))⟩]
abbrev c85_10 : SC := .seq (.ops r85_9) (.ret)
abbrev c85_11 : SC := .cond (.t 29) c85_10 (.skip)
abbrev c85_12 : SC := .seq (.ops r85_8) c85_11
abbrev r85_13 : List SOper := [
  ⟨some 31, none, .mov (.t 1)⟩,
  ⟨some 32, none, .load false true 2 (.t 9)⟩,
  ⟨some 33, none, .mov (.t 11)⟩,
  ⟨some 34, none, .call false (.c (.func 168 [])) [.t 31, .t 32, .t 33]⟩,
  ⟨some 30, none, .mov (.t 34)⟩,
  ⟨some 35, none, .extract (.t 30) 0⟩,
  ⟨some 36, none, .extract (.t 30) 1⟩,
  ⟨some 12, none, .allocL [.int .i64 0, .int .i64 0, .int .i64 0, .int .i64 0, .int .i64 0, .int .i64 0, .str [], .bool false]⟩,
  ⟨none, none, .store 8 (.t 12) (.t 35)⟩,
  ⟨some 13, none, .mov (.t 36)⟩]
abbrev r85_14 : List SOper := [
  ⟨some 37, none, .mov (.t 13)⟩,
  ⟨some 38, none, .un .not (.t 37)⟩]
abbrev r85_15 : List SOper := [
  ⟨some 6, none, .mov (.c (.nils))⟩,
  ⟨some 7, none, .mov (.c (.int .i64 2))⟩]
abbrev c85_16 : SC := .seq (.ops r85_15) (.ret)
abbrev c85_17 : SC := .cond (.t 38) c85_16 (.skip)
abbrev c85_18 : SC := .seq (.ops r85_14) c85_17
abbrev r85_19 : List SOper := [
  ⟨some 39, none, .mov (.t 8)⟩,
  ⟨some 40, none, .load false true 8 (.t 12)⟩,
  ⟨some 41, none, .bsnap 8 [.t 40]⟩,
  ⟨some 42, none, .append 8 72 (.t 39) (.t 41)⟩,
  ⟨some 43, none, .faddr 2 (.t 12)⟩,
  ⟨some 44, none, .loadA (.loc 12) true 2 (.t 43)⟩,
  ⟨some 8, none, .mov (.t 42)⟩,
  ⟨none, none, .store 2 (.t 9) (.t 44)⟩]
abbrev c85_20 : SC := .seq c85_18 (.draw 0 [[], [], [1], [0, 2], [], [4], [3], [5, 6]] r85_19)
abbrev c85_21 : SC := .seq (.ops r85_13) c85_20
abbrev c85_22 : SC := .seq c85_12 c85_21
abbrev c85_23 : SC := .seq (.ops r85_7) c85_22
abbrev c85_24 : SC := .block 1 [1, 3, 8, 9, 15, 16, 17] [3, 9] c85_23
abbrev r85_25 : List SOper := [
  ⟨some 45, none, .bin .add (.t 17) (.c (.int .i64 1))⟩,
  ⟨some 17, none, .mov (.t 45)⟩]
abbrev c85_26 : SC := .seq c85_24 (.ops r85_25)
abbrev c85_27 : SC := .seq c85_6 c85_26
abbrev c85_28 : SC := .seq (.ops r85_5) c85_27
abbrev L85_1 : SC := .loop [1, 3, 8, 9, 15, 16, 17] [3, 9] c85_28
abbrev c85_29 : SC := .block 0 [8] [] L85_1
abbrev c85_30 : SC := .seq (.ops r85_4) c85_29
abbrev r85_31 : List SOper := [
  ⟨some 46, none, .mov (.t 8)⟩,
  ⟨some 6, none, .mov (.t 46)⟩,
  ⟨some 7, none, .mov (.c (.int .i64 0))⟩]
abbrev c85_32 : SC := .seq (.ops r85_31) (.ret)
abbrev c85_33 : SC := .seq c85_30 c85_32
abbrev c85_34 : SC := .seq (.ops r85_3) c85_33
abbrev c85_35 : SC := .seq (.ops r85_2) c85_34
abbrev c85_36 : SC := .seq (.ops r85_1) c85_35
def s85 : SF := ⟨[.t 6, .t 7], c85_36, false, none, none⟩
/-! crannog/view.Kind -/
abbrev r86_1 : List SOper := [
  ⟨some 2, none, .boxL (.t 0)⟩,
  ⟨some 3, none, .boxL (.t 1)⟩,
  ⟨some 4, none, .mov (.c (.int .i64 0))⟩]
abbrev r86_2 : List SOper := [
  ⟨some 7, none, .loadA (.loc 3) true 2 (.t 3)⟩,
  ⟨some 8, none, .call false (.c (.func 127 [])) []⟩,
  ⟨some 9, none, .cmpA false [.int .i64, .int .i64] (.t 7) (.t 8)⟩]
abbrev r86_3 : List SOper := [
  ⟨some 4, none, .mov (.c (.int .i64 2))⟩]
abbrev c86_4 : SC := .seq (.ops r86_3) (.ret)
abbrev c86_5 : SC := .cond (.t 9) c86_4 (.skip)
abbrev c86_6 : SC := .seq (.draw 0 [[], [], [0, 1]] r86_2) c86_5
abbrev r86_7 : List SOper := [
  ⟨some 11, none, .load false true 10 (.t 2)⟩,
  ⟨some 12, none, .load false true 2 (.t 3)⟩,
  ⟨some 13, none, .call false (.c (.func 122 [])) [.t 11, .t 12]⟩,
  ⟨some 10, none, .mov (.t 13)⟩,
  ⟨some 14, none, .extract (.t 10) 0⟩,
  ⟨some 15, none, .extract (.t 10) 1⟩,
  ⟨some 5, none, .allocL [.int .i64 0, .int .i64 0, .int .i64 0, .str [], .int .i64 0, .int .i64 0, .int .i64 0, .int .u64 0, .int .i64 0, .int .i64 0, .int .i64 0, .nils, .nils]⟩,
  ⟨none, none, .store 13 (.t 5) (.t 14)⟩,
  ⟨some 6, none, .mov (.t 15)⟩]
abbrev r86_8 : List SOper := [
  ⟨some 16, none, .faddr 2 (.t 5)⟩,
  ⟨some 17, none, .load false false 1 (.t 16)⟩,
  ⟨some 4, none, .mov (.t 17)⟩]
abbrev c86_9 : SC := .seq (.ops r86_8) (.ret)
abbrev c86_10 : SC := .seq (.ops r86_7) c86_9
abbrev c86_11 : SC := .seq c86_6 c86_10
abbrev c86_12 : SC := .seq (.ops r86_1) c86_11
def s86 : SF := ⟨[.t 4], c86_12, false, none, none⟩
/-! (*crannog/archive.packer).below -/
abbrev r87_1 : List SOper := [
  ⟨some 4, none, .boxL (.t 1)⟩]
abbrev r87_2 : List SOper := [
  ⟨some 15, none, .mov (.t 0)⟩,
  ⟨some 16, none, .nilck (.t 15)⟩,
  ⟨some 17, none, .faddr 10 (.t 16)⟩,
  ⟨some 18, none, .load false false 1 (.t 17)⟩,
  ⟨some 19, none, .load false true 2 (.t 4)⟩,
  ⟨some 20, none, .call false (.c (.func 169 [])) [.t 18, .t 19]⟩,
  ⟨some 21, none, .len 1 (.t 20)⟩,
  ⟨some 22, none, .mov (.c (.int .i64 0))⟩]
abbrev r87_3 : List SOper := [
  ⟨some 23, none, .bin .lss (.t 22) (.t 21)⟩]
abbrev c87_4 : SC := .cond (.t 23) (.skip) (.exit 0)
abbrev r87_5 : List SOper := [
  ⟨some 24, none, .iaddr none 8 (.t 20) (.t 22)⟩,
  ⟨some 25, none, .load false true 8 (.t 24)⟩,
  ⟨some 7, none, .allocL [.int .i64 0, .int .i64 0, .int .i64 0, .int .i64 0, .int .i64 0, .int .i64 0, .str [], .bool false]⟩,
  ⟨none, none, .store 8 (.t 7) (.t 25)⟩]
abbrev r87_6 : List SOper := [
  ⟨some 27, none, .mov (.t 0)⟩,
  ⟨some 28, none, .nilck (.t 27)⟩,
  ⟨some 29, none, .faddr 0 (.t 28)⟩,
  ⟨some 30, none, .loadA .ptr true 10 (.t 29)⟩,
  ⟨some 31, none, .faddr 2 (.t 7)⟩,
  ⟨some 32, none, .loadA (.loc 7) true 2 (.t 31)⟩,
  ⟨some 33, none, .call true (.c (.func 122 [])) [.t 30, .t 32]⟩,
  ⟨some 26, none, .mov (.t 33)⟩,
  ⟨some 34, none, .extract (.t 26) 0⟩,
  ⟨some 35, none, .extract (.t 26) 1⟩,
  ⟨some 8, none, .allocL [.int .i64 0, .int .i64 0, .int .i64 0, .str [], .int .i64 0, .int .i64 0, .int .i64 0, .int .u64 0, .int .i64 0, .int .i64 0, .int .i64 0, .nils, .nils]⟩,
  ⟨none, none, .store 13 (.t 8) (.t 34)⟩,
  ⟨some 9, none, .mov (.t 35)⟩]
abbrev r87_7 : List SOper := [
  ⟨some 36, none, .mov (.t 2)⟩,
  ⟨some 37, none, .bin .add (.t 36) (.c (.str [47]))⟩,
  ⟨some 38, none, .faddr 6 (.t 7)⟩,
  ⟨some 39, none, .load false false 1 (.t 38)⟩,
  ⟨some 40, none, .bin .add (.t 37) (.t 39)⟩,
  ⟨some 41, none, .faddr 2 (.t 8)⟩,
  ⟨some 42, none, .load false false 1 (.t 41)⟩,
  ⟨some 43, none, .build [.str [], .int .i64 0, .int .i64 0, .int .u64 0, .str [], .nils, .int .i64 0] [(0, 1, .t 40), (1, 1, .t 42), (6, 1, .c (.int .i64 (-1)))]⟩,
  ⟨some 10, none, .allocL [.str [], .int .i64 0, .int .i64 0, .int .u64 0, .str [], .nils, .int .i64 0]⟩,
  ⟨none, none, .store 7 (.t 10) (.t 43)⟩]
abbrev r87_8 : List SOper := [
  ⟨some 45, none, .mov (.t 0)⟩,
  ⟨some 46, none, .nilck (.t 45)⟩,
  ⟨some 47, none, .faddr 11 (.t 46)⟩,
  ⟨some 48, none, .load false false 1 (.t 47)⟩,
  ⟨some 49, none, .faddr 2 (.t 7)⟩,
  ⟨some 50, none, .load false true 2 (.t 49)⟩,
  ⟨some 51, none, .lookup (.agg [.int .i64, .int .i64]) (.int .i64 0) true (.t 48) (.t 50)⟩,
  ⟨some 44, none, .mov (.t 51)⟩,
  ⟨some 52, none, .extract (.t 44) 0⟩,
  ⟨some 53, none, .extract (.t 44) 1⟩,
  ⟨some 11, none, .mov (.t 52)⟩,
  ⟨some 12, none, .mov (.t 53)⟩]
abbrev r87_9 : List SOper := [
  ⟨some 54, none, .mov (.t 12)⟩]
abbrev r87_10 : List SOper := [
  ⟨some 55, none, .mov (.t 11)⟩,
  ⟨some 56, none, .faddr 6 (.t 10)⟩,
  ⟨none, none, .store 1 (.t 56) (.t 55)⟩]
abbrev r87_11 : List SOper := [
  ⟨some 57, none, .mov (.t 0)⟩,
  ⟨some 58, none, .nilck (.t 57)⟩,
  ⟨some 59, none, .faddr 11 (.t 58)⟩,
  ⟨some 60, none, .load false false 1 (.t 59)⟩,
  ⟨some 61, none, .faddr 2 (.t 7)⟩,
  ⟨some 62, none, .load false true 2 (.t 61)⟩,
  ⟨some 63, none, .mov (.t 0)⟩,
  ⟨some 64, none, .nilck (.t 63)⟩,
  ⟨some 65, none, .faddr 12 (.t 64)⟩,
  ⟨some 66, none, .load false false 1 (.t 65)⟩,
  ⟨some 67, none, .len 1 (.t 66)⟩,
  ⟨none, none, .mapup (.agg [.int .i64, .int .i64]) (.t 60) (.t 62) (.t 67)⟩]
abbrev r87_12 : List SOper := [
  ⟨some 68, none, .faddr 4 (.t 8)⟩,
  ⟨some 69, none, .faddr 2 (.t 68)⟩,
  ⟨some 70, none, .loadA (.loc 8) false 1 (.t 69)⟩,
  ⟨some 71, none, .faddr 4 (.t 8)⟩,
  ⟨some 72, none, .faddr 3 (.t 71)⟩,
  ⟨some 73, none, .loadA (.loc 8) false 1 (.t 72)⟩,
  ⟨some 74, none, .load false true 13 (.t 8)⟩,
  ⟨some 75, none, .call false (.c (.func 9 [])) [.t 74]⟩,
  ⟨some 76, none, .faddr 3 (.t 8)⟩,
  ⟨some 77, none, .loadA (.loc 8) false 1 (.t 76)⟩,
  ⟨some 78, none, .bin .add (.t 75) (.t 77)⟩,
  ⟨some 79, none, .faddr 2 (.t 10)⟩,
  ⟨none, none, .storeA (.loc 10) 1 (.t 79) (.t 70)⟩,
  ⟨some 80, none, .faddr 3 (.t 10)⟩,
  ⟨none, none, .storeA (.loc 10) 1 (.t 80) (.t 73)⟩,
  ⟨some 81, none, .faddr 4 (.t 10)⟩,
  ⟨none, none, .store 1 (.t 81) (.t 78)⟩]
abbrev r87_13 : List SOper := [
  ⟨some 82, none, .faddr 12 (.t 8)⟩,
  ⟨some 83, none, .load false false 1 (.t 82)⟩,
  ⟨some 84, none, .len 1 (.t 83)⟩,
  ⟨some 85, none, .mov (.c (.int .i64 0))⟩]
abbrev r87_14 : List SOper := [
  ⟨some 86, none, .bin .lss (.t 85) (.t 84)⟩]
abbrev c87_15 : SC := .cond (.t 86) (.skip) (.exit 2)
abbrev r87_16 : List SOper := [
  ⟨some 87, none, .iaddr none 5 (.t 83) (.t 85)⟩,
  ⟨some 88, none, .load false true 5 (.t 87)⟩,
  ⟨some 14, none, .allocL [.str [], .int .i64 0, .int .i64 0, .str [], .bool false]⟩,
  ⟨none, none, .store 5 (.t 14) (.t 88)⟩]
abbrev r87_17 : List SOper := [
  ⟨some 89, none, .faddr 4 (.t 14)⟩,
  ⟨some 90, none, .load false false 1 (.t 89)⟩,
  ⟨some 91, none, .un .not (.t 90)⟩]
abbrev r87_18 : List SOper := [
  ⟨some 92, none, .faddr 5 (.t 10)⟩,
  ⟨some 93, none, .load false false 1 (.t 92)⟩,
  ⟨some 94, none, .faddr 0 (.t 14)⟩,
  ⟨some 95, none, .load false false 1 (.t 94)⟩,
  ⟨some 96, none, .faddr 3 (.t 14)⟩,
  ⟨some 97, none, .load false false 1 (.t 96)⟩,
  ⟨some 98, none, .build [.str [], .int .i64 0, .int .i64 0, .str [], .bool false] [(0, 1, .t 95), (3, 1, .t 97)]⟩,
  ⟨some 99, none, .bsnap 5 [.t 98]⟩,
  ⟨some 100, none, .append 5 56 (.t 93) (.t 99)⟩,
  ⟨some 101, none, .faddr 5 (.t 10)⟩,
  ⟨none, none, .store 1 (.t 101) (.t 100)⟩]
abbrev c87_19 : SC := .cond (.t 91) (.ops r87_18) (.skip)
abbrev c87_20 : SC := .seq (.ops r87_17) c87_19
abbrev c87_21 : SC := .seq (.ops r87_16) c87_20
abbrev c87_22 : SC := .block 3 [0, 2, 7, 8, 10, 20, 21, 22, 83, 84, 85] [7, 8, 10] c87_21
abbrev r87_23 : List SOper := [
  ⟨some 102, none, .bin .add (.t 85) (.c (.int .i64 1))⟩,
  ⟨some 85, none, .mov (.t 102)⟩]
abbrev c87_24 : SC := .seq c87_22 (.ops r87_23)
abbrev c87_25 : SC := .seq c87_15 c87_24
abbrev c87_26 : SC := .seq (.ops r87_14) c87_25
abbrev L87_1 : SC := .loop [0, 2, 7, 8, 10, 20, 21, 22, 83, 84, 85] [7, 8, 10] c87_26
abbrev c87_27 : SC := .block 2 [0, 2, 7, 8, 10, 20, 21, 22] [7, 8, 10] L87_1
abbrev c87_28 : SC := .seq (.ops r87_13) c87_27
abbrev c87_29 : SC := .seq (.draw 0 [[], [0], [1], [], [3], [4], [], [6], [], [8], [7, 9], [2], [7, 11], [5, 12], [13], [10, 14], [15]] r87_12) c87_28
abbrev c87_30 : SC := .seq (.draw 0 [[], [0], [1], [2], [], [4], [], [6], [7], [8], [9], [3, 5, 10]] r87_11) c87_29
abbrev c87_31 : SC := .cond (.t 54) (.ops r87_10) c87_30
abbrev c87_32 : SC := .seq (.ops r87_9) c87_31
abbrev c87_33 : SC := .seq (.draw 0 [[], [0], [1], [2], [], [4], [3, 5], [6], [7], [7], [8], [9, 10]] r87_8) c87_32
abbrev r87_34 : List SOper := [
  ⟨some 103, none, .mov (.t 0)⟩,
  ⟨some 104, none, .mov (.t 0)⟩,
  ⟨some 105, none, .nilck (.t 104)⟩,
  ⟨some 106, none, .faddr 12 (.t 105)⟩,
  ⟨some 107, none, .load false false 1 (.t 106)⟩,
  ⟨some 108, none, .load false true 7 (.t 10)⟩,
  ⟨some 109, none, .bsnap 7 [.t 108]⟩,
  ⟨some 110, none, .append 7 88 (.t 107) (.t 109)⟩,
  ⟨some 111, none, .nilck (.t 103)⟩,
  ⟨some 112, none, .faddr 12 (.t 111)⟩,
  ⟨none, none, .store 1 (.t 112) (.t 110)⟩]
abbrev r87_35 : List SOper := [
  ⟨some 113, none, .faddr 2 (.t 8)⟩,
  ⟨some 114, none, .load false false 1 (.t 113)⟩,
  ⟨some 115, none, .bin .eql (.t 114) (.c (.int .i64 2))⟩]
abbrev r87_36 : List SOper := [
  ⟨some 116, none, .mov (.t 0)⟩,
  ⟨some 117, none, .faddr 2 (.t 7)⟩,
  ⟨some 118, none, .load false true 2 (.t 117)⟩,
  ⟨some 119, none, .faddr 0 (.t 10)⟩,
  ⟨some 120, none, .load false false 1 (.t 119)⟩,
  ⟨some 121, none, .call false (.c (.func 87 [])) [.t 116, .t 118, .t 120]⟩]
abbrev c87_37 : SC := .cond (.t 115) (.ops r87_36) (.skip)
abbrev c87_38 : SC := .seq (.ops r87_35) c87_37
abbrev c87_39 : SC := .seq (.draw 0 [[], [], [1], [2], [3], [], [5], [4, 6], [0, 7], [8], [9]] r87_34) c87_38
abbrev c87_40 : SC := .seq c87_33 c87_39
abbrev c87_41 : SC := .seq (.ops r87_7) c87_40
abbrev c87_42 : SC := .seq (.draw 0 [[], [0], [1], [2], [], [4], [3, 5], [6], [7], [7], [], [8, 10], [9, 11]] r87_6) c87_41
abbrev c87_43 : SC := .seq (.ops r87_5) c87_42
abbrev c87_44 : SC := .block 1 [0, 2, 20, 21, 22] [] c87_43
abbrev r87_45 : List SOper := [
  ⟨some 122, none, .bin .add (.t 22) (.c (.int .i64 1))⟩,
  ⟨some 22, none, .mov (.t 122)⟩]
abbrev c87_46 : SC := .seq c87_44 (.ops r87_45)
abbrev c87_47 : SC := .seq c87_4 c87_46
abbrev c87_48 : SC := .seq (.ops r87_3) c87_47
abbrev L87_2 : SC := .loop [0, 2, 20, 21, 22] [] c87_48
abbrev c87_49 : SC := .block 0 [] [] L87_2
abbrev c87_50 : SC := .seq (.draw 0 [[], [0], [1], [2], [], [3, 4], [5], []] r87_2) c87_49
abbrev c87_51 : SC := .seq (.ops r87_1) c87_50
def s87 : SF := ⟨[], c87_51, false, none, none⟩
/-! internal/stringslite.TrimSuffix -/
abbrev r88_1 : List SOper := [
  ⟨some 4, none, .mov (.c (.str []))⟩]
abbrev r88_2 : List SOper := [
  ⟨some 5, none, .mov (.t 0)⟩,
  ⟨some 6, none, .mov (.t 1)⟩,
  ⟨some 7, none, .call false (.c (.func 170 [])) [.t 5, .t 6]⟩]
abbrev r88_3 : List SOper := [
  ⟨some 8, none, .mov (.t 0)⟩,
  ⟨some 9, none, .mov (.t 0)⟩,
  ⟨some 10, none, .len 0 (.t 9)⟩,
  ⟨some 11, none, .mov (.t 1)⟩,
  ⟨some 12, none, .len 0 (.t 11)⟩,
  ⟨some 13, none, .bin .sub (.t 10) (.t 12)⟩,
  ⟨some 14, none, .slice true 1 (.t 8) none (some (.t 13)) none⟩,
  ⟨some 4, none, .mov (.t 14)⟩]
abbrev c88_4 : SC := .seq (.ops r88_3) (.ret)
abbrev c88_5 : SC := .cond (.t 7) c88_4 (.skip)
abbrev c88_6 : SC := .seq (.ops r88_2) c88_5
abbrev r88_7 : List SOper := [
  ⟨some 15, none, .mov (.t 0)⟩,
  ⟨some 4, none, .mov (.t 15)⟩]
abbrev c88_8 : SC := .seq (.ops r88_7) (.ret)
abbrev c88_9 : SC := .seq c88_6 c88_8
abbrev c88_10 : SC := .seq (.ops r88_1) c88_9
def s88 : SF := ⟨[.t 4], c88_10, false, none, none⟩
/-! crannog/instant.Good -/
abbrev r89_1 : List SOper := [
  ⟨some 2, none, .mov (.c (.bool false))⟩]
abbrev r89_2 : List SOper := [
  ⟨some 6, none, .mov (.t 0)⟩,
  ⟨some 7, none, .call false (.c (.func 90 [])) [.t 6]⟩,
  ⟨some 8, none, .call false (.c (.func 67 [])) [.t 7]⟩,
  ⟨some 5, none, .mov (.t 8)⟩,
  ⟨some 9, none, .extract (.t 5) 0⟩,
  ⟨some 10, none, .extract (.t 5) 1⟩,
  ⟨some 3, none, .mov (.t 9)⟩,
  ⟨some 4, none, .mov (.t 10)⟩]
abbrev r89_3 : List SOper := [
  ⟨some 11, none, .mov (.t 4)⟩,
  ⟨some 12, none, .bin .eql (.t 11) (.c (.int .i64 0))⟩,
  ⟨some 13, none, .mov (.t 12)⟩,
  ⟨some 14, some (13, true), .mov (.t 3)⟩,
  ⟨some 15, some (13, true), .mov (.t 0)⟩,
  ⟨some 16, some (13, true), .bin .eql (.t 14) (.t 15)⟩,
  ⟨some 17, none, .pick (.t 13) (.t 16) (.c (.bool false))⟩,
  ⟨some 2, none, .mov (.t 17)⟩]
abbrev c89_4 : SC := .seq (.ops r89_3) (.ret)
abbrev c89_5 : SC := .seq (.ops r89_2) c89_4
abbrev c89_6 : SC := .seq (.ops r89_1) c89_5
def s89 : SF := ⟨[.t 2], c89_6, false, none, none⟩
/-! crannog/instant.back -/
abbrev r90_1 : List SOper := [
  ⟨some 2, none, .mov (.c (.float .f64 0))⟩]
abbrev r90_2 : List SOper := [
  ⟨some 3, none, .mov (.t 0)⟩,
  ⟨some 4, none, .bin .and (.t 3) (.c (.int .u64 9223372036854775808))⟩,
  ⟨some 5, none, .bin .neq (.t 4) (.c (.int .u64 0))⟩]
abbrev r90_3 : List SOper := [
  ⟨some 6, none, .mov (.t 0)⟩,
  ⟨some 7, none, .bin .andNot (.t 6) (.c (.int .u64 9223372036854775808))⟩,
  ⟨some 8, none, .call false (.c (.func 91 [])) [.t 7]⟩,
  ⟨some 2, none, .mov (.t 8)⟩]
abbrev c90_4 : SC := .seq (.ops r90_3) (.ret)
abbrev c90_5 : SC := .cond (.t 5) c90_4 (.skip)
abbrev c90_6 : SC := .seq (.ops r90_2) c90_5
abbrev r90_7 : List SOper := [
  ⟨some 9, none, .mov (.t 0)⟩,
  ⟨some 10, none, .un .xor (.t 9)⟩,
  ⟨some 11, none, .call false (.c (.func 91 [])) [.t 10]⟩,
  ⟨some 2, none, .mov (.t 11)⟩]
abbrev c90_8 : SC := .seq (.ops r90_7) (.ret)
abbrev c90_9 : SC := .seq c90_6 c90_8
abbrev c90_10 : SC := .seq (.ops r90_1) c90_9
def s90 : SF := ⟨[.t 2], c90_10, false, none, none⟩
/-! crannog/crannogref02.Of -/
abbrev r92_1 : List SOper := [
  ⟨some 2, none, .mov (.c (.int .u64 0))⟩,
  ⟨some 3, none, .mov (.c (.int .i64 0))⟩]
abbrev r92_2 : List SOper := [
  ⟨some 6, none, .mov (.t 0)⟩,
  ⟨some 7, none, .call false (.c (.func 49 [])) [.t 6]⟩,
  ⟨some 4, none, .mov (.t 7)⟩]
abbrev r92_3 : List SOper := [
  ⟨some 8, none, .mov (.t 4)⟩,
  ⟨some 9, none, .bin .rem (.t 8) (.c (.int .u64 9223372036854775808))⟩,
  ⟨some 5, none, .mov (.t 9)⟩]
abbrev r92_4 : List SOper := [
  ⟨some 10, none, .mov (.t 5)⟩,
  ⟨some 11, none, .bin .gtr (.t 10) (.c (.int .u64 9218868437227405312))⟩]
abbrev r92_5 : List SOper := [
  ⟨some 2, none, .mov (.c (.int .u64 0))⟩,
  ⟨some 3, none, .mov (.c (.int .i64 202))⟩]
abbrev c92_6 : SC := .seq (.ops r92_5) (.ret)
abbrev c92_7 : SC := .cond (.t 11) c92_6 (.skip)
abbrev c92_8 : SC := .seq (.ops r92_4) c92_7
abbrev r92_9 : List SOper := [
  ⟨some 12, none, .mov (.t 5)⟩,
  ⟨some 13, none, .bin .eql (.t 12) (.c (.int .u64 0))⟩]
abbrev r92_10 : List SOper := [
  ⟨some 2, none, .mov (.c (.int .u64 9223372036854775808))⟩,
  ⟨some 3, none, .mov (.c (.int .i64 0))⟩]
abbrev c92_11 : SC := .seq (.ops r92_10) (.ret)
abbrev c92_12 : SC := .cond (.t 13) c92_11 (.skip)
abbrev c92_13 : SC := .seq (.ops r92_9) c92_12
abbrev r92_14 : List SOper := [
  ⟨some 14, none, .mov (.t 4)⟩,
  ⟨some 15, none, .bin .lss (.t 14) (.c (.int .u64 9223372036854775808))⟩]
abbrev r92_15 : List SOper := [
  ⟨some 16, none, .mov (.t 4)⟩,
  ⟨some 17, none, .bin .add (.t 16) (.c (.int .u64 9223372036854775808))⟩,
  ⟨some 2, none, .mov (.t 17)⟩,
  ⟨some 3, none, .mov (.c (.int .i64 0))⟩]
abbrev c92_16 : SC := .seq (.ops r92_15) (.ret)
abbrev c92_17 : SC := .cond (.t 15) c92_16 (.skip)
abbrev c92_18 : SC := .seq (.ops r92_14) c92_17
abbrev r92_19 : List SOper := [
  ⟨some 18, none, .mov (.t 4)⟩,
  ⟨some 19, none, .bin .sub (.c (.int .u64 18446744073709551615)) (.t 18)⟩,
  ⟨some 2, none, .mov (.t 19)⟩,
  ⟨some 3, none, .mov (.c (.int .i64 0))⟩]
abbrev c92_20 : SC := .seq (.ops r92_19) (.ret)
abbrev c92_21 : SC := .seq c92_18 c92_20
abbrev c92_22 : SC := .seq c92_13 c92_21
abbrev c92_23 : SC := .seq c92_8 c92_22
abbrev c92_24 : SC := .seq (.ops r92_3) c92_23
abbrev c92_25 : SC := .seq (.ops r92_2) c92_24
abbrev c92_26 : SC := .seq (.ops r92_1) c92_25
def s92 : SF := ⟨[.t 2, .t 3], c92_26, false, none, none⟩
/-! crannog/octet.wide -/
abbrev r93_1 : List SOper := [
  ⟨some 2, none, .mov (.c (.bool false))⟩]
abbrev r93_2 : List SOper := [
  ⟨some 3, none, .mov (.t 0)⟩,
  ⟨some 4, none, .bin .geq (.t 3) (.c (.int .i64 1))⟩,
  ⟨some 5, none, .mov (.t 4)⟩,
  ⟨some 6, some (5, true), .mov (.t 0)⟩,
  ⟨some 7, some (5, true), .bin .leq (.t 6) (.c (.int .i64 8))⟩,
  ⟨some 8, none, .pick (.t 5) (.t 7) (.c (.bool false))⟩,
  ⟨some 2, none, .mov (.t 8)⟩]
abbrev c93_3 : SC := .seq (.ops r93_2) (.ret)
abbrev c93_4 : SC := .seq (.ops r93_1) c93_3
def s93 : SF := ⟨[.t 2], c93_4, false, none, none⟩
/-! crannog/crc.Of -/
abbrev r94_1 : List SOper := [
  ⟨some 2, none, .mov (.c (.int .u64 0))⟩]
abbrev r94_2 : List SOper := [
  ⟨some 3, none, .mov (.t 0)⟩,
  ⟨some 4, none, .call false (.c (.func 171 [])) [.c (.int .u64 0), .t 3]⟩,
  ⟨some 2, none, .mov (.t 4)⟩]
abbrev c94_3 : SC := .seq (.ops r94_2) (.ret)
abbrev c94_4 : SC := .seq (.ops r94_1) c94_3
def s94 : SF := ⟨[.t 2], c94_4, false, none, none⟩
/-! crannog/crannogref03.Of -/
abbrev r95_1 : List SOper := [
  ⟨some 2, none, .mov (.c (.int .u64 0))⟩]
abbrev r95_2 : List SOper := [
  ⟨some 3, none, .mov (.t 0)⟩,
  ⟨some 4, none, .call false (.c (.func 172 [])) [.c (.int .u64 0), .t 3]⟩,
  ⟨some 2, none, .mov (.t 4)⟩]
abbrev c95_3 : SC := .seq (.ops r95_2) (.ret)
abbrev c95_4 : SC := .seq (.ops r95_1) c95_3
def s95 : SF := ⟨[.t 2], c95_4, false, none, none⟩
/-! crannog/octet.Read$1 -/
abbrev r106_1 : List SOper := [
  ⟨some 5, none, .load false false 1 (.t 0)⟩,
  ⟨some 6, none, .nilck (.t 5)⟩,
  ⟨some 7, none, .faddr 1 (.t 6)⟩,
  ⟨none, none, .store 1 (.t 7) (.c (.bool false))⟩]
abbrev r106_2 : List SOper := [
  ⟨some 10, none, .ifn false (.t 8)⟩]
abbrev r106_3 : List SOper := [
  ⟨some 2, none, .mov (.t 8)⟩]
abbrev r106_4 : List SOper := [
  ⟨some 11, none, .tassert 181 (.t 8)⟩,
  ⟨some 12, none, .extract (.t 11) 1⟩,
  ⟨some 13, none, .extract (.t 11) 0⟩]
abbrev r106_5 : List SOper := [
  ⟨some 3, none, .allocL [.int .i64 0]⟩,
  ⟨none, none, .store 1 (.t 3) (.t 13)⟩]
abbrev r106_6 : List SOper := [
  ⟨some 14, none, .faddr 0 (.t 3)⟩,
  ⟨some 15, none, .load false false 1 (.t 14)⟩,
  ⟨none, none, .store 1 (.t 1) (.t 15)⟩]
abbrev c106_7 : SC := .seq (.ops r106_5) (.ops r106_6)
abbrev r106_8 : List SOper := [
  ⟨some 4, none, .mov (.t 8)⟩]
abbrev r106_9 : List SOper := [
  ⟨some 9, none, .mov (.t 4)⟩,
  ⟨none, none, .panic (.t 9)⟩]
abbrev c106_10 : SC := .seq (.ops r106_8) (.ops r106_9)
abbrev c106_11 : SC := .cond (.t 12) c106_7 c106_10
abbrev c106_12 : SC := .seq (.ops r106_4) c106_11
abbrev c106_13 : SC := .cond (.t 10) (.ops r106_3) c106_12
abbrev c106_14 : SC := .seq (.ops r106_2) c106_13
abbrev c106_15 : SC := .block 0 [] [] c106_14
abbrev c106_16 : SC := .seq (.ops r106_1) (.skip)
def s106 : SF := ⟨[], .skip, false, none, some ⟨c106_16, 8, c106_15⟩⟩
/-! (*crannog/octet.Eye).dead -/
abbrev r107_1 : List SOper := [
  ⟨some 2, none, .mov (.c (.bool false))⟩]
abbrev r107_2 : List SOper := [
  ⟨some 3, none, .mov (.t 0)⟩,
  ⟨some 4, none, .cmpN false 0 (.t 3) (.c (.nilp))⟩,
  ⟨some 5, none, .mov (.t 4)⟩,
  ⟨some 6, some (5, false), .mov (.t 0)⟩,
  ⟨some 7, some (5, false), .nilck (.t 6)⟩,
  ⟨some 8, some (5, false), .faddr 1 (.t 7)⟩,
  ⟨some 9, some (5, false), .load false false 1 (.t 8)⟩,
  ⟨some 10, some (5, false), .un .not (.t 9)⟩,
  ⟨some 11, none, .pick (.t 5) (.c (.bool true)) (.t 10)⟩,
  ⟨some 2, none, .mov (.t 11)⟩]
abbrev c107_3 : SC := .seq (.ops r107_2) (.ret)
abbrev c107_4 : SC := .seq (.ops r107_1) c107_3
def s107 : SF := ⟨[.t 2], c107_4, false, none, none⟩
/-! (*crannog/octet.Eye).Raw -/
abbrev r108_1 : List SOper := [
  ⟨some 4, none, .mov (.c (.str []))⟩]
abbrev r108_2 : List SOper := [
  ⟨some 6, none, .mov (.t 0)⟩,
  ⟨some 7, none, .call false (.c (.func 107 [])) [.t 6]⟩]
abbrev r108_3 : List SOper := [
  ⟨some 4, none, .mov (.c (.str []))⟩]
abbrev c108_4 : SC := .seq (.ops r108_3) (.ret)
abbrev c108_5 : SC := .cond (.t 7) c108_4 (.skip)
abbrev c108_6 : SC := .seq (.ops r108_2) c108_5
abbrev r108_7 : List SOper := [
  ⟨some 8, none, .mov (.t 1)⟩,
  ⟨some 9, none, .bin .lss (.t 8) (.c (.int .i64 0))⟩,
  ⟨some 10, none, .mov (.t 9)⟩,
  ⟨some 11, some (10, false), .mov (.t 1)⟩,
  ⟨some 12, some (10, false), .mov (.t 0)⟩,
  ⟨some 13, some (10, false), .nilck (.t 12)⟩,
  ⟨some 14, some (10, false), .faddr 0 (.t 13)⟩,
  ⟨some 15, some (10, false), .load false false 1 (.t 14)⟩,
  ⟨some 16, some (10, false), .len 0 (.t 15)⟩,
  ⟨some 17, some (10, false), .bin .gtr (.t 11) (.t 16)⟩,
  ⟨some 18, none, .pick (.t 10) (.c (.bool true)) (.t 17)⟩]
abbrev r108_8 : List SOper := [
  ⟨some 19, none, .mov (.t 0)⟩,
  ⟨some 20, none, .call false (.c (.func 56 [])) [.t 19, .c (.int .i64 201)]⟩]
abbrev c108_9 : SC := .cond (.t 18) (.ops r108_8) (.skip)
abbrev c108_10 : SC := .seq (.ops r108_7) c108_9
abbrev r108_11 : List SOper := [
  ⟨some 21, none, .mov (.t 0)⟩,
  ⟨some 22, none, .nilck (.t 21)⟩,
  ⟨some 23, none, .faddr 0 (.t 22)⟩,
  ⟨some 24, none, .load false false 1 (.t 23)⟩,
  ⟨some 25, none, .mov (.t 1)⟩,
  ⟨some 26, none, .slice true 1 (.t 24) none (some (.t 25)) none⟩,
  ⟨some 5, none, .mov (.t 26)⟩]
abbrev r108_12 : List SOper := [
  ⟨some 27, none, .mov (.t 0)⟩,
  ⟨some 28, none, .mov (.t 0)⟩,
  ⟨some 29, none, .nilck (.t 28)⟩,
  ⟨some 30, none, .faddr 0 (.t 29)⟩,
  ⟨some 31, none, .load false false 1 (.t 30)⟩,
  ⟨some 32, none, .mov (.t 1)⟩,
  ⟨some 33, none, .slice true 1 (.t 31) (some (.t 32)) none none⟩,
  ⟨some 34, none, .nilck (.t 27)⟩,
  ⟨some 35, none, .faddr 0 (.t 34)⟩,
  ⟨none, none, .store 1 (.t 35) (.t 33)⟩]
abbrev r108_13 : List SOper := [
  ⟨some 36, none, .mov (.t 5)⟩,
  ⟨some 4, none, .mov (.t 36)⟩]
abbrev c108_14 : SC := .seq (.ops r108_13) (.ret)
abbrev c108_15 : SC := .seq (.ops r108_12) c108_14
abbrev c108_16 : SC := .seq (.ops r108_11) c108_15
abbrev c108_17 : SC := .seq c108_10 c108_16
abbrev c108_18 : SC := .seq c108_6 c108_17
abbrev c108_19 : SC := .seq (.ops r108_1) c108_18
def s108 : SF := ⟨[.t 4], c108_19, false, none, none⟩
/-! (*crannog/octet.Eye).Text -/
abbrev r109_1 : List SOper := [
  ⟨some 4, none, .mov (.c (.str []))⟩]
abbrev r109_2 : List SOper := [
  ⟨some 6, none, .mov (.t 0)⟩,
  ⟨some 7, none, .call false (.c (.func 55 [])) [.t 6, .c (.int .i64 2)]⟩,
  ⟨some 5, none, .mov (.t 7)⟩]
abbrev r109_3 : List SOper := [
  ⟨some 8, none, .mov (.t 5)⟩,
  ⟨some 9, none, .mov (.t 1)⟩,
  ⟨some 10, none, .bin .gtr (.t 8) (.t 9)⟩]
abbrev r109_4 : List SOper := [
  ⟨some 11, none, .mov (.t 0)⟩,
  ⟨some 12, none, .call false (.c (.func 56 [])) [.t 11, .c (.int .i64 203)]⟩]
abbrev c109_5 : SC := .cond (.t 10) (.ops r109_4) (.skip)
abbrev c109_6 : SC := .seq (.ops r109_3) c109_5
abbrev r109_7 : List SOper := [
  ⟨some 13, none, .mov (.t 0)⟩,
  ⟨some 14, none, .mov (.t 5)⟩,
  ⟨some 15, none, .call false (.c (.func 108 [])) [.t 13, .t 14]⟩,
  ⟨some 4, none, .mov (.t 15)⟩]
abbrev c109_8 : SC := .seq (.ops r109_7) (.ret)
abbrev c109_9 : SC := .seq c109_6 c109_8
abbrev c109_10 : SC := .seq (.ops r109_2) c109_9
abbrev c109_11 : SC := .seq (.ops r109_1) c109_10
def s109 : SF := ⟨[.t 4], c109_11, false, none, none⟩
/-! (*crannog/crannogref01.Eye).Fail -/
abbrev r110_1 : List SOper := [
  ⟨some 4, none, .mov (.t 0)⟩,
  ⟨some 5, none, .nilck (.t 4)⟩,
  ⟨some 6, none, .faddr 2 (.t 5)⟩,
  ⟨some 7, none, .load false false 1 (.t 6)⟩,
  ⟨some 8, none, .un .not (.t 7)⟩]
abbrev r110_2 : List SOper := [
  ⟨some 9, none, .mov (.t 0)⟩,
  ⟨some 10, none, .mov (.t 1)⟩,
  ⟨some 11, none, .nilck (.t 9)⟩,
  ⟨some 12, none, .faddr 3 (.t 11)⟩,
  ⟨none, none, .store 1 (.t 12) (.t 10)⟩]
abbrev r110_3 : List SOper := [
  ⟨some 13, none, .mov (.t 0)⟩,
  ⟨some 14, none, .nilck (.t 13)⟩,
  ⟨some 15, none, .faddr 2 (.t 14)⟩,
  ⟨none, none, .store 1 (.t 15) (.c (.bool true))⟩]
abbrev c110_4 : SC := .seq (.ops r110_2) (.ops r110_3)
abbrev c110_5 : SC := .cond (.t 8) c110_4 (.skip)
abbrev c110_6 : SC := .seq (.ops r110_1) c110_5
def s110 : SF := ⟨[], c110_6, false, none, none⟩
/-! (*crannog/crannogref01.Eye).Raw -/
abbrev r111_1 : List SOper := [
  ⟨some 4, none, .mov (.c (.str []))⟩]
abbrev r111_2 : List SOper := [
  ⟨some 5, none, .mov (.t 0)⟩,
  ⟨some 6, none, .nilck (.t 5)⟩,
  ⟨some 7, none, .faddr 2 (.t 6)⟩,
  ⟨some 8, none, .load false false 1 (.t 7)⟩]
abbrev r111_3 : List SOper := [
  ⟨some 4, none, .mov (.c (.str []))⟩]
abbrev c111_4 : SC := .seq (.ops r111_3) (.ret)
abbrev c111_5 : SC := .cond (.t 8) c111_4 (.skip)
abbrev c111_6 : SC := .seq (.ops r111_2) c111_5
abbrev r111_7 : List SOper := [
  ⟨some 9, none, .mov (.t 1)⟩,
  ⟨some 10, none, .bin .lss (.t 9) (.c (.int .i64 0))⟩,
  ⟨some 11, none, .mov (.t 10)⟩,
  ⟨some 12, some (11, false), .mov (.t 1)⟩,
  ⟨some 13, some (11, false), .mov (.t 0)⟩,
  ⟨some 14, some (11, false), .nilck (.t 13)⟩,
  ⟨some 15, some (11, false), .faddr 0 (.t 14)⟩,
  ⟨some 16, some (11, false), .load false false 1 (.t 15)⟩,
  ⟨some 17, some (11, false), .len 0 (.t 16)⟩,
  ⟨some 18, some (11, false), .mov (.t 0)⟩,
  ⟨some 19, some (11, false), .nilck (.t 18)⟩,
  ⟨some 20, some (11, false), .faddr 1 (.t 19)⟩,
  ⟨some 21, some (11, false), .load false false 1 (.t 20)⟩,
  ⟨some 22, some (11, false), .bin .sub (.t 17) (.t 21)⟩,
  ⟨some 23, some (11, false), .bin .gtr (.t 12) (.t 22)⟩,
  ⟨some 24, none, .pick (.t 11) (.c (.bool true)) (.t 23)⟩]
abbrev r111_8 : List SOper := [
  ⟨some 25, none, .mov (.t 0)⟩,
  ⟨some 26, none, .call false (.c (.func 110 [])) [.t 25, .c (.int .i64 201)]⟩]
abbrev r111_9 : List SOper := [
  ⟨some 4, none, .mov (.c (.str []))⟩]
abbrev c111_10 : SC := .seq (.ops r111_9) (.ret)
abbrev c111_11 : SC := .seq (.ops r111_8) c111_10
abbrev c111_12 : SC := .cond (.t 24) c111_11 (.skip)
abbrev c111_13 : SC := .seq (.draw 0 [[], [0], [1], [2], [2], [4], [5], [6], [7], [2], [9], [10], [11], [8, 12], [3, 13], [14]] r111_7) c111_12
abbrev r111_14 : List SOper := [
  ⟨some 27, none, .mov (.t 0)⟩,
  ⟨some 28, none, .nilck (.t 27)⟩,
  ⟨some 29, none, .faddr 1 (.t 28)⟩,
  ⟨some 30, none, .load false false 1 (.t 29)⟩,
  ⟨some 31, none, .mov (.t 1)⟩,
  ⟨some 32, none, .bin .add (.t 30) (.t 31)⟩,
  ⟨some 33, none, .nilck (.t 27)⟩,
  ⟨some 34, none, .faddr 1 (.t 33)⟩,
  ⟨none, none, .store 1 (.t 34) (.t 32)⟩]
abbrev r111_15 : List SOper := [
  ⟨some 35, none, .mov (.t 0)⟩,
  ⟨some 36, none, .nilck (.t 35)⟩,
  ⟨some 37, none, .faddr 0 (.t 36)⟩,
  ⟨some 38, none, .load false false 1 (.t 37)⟩,
  ⟨some 39, none, .mov (.t 0)⟩,
  ⟨some 40, none, .nilck (.t 39)⟩,
  ⟨some 41, none, .faddr 1 (.t 40)⟩,
  ⟨some 42, none, .load false false 1 (.t 41)⟩,
  ⟨some 43, none, .mov (.t 1)⟩,
  ⟨some 44, none, .bin .sub (.t 42) (.t 43)⟩,
  ⟨some 45, none, .mov (.t 0)⟩,
  ⟨some 46, none, .nilck (.t 45)⟩,
  ⟨some 47, none, .faddr 1 (.t 46)⟩,
  ⟨some 48, none, .load false false 1 (.t 47)⟩,
  ⟨some 49, none, .slice true 1 (.t 38) (some (.t 44)) (some (.t 48)) none⟩,
  ⟨some 4, none, .mov (.t 49)⟩]
abbrev c111_16 : SC := .seq (.draw 0 [[], [0], [1], [2], [], [4], [5], [6], [], [7, 8], [], [10], [11], [12], [3, 9, 13], [14]] r111_15) (.ret)
abbrev c111_17 : SC := .seq (.ops r111_14) c111_16
abbrev c111_18 : SC := .seq c111_13 c111_17
abbrev c111_19 : SC := .seq c111_6 c111_18
abbrev c111_20 : SC := .seq (.ops r111_1) c111_19
def s111 : SF := ⟨[.t 4], c111_20, false, none, none⟩
/-! crannog/crannogref02.Good -/
abbrev r112_1 : List SOper := [
  ⟨some 2, none, .mov (.c (.bool false))⟩]
abbrev r112_2 : List SOper := [
  ⟨some 6, none, .mov (.t 0)⟩,
  ⟨some 7, none, .call false (.c (.func 39 [])) [.t 6]⟩,
  ⟨some 5, none, .mov (.t 7)⟩,
  ⟨some 8, none, .extract (.t 5) 0⟩,
  ⟨some 9, none, .extract (.t 5) 1⟩,
  ⟨some 3, none, .mov (.t 8)⟩,
  ⟨some 4, none, .mov (.t 9)⟩]
abbrev r112_3 : List SOper := [
  ⟨some 10, none, .mov (.t 4)⟩,
  ⟨some 11, none, .bin .eql (.t 10) (.c (.int .i64 0))⟩,
  ⟨some 2, none, .mov (.t 11)⟩]
abbrev c112_4 : SC := .seq (.ops r112_3) (.ret)
abbrev c112_5 : SC := .seq (.ops r112_2) c112_4
abbrev c112_6 : SC := .seq (.ops r112_1) c112_5
def s112 : SF := ⟨[.t 2], c112_6, false, none, none⟩
/-! math.IsNaN -/
abbrev r113_1 : List SOper := [
  ⟨some 2, none, .mov (.c (.bool false))⟩]
abbrev r113_2 : List SOper := [
  ⟨some 3, none, .mov (.t 0)⟩,
  ⟨some 4, none, .mov (.t 0)⟩,
  ⟨some 5, none, .bin .neq (.t 3) (.t 4)⟩,
  ⟨some 2, none, .mov (.t 5)⟩]
abbrev c113_3 : SC := .seq (.ops r113_2) (.ret)
abbrev c113_4 : SC := .seq (.ops r113_1) c113_3
def s113 : SF := ⟨[.t 2], c113_4, false, none, none⟩
/-! crannog/calls.need -/
abbrev r114_1 : List SOper := [
  ⟨some 4, none, .mov (.t 0)⟩,
  ⟨some 5, none, .un .not (.t 4)⟩]
abbrev r114_2 : List SOper := [
  ⟨some 6, none, .mov (.t 1)⟩,
  ⟨some 7, none, .build [.int .i64 0] [(0, 1, .t 6)]⟩,
  ⟨some 8, none, .mkif 132 (.t 7)⟩,
  ⟨none, none, .panic (.t 8)⟩]
abbrev c114_3 : SC := .cond (.t 5) (.ops r114_2) (.skip)
abbrev c114_4 : SC := .seq (.ops r114_1) c114_3
def s114 : SF := ⟨[], c114_4, false, none, none⟩
/-! crannog/vector.Good -/
abbrev r115_1 : List SOper := [
  ⟨some 1, none, .boxL (.t 0)⟩,
  ⟨some 2, none, .mov (.c (.bool false))⟩]
abbrev r115_2 : List SOper := [
  ⟨some 5, none, .load false true 8 (.t 1)⟩,
  ⟨some 6, none, .mov (.c (.int .i64 0))⟩]
abbrev r115_3 : List SOper := [
  ⟨some 7, none, .bin .lss (.t 6) (.c (.int .i64 8))⟩]
abbrev c115_4 : SC := .cond (.t 7) (.skip) (.exit 0)
abbrev r115_5 : List SOper := [
  ⟨some 8, none, .index (some (8, 1, false)) (.t 5) (.t 6)⟩,
  ⟨some 4, none, .mov (.t 8)⟩]
abbrev r115_6 : List SOper := [
  ⟨some 9, none, .mov (.t 4)⟩,
  ⟨some 10, none, .bin .lss (.t 9) (.c (.int .i64 0))⟩,
  ⟨some 11, none, .mov (.t 10)⟩,
  ⟨some 12, some (11, false), .mov (.t 4)⟩,
  ⟨some 13, some (11, false), .bin .gtr (.t 12) (.c (.int .i64 1099511627776))⟩,
  ⟨some 14, none, .pick (.t 11) (.c (.bool true)) (.t 13)⟩]
abbrev r115_7 : List SOper := [
  ⟨some 2, none, .mov (.c (.bool false))⟩]
abbrev c115_8 : SC := .seq (.ops r115_7) (.ret)
abbrev c115_9 : SC := .cond (.t 14) c115_8 (.skip)
abbrev c115_10 : SC := .seq (.ops r115_6) c115_9
abbrev c115_11 : SC := .seq (.ops r115_5) c115_10
abbrev c115_12 : SC := .block 1 [5, 6] [] c115_11
abbrev r115_13 : List SOper := [
  ⟨some 15, none, .bin .add (.t 6) (.c (.int .i64 1))⟩,
  ⟨some 6, none, .mov (.t 15)⟩]
abbrev c115_14 : SC := .seq c115_12 (.ops r115_13)
abbrev c115_15 : SC := .seq c115_4 c115_14
abbrev c115_16 : SC := .seq (.ops r115_3) c115_15
abbrev L115_1 : SC := .loop [5, 6] [] c115_16
abbrev c115_17 : SC := .block 0 [] [] L115_1
abbrev c115_18 : SC := .seq (.ops r115_2) c115_17
abbrev r115_19 : List SOper := [
  ⟨some 2, none, .mov (.c (.bool true))⟩]
abbrev c115_20 : SC := .seq (.ops r115_19) (.ret)
abbrev c115_21 : SC := .seq c115_18 c115_20
abbrev c115_22 : SC := .seq (.ops r115_1) c115_21
def s115 : SF := ⟨[.t 2], c115_22, false, none, none⟩
/-! crannog/facts.rises[crannog/api.Inode] -/
abbrev r116_1 : List SOper := [
  ⟨some 4, none, .mov (.c (.bool false))⟩]
abbrev r116_2 : List SOper := [
  ⟨some 6, none, .mov (.t 0)⟩,
  ⟨some 7, none, .len 1 (.t 6)⟩,
  ⟨some 8, none, .mov (.c (.int .i64 0))⟩]
abbrev r116_3 : List SOper := [
  ⟨some 9, none, .bin .lss (.t 8) (.t 7)⟩]
abbrev c116_4 : SC := .cond (.t 9) (.skip) (.exit 0)
abbrev r116_5 : List SOper := [
  ⟨some 10, none, .mov (.t 8)⟩,
  ⟨some 5, none, .mov (.t 10)⟩]
abbrev r116_6 : List SOper := [
  ⟨some 11, none, .mov (.t 5)⟩,
  ⟨some 12, none, .bin .gtr (.t 11) (.c (.int .i64 0))⟩,
  ⟨some 13, none, .mov (.t 12)⟩,
  ⟨some 14, some (13, true), .mov (.t 1)⟩,
  ⟨some 15, some (13, true), .mov (.t 0)⟩,
  ⟨some 16, some (13, true), .mov (.t 5)⟩,
  ⟨some 17, some (13, true), .bin .sub (.t 16) (.c (.int .i64 1))⟩,
  ⟨some 18, some (13, true), .iaddr none 13 (.t 15) (.t 17)⟩,
  ⟨some 19, some (13, true), .load false true 13 (.t 18)⟩,
  ⟨some 20, some (13, true), .call true (.t 14) [.t 19]⟩,
  ⟨some 21, some (13, true), .mov (.t 1)⟩,
  ⟨some 22, some (13, true), .mov (.t 0)⟩,
  ⟨some 23, some (13, true), .mov (.t 5)⟩,
  ⟨some 24, some (13, true), .iaddr none 13 (.t 22) (.t 23)⟩,
  ⟨some 25, some (13, true), .load false true 13 (.t 24)⟩,
  ⟨some 26, some (13, true), .call false (.t 21) [.t 25]⟩,
  ⟨some 27, some (13, true), .call false (.c (.func 131 [])) [.t 20, .t 26]⟩,
  ⟨some 28, some (13, true), .un .not (.t 27)⟩,
  ⟨some 29, none, .pick (.t 13) (.t 28) (.c (.bool false))⟩]
abbrev r116_7 : List SOper := [
  ⟨some 4, none, .mov (.c (.bool false))⟩]
abbrev c116_8 : SC := .seq (.ops r116_7) (.ret)
abbrev c116_9 : SC := .cond (.t 29) c116_8 (.skip)
abbrev c116_10 : SC := .seq (.draw 0 [[], [0], [1], [2], [2], [2], [5], [4, 6], [7], [3, 8], [2], [2], [2], [11, 12], [13], [9, 10, 14], [15], [16], [17]] r116_6) c116_9
abbrev c116_11 : SC := .seq (.ops r116_5) c116_10
abbrev c116_12 : SC := .block 1 [0, 1, 7, 8] [] c116_11
abbrev r116_13 : List SOper := [
  ⟨some 30, none, .bin .add (.t 8) (.c (.int .i64 1))⟩,
  ⟨some 8, none, .mov (.t 30)⟩]
abbrev c116_14 : SC := .seq c116_12 (.ops r116_13)
abbrev c116_15 : SC := .seq c116_4 c116_14
abbrev c116_16 : SC := .seq (.ops r116_3) c116_15
abbrev L116_1 : SC := .loop [0, 1, 7, 8] [] c116_16
abbrev c116_17 : SC := .block 0 [] [] L116_1
abbrev c116_18 : SC := .seq (.ops r116_2) c116_17
abbrev r116_19 : List SOper := [
  ⟨some 4, none, .mov (.c (.bool true))⟩]
abbrev c116_20 : SC := .seq (.ops r116_19) (.ret)
abbrev c116_21 : SC := .seq c116_18 c116_20
abbrev c116_22 : SC := .seq (.ops r116_1) c116_21
def s116 : SF := ⟨[.t 4], c116_22, false, none, none⟩
/-! crannog/facts.Check$1 -/
abbrev r117_1 : List SOper := [
  ⟨some 1, none, .boxL (.t 0)⟩,
  ⟨some 2, none, .allocL [.int .i64 0, .int .i64 0]⟩]
abbrev r117_2 : List SOper := [
  ⟨some 3, none, .faddr 0 (.t 1)⟩,
  ⟨some 4, none, .load false true 2 (.t 3)⟩,
  ⟨none, none, .store 2 (.t 2) (.t 4)⟩]
abbrev c117_3 : SC := .seq (.ops r117_2) (.ret)
abbrev c117_4 : SC := .seq (.ops r117_1) c117_3
def s117 : SF := ⟨[.c 2 true 2], c117_4, false, none, none⟩
/-! crannog/facts.rises[crannog/api.Link] -/
abbrev r118_1 : List SOper := [
  ⟨some 4, none, .mov (.c (.bool false))⟩]
abbrev r118_2 : List SOper := [
  ⟨some 6, none, .mov (.t 0)⟩,
  ⟨some 7, none, .len 1 (.t 6)⟩,
  ⟨some 8, none, .mov (.c (.int .i64 0))⟩]
abbrev r118_3 : List SOper := [
  ⟨some 9, none, .bin .lss (.t 8) (.t 7)⟩]
abbrev c118_4 : SC := .cond (.t 9) (.skip) (.exit 0)
abbrev r118_5 : List SOper := [
  ⟨some 10, none, .mov (.t 8)⟩,
  ⟨some 5, none, .mov (.t 10)⟩]
abbrev r118_6 : List SOper := [
  ⟨some 11, none, .mov (.t 5)⟩,
  ⟨some 12, none, .bin .gtr (.t 11) (.c (.int .i64 0))⟩,
  ⟨some 13, none, .mov (.t 12)⟩,
  ⟨some 14, some (13, true), .mov (.t 1)⟩,
  ⟨some 15, some (13, true), .mov (.t 0)⟩,
  ⟨some 16, some (13, true), .mov (.t 5)⟩,
  ⟨some 17, some (13, true), .bin .sub (.t 16) (.c (.int .i64 1))⟩,
  ⟨some 18, some (13, true), .iaddr none 25 (.t 15) (.t 17)⟩,
  ⟨some 19, some (13, true), .load false true 25 (.t 18)⟩,
  ⟨some 20, some (13, true), .call true (.t 14) [.t 19]⟩,
  ⟨some 21, some (13, true), .mov (.t 1)⟩,
  ⟨some 22, some (13, true), .mov (.t 0)⟩,
  ⟨some 23, some (13, true), .mov (.t 5)⟩,
  ⟨some 24, some (13, true), .iaddr none 25 (.t 22) (.t 23)⟩,
  ⟨some 25, some (13, true), .load false true 25 (.t 24)⟩,
  ⟨some 26, some (13, true), .call false (.t 21) [.t 25]⟩,
  ⟨some 27, some (13, true), .call false (.c (.func 131 [])) [.t 20, .t 26]⟩,
  ⟨some 28, some (13, true), .un .not (.t 27)⟩,
  ⟨some 29, none, .pick (.t 13) (.t 28) (.c (.bool false))⟩]
abbrev r118_7 : List SOper := [
  ⟨some 4, none, .mov (.c (.bool false))⟩]
abbrev c118_8 : SC := .seq (.ops r118_7) (.ret)
abbrev c118_9 : SC := .cond (.t 29) c118_8 (.skip)
abbrev c118_10 : SC := .seq (.draw 0 [[], [0], [1], [2], [2], [2], [5], [4, 6], [7], [3, 8], [2], [2], [2], [11, 12], [13], [9, 10, 14], [15], [16], [17]] r118_6) c118_9
abbrev c118_11 : SC := .seq (.ops r118_5) c118_10
abbrev c118_12 : SC := .block 1 [0, 1, 7, 8] [] c118_11
abbrev r118_13 : List SOper := [
  ⟨some 30, none, .bin .add (.t 8) (.c (.int .i64 1))⟩,
  ⟨some 8, none, .mov (.t 30)⟩]
abbrev c118_14 : SC := .seq c118_12 (.ops r118_13)
abbrev c118_15 : SC := .seq c118_4 c118_14
abbrev c118_16 : SC := .seq (.ops r118_3) c118_15
abbrev L118_1 : SC := .loop [0, 1, 7, 8] [] c118_16
abbrev c118_17 : SC := .block 0 [] [] L118_1
abbrev c118_18 : SC := .seq (.ops r118_2) c118_17
abbrev r118_19 : List SOper := [
  ⟨some 4, none, .mov (.c (.bool true))⟩]
abbrev c118_20 : SC := .seq (.ops r118_19) (.ret)
abbrev c118_21 : SC := .seq c118_18 c118_20
abbrev c118_22 : SC := .seq (.ops r118_1) c118_21
def s118 : SF := ⟨[.t 4], c118_22, false, none, none⟩
/-! crannog/facts.Check$2 -/
abbrev r119_1 : List SOper := [
  ⟨some 1, none, .boxL (.t 0)⟩,
  ⟨some 2, none, .allocL [.int .i64 0, .int .i64 0]⟩]
abbrev r119_2 : List SOper := [
  ⟨some 3, none, .faddr 0 (.t 1)⟩,
  ⟨some 4, none, .load false true 2 (.t 3)⟩,
  ⟨none, none, .store 2 (.t 2) (.t 4)⟩]
abbrev c119_3 : SC := .seq (.ops r119_2) (.ret)
abbrev c119_4 : SC := .seq (.ops r119_1) c119_3
def s119 : SF := ⟨[.c 2 true 2], c119_4, false, none, none⟩
/-! (*crannog/facts.maker).inode -/
abbrev r120_1 : List SOper := [
  ⟨some 5, none, .boxL (.t 2)⟩,
  ⟨some 6, none, .mov (.c (.bool false))⟩]
abbrev r120_2 : List SOper := [
  ⟨some 7, none, .mov (.t 1)⟩,
  ⟨some 8, none, .bin .eql (.t 7) (.c (.int .i64 0))⟩]
abbrev r120_3 : List SOper := [
  ⟨some 9, none, .faddr 0 (.t 5)⟩,
  ⟨some 10, none, .load false true 2 (.t 9)⟩,
  ⟨some 11, none, .build [.int .i64 0, .int .i64 0] []⟩,
  ⟨some 12, none, .cmpA true [.int .i64, .int .i64] (.t 10) (.t 11)⟩,
  ⟨some 13, none, .mov (.t 12)⟩,
  ⟨some 14, some (13, false), .faddr 2 (.t 5)⟩,
  ⟨some 15, some (13, false), .load false false 1 (.t 14)⟩,
  ⟨some 16, some (13, false), .bin .neq (.t 15) (.c (.int .i64 2))⟩,
  ⟨some 17, none, .pick (.t 13) (.c (.bool true)) (.t 16)⟩]
abbrev r120_4 : List SOper := [
  ⟨some 6, none, .mov (.c (.bool false))⟩]
abbrev c120_5 : SC := .seq (.ops r120_4) (.ret)
abbrev c120_6 : SC := .cond (.t 17) c120_5 (.skip)
abbrev c120_7 : SC := .seq (.ops r120_3) c120_6
abbrev r120_8 : List SOper := [
  ⟨some 18, none, .mov (.t 0)⟩,
  ⟨some 19, none, .faddr 0 (.t 5)⟩,
  ⟨some 20, none, .load false true 2 (.t 19)⟩,
  ⟨some 21, none, .call false (.c (.func 180 [])) [.t 18, .t 20]⟩,
  ⟨some 22, none, .un .not (.t 21)⟩]
abbrev r120_9 : List SOper := [
  ⟨some 6, none, .mov (.c (.bool false))⟩]
abbrev c120_10 : SC := .seq (.ops r120_9) (.ret)
abbrev c120_11 : SC := .cond (.t 22) c120_10 (.skip)
abbrev c120_12 : SC := .seq (.ops r120_8) c120_11
abbrev c120_13 : SC := .cond (.t 8) c120_7 c120_12
abbrev c120_14 : SC := .seq (.ops r120_2) c120_13
abbrev r120_15 : List SOper := [
  ⟨some 23, none, .faddr 2 (.t 5)⟩,
  ⟨some 24, none, .load false false 1 (.t 23)⟩,
  ⟨some 25, none, .bin .lss (.t 24) (.c (.int .i64 1))⟩,
  ⟨some 26, none, .mov (.t 25)⟩,
  ⟨some 27, some (26, false), .faddr 2 (.t 5)⟩,
  ⟨some 28, some (26, false), .load false false 1 (.t 27)⟩,
  ⟨some 29, some (26, false), .bin .gtr (.t 28) (.c (.int .i64 3))⟩,
  ⟨some 30, none, .pick (.t 26) (.c (.bool true)) (.t 29)⟩,
  ⟨some 31, none, .mov (.t 30)⟩,
  ⟨some 32, some (31, false), .faddr 2 (.t 5)⟩,
  ⟨some 33, some (31, false), .load false false 1 (.t 32)⟩,
  ⟨some 34, some (31, false), .bin .eql (.t 33) (.c (.int .i64 3))⟩,
  ⟨some 35, some (31, false), .faddr 3 (.t 5)⟩,
  ⟨some 36, some (31, false), .load false false 1 (.t 35)⟩,
  ⟨some 37, some (31, false), .bin .neq (.t 36) (.c (.str []))⟩,
  ⟨some 38, some (31, false), .cmpB true (.t 34) (.t 37)⟩,
  ⟨some 39, none, .pick (.t 31) (.c (.bool true)) (.t 38)⟩,
  ⟨some 40, none, .mov (.t 39)⟩,
  ⟨some 41, some (40, false), .faddr 3 (.t 5)⟩,
  ⟨some 42, some (40, false), .load false false 1 (.t 41)⟩,
  ⟨some 43, some (40, false), .len 0 (.t 42)⟩,
  ⟨some 44, some (40, false), .bin .gtr (.t 43) (.c (.int .i64 120))⟩,
  ⟨some 45, none, .pick (.t 40) (.c (.bool true)) (.t 44)⟩]
abbrev r120_16 : List SOper := [
  ⟨some 6, none, .mov (.c (.bool false))⟩]
abbrev c120_17 : SC := .seq (.ops r120_16) (.ret)
abbrev c120_18 : SC := .cond (.t 45) c120_17 (.skip)
abbrev c120_19 : SC := .seq (.ops r120_15) c120_18
abbrev r120_20 : List SOper := [
  ⟨some 46, none, .mov (.t 0)⟩,
  ⟨some 47, none, .load false true 13 (.t 5)⟩,
  ⟨some 48, none, .call false (.c (.func 181 [])) [.t 46, .t 47]⟩,
  ⟨some 49, none, .mov (.t 48)⟩,
  ⟨some 50, some (49, true), .mov (.t 0)⟩,
  ⟨some 51, some (49, true), .load false true 13 (.t 5)⟩,
  ⟨some 52, some (49, true), .call false (.c (.func 182 [])) [.t 50, .t 51]⟩,
  ⟨some 53, none, .pick (.t 49) (.t 52) (.c (.bool false))⟩,
  ⟨some 54, none, .mov (.t 53)⟩,
  ⟨some 55, some (54, true), .mov (.t 0)⟩,
  ⟨some 56, some (54, true), .load false true 13 (.t 5)⟩,
  ⟨some 57, some (54, true), .call false (.c (.func 183 [])) [.t 55, .t 56]⟩,
  ⟨some 58, none, .pick (.t 54) (.t 57) (.c (.bool false))⟩,
  ⟨some 6, none, .mov (.t 58)⟩]
abbrev c120_21 : SC := .seq (.ops r120_20) (.ret)
abbrev c120_22 : SC := .seq c120_19 c120_21
abbrev c120_23 : SC := .seq c120_14 c120_22
abbrev c120_24 : SC := .seq (.ops r120_1) c120_23
def s120 : SF := ⟨[.t 6], c120_24, false, none, none⟩
/-! (*crannog/facts.maker).link -/
abbrev r121_1 : List SOper := [
  ⟨some 3, none, .boxL (.t 1)⟩,
  ⟨some 4, none, .mov (.c (.bool false))⟩]
abbrev r121_2 : List SOper := [
  ⟨some 5, none, .mov (.t 0)⟩,
  ⟨some 6, none, .faddr 0 (.t 3)⟩,
  ⟨some 7, none, .load false true 2 (.t 6)⟩,
  ⟨some 8, none, .call false (.c (.func 180 [])) [.t 5, .t 7]⟩,
  ⟨some 9, none, .un .not (.t 8)⟩,
  ⟨some 10, none, .mov (.t 9)⟩,
  ⟨some 11, some (10, false), .mov (.t 0)⟩,
  ⟨some 12, some (10, false), .faddr 4 (.t 3)⟩,
  ⟨some 13, some (10, false), .load false true 2 (.t 12)⟩,
  ⟨some 14, some (10, false), .call false (.c (.func 180 [])) [.t 11, .t 13]⟩,
  ⟨some 15, some (10, false), .un .not (.t 14)⟩,
  ⟨some 16, none, .pick (.t 10) (.c (.bool true)) (.t 15)⟩,
  ⟨some 17, none, .mov (.t 16)⟩,
  ⟨some 18, some (17, false), .faddr 8 (.t 3)⟩,
  ⟨some 19, some (17, false), .load false false 1 (.t 18)⟩,
  ⟨some 20, some (17, false), .call false (.c (.func 167 [])) [.t 19]⟩,
  ⟨some 21, some (17, false), .bin .neq (.t 20) (.c (.int .i64 0))⟩,
  ⟨some 22, none, .pick (.t 17) (.c (.bool true)) (.t 21)⟩,
  ⟨some 23, none, .mov (.t 22)⟩,
  ⟨some 24, some (23, false), .faddr 2 (.t 3)⟩,
  ⟨some 25, some (23, false), .load false true 2 (.t 24)⟩,
  ⟨some 26, some (23, false), .build [.int .i64 0, .int .i64 0] []⟩,
  ⟨some 27, some (23, false), .cmpA false [.int .i64, .int .i64] (.t 25) (.t 26)⟩,
  ⟨some 28, none, .pick (.t 23) (.c (.bool true)) (.t 27)⟩,
  ⟨some 29, none, .mov (.t 28)⟩,
  ⟨some 30, some (29, false), .mov (.t 0)⟩,
  ⟨some 31, some (29, false), .nilck (.t 30)⟩,
  ⟨some 32, some (29, false), .faddr 10 (.t 31)⟩,
  ⟨some 33, some (29, false), .load false false 1 (.t 32)⟩,
  ⟨some 34, some (29, false), .faddr 2 (.t 3)⟩,
  ⟨some 35, some (29, false), .load false true 2 (.t 34)⟩,
  ⟨some 36, some (29, false), .lookup (.agg [.int .i64, .int .i64]) (.int .i64 0) false (.t 33) (.t 35)⟩,
  ⟨some 37, some (29, false), .bin .eql (.t 36) (.c (.int .i64 0))⟩,
  ⟨some 38, none, .pick (.t 29) (.c (.bool true)) (.t 37)⟩,
  ⟨some 39, none, .mov (.t 38)⟩,
  ⟨some 40, some (39, false), .mov (.t 0)⟩,
  ⟨some 41, some (39, false), .nilck (.t 40)⟩,
  ⟨some 42, some (39, false), .faddr 10 (.t 41)⟩,
  ⟨some 43, some (39, false), .load false false 1 (.t 42)⟩,
  ⟨some 44, some (39, false), .faddr 6 (.t 3)⟩,
  ⟨some 45, some (39, false), .load false true 2 (.t 44)⟩,
  ⟨some 46, some (39, false), .lookup (.agg [.int .i64, .int .i64]) (.int .i64 0) false (.t 43) (.t 45)⟩,
  ⟨some 47, some (39, false), .bin .neq (.t 46) (.c (.int .i64 2))⟩,
  ⟨some 48, none, .pick (.t 39) (.c (.bool true)) (.t 47)⟩]
abbrev r121_3 : List SOper := [
  ⟨some 4, none, .mov (.c (.bool false))⟩]
abbrev c121_4 : SC := .seq (.ops r121_3) (.ret)
abbrev c121_5 : SC := .cond (.t 48) c121_4 (.skip)
abbrev c121_6 : SC := .seq (.draw 0 [[], [], [1], [0, 2], [3], [4], [5], [5], [7], [6, 8], [9], [10], [11], [12], [13], [14], [15], [16], [17], [18], [19], [18], [20, 21], [22], [23], [24], [25], [26], [27], [24], [29], [28, 30], [31], [32], [33], [34], [35], [36], [37], [34], [39], [38, 40], [41], [42]] r121_2) c121_5
abbrev r121_7 : List SOper := [
  ⟨some 49, none, .faddr 6 (.t 3)⟩,
  ⟨some 50, none, .load false true 2 (.t 49)⟩,
  ⟨some 51, none, .build [.int .i64 0, .int .i64 0] []⟩,
  ⟨some 52, none, .cmpA false [.int .i64, .int .i64] (.t 50) (.t 51)⟩,
  ⟨some 53, none, .mov (.t 52)⟩,
  ⟨some 54, some (53, true), .faddr 8 (.t 3)⟩,
  ⟨some 55, some (53, true), .load false false 1 (.t 54)⟩,
  ⟨some 56, some (53, true), .bin .eql (.t 55) (.c (.str [46, 108, 111, 115, 116]))⟩,
  ⟨some 57, none, .pick (.t 53) (.t 56) (.c (.bool false))⟩]
abbrev r121_8 : List SOper := [
  ⟨some 4, none, .mov (.c (.bool false))⟩]
abbrev c121_9 : SC := .seq (.ops r121_8) (.ret)
abbrev c121_10 : SC := .cond (.t 57) c121_9 (.skip)
abbrev c121_11 : SC := .seq (.ops r121_7) c121_10
abbrev r121_12 : List SOper := [
  ⟨some 58, none, .mov (.t 0)⟩,
  ⟨some 59, none, .nilck (.t 58)⟩,
  ⟨some 60, none, .faddr 10 (.t 59)⟩,
  ⟨some 61, none, .load false false 1 (.t 60)⟩,
  ⟨some 62, none, .faddr 2 (.t 3)⟩,
  ⟨some 63, none, .load false true 2 (.t 62)⟩,
  ⟨some 64, none, .lookup (.agg [.int .i64, .int .i64]) (.int .i64 0) false (.t 61) (.t 63)⟩,
  ⟨some 65, none, .bin .eql (.t 64) (.c (.int .i64 2))⟩]
abbrev r121_13 : List SOper := [
  ⟨some 66, none, .mov (.t 0)⟩,
  ⟨some 67, none, .nilck (.t 66)⟩,
  ⟨some 68, none, .faddr 11 (.t 67)⟩,
  ⟨some 69, none, .load false false 1 (.t 68)⟩,
  ⟨some 70, none, .faddr 2 (.t 3)⟩,
  ⟨some 71, none, .load false true 2 (.t 70)⟩,
  ⟨some 72, none, .lookup (.agg [.int .i64, .int .i64]) (.int .i64 0) false (.t 69) (.t 71)⟩,
  ⟨some 73, none, .bin .add (.t 72) (.c (.int .i64 1))⟩,
  ⟨some 74, none, .mapent (.agg [.int .i64, .int .i64]) (.int .i64 0) (.t 69) (.t 71)⟩,
  ⟨some 75, none, .extract (.t 74) 1⟩,
  ⟨none, none, .entst (.t 69) (.t 75) (.t 73)⟩]
abbrev r121_14 : List SOper := [
  ⟨some 76, none, .mov (.t 0)⟩,
  ⟨some 77, none, .nilck (.t 76)⟩,
  ⟨some 78, none, .faddr 11 (.t 77)⟩,
  ⟨some 79, none, .load false false 1 (.t 78)⟩,
  ⟨some 80, none, .faddr 2 (.t 3)⟩,
  ⟨some 81, none, .load false true 2 (.t 80)⟩,
  ⟨some 82, none, .lookup (.agg [.int .i64, .int .i64]) (.int .i64 0) false (.t 79) (.t 81)⟩,
  ⟨some 83, none, .bin .gtr (.t 82) (.c (.int .i64 1))⟩]
abbrev r121_15 : List SOper := [
  ⟨some 4, none, .mov (.c (.bool false))⟩]
abbrev c121_16 : SC := .seq (.ops r121_15) (.ret)
abbrev c121_17 : SC := .cond (.t 83) c121_16 (.skip)
abbrev c121_18 : SC := .seq (.draw 0 [[], [0], [1], [2], [], [4], [3, 5], [6]] r121_14) c121_17
abbrev c121_19 : SC := .seq (.draw 0 [[], [0], [1], [2], [], [4], [3, 5], [6], [3, 5], [8], [7, 9]] r121_13) c121_18
abbrev c121_20 : SC := .cond (.t 65) c121_19 (.skip)
abbrev c121_21 : SC := .seq (.draw 0 [[], [0], [1], [2], [], [4], [3, 5], [6]] r121_12) c121_20
abbrev r121_22 : List SOper := [
  ⟨some 84, none, .faddr 9 (.t 3)⟩,
  ⟨some 85, none, .load false true 8 (.t 84)⟩,
  ⟨some 86, none, .faddr 0 (.t 3)⟩,
  ⟨some 87, none, .load false true 2 (.t 86)⟩,
  ⟨some 88, none, .call false (.c (.func 184 [])) [.t 85, .t 87]⟩,
  ⟨some 89, none, .mov (.t 88)⟩,
  ⟨some 90, some (89, true), .faddr 9 (.t 3)⟩,
  ⟨some 91, some (89, true), .load false true 8 (.t 90)⟩,
  ⟨some 92, some (89, true), .call false (.c (.func 115 [])) [.t 91]⟩,
  ⟨some 93, none, .pick (.t 89) (.t 92) (.c (.bool false))⟩,
  ⟨some 94, none, .mov (.t 93)⟩,
  ⟨some 95, some (94, true), .faddr 17 (.t 3)⟩,
  ⟨some 96, some (94, true), .load false true 8 (.t 95)⟩,
  ⟨some 97, some (94, true), .call false (.c (.func 115 [])) [.t 96]⟩,
  ⟨some 98, none, .pick (.t 94) (.t 97) (.c (.bool false))⟩,
  ⟨some 99, none, .mov (.t 98)⟩,
  ⟨some 100, some (99, true), .faddr 9 (.t 3)⟩,
  ⟨some 101, some (99, true), .load false true 8 (.t 100)⟩,
  ⟨some 102, some (99, true), .mov (.t 0)⟩,
  ⟨some 103, some (99, true), .nilck (.t 102)⟩,
  ⟨some 104, some (99, true), .faddr 0 (.t 103)⟩,
  ⟨some 105, some (99, true), .faddr 0 (.t 104)⟩,
  ⟨some 106, some (99, true), .load false true 8 (.t 105)⟩,
  ⟨some 107, some (99, true), .call false (.c (.func 185 [])) [.t 101, .t 106]⟩,
  ⟨some 108, none, .pick (.t 99) (.t 107) (.c (.bool false))⟩,
  ⟨some 109, none, .mov (.t 108)⟩,
  ⟨some 110, some (109, true), .faddr 17 (.t 3)⟩,
  ⟨some 111, some (109, true), .load false true 8 (.t 110)⟩,
  ⟨some 112, some (109, true), .mov (.t 0)⟩,
  ⟨some 113, some (109, true), .nilck (.t 112)⟩,
  ⟨some 114, some (109, true), .faddr 0 (.t 113)⟩,
  ⟨some 115, some (109, true), .faddr 0 (.t 114)⟩,
  ⟨some 116, some (109, true), .load false true 8 (.t 115)⟩,
  ⟨some 117, some (109, true), .call false (.c (.func 185 [])) [.t 111, .t 116]⟩,
  ⟨some 118, none, .pick (.t 109) (.t 117) (.c (.bool false))⟩,
  ⟨some 4, none, .mov (.t 118)⟩]
abbrev c121_23 : SC := .seq (.draw 0 [[], [0], [], [2], [1, 3], [4], [5], [6], [7], [8], [9], [10], [11], [12], [13], [14], [15], [16], [15], [18], [19], [20], [21], [17, 22], [23], [24], [25], [26], [25], [28], [29], [30], [31], [27, 32], [33], [34]] r121_22) (.ret)
abbrev c121_24 : SC := .seq c121_21 c121_23
abbrev c121_25 : SC := .seq c121_11 c121_24
abbrev c121_26 : SC := .seq c121_6 c121_25
abbrev c121_27 : SC := .seq (.ops r121_1) c121_26
def s121 : SF := ⟨[.t 4], c121_27, false, none, none⟩
/-! crannog/facts.Node -/
abbrev r122_1 : List SOper := [
  ⟨some 2, none, .boxL (.t 0)⟩,
  ⟨some 3, none, .boxL (.t 1)⟩,
  ⟨some 4, none, .allocL [.int .i64 0, .int .i64 0, .int .i64 0, .str [], .int .i64 0, .int .i64 0, .int .i64 0, .int .u64 0, .int .i64 0, .int .i64 0, .int .i64 0, .nils, .nils]⟩,
  ⟨some 5, none, .mov (.c (.bool false))⟩]
abbrev r122_2 : List SOper := [
  ⟨some 8, none, .faddr 8 (.t 2)⟩,
  ⟨some 9, none, .load false false 1 (.t 8)⟩,
  ⟨some 10, none, .len 1 (.t 9)⟩,
  ⟨some 11, none, .mov (.c (.int .i64 0))⟩]
abbrev r122_3 : List SOper := [
  ⟨some 12, none, .bin .lss (.t 11) (.t 10)⟩]
abbrev c122_4 : SC := .cond (.t 12) (.skip) (.exit 0)
abbrev r122_5 : List SOper := [
  ⟨some 13, none, .iaddr none 13 (.t 9) (.t 11)⟩,
  ⟨some 14, none, .load false true 13 (.t 13)⟩,
  ⟨some 7, none, .allocL [.int .i64 0, .int .i64 0, .int .i64 0, .str [], .int .i64 0, .int .i64 0, .int .i64 0, .int .u64 0, .int .i64 0, .int .i64 0, .int .i64 0, .nils, .nils]⟩,
  ⟨none, none, .store 13 (.t 7) (.t 14)⟩]
abbrev r122_6 : List SOper := [
  ⟨some 15, none, .faddr 0 (.t 7)⟩,
  ⟨some 16, none, .load false true 2 (.t 15)⟩,
  ⟨some 17, none, .load false true 2 (.t 3)⟩,
  ⟨some 18, none, .cmpA false [.int .i64, .int .i64] (.t 16) (.t 17)⟩]
abbrev r122_7 : List SOper := [
  ⟨some 19, none, .load false true 13 (.t 7)⟩,
  ⟨none, none, .store 13 (.t 4) (.t 19)⟩,
  ⟨some 5, none, .mov (.c (.bool true))⟩]
abbrev c122_8 : SC := .seq (.ops r122_7) (.ret)
abbrev c122_9 : SC := .cond (.t 18) c122_8 (.skip)
abbrev c122_10 : SC := .seq (.ops r122_6) c122_9
abbrev c122_11 : SC := .seq (.ops r122_5) c122_10
abbrev c122_12 : SC := .block 1 [3, 4, 9, 10, 11] [3, 4] c122_11
abbrev r122_13 : List SOper := [
  ⟨some 20, none, .bin .add (.t 11) (.c (.int .i64 1))⟩,
  ⟨some 11, none, .mov (.t 20)⟩]
abbrev c122_14 : SC := .seq c122_12 (.ops r122_13)
abbrev c122_15 : SC := .seq c122_4 c122_14
abbrev c122_16 : SC := .seq (.ops r122_3) c122_15
abbrev L122_1 : SC := .loop [3, 4, 9, 10, 11] [3, 4] c122_16
abbrev c122_17 : SC := .block 0 [4] [4] L122_1
abbrev c122_18 : SC := .seq (.ops r122_2) c122_17
abbrev r122_19 : List SOper := [
  ⟨some 21, none, .build [.int .i64 0, .int .i64 0, .int .i64 0, .str [], .int .i64 0, .int .i64 0, .int .i64 0, .int .u64 0, .int .i64 0, .int .i64 0, .int .i64 0, .nils, .nils] []⟩,
  ⟨none, none, .store 13 (.t 4) (.t 21)⟩,
  ⟨some 5, none, .mov (.c (.bool false))⟩]
abbrev c122_20 : SC := .seq (.ops r122_19) (.ret)
abbrev c122_21 : SC := .seq c122_18 c122_20
abbrev c122_22 : SC := .seq (.ops r122_1) c122_21
def s122 : SF := ⟨[.c 4 true 13, .t 5], c122_22, false, none, none⟩
/-! crannog/join.Alive -/
abbrev r123_1 : List SOper := [
  ⟨some 1, none, .boxL (.t 0)⟩,
  ⟨some 2, none, .mov (.c (.bool false))⟩]
abbrev r123_2 : List SOper := [
  ⟨some 3, none, .faddr 9 (.t 1)⟩,
  ⟨some 4, none, .load false true 8 (.t 3)⟩,
  ⟨some 5, none, .faddr 17 (.t 1)⟩,
  ⟨some 6, none, .load false true 8 (.t 5)⟩,
  ⟨some 7, none, .call false (.c (.func 185 [])) [.t 4, .t 6]⟩,
  ⟨some 8, none, .un .not (.t 7)⟩,
  ⟨some 2, none, .mov (.t 8)⟩]
abbrev c123_3 : SC := .seq (.ops r123_2) (.ret)
abbrev c123_4 : SC := .seq (.ops r123_1) c123_3
def s123 : SF := ⟨[.t 2], c123_4, false, none, none⟩
/-! (*crannog/view.sight).rise -/
abbrev r124_1 : List SOper := [
  ⟨some 4, none, .mov (.c (.bool true))⟩]
abbrev r124_2 : List SOper := [
  ⟨some 5, none, .mov (.t 4)⟩,
  ⟨some 6, none, .mov (.t 5)⟩,
  ⟨some 7, some (6, true), .mov (.t 0)⟩,
  ⟨some 8, some (6, true), .nilck (.t 7)⟩,
  ⟨some 9, some (6, true), .faddr 2 (.t 8)⟩,
  ⟨some 10, some (6, true), .load false false 1 (.t 9)⟩,
  ⟨some 11, some (6, true), .mov (.t 1)⟩,
  ⟨some 12, some (6, true), .iaddr none 1 (.t 10) (.t 11)⟩,
  ⟨some 13, some (6, true), .load false false 1 (.t 12)⟩,
  ⟨some 14, some (6, true), .un .not (.t 13)⟩,
  ⟨some 15, none, .pick (.t 6) (.t 14) (.c (.bool false))⟩]
abbrev c124_3 : SC := .cond (.t 15) (.skip) (.exit 0)
abbrev c124_4 : SC := .seq (.ops r124_2) c124_3
abbrev r124_5 : List SOper := [
  ⟨some 16, none, .mov (.t 0)⟩,
  ⟨some 17, none, .nilck (.t 16)⟩,
  ⟨some 18, none, .faddr 2 (.t 17)⟩,
  ⟨some 19, none, .load false false 1 (.t 18)⟩,
  ⟨some 20, none, .mov (.t 1)⟩,
  ⟨some 21, none, .iaddr none 1 (.t 19) (.t 20)⟩,
  ⟨none, none, .store 1 (.t 21) (.c (.bool true))⟩]
abbrev r124_6 : List SOper := [
  ⟨some 23, none, .mov (.t 0)⟩,
  ⟨some 24, none, .nilck (.t 23)⟩,
  ⟨some 25, none, .faddr 1 (.t 24)⟩,
  ⟨some 26, none, .load false false 1 (.t 25)⟩,
  ⟨some 27, none, .mov (.t 0)⟩,
  ⟨some 28, none, .nilck (.t 27)⟩,
  ⟨some 29, none, .faddr 0 (.t 28)⟩,
  ⟨some 30, none, .load false false 1 (.t 29)⟩,
  ⟨some 31, none, .mov (.t 1)⟩,
  ⟨some 32, none, .iaddr none 25 (.t 30) (.t 31)⟩,
  ⟨some 33, none, .faddr 6 (.t 32)⟩,
  ⟨some 34, none, .load false true 2 (.t 33)⟩,
  ⟨some 35, none, .lookup (.agg [.int .i64, .int .i64]) (.int .i64 0) true (.t 26) (.t 34)⟩,
  ⟨some 22, none, .mov (.t 35)⟩,
  ⟨some 36, none, .extract (.t 22) 0⟩,
  ⟨some 37, none, .extract (.t 22) 1⟩,
  ⟨some 1, none, .mov (.t 36)⟩,
  ⟨some 4, none, .mov (.t 37)⟩]
abbrev c124_7 : SC := .seq (.ops r124_5) (.draw 0 [[], [0], [1], [2], [], [4], [5], [6], [], [7, 8], [9], [10], [3, 11], [12], [13], [13], [14], [15, 16]] r124_6)
abbrev c124_8 : SC := .block 1 [0, 1, 4] [] c124_7
abbrev c124_9 : SC := .seq c124_4 c124_8
abbrev L124_1 : SC := .loop [0, 1, 4] [] c124_9
abbrev c124_10 : SC := .block 0 [] [] L124_1
abbrev c124_11 : SC := .seq (.ops r124_1) c124_10
def s124 : SF := ⟨[], c124_11, false, none, none⟩
/-! (*crannog/view.sight).rounds -/
abbrev r125_1 : List SOper := [
  ⟨some 6, none, .mov (.t 0)⟩,
  ⟨some 7, none, .nilck (.t 6)⟩,
  ⟨some 8, none, .faddr 0 (.t 7)⟩,
  ⟨some 9, none, .load false false 1 (.t 8)⟩,
  ⟨some 10, none, .len 1 (.t 9)⟩,
  ⟨some 11, none, .mkslice none 8 1 (.int .i64 0) (.t 10) (.t 10)⟩,
  ⟨some 2, none, .mov (.t 11)⟩]
abbrev r125_2 : List SOper := [
  ⟨some 12, none, .mov (.t 0)⟩,
  ⟨some 13, none, .nilck (.t 12)⟩,
  ⟨some 14, none, .faddr 0 (.t 13)⟩,
  ⟨some 15, none, .load false false 1 (.t 14)⟩,
  ⟨some 16, none, .len 1 (.t 15)⟩,
  ⟨some 17, none, .mov (.c (.int .i64 0))⟩]
abbrev r125_3 : List SOper := [
  ⟨some 18, none, .bin .lss (.t 17) (.t 16)⟩]
abbrev c125_4 : SC := .cond (.t 18) (.skip) (.exit 0)
abbrev r125_5 : List SOper := [
  ⟨some 19, none, .mov (.t 17)⟩,
  ⟨some 3, none, .mov (.t 19)⟩]
abbrev r125_6 : List SOper := [
  ⟨some 20, none, .mov (.t 3)⟩,
  ⟨some 21, none, .mov (.t 0)⟩,
  ⟨some 22, none, .nilck (.t 21)⟩,
  ⟨some 23, none, .faddr 2 (.t 22)⟩,
  ⟨some 24, none, .load false false 1 (.t 23)⟩,
  ⟨some 25, none, .mov (.t 3)⟩,
  ⟨some 26, none, .iaddr none 1 (.t 24) (.t 25)⟩,
  ⟨some 27, none, .load false false 1 (.t 26)⟩,
  ⟨some 4, none, .mov (.t 20)⟩,
  ⟨some 5, none, .mov (.t 27)⟩]
abbrev r125_7 : List SOper := [
  ⟨some 28, none, .mov (.t 5)⟩,
  ⟨some 29, none, .mov (.t 28)⟩,
  ⟨some 30, some (29, true), .mov (.t 2)⟩,
  ⟨some 31, some (29, true), .mov (.t 4)⟩,
  ⟨some 32, some (29, true), .iaddr none 1 (.t 30) (.t 31)⟩,
  ⟨some 33, some (29, true), .load false false 1 (.t 32)⟩,
  ⟨some 34, some (29, true), .bin .eql (.t 33) (.c (.int .i64 0))⟩,
  ⟨some 35, none, .pick (.t 29) (.t 34) (.c (.bool false))⟩]
abbrev c125_8 : SC := .cond (.t 35) (.skip) (.exit 2)
abbrev c125_9 : SC := .seq (.ops r125_7) c125_8
abbrev r125_10 : List SOper := [
  ⟨some 36, none, .mov (.t 2)⟩,
  ⟨some 37, none, .mov (.t 4)⟩,
  ⟨some 38, none, .mov (.t 3)⟩,
  ⟨some 39, none, .bin .add (.t 38) (.c (.int .i64 1))⟩,
  ⟨some 40, none, .iaddr none 1 (.t 36) (.t 37)⟩,
  ⟨none, none, .store 1 (.t 40) (.t 39)⟩]
abbrev r125_11 : List SOper := [
  ⟨some 42, none, .mov (.t 0)⟩,
  ⟨some 43, none, .nilck (.t 42)⟩,
  ⟨some 44, none, .faddr 1 (.t 43)⟩,
  ⟨some 45, none, .load false false 1 (.t 44)⟩,
  ⟨some 46, none, .mov (.t 0)⟩,
  ⟨some 47, none, .nilck (.t 46)⟩,
  ⟨some 48, none, .faddr 0 (.t 47)⟩,
  ⟨some 49, none, .load false false 1 (.t 48)⟩,
  ⟨some 50, none, .mov (.t 4)⟩,
  ⟨some 51, none, .iaddr none 25 (.t 49) (.t 50)⟩,
  ⟨some 52, none, .faddr 6 (.t 51)⟩,
  ⟨some 53, none, .load false true 2 (.t 52)⟩,
  ⟨some 54, none, .lookup (.agg [.int .i64, .int .i64]) (.int .i64 0) true (.t 45) (.t 53)⟩,
  ⟨some 41, none, .mov (.t 54)⟩,
  ⟨some 55, none, .extract (.t 41) 0⟩,
  ⟨some 56, none, .extract (.t 41) 1⟩,
  ⟨some 4, none, .mov (.t 55)⟩,
  ⟨some 5, none, .mov (.t 56)⟩]
abbrev c125_12 : SC := .seq (.ops r125_10) (.draw 0 [[], [0], [1], [2], [], [4], [5], [6], [], [7, 8], [9], [10], [3, 11], [12], [13], [13], [14], [15, 16]] r125_11)
abbrev c125_13 : SC := .block 3 [0, 2, 3, 4, 5, 16, 17] [] c125_12
abbrev c125_14 : SC := .seq c125_9 c125_13
abbrev L125_1 : SC := .loop [0, 2, 3, 4, 5, 16, 17] [] c125_14
abbrev c125_15 : SC := .block 2 [0, 2, 3, 4, 5, 16, 17] [] L125_1
abbrev r125_16 : List SOper := [
  ⟨some 57, none, .mov (.t 5)⟩,
  ⟨some 58, none, .mov (.t 57)⟩,
  ⟨some 59, some (58, true), .mov (.t 2)⟩,
  ⟨some 60, some (58, true), .mov (.t 4)⟩,
  ⟨some 61, some (58, true), .iaddr none 1 (.t 59) (.t 60)⟩,
  ⟨some 62, some (58, true), .load false false 1 (.t 61)⟩,
  ⟨some 63, some (58, true), .mov (.t 3)⟩,
  ⟨some 64, some (58, true), .bin .add (.t 63) (.c (.int .i64 1))⟩,
  ⟨some 65, some (58, true), .bin .eql (.t 62) (.t 64)⟩,
  ⟨some 66, none, .pick (.t 58) (.t 65) (.c (.bool false))⟩]
abbrev r125_17 : List SOper := [
  ⟨some 67, none, .mov (.t 0)⟩,
  ⟨some 68, none, .nilck (.t 67)⟩,
  ⟨some 69, none, .faddr 3 (.t 68)⟩,
  ⟨some 70, none, .load false false 1 (.t 69)⟩,
  ⟨some 71, none, .mov (.t 0)⟩,
  ⟨some 72, none, .mov (.t 4)⟩,
  ⟨some 73, none, .call true (.c (.func 186 [])) [.t 71, .t 72]⟩,
  ⟨some 74, none, .iaddr none 1 (.t 70) (.t 73)⟩,
  ⟨none, none, .store 1 (.t 74) (.c (.bool true))⟩]
abbrev c125_18 : SC := .cond (.t 66) (.draw 0 [[], [0], [1], [2], [], [], [4, 5], [3, 6], [7]] r125_17) (.skip)
abbrev c125_19 : SC := .seq (.ops r125_16) c125_18
abbrev c125_20 : SC := .seq c125_15 c125_19
abbrev c125_21 : SC := .seq (.draw 0 [[], [], [1], [2], [3], [], [4, 5], [6], [0], [7, 8]] r125_6) c125_20
abbrev c125_22 : SC := .seq (.ops r125_5) c125_21
abbrev c125_23 : SC := .block 1 [0, 2, 16, 17] [] c125_22
abbrev r125_24 : List SOper := [
  ⟨some 75, none, .bin .add (.t 17) (.c (.int .i64 1))⟩,
  ⟨some 17, none, .mov (.t 75)⟩]
abbrev c125_25 : SC := .seq c125_23 (.ops r125_24)
abbrev c125_26 : SC := .seq c125_4 c125_25
abbrev c125_27 : SC := .seq (.ops r125_3) c125_26
abbrev L125_2 : SC := .loop [0, 2, 16, 17] [] c125_27
abbrev c125_28 : SC := .block 0 [] [] L125_2
abbrev c125_29 : SC := .seq (.ops r125_2) c125_28
abbrev c125_30 : SC := .seq (.ops r125_1) c125_29
def s125 : SF := ⟨[], c125_30, false, none, none⟩
/-! (*crannog/view.sight).clashes -/
abbrev r126_1 : List SOper := [
  ⟨some 12, none, .mkmap none⟩,
  ⟨some 2, none, .mov (.t 12)⟩]
abbrev r126_2 : List SOper := [
  ⟨some 13, none, .mov (.t 0)⟩,
  ⟨some 14, none, .nilck (.t 13)⟩,
  ⟨some 15, none, .faddr 0 (.t 14)⟩,
  ⟨some 16, none, .load false false 1 (.t 15)⟩,
  ⟨some 17, none, .len 1 (.t 16)⟩,
  ⟨some 18, none, .mov (.c (.int .i64 0))⟩]
abbrev r126_3 : List SOper := [
  ⟨some 19, none, .bin .lss (.t 18) (.t 17)⟩]
abbrev c126_4 : SC := .cond (.t 19) (.skip) (.exit 0)
abbrev r126_5 : List SOper := [
  ⟨some 20, none, .mov (.t 18)⟩,
  ⟨some 21, none, .iaddr none 25 (.t 16) (.t 18)⟩,
  ⟨some 22, none, .load false true 25 (.t 21)⟩,
  ⟨some 4, none, .allocL [.int .i64 0, .int .i64 0, .int .i64 0, .int .i64 0, .int .i64 0, .int .i64 0, .int .i64 0, .int .i64 0, .str [], .int .i64 0, .int .i64 0, .int .i64 0, .int .i64 0, .int .i64 0, .int .i64 0, .int .i64 0, .int .i64 0, .int .i64 0, .int .i64 0, .int .i64 0, .int .i64 0, .int .i64 0, .int .i64 0, .int .i64 0, .int .i64 0]⟩,
  ⟨some 3, none, .mov (.t 20)⟩,
  ⟨none, none, .store 25 (.t 4) (.t 22)⟩]
abbrev r126_6 : List SOper := [
  ⟨some 23, none, .mov (.t 0)⟩,
  ⟨some 24, none, .nilck (.t 23)⟩,
  ⟨some 25, none, .faddr 2 (.t 24)⟩,
  ⟨some 26, none, .load false false 1 (.t 25)⟩,
  ⟨some 27, none, .mov (.t 3)⟩,
  ⟨some 28, none, .iaddr none 1 (.t 26) (.t 27)⟩,
  ⟨some 29, none, .load false false 1 (.t 28)⟩,
  ⟨some 30, none, .un .not (.t 29)⟩,
  ⟨some 31, none, .mov (.t 30)⟩,
  ⟨some 32, some (31, false), .mov (.t 0)⟩,
  ⟨some 33, some (31, false), .nilck (.t 32)⟩,
  ⟨some 34, some (31, false), .faddr 3 (.t 33)⟩,
  ⟨some 35, some (31, false), .load false false 1 (.t 34)⟩,
  ⟨some 36, some (31, false), .mov (.t 3)⟩,
  ⟨some 37, some (31, false), .iaddr none 1 (.t 35) (.t 36)⟩,
  ⟨some 38, some (31, false), .load false false 1 (.t 37)⟩,
  ⟨some 39, none, .pick (.t 31) (.c (.bool true)) (.t 38)⟩]
abbrev c126_7 : SC := .cond (.t 39) (.exit 1) (.skip)
abbrev c126_8 : SC := .seq (.ops r126_6) c126_7
abbrev r126_9 : List SOper := [
  ⟨some 40, none, .faddr 6 (.t 4)⟩,
  ⟨some 41, none, .load false true 2 (.t 40)⟩,
  ⟨some 42, none, .faddr 8 (.t 4)⟩,
  ⟨some 43, none, .load false false 1 (.t 42)⟩,
  ⟨some 44, none, .build [.int .i64 0, .int .i64 0, .str []] [(0, 2, .t 41), (2, 1, .t 43)]⟩,
  ⟨some 5, none, .allocL [.int .i64 0, .int .i64 0, .str []]⟩,
  ⟨none, none, .store 3 (.t 5) (.t 44)⟩]
abbrev r126_10 : List SOper := [
  ⟨some 46, none, .mov (.t 2)⟩,
  ⟨some 47, none, .load false true 3 (.t 5)⟩,
  ⟨some 48, none, .lookup (.agg [.int .i64, .int .i64, .str]) (.int .i64 0) true (.t 46) (.t 47)⟩,
  ⟨some 45, none, .mov (.t 48)⟩,
  ⟨some 49, none, .extract (.t 45) 0⟩,
  ⟨some 50, none, .extract (.t 45) 1⟩,
  ⟨some 6, none, .mov (.t 49)⟩,
  ⟨some 7, none, .mov (.t 50)⟩]
abbrev r126_11 : List SOper := [
  ⟨some 51, none, .mov (.t 7)⟩,
  ⟨some 52, none, .un .not (.t 51)⟩,
  ⟨some 53, none, .mov (.t 52)⟩,
  ⟨some 54, some (53, false), .mov (.t 0)⟩,
  ⟨some 55, some (53, false), .mov (.t 3)⟩,
  ⟨some 56, some (53, false), .mov (.t 6)⟩,
  ⟨some 57, some (53, false), .call false (.c (.func 187 [])) [.t 54, .t 55, .t 56]⟩,
  ⟨some 58, none, .pick (.t 53) (.c (.bool true)) (.t 57)⟩]
abbrev r126_12 : List SOper := [
  ⟨some 59, none, .mov (.t 2)⟩,
  ⟨some 60, none, .load false true 3 (.t 5)⟩,
  ⟨some 61, none, .mov (.t 3)⟩,
  ⟨none, none, .mapup (.agg [.int .i64, .int .i64, .str]) (.t 59) (.t 60) (.t 61)⟩]
abbrev c126_13 : SC := .cond (.t 58) (.ops r126_12) (.skip)
abbrev c126_14 : SC := .seq (.ops r126_11) c126_13
abbrev c126_15 : SC := .seq (.ops r126_10) c126_14
abbrev c126_16 : SC := .seq (.ops r126_9) c126_15
abbrev c126_17 : SC := .seq c126_8 c126_16
abbrev c126_18 : SC := .seq (.ops r126_5) c126_17
abbrev c126_19 : SC := .block 1 [0, 2, 16, 17, 18] [] c126_18
abbrev r126_20 : List SOper := [
  ⟨some 62, none, .bin .add (.t 18) (.c (.int .i64 1))⟩,
  ⟨some 18, none, .mov (.t 62)⟩]
abbrev c126_21 : SC := .seq c126_19 (.ops r126_20)
abbrev c126_22 : SC := .seq c126_4 c126_21
abbrev c126_23 : SC := .seq (.ops r126_3) c126_22
abbrev L126_1 : SC := .loop [0, 2, 16, 17, 18] [] c126_23
abbrev c126_24 : SC := .block 0 [0, 2] [] L126_1
abbrev c126_25 : SC := .seq (.ops r126_2) c126_24
abbrev r126_26 : List SOper := [
  ⟨some 63, none, .mov (.t 0)⟩,
  ⟨some 64, none, .nilck (.t 63)⟩,
  ⟨some 65, none, .faddr 0 (.t 64)⟩,
  ⟨some 66, none, .load false false 1 (.t 65)⟩,
  ⟨some 67, none, .len 1 (.t 66)⟩,
  ⟨some 68, none, .mov (.c (.int .i64 0))⟩]
abbrev r126_27 : List SOper := [
  ⟨some 69, none, .bin .lss (.t 68) (.t 67)⟩]
abbrev c126_28 : SC := .cond (.t 69) (.skip) (.exit 2)
abbrev r126_29 : List SOper := [
  ⟨some 70, none, .mov (.t 68)⟩,
  ⟨some 71, none, .iaddr none 25 (.t 66) (.t 68)⟩,
  ⟨some 72, none, .load false true 25 (.t 71)⟩,
  ⟨some 9, none, .allocL [.int .i64 0, .int .i64 0, .int .i64 0, .int .i64 0, .int .i64 0, .int .i64 0, .int .i64 0, .int .i64 0, .str [], .int .i64 0, .int .i64 0, .int .i64 0, .int .i64 0, .int .i64 0, .int .i64 0, .int .i64 0, .int .i64 0, .int .i64 0, .int .i64 0, .int .i64 0, .int .i64 0, .int .i64 0, .int .i64 0, .int .i64 0, .int .i64 0]⟩,
  ⟨some 8, none, .mov (.t 70)⟩,
  ⟨none, none, .store 25 (.t 9) (.t 72)⟩]
abbrev r126_30 : List SOper := [
  ⟨some 74, none, .mov (.t 2)⟩,
  ⟨some 75, none, .faddr 6 (.t 9)⟩,
  ⟨some 76, none, .load false true 2 (.t 75)⟩,
  ⟨some 77, none, .faddr 8 (.t 9)⟩,
  ⟨some 78, none, .load false false 1 (.t 77)⟩,
  ⟨some 79, none, .build [.int .i64 0, .int .i64 0, .str []] [(0, 2, .t 76), (2, 1, .t 78)]⟩,
  ⟨some 80, none, .lookup (.agg [.int .i64, .int .i64, .str]) (.int .i64 0) true (.t 74) (.t 79)⟩,
  ⟨some 73, none, .mov (.t 80)⟩,
  ⟨some 81, none, .extract (.t 73) 0⟩,
  ⟨some 82, none, .extract (.t 73) 1⟩,
  ⟨some 10, none, .mov (.t 81)⟩,
  ⟨some 11, none, .mov (.t 82)⟩]
abbrev r126_31 : List SOper := [
  ⟨some 83, none, .mov (.t 0)⟩,
  ⟨some 84, none, .nilck (.t 83)⟩,
  ⟨some 85, none, .faddr 2 (.t 84)⟩,
  ⟨some 86, none, .load false false 1 (.t 85)⟩,
  ⟨some 87, none, .mov (.t 8)⟩,
  ⟨some 88, none, .iaddr none 1 (.t 86) (.t 87)⟩,
  ⟨some 89, none, .load false false 1 (.t 88)⟩,
  ⟨some 90, none, .mov (.t 89)⟩,
  ⟨some 91, some (90, true), .mov (.t 0)⟩,
  ⟨some 92, some (90, true), .nilck (.t 91)⟩,
  ⟨some 93, some (90, true), .faddr 3 (.t 92)⟩,
  ⟨some 94, some (90, true), .load false false 1 (.t 93)⟩,
  ⟨some 95, some (90, true), .mov (.t 8)⟩,
  ⟨some 96, some (90, true), .iaddr none 1 (.t 94) (.t 95)⟩,
  ⟨some 97, some (90, true), .load false false 1 (.t 96)⟩,
  ⟨some 98, some (90, true), .un .not (.t 97)⟩,
  ⟨some 99, none, .pick (.t 90) (.t 98) (.c (.bool false))⟩,
  ⟨some 100, none, .mov (.t 99)⟩,
  ⟨some 101, some (100, true), .mov (.t 11)⟩,
  ⟨some 102, none, .pick (.t 100) (.t 101) (.c (.bool false))⟩,
  ⟨some 103, none, .mov (.t 102)⟩,
  ⟨some 104, some (103, true), .mov (.t 10)⟩,
  ⟨some 105, some (103, true), .mov (.t 8)⟩,
  ⟨some 106, some (103, true), .bin .neq (.t 104) (.t 105)⟩,
  ⟨some 107, none, .pick (.t 103) (.t 106) (.c (.bool false))⟩]
abbrev r126_32 : List SOper := [
  ⟨some 108, none, .mov (.t 0)⟩,
  ⟨some 109, none, .nilck (.t 108)⟩,
  ⟨some 110, none, .faddr 3 (.t 109)⟩,
  ⟨some 111, none, .load false false 1 (.t 110)⟩,
  ⟨some 112, none, .mov (.t 8)⟩,
  ⟨some 113, none, .iaddr none 1 (.t 111) (.t 112)⟩,
  ⟨none, none, .store 1 (.t 113) (.c (.bool true))⟩]
abbrev c126_33 : SC := .cond (.t 107) (.ops r126_32) (.skip)
abbrev c126_34 : SC := .seq (.ops r126_31) c126_33
abbrev c126_35 : SC := .seq (.ops r126_30) c126_34
abbrev c126_36 : SC := .seq (.ops r126_29) c126_35
abbrev c126_37 : SC := .block 3 [0, 2, 66, 67, 68] [] c126_36
abbrev r126_38 : List SOper := [
  ⟨some 114, none, .bin .add (.t 68) (.c (.int .i64 1))⟩,
  ⟨some 68, none, .mov (.t 114)⟩]
abbrev c126_39 : SC := .seq c126_37 (.ops r126_38)
abbrev c126_40 : SC := .seq c126_28 c126_39
abbrev c126_41 : SC := .seq (.ops r126_27) c126_40
abbrev L126_2 : SC := .loop [0, 2, 66, 67, 68] [] c126_41
abbrev c126_42 : SC := .block 2 [] [] L126_2
abbrev c126_43 : SC := .seq (.ops r126_26) c126_42
abbrev c126_44 : SC := .seq c126_25 c126_43
abbrev c126_45 : SC := .seq (.ops r126_1) c126_44
def s126 : SF := ⟨[], c126_45, false, none, none⟩
/-! crannog/view.Lost -/
abbrev r127_1 : List SOper := [
  ⟨some 0, none, .allocL [.int .i64 0, .int .i64 0]⟩]
abbrev r127_2 : List SOper := [
  ⟨some 1, none, .build [.int .i64 0, .int .i64 0] [(1, 1, .c (.int .i64 1))]⟩,
  ⟨none, none, .store 2 (.t 0) (.t 1)⟩]
abbrev c127_3 : SC := .seq (.ops r127_2) (.ret)
abbrev c127_4 : SC := .seq (.ops r127_1) c127_3
def s127 : SF := ⟨[.c 0 true 2], c127_4, false, none, none⟩
/-! slices.SortFunc[[]crannog/api.Shown,crannog/api.Shown] -/
abbrev r129_1 : List SOper := [
  ⟨some 5, none, .mov (.t 0)⟩,
  ⟨some 6, none, .len 1 (.t 5)⟩,
  ⟨some 4, none, .mov (.t 6)⟩]
abbrev r129_2 : List SOper := [
  ⟨some 7, none, .mov (.t 0)⟩,
  ⟨some 8, none, .mov (.t 4)⟩,
  ⟨some 9, none, .mov (.t 4)⟩,
  ⟨some 10, none, .cvI .u64 (.t 9)⟩,
  ⟨some 11, none, .call false (.c (.func 189 [])) [.t 10]⟩,
  ⟨some 12, none, .mov (.t 1)⟩,
  ⟨some 13, none, .call false (.c (.func 188 [])) [.t 7, .c (.int .i64 0), .t 8, .t 11, .t 12]⟩]
abbrev c129_3 : SC := .seq (.ops r129_1) (.ops r129_2)
def s129 : SF := ⟨[], c129_3, false, none, none⟩
/-! crannog/view.Shown$1 -/
abbrev r130_1 : List SOper := [
  ⟨some 2, none, .boxL (.t 0)⟩,
  ⟨some 3, none, .boxL (.t 1)⟩,
  ⟨some 4, none, .mov (.c (.int .i64 0))⟩]
abbrev r130_2 : List SOper := [
  ⟨some 6, none, .faddr 4 (.t 2)⟩,
  ⟨some 7, none, .load false true 2 (.t 6)⟩,
  ⟨some 8, none, .faddr 4 (.t 3)⟩,
  ⟨some 9, none, .load false true 2 (.t 8)⟩,
  ⟨some 10, none, .call false (.c (.func 131 [])) [.t 7, .t 9]⟩,
  ⟨some 11, none, .mov (.t 10)⟩,
  ⟨some 12, some (11, false), .faddr 4 (.t 2)⟩,
  ⟨some 13, some (11, false), .load false true 2 (.t 12)⟩,
  ⟨some 14, some (11, false), .faddr 4 (.t 3)⟩,
  ⟨some 15, some (11, false), .load false true 2 (.t 14)⟩,
  ⟨some 16, some (11, false), .cmpA false [.int .i64, .int .i64] (.t 13) (.t 15)⟩,
  ⟨some 17, some (11, false), .mov (.t 16)⟩,
  ⟨some 18, some (17, true), .faddr 6 (.t 2)⟩,
  ⟨some 19, some (17, true), .load false false 1 (.t 18)⟩,
  ⟨some 20, some (17, true), .faddr 6 (.t 3)⟩,
  ⟨some 21, some (17, true), .load false false 1 (.t 20)⟩,
  ⟨some 22, some (17, true), .bin .lss (.t 19) (.t 21)⟩,
  ⟨some 23, some (11, false), .pick (.t 17) (.t 22) (.c (.bool false))⟩,
  ⟨some 24, none, .pick (.t 11) (.c (.bool true)) (.t 23)⟩,
  ⟨some 5, none, .mov (.t 24)⟩]
abbrev r130_3 : List SOper := [
  ⟨some 4, none, .mov (.c (.int .i64 (-1)))⟩]
abbrev c130_4 : SC := .seq (.ops r130_3) (.ret)
abbrev c130_5 : SC := .cond (.t 5) c130_4 (.skip)
abbrev c130_6 : SC := .seq (.ops r130_2) c130_5
abbrev c130_7 : SC := .block 0 [] [] c130_6
abbrev r130_8 : List SOper := [
  ⟨some 4, none, .mov (.c (.int .i64 1))⟩]
abbrev c130_9 : SC := .seq (.ops r130_8) (.ret)
abbrev c130_10 : SC := .seq c130_7 c130_9
abbrev c130_11 : SC := .seq (.ops r130_1) c130_10
def s130 : SF := ⟨[.t 4], c130_11, false, none, none⟩
/-! crannog/vector.Less -/
abbrev r131_1 : List SOper := [
  ⟨some 2, none, .boxL (.t 0)⟩,
  ⟨some 3, none, .boxL (.t 1)⟩,
  ⟨some 4, none, .mov (.c (.bool false))⟩]
abbrev r131_2 : List SOper := [
  ⟨some 5, none, .faddr 0 (.t 2)⟩,
  ⟨some 6, none, .load false false 1 (.t 5)⟩,
  ⟨some 7, none, .faddr 0 (.t 3)⟩,
  ⟨some 8, none, .load false false 1 (.t 7)⟩,
  ⟨some 9, none, .bin .neq (.t 6) (.t 8)⟩]
abbrev r131_3 : List SOper := [
  ⟨some 10, none, .faddr 0 (.t 2)⟩,
  ⟨some 11, none, .load false false 1 (.t 10)⟩,
  ⟨some 12, none, .faddr 0 (.t 3)⟩,
  ⟨some 13, none, .load false false 1 (.t 12)⟩,
  ⟨some 14, none, .bin .lss (.t 11) (.t 13)⟩,
  ⟨some 4, none, .mov (.t 14)⟩]
abbrev c131_4 : SC := .seq (.ops r131_3) (.ret)
abbrev c131_5 : SC := .cond (.t 9) c131_4 (.skip)
abbrev c131_6 : SC := .seq (.ops r131_2) c131_5
abbrev r131_7 : List SOper := [
  ⟨some 15, none, .faddr 1 (.t 2)⟩,
  ⟨some 16, none, .load false false 1 (.t 15)⟩,
  ⟨some 17, none, .faddr 1 (.t 3)⟩,
  ⟨some 18, none, .load false false 1 (.t 17)⟩,
  ⟨some 19, none, .bin .lss (.t 16) (.t 18)⟩,
  ⟨some 4, none, .mov (.t 19)⟩]
abbrev c131_8 : SC := .seq (.ops r131_7) (.ret)
abbrev c131_9 : SC := .seq c131_6 c131_8
abbrev c131_10 : SC := .seq (.ops r131_1) c131_9
def s131 : SF := ⟨[.t 4], c131_10, false, none, none⟩
/-! (*crannog/calls.desk).make -/
abbrev r132_1 : List SOper := [
  ⟨some 3, none, .boxL (.t 1)⟩]
abbrev r132_2 : List SOper := [
  ⟨some 8, none, .mov (.t 0)⟩,
  ⟨some 9, none, .faddr 1 (.t 3)⟩,
  ⟨some 10, none, .load false false 1 (.t 9)⟩,
  ⟨some 11, none, .call false (.c (.func 190 [])) [.t 8, .t 10]⟩,
  ⟨some 7, none, .mov (.t 11)⟩,
  ⟨some 12, none, .extract (.t 7) 0⟩,
  ⟨some 13, none, .extract (.t 7) 1⟩,
  ⟨some 4, none, .allocL [.nils, .int .i64 0, .int .i64 0]⟩,
  ⟨none, none, .store 3 (.t 4) (.t 12)⟩,
  ⟨some 5, none, .mov (.t 13)⟩]
abbrev r132_3 : List SOper := [
  ⟨some 14, none, .mov (.t 0)⟩,
  ⟨some 15, none, .load false true 3 (.t 4)⟩,
  ⟨some 16, none, .mov (.t 5)⟩,
  ⟨some 17, none, .call false (.c (.func 191 [])) [.t 14, .t 15, .t 16]⟩]
abbrev r132_4 : List SOper := [
  ⟨some 18, none, .mov (.t 0)⟩,
  ⟨some 19, none, .nilck (.t 18)⟩,
  ⟨some 20, none, .faddr 11 (.t 19)⟩,
  ⟨some 21, none, .loadA .ptr true 2 (.t 20)⟩,
  ⟨some 22, none, .mov (.t 0)⟩,
  ⟨some 23, none, .nilck (.t 22)⟩,
  ⟨some 24, none, .faddr 11 (.t 23)⟩,
  ⟨some 25, none, .loadA .ptr true 2 (.t 24)⟩,
  ⟨some 26, none, .faddr 4 (.t 3)⟩,
  ⟨some 27, none, .loadA (.loc 3) false 1 (.t 26)⟩,
  ⟨some 28, none, .loadA (.loc 3) true 7 (.t 3)⟩,
  ⟨some 29, none, .call true (.c (.func 192 [])) [.t 28]⟩,
  ⟨some 30, none, .build [.int .i64 0, .int .i64 0, .int .i64 0, .int .u64 0] [(0, 2, .t 25), (2, 1, .t 27), (3, 1, .t 29)]⟩,
  ⟨some 31, none, .build [.int .i64 0, .int .i64 0, .int .i64 0, .str [], .int .i64 0, .int .i64 0, .int .i64 0, .int .u64 0, .int .i64 0, .int .i64 0, .int .i64 0, .nils, .nils] [(0, 2, .t 21), (4, 4, .t 30)]⟩,
  ⟨some 6, none, .allocL [.int .i64 0, .int .i64 0, .int .i64 0, .str [], .int .i64 0, .int .i64 0, .int .i64 0, .int .u64 0, .int .i64 0, .int .i64 0, .int .i64 0, .nils, .nils]⟩,
  ⟨none, none, .store 13 (.t 6) (.t 31)⟩]
abbrev r132_5 : List SOper := [
  ⟨some 32, none, .faddr 4 (.t 3)⟩,
  ⟨some 33, none, .load false false 1 (.t 32)⟩,
  ⟨some 34, none, .bin .geq (.t 33) (.c (.int .i64 0))⟩,
  ⟨some 35, none, .mov (.t 34)⟩,
  ⟨some 36, some (35, true), .faddr 4 (.t 3)⟩,
  ⟨some 37, some (35, true), .load false false 1 (.t 36)⟩,
  ⟨some 38, some (35, true), .bin .leq (.t 37) (.c (.int .i64 511))⟩,
  ⟨some 39, none, .pick (.t 35) (.t 38) (.c (.bool false))⟩,
  ⟨some 40, none, .call false (.c (.func 114 [])) [.t 39, .c (.int .i64 22)]⟩]
abbrev r132_6 : List SOper := [
  ⟨some 41, none, .faddr 0 (.t 3)⟩,
  ⟨some 42, none, .load false false 1 (.t 41)⟩]
abbrev r132_7 : List SOper := [
  ⟨some 57, none, .bin .eql (.t 42) (.c (.int .i64 1))⟩,
  ⟨some 56, none, .mov (.t 57)⟩]
abbrev r132_8 : List SOper := [
  ⟨some 58, none, .faddr 2 (.t 6)⟩,
  ⟨none, none, .store 1 (.t 58) (.c (.int .i64 2))⟩]
abbrev r132_9 : List SOper := [
  ⟨some 60, none, .bin .eql (.t 42) (.c (.int .i64 2))⟩,
  ⟨some 59, none, .mov (.t 60)⟩]
abbrev r132_10 : List SOper := [
  ⟨some 61, none, .mov (.t 0)⟩,
  ⟨some 62, none, .nilck (.t 61)⟩,
  ⟨some 63, none, .faddr 11 (.t 62)⟩,
  ⟨some 64, none, .loadA .ptr true 2 (.t 63)⟩,
  ⟨some 65, none, .faddr 2 (.t 6)⟩,
  ⟨none, none, .storeA (.loc 6) 1 (.t 65) (.c (.int .i64 1))⟩,
  ⟨some 66, none, .faddr 8 (.t 6)⟩,
  ⟨some 67, none, .faddr 0 (.t 66)⟩,
  ⟨none, none, .store 2 (.t 67) (.t 64)⟩]
abbrev r132_11 : List SOper := [
  ⟨some 43, none, .faddr 2 (.t 3)⟩,
  ⟨some 44, none, .loadA (.loc 3) false 1 (.t 43)⟩,
  ⟨some 45, none, .faddr 2 (.t 6)⟩,
  ⟨none, none, .storeA (.loc 6) 1 (.t 45) (.c (.int .i64 3))⟩,
  ⟨some 46, none, .faddr 3 (.t 6)⟩,
  ⟨none, none, .store 1 (.t 46) (.t 44)⟩]
abbrev r132_12 : List SOper := [
  ⟨some 47, none, .faddr 2 (.t 3)⟩,
  ⟨some 48, none, .load false false 1 (.t 47)⟩,
  ⟨some 49, none, .bin .neq (.t 48) (.c (.str []))⟩,
  ⟨some 50, none, .call false (.c (.func 114 [])) [.t 49, .c (.int .i64 22)]⟩]
abbrev r132_13 : List SOper := [
  ⟨some 51, none, .faddr 2 (.t 3)⟩,
  ⟨some 52, none, .load false false 1 (.t 51)⟩,
  ⟨some 53, none, .len 0 (.t 52)⟩,
  ⟨some 54, none, .bin .leq (.t 53) (.c (.int .i64 120))⟩,
  ⟨some 55, none, .call false (.c (.func 114 [])) [.t 54, .c (.int .i64 36)]⟩]
abbrev c132_14 : SC := .seq (.ops r132_12) (.ops r132_13)
abbrev c132_15 : SC := .seq (.draw 0 [[], [0], [], [2], [1, 3], [4]] r132_11) c132_14
abbrev c132_16 : SC := .cond (.t 59) (.draw 0 [[], [0], [1], [2], [], [4], [3, 5], [6], [7]] r132_10) c132_15
abbrev c132_17 : SC := .seq (.ops r132_9) c132_16
abbrev c132_18 : SC := .cond (.t 56) (.ops r132_8) c132_17
abbrev c132_19 : SC := .seq (.ops r132_7) c132_18
abbrev c132_20 : SC := .block 0 [0, 4, 5, 6] [4, 6] c132_19
abbrev c132_21 : SC := .seq (.ops r132_6) c132_20
abbrev r132_22 : List SOper := [
  ⟨some 68, none, .mov (.t 0)⟩,
  ⟨some 69, none, .call false (.c (.func 193 [])) [.t 68, .c (.int .i64 1)]⟩]
abbrev r132_23 : List SOper := [
  ⟨some 70, none, .mov (.t 0)⟩,
  ⟨some 71, none, .call false (.c (.func 194 [])) [.t 70]⟩]
abbrev r132_24 : List SOper := [
  ⟨some 72, none, .mov (.t 0)⟩,
  ⟨some 73, none, .load false true 13 (.t 6)⟩,
  ⟨some 74, none, .bsnap 13 [.t 73]⟩,
  ⟨some 75, none, .nilck (.t 72)⟩,
  ⟨some 76, none, .faddr 14 (.t 75)⟩,
  ⟨some 77, none, .faddr 8 (.t 76)⟩,
  ⟨none, none, .store 1 (.t 77) (.t 74)⟩]
abbrev r132_25 : List SOper := [
  ⟨some 78, none, .mov (.t 0)⟩,
  ⟨some 79, none, .load false true 3 (.t 4)⟩,
  ⟨some 80, none, .mov (.t 5)⟩,
  ⟨some 81, none, .mov (.t 0)⟩,
  ⟨some 82, none, .nilck (.t 81)⟩,
  ⟨some 83, none, .faddr 11 (.t 82)⟩,
  ⟨some 84, none, .load false true 2 (.t 83)⟩,
  ⟨some 85, none, .call false (.c (.func 195 [])) [.t 78, .t 79, .t 80, .t 84]⟩]
abbrev c132_26 : SC := .seq (.ops r132_24) (.draw 0 [[], [], [], [], [3], [4], [5], [0, 1, 2, 6]] r132_25)
abbrev c132_27 : SC := .seq (.ops r132_23) c132_26
abbrev c132_28 : SC := .seq (.ops r132_22) c132_27
abbrev c132_29 : SC := .seq c132_21 c132_28
abbrev c132_30 : SC := .seq (.ops r132_5) c132_29
abbrev c132_31 : SC := .seq (.draw 0 [[], [0], [1], [2], [], [4], [5], [6], [], [8], [], [10], [7, 9, 11], [3, 12], [], [13, 14]] r132_4) c132_30
abbrev c132_32 : SC := .seq (.ops r132_3) c132_31
abbrev c132_33 : SC := .seq (.ops r132_2) c132_32
abbrev c132_34 : SC := .seq (.ops r132_1) c132_33
def s132 : SF := ⟨[], c132_34, false, none, none⟩
/-! (*crannog/calls.desk).link -/
abbrev r133_1 : List SOper := [
  ⟨some 3, none, .boxL (.t 1)⟩]
abbrev r133_2 : List SOper := [
  ⟨some 7, none, .mov (.t 0)⟩,
  ⟨some 8, none, .faddr 1 (.t 3)⟩,
  ⟨some 9, none, .load false false 1 (.t 8)⟩,
  ⟨some 10, none, .call false (.c (.func 196 [])) [.t 7, .t 9]⟩,
  ⟨some 4, none, .allocL [.nils, .int .i64 0, .int .i64 0]⟩,
  ⟨none, none, .store 3 (.t 4) (.t 10)⟩]
abbrev r133_3 : List SOper := [
  ⟨some 11, none, .mov (.t 0)⟩,
  ⟨some 12, none, .load false true 3 (.t 4)⟩,
  ⟨some 13, none, .call false (.c (.func 197 [])) [.t 11, .t 12]⟩,
  ⟨some 14, none, .bin .neq (.t 13) (.c (.int .i64 2))⟩,
  ⟨some 15, none, .call false (.c (.func 114 [])) [.t 14, .c (.int .i64 1)]⟩]
abbrev r133_4 : List SOper := [
  ⟨some 17, none, .mov (.t 0)⟩,
  ⟨some 18, none, .faddr 2 (.t 3)⟩,
  ⟨some 19, none, .load false false 1 (.t 18)⟩,
  ⟨some 20, none, .call false (.c (.func 190 [])) [.t 17, .t 19]⟩,
  ⟨some 16, none, .mov (.t 20)⟩,
  ⟨some 21, none, .extract (.t 16) 0⟩,
  ⟨some 22, none, .extract (.t 16) 1⟩,
  ⟨some 5, none, .allocL [.nils, .int .i64 0, .int .i64 0]⟩,
  ⟨none, none, .store 3 (.t 5) (.t 21)⟩,
  ⟨some 6, none, .mov (.t 22)⟩]
abbrev r133_5 : List SOper := [
  ⟨some 23, none, .mov (.t 0)⟩,
  ⟨some 24, none, .load false true 3 (.t 5)⟩,
  ⟨some 25, none, .mov (.t 6)⟩,
  ⟨some 26, none, .call false (.c (.func 191 [])) [.t 23, .t 24, .t 25]⟩]
abbrev r133_6 : List SOper := [
  ⟨some 27, none, .mov (.t 0)⟩,
  ⟨some 28, none, .call false (.c (.func 193 [])) [.t 27, .c (.int .i64 0)]⟩]
abbrev r133_7 : List SOper := [
  ⟨some 29, none, .mov (.t 0)⟩,
  ⟨some 30, none, .call false (.c (.func 194 [])) [.t 29]⟩]
abbrev r133_8 : List SOper := [
  ⟨some 31, none, .mov (.t 0)⟩,
  ⟨some 32, none, .load false true 3 (.t 5)⟩,
  ⟨some 33, none, .mov (.t 6)⟩,
  ⟨some 34, none, .faddr 1 (.t 4)⟩,
  ⟨some 35, none, .load false true 2 (.t 34)⟩,
  ⟨some 36, none, .call false (.c (.func 195 [])) [.t 31, .t 32, .t 33, .t 35]⟩]
abbrev c133_9 : SC := .seq (.ops r133_7) (.ops r133_8)
abbrev c133_10 : SC := .seq (.ops r133_6) c133_9
abbrev c133_11 : SC := .seq (.ops r133_5) c133_10
abbrev c133_12 : SC := .seq (.ops r133_4) c133_11
abbrev c133_13 : SC := .seq (.ops r133_3) c133_12
abbrev c133_14 : SC := .seq (.ops r133_2) c133_13
abbrev c133_15 : SC := .seq (.ops r133_1) c133_14
def s133 : SF := ⟨[], c133_15, false, none, none⟩
/-! slices.Concat[[]crannog/api.Inode,crannog/api.Inode] -/
abbrev r140_1 : List SOper := [
  ⟨some 2, none, .mov (.c (.nils))⟩]
abbrev r140_2 : List SOper := [
  ⟨some 3, none, .mov (.c (.int .i64 0))⟩]
abbrev r140_3 : List SOper := [
  ⟨some 9, none, .mov (.t 0)⟩,
  ⟨some 10, none, .len 1 (.t 9)⟩,
  ⟨some 11, none, .mov (.c (.int .i64 0))⟩]
abbrev r140_4 : List SOper := [
  ⟨some 12, none, .bin .lss (.t 11) (.t 10)⟩]
abbrev c140_5 : SC := .cond (.t 12) (.skip) (.exit 0)
abbrev r140_6 : List SOper := [
  ⟨some 13, none, .iaddr none 1 (.t 9) (.t 11)⟩,
  ⟨some 14, none, .load false false 1 (.t 13)⟩,
  ⟨some 5, none, .mov (.t 14)⟩]
abbrev r140_7 : List SOper := [
  ⟨some 15, none, .mov (.t 3)⟩,
  ⟨some 16, none, .mov (.t 5)⟩,
  ⟨some 17, none, .len 1 (.t 16)⟩,
  ⟨some 18, none, .bin .add (.t 15) (.t 17)⟩,
  ⟨some 3, none, .mov (.t 18)⟩]
abbrev r140_8 : List SOper := [
  ⟨some 19, none, .mov (.t 3)⟩,
  ⟨some 20, none, .bin .lss (.t 19) (.c (.int .i64 0))⟩]
abbrev r140_9 : List SOper := [
  ⟨some 21, none, .mkif 9 (.c (.str [108, 101, 110, 32, 111, 117, 116, 32, 111, 102, 32, 114, 97, 110, 103, 101]))⟩,
  ⟨none, none, .panic (.t 21)⟩]
abbrev c140_10 : SC := .cond (.t 20) (.ops r140_9) (.skip)
abbrev c140_11 : SC := .seq (.ops r140_8) c140_10
abbrev c140_12 : SC := .seq (.ops r140_7) c140_11
abbrev c140_13 : SC := .seq (.ops r140_6) c140_12
abbrev c140_14 : SC := .block 1 [0, 3, 9, 10, 11] [] c140_13
abbrev r140_15 : List SOper := [
  ⟨some 22, none, .bin .add (.t 11) (.c (.int .i64 1))⟩,
  ⟨some 11, none, .mov (.t 22)⟩]
abbrev c140_16 : SC := .seq c140_14 (.ops r140_15)
abbrev c140_17 : SC := .seq c140_5 c140_16
abbrev c140_18 : SC := .seq (.ops r140_4) c140_17
abbrev L140_1 : SC := .loop [0, 3, 9, 10, 11] [] c140_18
abbrev c140_19 : SC := .block 0 [0, 3] [] L140_1
abbrev c140_20 : SC := .seq (.ops r140_3) c140_19
abbrev r140_21 : List SOper := [
  ⟨some 23, none, .mov (.t 3)⟩,
  ⟨some 24, none, .call false (.c (.func 217 [])) [.c (.nils), .t 23]⟩,
  ⟨some 6, none, .mov (.t 24)⟩]
abbrev r140_22 : List SOper := [
  ⟨some 25, none, .mov (.t 0)⟩,
  ⟨some 26, none, .len 1 (.t 25)⟩,
  ⟨some 27, none, .mov (.c (.int .i64 0))⟩]
abbrev r140_23 : List SOper := [
  ⟨some 28, none, .bin .lss (.t 27) (.t 26)⟩]
abbrev c140_24 : SC := .cond (.t 28) (.skip) (.exit 2)
abbrev r140_25 : List SOper := [
  ⟨some 29, none, .iaddr none 1 (.t 25) (.t 27)⟩,
  ⟨some 30, none, .load false false 1 (.t 29)⟩,
  ⟨some 8, none, .mov (.t 30)⟩]
abbrev r140_26 : List SOper := [
  ⟨some 31, none, .mov (.t 6)⟩,
  ⟨some 32, none, .mov (.t 8)⟩,
  ⟨some 33, none, .append 13 144 (.t 31) (.t 32)⟩,
  ⟨some 6, none, .mov (.t 33)⟩]
abbrev c140_27 : SC := .seq (.ops r140_25) (.ops r140_26)
abbrev c140_28 : SC := .block 3 [6, 25, 26, 27] [] c140_27
abbrev r140_29 : List SOper := [
  ⟨some 34, none, .bin .add (.t 27) (.c (.int .i64 1))⟩,
  ⟨some 27, none, .mov (.t 34)⟩]
abbrev c140_30 : SC := .seq c140_28 (.ops r140_29)
abbrev c140_31 : SC := .seq c140_24 c140_30
abbrev c140_32 : SC := .seq (.ops r140_23) c140_31
abbrev L140_2 : SC := .loop [6, 25, 26, 27] [] c140_32
abbrev c140_33 : SC := .block 2 [6] [] L140_2
abbrev c140_34 : SC := .seq (.ops r140_22) c140_33
abbrev r140_35 : List SOper := [
  ⟨some 35, none, .mov (.t 6)⟩,
  ⟨some 2, none, .mov (.t 35)⟩]
abbrev c140_36 : SC := .seq (.ops r140_35) (.ret)
abbrev c140_37 : SC := .seq c140_34 c140_36
abbrev c140_38 : SC := .seq (.ops r140_21) c140_37
abbrev c140_39 : SC := .seq c140_20 c140_38
abbrev c140_40 : SC := .seq (.ops r140_2) c140_39
abbrev c140_41 : SC := .seq (.ops r140_1) c140_40
def s140 : SF := ⟨[.t 2], c140_41, true, none, none⟩
/-! slices.SortStableFunc[[]crannog/api.Inode,crannog/api.Inode] -/
abbrev r141_1 : List SOper := [
  ⟨some 4, none, .mov (.t 0)⟩,
  ⟨some 5, none, .mov (.t 0)⟩,
  ⟨some 6, none, .len 1 (.t 5)⟩,
  ⟨some 7, none, .mov (.t 1)⟩,
  ⟨some 8, none, .call false (.c (.func 218 [])) [.t 4, .t 6, .t 7]⟩]
def s141 : SF := ⟨[], .ops r141_1, false, none, none⟩
/-! cmp.Or[int] -/
abbrev r142_1 : List SOper := [
  ⟨some 2, none, .mov (.c (.int .i64 0))⟩]
abbrev r142_2 : List SOper := [
  ⟨some 3, none, .mov (.c (.int .i64 0))⟩]
abbrev r142_3 : List SOper := [
  ⟨some 6, none, .mov (.t 0)⟩,
  ⟨some 7, none, .len 1 (.t 6)⟩,
  ⟨some 8, none, .mov (.c (.int .i64 0))⟩]
abbrev r142_4 : List SOper := [
  ⟨some 9, none, .bin .lss (.t 8) (.t 7)⟩]
abbrev c142_5 : SC := .cond (.t 9) (.skip) (.exit 0)
abbrev r142_6 : List SOper := [
  ⟨some 10, none, .iaddr none 1 (.t 6) (.t 8)⟩,
  ⟨some 11, none, .load false false 1 (.t 10)⟩,
  ⟨some 5, none, .mov (.t 11)⟩]
abbrev r142_7 : List SOper := [
  ⟨some 12, none, .mov (.t 5)⟩,
  ⟨some 13, none, .mov (.t 3)⟩,
  ⟨some 14, none, .bin .neq (.t 12) (.t 13)⟩]
abbrev r142_8 : List SOper := [
  ⟨some 15, none, .mov (.t 5)⟩,
  ⟨some 2, none, .mov (.t 15)⟩]
abbrev c142_9 : SC := .seq (.ops r142_8) (.ret)
abbrev c142_10 : SC := .cond (.t 14) c142_9 (.skip)
abbrev c142_11 : SC := .seq (.ops r142_7) c142_10
abbrev c142_12 : SC := .seq (.ops r142_6) c142_11
abbrev c142_13 : SC := .block 1 [3, 6, 7, 8] [] c142_12
abbrev r142_14 : List SOper := [
  ⟨some 16, none, .bin .add (.t 8) (.c (.int .i64 1))⟩,
  ⟨some 8, none, .mov (.t 16)⟩]
abbrev c142_15 : SC := .seq c142_13 (.ops r142_14)
abbrev c142_16 : SC := .seq c142_5 c142_15
abbrev c142_17 : SC := .seq (.ops r142_4) c142_16
abbrev L142_1 : SC := .loop [3, 6, 7, 8] [] c142_17
abbrev c142_18 : SC := .block 0 [3] [] L142_1
abbrev c142_19 : SC := .seq (.ops r142_3) c142_18
abbrev r142_20 : List SOper := [
  ⟨some 17, none, .mov (.t 3)⟩,
  ⟨some 2, none, .mov (.t 17)⟩]
abbrev c142_21 : SC := .seq (.ops r142_20) (.ret)
abbrev c142_22 : SC := .seq c142_19 c142_21
abbrev c142_23 : SC := .seq (.ops r142_2) c142_22
abbrev c142_24 : SC := .seq (.ops r142_1) c142_23
def s142 : SF := ⟨[.t 2], c142_24, false, none, none⟩
/-! cmp.Compare[int] -/
abbrev r143_1 : List SOper := [
  ⟨some 4, none, .mov (.c (.int .i64 0))⟩]
abbrev r143_2 : List SOper := [
  ⟨some 7, none, .mov (.t 0)⟩,
  ⟨some 8, none, .call false (.c (.func 219 [])) [.t 7]⟩,
  ⟨some 5, none, .mov (.t 8)⟩]
abbrev r143_3 : List SOper := [
  ⟨some 9, none, .mov (.t 1)⟩,
  ⟨some 10, none, .call false (.c (.func 219 [])) [.t 9]⟩,
  ⟨some 6, none, .mov (.t 10)⟩]
abbrev r143_4 : List SOper := [
  ⟨some 11, none, .mov (.t 5)⟩]
abbrev r143_5 : List SOper := [
  ⟨some 12, none, .mov (.t 6)⟩]
abbrev r143_6 : List SOper := [
  ⟨some 4, none, .mov (.c (.int .i64 0))⟩]
abbrev c143_7 : SC := .seq (.ops r143_6) (.ret)
abbrev c143_8 : SC := .cond (.t 12) c143_7 (.skip)
abbrev c143_9 : SC := .seq (.ops r143_5) c143_8
abbrev r143_10 : List SOper := [
  ⟨some 4, none, .mov (.c (.int .i64 (-1)))⟩]
abbrev c143_11 : SC := .seq (.ops r143_10) (.ret)
abbrev c143_12 : SC := .seq c143_9 c143_11
abbrev c143_13 : SC := .cond (.t 11) c143_12 (.skip)
abbrev c143_14 : SC := .seq (.ops r143_4) c143_13
abbrev r143_15 : List SOper := [
  ⟨some 13, none, .mov (.t 6)⟩]
abbrev r143_16 : List SOper := [
  ⟨some 4, none, .mov (.c (.int .i64 1))⟩]
abbrev c143_17 : SC := .seq (.ops r143_16) (.ret)
abbrev c143_18 : SC := .cond (.t 13) c143_17 (.skip)
abbrev c143_19 : SC := .seq (.ops r143_15) c143_18
abbrev r143_20 : List SOper := [
  ⟨some 14, none, .mov (.t 0)⟩,
  ⟨some 15, none, .mov (.t 1)⟩,
  ⟨some 16, none, .bin .lss (.t 14) (.t 15)⟩]
abbrev r143_21 : List SOper := [
  ⟨some 4, none, .mov (.c (.int .i64 (-1)))⟩]
abbrev c143_22 : SC := .seq (.ops r143_21) (.ret)
abbrev c143_23 : SC := .cond (.t 16) c143_22 (.skip)
abbrev c143_24 : SC := .seq (.ops r143_20) c143_23
abbrev r143_25 : List SOper := [
  ⟨some 17, none, .mov (.t 0)⟩,
  ⟨some 18, none, .mov (.t 1)⟩,
  ⟨some 19, none, .bin .gtr (.t 17) (.t 18)⟩]
abbrev r143_26 : List SOper := [
  ⟨some 4, none, .mov (.c (.int .i64 1))⟩]
abbrev c143_27 : SC := .seq (.ops r143_26) (.ret)
abbrev c143_28 : SC := .cond (.t 19) c143_27 (.skip)
abbrev c143_29 : SC := .seq (.ops r143_25) c143_28
abbrev r143_30 : List SOper := [
  ⟨some 4, none, .mov (.c (.int .i64 0))⟩]
abbrev c143_31 : SC := .seq (.ops r143_30) (.ret)
abbrev c143_32 : SC := .seq c143_29 c143_31
abbrev c143_33 : SC := .seq c143_24 c143_32
abbrev c143_34 : SC := .seq c143_19 c143_33
abbrev c143_35 : SC := .seq c143_14 c143_34
abbrev c143_36 : SC := .seq (.ops r143_3) c143_35
abbrev c143_37 : SC := .seq (.ops r143_2) c143_36
abbrev c143_38 : SC := .seq (.ops r143_1) c143_37
def s143 : SF := ⟨[.t 4], c143_38, false, none, none⟩
/-! crannog/join.greater[crannog/api.Attr] -/
abbrev r144_1 : List SOper := [
  ⟨some 3, none, .boxL (.t 0)⟩,
  ⟨some 4, none, .boxL (.t 1)⟩,
  ⟨some 6, none, .allocL [.int .i64 0, .int .i64 0, .int .i64 0, .int .u64 0]⟩]
abbrev r144_2 : List SOper := [
  ⟨some 7, none, .mov (.t 2)⟩,
  ⟨some 8, none, .load false true 4 (.t 3)⟩,
  ⟨some 9, none, .load false true 4 (.t 4)⟩,
  ⟨some 10, none, .call false (.t 7) [.t 8, .t 9]⟩,
  ⟨some 11, none, .bin .lss (.t 10) (.c (.int .i64 0))⟩]
abbrev r144_3 : List SOper := [
  ⟨some 12, none, .load false true 4 (.t 4)⟩,
  ⟨none, none, .store 4 (.t 6) (.t 12)⟩]
abbrev c144_4 : SC := .seq (.ops r144_3) (.ret)
abbrev c144_5 : SC := .cond (.t 11) c144_4 (.skip)
abbrev c144_6 : SC := .seq (.ops r144_2) c144_5
abbrev r144_7 : List SOper := [
  ⟨some 13, none, .load false true 4 (.t 3)⟩,
  ⟨none, none, .store 4 (.t 6) (.t 13)⟩]
abbrev c144_8 : SC := .seq (.ops r144_7) (.ret)
abbrev c144_9 : SC := .seq c144_6 c144_8
abbrev c144_10 : SC := .seq (.ops r144_1) c144_9
def s144 : SF := ⟨[.c 6 true 4], c144_10, false, none, none⟩
/-! slices.Concat[[]crannog/api.Piece,crannog/api.Piece] -/
abbrev r148_1 : List SOper := [
  ⟨some 2, none, .mov (.c (.nils))⟩]
abbrev r148_2 : List SOper := [
  ⟨some 3, none, .mov (.c (.int .i64 0))⟩]
abbrev r148_3 : List SOper := [
  ⟨some 9, none, .mov (.t 0)⟩,
  ⟨some 10, none, .len 1 (.t 9)⟩,
  ⟨some 11, none, .mov (.c (.int .i64 0))⟩]
abbrev r148_4 : List SOper := [
  ⟨some 12, none, .bin .lss (.t 11) (.t 10)⟩]
abbrev c148_5 : SC := .cond (.t 12) (.skip) (.exit 0)
abbrev r148_6 : List SOper := [
  ⟨some 13, none, .iaddr none 1 (.t 9) (.t 11)⟩,
  ⟨some 14, none, .load false false 1 (.t 13)⟩,
  ⟨some 5, none, .mov (.t 14)⟩]
abbrev r148_7 : List SOper := [
  ⟨some 15, none, .mov (.t 3)⟩,
  ⟨some 16, none, .mov (.t 5)⟩,
  ⟨some 17, none, .len 1 (.t 16)⟩,
  ⟨some 18, none, .bin .add (.t 15) (.t 17)⟩,
  ⟨some 3, none, .mov (.t 18)⟩]
abbrev r148_8 : List SOper := [
  ⟨some 19, none, .mov (.t 3)⟩,
  ⟨some 20, none, .bin .lss (.t 19) (.c (.int .i64 0))⟩]
abbrev r148_9 : List SOper := [
  ⟨some 21, none, .mkif 9 (.c (.str [108, 101, 110, 32, 111, 117, 116, 32, 111, 102, 32, 114, 97, 110, 103, 101]))⟩,
  ⟨none, none, .panic (.t 21)⟩]
abbrev c148_10 : SC := .cond (.t 20) (.ops r148_9) (.skip)
abbrev c148_11 : SC := .seq (.ops r148_8) c148_10
abbrev c148_12 : SC := .seq (.ops r148_7) c148_11
abbrev c148_13 : SC := .seq (.ops r148_6) c148_12
abbrev c148_14 : SC := .block 1 [0, 3, 9, 10, 11] [] c148_13
abbrev r148_15 : List SOper := [
  ⟨some 22, none, .bin .add (.t 11) (.c (.int .i64 1))⟩,
  ⟨some 11, none, .mov (.t 22)⟩]
abbrev c148_16 : SC := .seq c148_14 (.ops r148_15)
abbrev c148_17 : SC := .seq c148_5 c148_16
abbrev c148_18 : SC := .seq (.ops r148_4) c148_17
abbrev L148_1 : SC := .loop [0, 3, 9, 10, 11] [] c148_18
abbrev c148_19 : SC := .block 0 [0, 3] [] L148_1
abbrev c148_20 : SC := .seq (.ops r148_3) c148_19
abbrev r148_21 : List SOper := [
  ⟨some 23, none, .mov (.t 3)⟩,
  ⟨some 24, none, .call false (.c (.func 221 [])) [.c (.nils), .t 23]⟩,
  ⟨some 6, none, .mov (.t 24)⟩]
abbrev r148_22 : List SOper := [
  ⟨some 25, none, .mov (.t 0)⟩,
  ⟨some 26, none, .len 1 (.t 25)⟩,
  ⟨some 27, none, .mov (.c (.int .i64 0))⟩]
abbrev r148_23 : List SOper := [
  ⟨some 28, none, .bin .lss (.t 27) (.t 26)⟩]
abbrev c148_24 : SC := .cond (.t 28) (.skip) (.exit 2)
abbrev r148_25 : List SOper := [
  ⟨some 29, none, .iaddr none 1 (.t 25) (.t 27)⟩,
  ⟨some 30, none, .load false false 1 (.t 29)⟩,
  ⟨some 8, none, .mov (.t 30)⟩]
abbrev r148_26 : List SOper := [
  ⟨some 31, none, .mov (.t 6)⟩,
  ⟨some 32, none, .mov (.t 8)⟩,
  ⟨some 33, none, .append 4 40 (.t 31) (.t 32)⟩,
  ⟨some 6, none, .mov (.t 33)⟩]
abbrev c148_27 : SC := .seq (.ops r148_25) (.ops r148_26)
abbrev c148_28 : SC := .block 3 [6, 25, 26, 27] [] c148_27
abbrev r148_29 : List SOper := [
  ⟨some 34, none, .bin .add (.t 27) (.c (.int .i64 1))⟩,
  ⟨some 27, none, .mov (.t 34)⟩]
abbrev c148_30 : SC := .seq c148_28 (.ops r148_29)
abbrev c148_31 : SC := .seq c148_24 c148_30
abbrev c148_32 : SC := .seq (.ops r148_23) c148_31
abbrev L148_2 : SC := .loop [6, 25, 26, 27] [] c148_32
abbrev c148_33 : SC := .block 2 [6] [] L148_2
abbrev c148_34 : SC := .seq (.ops r148_22) c148_33
abbrev r148_35 : List SOper := [
  ⟨some 35, none, .mov (.t 6)⟩,
  ⟨some 2, none, .mov (.t 35)⟩]
abbrev c148_36 : SC := .seq (.ops r148_35) (.ret)
abbrev c148_37 : SC := .seq c148_34 c148_36
abbrev c148_38 : SC := .seq (.ops r148_21) c148_37
abbrev c148_39 : SC := .seq c148_20 c148_38
abbrev c148_40 : SC := .seq (.ops r148_2) c148_39
abbrev c148_41 : SC := .seq (.ops r148_1) c148_40
def s148 : SF := ⟨[.t 2], c148_41, true, none, none⟩
/-! slices.Concat[[]crannog/api.Xattr,crannog/api.Xattr] -/
abbrev r149_1 : List SOper := [
  ⟨some 2, none, .mov (.c (.nils))⟩]
abbrev r149_2 : List SOper := [
  ⟨some 3, none, .mov (.c (.int .i64 0))⟩]
abbrev r149_3 : List SOper := [
  ⟨some 9, none, .mov (.t 0)⟩,
  ⟨some 10, none, .len 1 (.t 9)⟩,
  ⟨some 11, none, .mov (.c (.int .i64 0))⟩]
abbrev r149_4 : List SOper := [
  ⟨some 12, none, .bin .lss (.t 11) (.t 10)⟩]
abbrev c149_5 : SC := .cond (.t 12) (.skip) (.exit 0)
abbrev r149_6 : List SOper := [
  ⟨some 13, none, .iaddr none 1 (.t 9) (.t 11)⟩,
  ⟨some 14, none, .load false false 1 (.t 13)⟩,
  ⟨some 5, none, .mov (.t 14)⟩]
abbrev r149_7 : List SOper := [
  ⟨some 15, none, .mov (.t 3)⟩,
  ⟨some 16, none, .mov (.t 5)⟩,
  ⟨some 17, none, .len 1 (.t 16)⟩,
  ⟨some 18, none, .bin .add (.t 15) (.t 17)⟩,
  ⟨some 3, none, .mov (.t 18)⟩]
abbrev r149_8 : List SOper := [
  ⟨some 19, none, .mov (.t 3)⟩,
  ⟨some 20, none, .bin .lss (.t 19) (.c (.int .i64 0))⟩]
abbrev r149_9 : List SOper := [
  ⟨some 21, none, .mkif 9 (.c (.str [108, 101, 110, 32, 111, 117, 116, 32, 111, 102, 32, 114, 97, 110, 103, 101]))⟩,
  ⟨none, none, .panic (.t 21)⟩]
abbrev c149_10 : SC := .cond (.t 20) (.ops r149_9) (.skip)
abbrev c149_11 : SC := .seq (.ops r149_8) c149_10
abbrev c149_12 : SC := .seq (.ops r149_7) c149_11
abbrev c149_13 : SC := .seq (.ops r149_6) c149_12
abbrev c149_14 : SC := .block 1 [0, 3, 9, 10, 11] [] c149_13
abbrev r149_15 : List SOper := [
  ⟨some 22, none, .bin .add (.t 11) (.c (.int .i64 1))⟩,
  ⟨some 11, none, .mov (.t 22)⟩]
abbrev c149_16 : SC := .seq c149_14 (.ops r149_15)
abbrev c149_17 : SC := .seq c149_5 c149_16
abbrev c149_18 : SC := .seq (.ops r149_4) c149_17
abbrev L149_1 : SC := .loop [0, 3, 9, 10, 11] [] c149_18
abbrev c149_19 : SC := .block 0 [0, 3] [] L149_1
abbrev c149_20 : SC := .seq (.ops r149_3) c149_19
abbrev r149_21 : List SOper := [
  ⟨some 23, none, .mov (.t 3)⟩,
  ⟨some 24, none, .call false (.c (.func 222 [])) [.c (.nils), .t 23]⟩,
  ⟨some 6, none, .mov (.t 24)⟩]
abbrev r149_22 : List SOper := [
  ⟨some 25, none, .mov (.t 0)⟩,
  ⟨some 26, none, .len 1 (.t 25)⟩,
  ⟨some 27, none, .mov (.c (.int .i64 0))⟩]
abbrev r149_23 : List SOper := [
  ⟨some 28, none, .bin .lss (.t 27) (.t 26)⟩]
abbrev c149_24 : SC := .cond (.t 28) (.skip) (.exit 2)
abbrev r149_25 : List SOper := [
  ⟨some 29, none, .iaddr none 1 (.t 25) (.t 27)⟩,
  ⟨some 30, none, .load false false 1 (.t 29)⟩,
  ⟨some 8, none, .mov (.t 30)⟩]
abbrev r149_26 : List SOper := [
  ⟨some 31, none, .mov (.t 6)⟩,
  ⟨some 32, none, .mov (.t 8)⟩,
  ⟨some 33, none, .append 5 56 (.t 31) (.t 32)⟩,
  ⟨some 6, none, .mov (.t 33)⟩]
abbrev c149_27 : SC := .seq (.ops r149_25) (.ops r149_26)
abbrev c149_28 : SC := .block 3 [6, 25, 26, 27] [] c149_27
abbrev r149_29 : List SOper := [
  ⟨some 34, none, .bin .add (.t 27) (.c (.int .i64 1))⟩,
  ⟨some 27, none, .mov (.t 34)⟩]
abbrev c149_30 : SC := .seq c149_28 (.ops r149_29)
abbrev c149_31 : SC := .seq c149_24 c149_30
abbrev c149_32 : SC := .seq (.ops r149_23) c149_31
abbrev L149_2 : SC := .loop [6, 25, 26, 27] [] c149_32
abbrev c149_33 : SC := .block 2 [6] [] L149_2
abbrev c149_34 : SC := .seq (.ops r149_22) c149_33
abbrev r149_35 : List SOper := [
  ⟨some 35, none, .mov (.t 6)⟩,
  ⟨some 2, none, .mov (.t 35)⟩]
abbrev c149_36 : SC := .seq (.ops r149_35) (.ret)
abbrev c149_37 : SC := .seq c149_34 c149_36
abbrev c149_38 : SC := .seq (.ops r149_21) c149_37
abbrev c149_39 : SC := .seq c149_20 c149_38
abbrev c149_40 : SC := .seq (.ops r149_2) c149_39
abbrev c149_41 : SC := .seq (.ops r149_1) c149_40
def s149 : SF := ⟨[.t 2], c149_41, true, none, none⟩
/-! slices.Concat[[]crannog/api.Link,crannog/api.Link] -/
abbrev r150_1 : List SOper := [
  ⟨some 2, none, .mov (.c (.nils))⟩]
abbrev r150_2 : List SOper := [
  ⟨some 3, none, .mov (.c (.int .i64 0))⟩]
abbrev r150_3 : List SOper := [
  ⟨some 9, none, .mov (.t 0)⟩,
  ⟨some 10, none, .len 1 (.t 9)⟩,
  ⟨some 11, none, .mov (.c (.int .i64 0))⟩]
abbrev r150_4 : List SOper := [
  ⟨some 12, none, .bin .lss (.t 11) (.t 10)⟩]
abbrev c150_5 : SC := .cond (.t 12) (.skip) (.exit 0)
abbrev r150_6 : List SOper := [
  ⟨some 13, none, .iaddr none 1 (.t 9) (.t 11)⟩,
  ⟨some 14, none, .load false false 1 (.t 13)⟩,
  ⟨some 5, none, .mov (.t 14)⟩]
abbrev r150_7 : List SOper := [
  ⟨some 15, none, .mov (.t 3)⟩,
  ⟨some 16, none, .mov (.t 5)⟩,
  ⟨some 17, none, .len 1 (.t 16)⟩,
  ⟨some 18, none, .bin .add (.t 15) (.t 17)⟩,
  ⟨some 3, none, .mov (.t 18)⟩]
abbrev r150_8 : List SOper := [
  ⟨some 19, none, .mov (.t 3)⟩,
  ⟨some 20, none, .bin .lss (.t 19) (.c (.int .i64 0))⟩]
abbrev r150_9 : List SOper := [
  ⟨some 21, none, .mkif 9 (.c (.str [108, 101, 110, 32, 111, 117, 116, 32, 111, 102, 32, 114, 97, 110, 103, 101]))⟩,
  ⟨none, none, .panic (.t 21)⟩]
abbrev c150_10 : SC := .cond (.t 20) (.ops r150_9) (.skip)
abbrev c150_11 : SC := .seq (.ops r150_8) c150_10
abbrev c150_12 : SC := .seq (.ops r150_7) c150_11
abbrev c150_13 : SC := .seq (.ops r150_6) c150_12
abbrev c150_14 : SC := .block 1 [0, 3, 9, 10, 11] [] c150_13
abbrev r150_15 : List SOper := [
  ⟨some 22, none, .bin .add (.t 11) (.c (.int .i64 1))⟩,
  ⟨some 11, none, .mov (.t 22)⟩]
abbrev c150_16 : SC := .seq c150_14 (.ops r150_15)
abbrev c150_17 : SC := .seq c150_5 c150_16
abbrev c150_18 : SC := .seq (.ops r150_4) c150_17
abbrev L150_1 : SC := .loop [0, 3, 9, 10, 11] [] c150_18
abbrev c150_19 : SC := .block 0 [0, 3] [] L150_1
abbrev c150_20 : SC := .seq (.ops r150_3) c150_19
abbrev r150_21 : List SOper := [
  ⟨some 23, none, .mov (.t 3)⟩,
  ⟨some 24, none, .call false (.c (.func 223 [])) [.c (.nils), .t 23]⟩,
  ⟨some 6, none, .mov (.t 24)⟩]
abbrev r150_22 : List SOper := [
  ⟨some 25, none, .mov (.t 0)⟩,
  ⟨some 26, none, .len 1 (.t 25)⟩,
  ⟨some 27, none, .mov (.c (.int .i64 0))⟩]
abbrev r150_23 : List SOper := [
  ⟨some 28, none, .bin .lss (.t 27) (.t 26)⟩]
abbrev c150_24 : SC := .cond (.t 28) (.skip) (.exit 2)
abbrev r150_25 : List SOper := [
  ⟨some 29, none, .iaddr none 1 (.t 25) (.t 27)⟩,
  ⟨some 30, none, .load false false 1 (.t 29)⟩,
  ⟨some 8, none, .mov (.t 30)⟩]
abbrev r150_26 : List SOper := [
  ⟨some 31, none, .mov (.t 6)⟩,
  ⟨some 32, none, .mov (.t 8)⟩,
  ⟨some 33, none, .append 25 208 (.t 31) (.t 32)⟩,
  ⟨some 6, none, .mov (.t 33)⟩]
abbrev c150_27 : SC := .seq (.ops r150_25) (.ops r150_26)
abbrev c150_28 : SC := .block 3 [6, 25, 26, 27] [] c150_27
abbrev r150_29 : List SOper := [
  ⟨some 34, none, .bin .add (.t 27) (.c (.int .i64 1))⟩,
  ⟨some 27, none, .mov (.t 34)⟩]
abbrev c150_30 : SC := .seq c150_28 (.ops r150_29)
abbrev c150_31 : SC := .seq c150_24 c150_30
abbrev c150_32 : SC := .seq (.ops r150_23) c150_31
abbrev L150_2 : SC := .loop [6, 25, 26, 27] [] c150_32
abbrev c150_33 : SC := .block 2 [6] [] L150_2
abbrev c150_34 : SC := .seq (.ops r150_22) c150_33
abbrev r150_35 : List SOper := [
  ⟨some 35, none, .mov (.t 6)⟩,
  ⟨some 2, none, .mov (.t 35)⟩]
abbrev c150_36 : SC := .seq (.ops r150_35) (.ret)
abbrev c150_37 : SC := .seq c150_34 c150_36
abbrev c150_38 : SC := .seq (.ops r150_21) c150_37
abbrev c150_39 : SC := .seq c150_20 c150_38
abbrev c150_40 : SC := .seq (.ops r150_2) c150_39
abbrev c150_41 : SC := .seq (.ops r150_1) c150_40
def s150 : SF := ⟨[.t 2], c150_41, true, none, none⟩
/-! slices.SortStableFunc[[]crannog/api.Link,crannog/api.Link] -/
abbrev r151_1 : List SOper := [
  ⟨some 4, none, .mov (.t 0)⟩,
  ⟨some 5, none, .mov (.t 0)⟩,
  ⟨some 6, none, .len 1 (.t 5)⟩,
  ⟨some 7, none, .mov (.t 1)⟩,
  ⟨some 8, none, .call false (.c (.func 224 [])) [.t 4, .t 6, .t 7]⟩]
def s151 : SF := ⟨[], .ops r151_1, false, none, none⟩
/-! crannog/join.greater[crannog/api.Link] -/
abbrev r152_1 : List SOper := [
  ⟨some 3, none, .boxL (.t 0)⟩,
  ⟨some 4, none, .boxL (.t 1)⟩,
  ⟨some 6, none, .allocL [.int .i64 0, .int .i64 0, .int .i64 0, .int .i64 0, .int .i64 0, .int .i64 0, .int .i64 0, .int .i64 0, .str [], .int .i64 0, .int .i64 0, .int .i64 0, .int .i64 0, .int .i64 0, .int .i64 0, .int .i64 0, .int .i64 0, .int .i64 0, .int .i64 0, .int .i64 0, .int .i64 0, .int .i64 0, .int .i64 0, .int .i64 0, .int .i64 0]⟩]
abbrev r152_2 : List SOper := [
  ⟨some 7, none, .mov (.t 2)⟩,
  ⟨some 8, none, .load false true 25 (.t 3)⟩,
  ⟨some 9, none, .load false true 25 (.t 4)⟩,
  ⟨some 10, none, .call false (.t 7) [.t 8, .t 9]⟩,
  ⟨some 11, none, .bin .lss (.t 10) (.c (.int .i64 0))⟩]
abbrev r152_3 : List SOper := [
  ⟨some 12, none, .load false true 25 (.t 4)⟩,
  ⟨none, none, .store 25 (.t 6) (.t 12)⟩]
abbrev c152_4 : SC := .seq (.ops r152_3) (.ret)
abbrev c152_5 : SC := .cond (.t 11) c152_4 (.skip)
abbrev c152_6 : SC := .seq (.ops r152_2) c152_5
abbrev r152_7 : List SOper := [
  ⟨some 13, none, .load false true 25 (.t 3)⟩,
  ⟨none, none, .store 25 (.t 6) (.t 13)⟩]
abbrev c152_8 : SC := .seq (.ops r152_7) (.ret)
abbrev c152_9 : SC := .seq c152_6 c152_8
abbrev c152_10 : SC := .seq (.ops r152_1) c152_9
def s152 : SF := ⟨[.c 6 true 25], c152_10, false, none, none⟩
/-! crannog/join.places -/
abbrev r153_1 : List SOper := [
  ⟨some 2, none, .boxL (.t 0)⟩,
  ⟨some 3, none, .boxL (.t 1)⟩,
  ⟨some 4, none, .mov (.c (.int .i64 0))⟩]
abbrev r153_2 : List SOper := [
  ⟨some 5, none, .faddr 4 (.t 2)⟩,
  ⟨some 6, none, .load false true 2 (.t 5)⟩,
  ⟨some 7, none, .faddr 4 (.t 3)⟩,
  ⟨some 8, none, .load false true 2 (.t 7)⟩,
  ⟨some 9, none, .call false (.c (.func 77 [])) [.t 6, .t 8]⟩,
  ⟨some 10, none, .faddr 6 (.t 2)⟩,
  ⟨some 11, none, .loadA (.loc 2) true 2 (.t 10)⟩,
  ⟨some 12, none, .faddr 6 (.t 3)⟩,
  ⟨some 13, none, .loadA (.loc 3) true 2 (.t 12)⟩,
  ⟨some 14, none, .call false (.c (.func 77 [])) [.t 11, .t 13]⟩,
  ⟨some 15, none, .faddr 8 (.t 2)⟩,
  ⟨some 16, none, .loadA (.loc 2) false 1 (.t 15)⟩,
  ⟨some 17, none, .faddr 8 (.t 3)⟩,
  ⟨some 18, none, .loadA (.loc 3) false 1 (.t 17)⟩,
  ⟨some 19, none, .call false (.c (.func 162 [])) [.t 16, .t 18]⟩,
  ⟨some 20, none, .bsnap 1 [.t 9, .t 14, .t 19]⟩,
  ⟨some 21, none, .call false (.c (.func 142 [])) [.t 20]⟩,
  ⟨some 4, none, .mov (.t 21)⟩]
abbrev c153_3 : SC := .seq (.draw 0 [[], [0], [], [2], [1, 3], [], [5], [], [7], [4, 6, 8], [], [10], [], [12], [9, 11, 13], [14], [15], [16]] r153_2) (.ret)
abbrev c153_4 : SC := .seq (.ops r153_1) c153_3
def s153 : SF := ⟨[.t 4], c153_4, false, none, none⟩
/-! crannog/join.greater[crannog/api.Stamp] -/
abbrev r154_1 : List SOper := [
  ⟨some 3, none, .boxL (.t 0)⟩,
  ⟨some 4, none, .boxL (.t 1)⟩,
  ⟨some 6, none, .allocL [.int .i64 0, .int .i64 0]⟩]
abbrev r154_2 : List SOper := [
  ⟨some 7, none, .mov (.t 2)⟩,
  ⟨some 8, none, .load false true 2 (.t 3)⟩,
  ⟨some 9, none, .load false true 2 (.t 4)⟩,
  ⟨some 10, none, .call false (.t 7) [.t 8, .t 9]⟩,
  ⟨some 11, none, .bin .lss (.t 10) (.c (.int .i64 0))⟩]
abbrev r154_3 : List SOper := [
  ⟨some 12, none, .load false true 2 (.t 4)⟩,
  ⟨none, none, .store 2 (.t 6) (.t 12)⟩]
abbrev c154_4 : SC := .seq (.ops r154_3) (.ret)
abbrev c154_5 : SC := .cond (.t 11) c154_4 (.skip)
abbrev c154_6 : SC := .seq (.ops r154_2) c154_5
abbrev r154_7 : List SOper := [
  ⟨some 13, none, .load false true 2 (.t 3)⟩,
  ⟨none, none, .store 2 (.t 6) (.t 13)⟩]
abbrev c154_8 : SC := .seq (.ops r154_7) (.ret)
abbrev c154_9 : SC := .seq c154_6 c154_8
abbrev c154_10 : SC := .seq (.ops r154_1) c154_9
def s154 : SF := ⟨[.c 6 true 2], c154_10, false, none, none⟩
/-! crannog/join.merged[crannog/api.Piece] -/
abbrev r155_1 : List SOper := [
  ⟨some 8, none, .mov (.c (.nils))⟩]
abbrev r155_2 : List SOper := [
  ⟨some 9, none, .mov (.c (.nils))⟩]
abbrev r155_3 : List SOper := [
  ⟨some 14, none, .mov (.t 0)⟩,
  ⟨some 15, none, .mov (.t 1)⟩,
  ⟨some 16, none, .bsnap 1 [.t 14, .t 15]⟩,
  ⟨some 17, none, .call false (.c (.func 148 [])) [.t 16]⟩,
  ⟨some 10, none, .mov (.t 17)⟩]
abbrev r155_4 : List SOper := [
  ⟨some 18, none, .mov (.t 10)⟩,
  ⟨some 19, none, .mov (.t 2)⟩,
  ⟨some 20, none, .call false (.c (.func 225 [])) [.t 18, .t 19]⟩]
abbrev r155_5 : List SOper := [
  ⟨some 21, none, .mov (.t 10)⟩,
  ⟨some 22, none, .len 1 (.t 21)⟩,
  ⟨some 23, none, .mov (.c (.int .i64 0))⟩]
abbrev r155_6 : List SOper := [
  ⟨some 24, none, .bin .lss (.t 23) (.t 22)⟩]
abbrev c155_7 : SC := .cond (.t 24) (.skip) (.exit 0)
abbrev r155_8 : List SOper := [
  ⟨some 25, none, .iaddr none 4 (.t 21) (.t 23)⟩,
  ⟨some 26, none, .load false true 4 (.t 25)⟩,
  ⟨some 12, none, .allocL [.int .i64 0, .int .i64 0, .int .i64 0, .str []]⟩,
  ⟨none, none, .store 4 (.t 12) (.t 26)⟩]
abbrev r155_9 : List SOper := [
  ⟨some 27, none, .mov (.t 9)⟩,
  ⟨some 28, none, .len 1 (.t 27)⟩,
  ⟨some 13, none, .mov (.t 28)⟩]
abbrev r155_10 : List SOper := [
  ⟨some 29, none, .mov (.t 13)⟩,
  ⟨some 30, none, .bin .gtr (.t 29) (.c (.int .i64 0))⟩,
  ⟨some 31, none, .mov (.t 30)⟩,
  ⟨some 32, some (31, true), .mov (.t 2)⟩,
  ⟨some 33, some (31, true), .mov (.t 9)⟩,
  ⟨some 34, some (31, true), .mov (.t 13)⟩,
  ⟨some 35, some (31, true), .bin .sub (.t 34) (.c (.int .i64 1))⟩,
  ⟨some 36, some (31, true), .iaddr none 4 (.t 33) (.t 35)⟩,
  ⟨some 37, some (31, true), .load false true 4 (.t 36)⟩,
  ⟨some 38, some (31, true), .load false true 4 (.t 12)⟩,
  ⟨some 39, some (31, true), .call false (.t 32) [.t 37, .t 38]⟩,
  ⟨some 40, some (31, true), .bin .eql (.t 39) (.c (.int .i64 0))⟩,
  ⟨some 41, none, .pick (.t 31) (.t 40) (.c (.bool false))⟩]
abbrev r155_11 : List SOper := [
  ⟨some 42, none, .mov (.t 9)⟩,
  ⟨some 43, none, .mov (.t 13)⟩,
  ⟨some 44, none, .bin .sub (.t 43) (.c (.int .i64 1))⟩,
  ⟨some 45, none, .mov (.t 3)⟩,
  ⟨some 46, none, .mov (.t 9)⟩,
  ⟨some 47, none, .mov (.t 13)⟩,
  ⟨some 48, none, .bin .sub (.t 47) (.c (.int .i64 1))⟩,
  ⟨some 49, none, .iaddr none 4 (.t 46) (.t 48)⟩,
  ⟨some 50, none, .load false true 4 (.t 49)⟩,
  ⟨some 51, none, .load false true 4 (.t 12)⟩,
  ⟨some 52, none, .call false (.t 45) [.t 50, .t 51]⟩,
  ⟨some 53, none, .iaddr none 4 (.t 42) (.t 44)⟩,
  ⟨none, none, .store 4 (.t 53) (.t 52)⟩]
abbrev c155_12 : SC := .seq (.draw 0 [[], [], [1], [], [], [], [5], [4, 6], [7], [], [3, 8, 9], [0, 2, 10], [11]] r155_11) (.exit 1)
abbrev c155_13 : SC := .cond (.t 41) c155_12 (.skip)
abbrev c155_14 : SC := .seq (.draw 0 [[], [0], [1], [2], [2], [2], [5], [4, 6], [7], [2], [3, 8, 9], [10], [11]] r155_10) c155_13
abbrev c155_15 : SC := .seq (.ops r155_9) c155_14
abbrev r155_16 : List SOper := [
  ⟨some 54, none, .mov (.t 9)⟩,
  ⟨some 55, none, .load false true 4 (.t 12)⟩,
  ⟨some 56, none, .bsnap 4 [.t 55]⟩,
  ⟨some 57, none, .append 4 40 (.t 54) (.t 56)⟩,
  ⟨some 9, none, .mov (.t 57)⟩]
abbrev c155_17 : SC := .seq c155_15 (.ops r155_16)
abbrev c155_18 : SC := .seq (.ops r155_8) c155_17
abbrev c155_19 : SC := .block 1 [2, 3, 9, 21, 22, 23] [] c155_18
abbrev r155_20 : List SOper := [
  ⟨some 58, none, .bin .add (.t 23) (.c (.int .i64 1))⟩,
  ⟨some 23, none, .mov (.t 58)⟩]
abbrev c155_21 : SC := .seq c155_19 (.ops r155_20)
abbrev c155_22 : SC := .seq c155_7 c155_21
abbrev c155_23 : SC := .seq (.ops r155_6) c155_22
abbrev L155_1 : SC := .loop [2, 3, 9, 21, 22, 23] [] c155_23
abbrev c155_24 : SC := .block 0 [9] [] L155_1
abbrev c155_25 : SC := .seq (.ops r155_5) c155_24
abbrev r155_26 : List SOper := [
  ⟨some 59, none, .mov (.t 9)⟩,
  ⟨some 8, none, .mov (.t 59)⟩]
abbrev c155_27 : SC := .seq (.ops r155_26) (.ret)
abbrev c155_28 : SC := .seq c155_25 c155_27
abbrev c155_29 : SC := .seq (.ops r155_4) c155_28
abbrev c155_30 : SC := .seq (.ops r155_3) c155_29
abbrev c155_31 : SC := .seq (.ops r155_2) c155_30
abbrev c155_32 : SC := .seq (.ops r155_1) c155_31
def s155 : SF := ⟨[.t 8], c155_32, true, none, none⟩
/-! crannog/join.merged[crannog/api.Xattr] -/
abbrev r160_1 : List SOper := [
  ⟨some 8, none, .mov (.c (.nils))⟩]
abbrev r160_2 : List SOper := [
  ⟨some 9, none, .mov (.c (.nils))⟩]
abbrev r160_3 : List SOper := [
  ⟨some 14, none, .mov (.t 0)⟩,
  ⟨some 15, none, .mov (.t 1)⟩,
  ⟨some 16, none, .bsnap 1 [.t 14, .t 15]⟩,
  ⟨some 17, none, .call false (.c (.func 149 [])) [.t 16]⟩,
  ⟨some 10, none, .mov (.t 17)⟩]
abbrev r160_4 : List SOper := [
  ⟨some 18, none, .mov (.t 10)⟩,
  ⟨some 19, none, .mov (.t 2)⟩,
  ⟨some 20, none, .call false (.c (.func 226 [])) [.t 18, .t 19]⟩]
abbrev r160_5 : List SOper := [
  ⟨some 21, none, .mov (.t 10)⟩,
  ⟨some 22, none, .len 1 (.t 21)⟩,
  ⟨some 23, none, .mov (.c (.int .i64 0))⟩]
abbrev r160_6 : List SOper := [
  ⟨some 24, none, .bin .lss (.t 23) (.t 22)⟩]
abbrev c160_7 : SC := .cond (.t 24) (.skip) (.exit 0)
abbrev r160_8 : List SOper := [
  ⟨some 25, none, .iaddr none 5 (.t 21) (.t 23)⟩,
  ⟨some 26, none, .load false true 5 (.t 25)⟩,
  ⟨some 12, none, .allocL [.str [], .int .i64 0, .int .i64 0, .str [], .bool false]⟩,
  ⟨none, none, .store 5 (.t 12) (.t 26)⟩]
abbrev r160_9 : List SOper := [
  ⟨some 27, none, .mov (.t 9)⟩,
  ⟨some 28, none, .len 1 (.t 27)⟩,
  ⟨some 13, none, .mov (.t 28)⟩]
abbrev r160_10 : List SOper := [
  ⟨some 29, none, .mov (.t 13)⟩,
  ⟨some 30, none, .bin .gtr (.t 29) (.c (.int .i64 0))⟩,
  ⟨some 31, none, .mov (.t 30)⟩,
  ⟨some 32, some (31, true), .mov (.t 2)⟩,
  ⟨some 33, some (31, true), .mov (.t 9)⟩,
  ⟨some 34, some (31, true), .mov (.t 13)⟩,
  ⟨some 35, some (31, true), .bin .sub (.t 34) (.c (.int .i64 1))⟩,
  ⟨some 36, some (31, true), .iaddr none 5 (.t 33) (.t 35)⟩,
  ⟨some 37, some (31, true), .load false true 5 (.t 36)⟩,
  ⟨some 38, some (31, true), .load false true 5 (.t 12)⟩,
  ⟨some 39, some (31, true), .call false (.t 32) [.t 37, .t 38]⟩,
  ⟨some 40, some (31, true), .bin .eql (.t 39) (.c (.int .i64 0))⟩,
  ⟨some 41, none, .pick (.t 31) (.t 40) (.c (.bool false))⟩]
abbrev r160_11 : List SOper := [
  ⟨some 42, none, .mov (.t 9)⟩,
  ⟨some 43, none, .mov (.t 13)⟩,
  ⟨some 44, none, .bin .sub (.t 43) (.c (.int .i64 1))⟩,
  ⟨some 45, none, .mov (.t 3)⟩,
  ⟨some 46, none, .mov (.t 9)⟩,
  ⟨some 47, none, .mov (.t 13)⟩,
  ⟨some 48, none, .bin .sub (.t 47) (.c (.int .i64 1))⟩,
  ⟨some 49, none, .iaddr none 5 (.t 46) (.t 48)⟩,
  ⟨some 50, none, .load false true 5 (.t 49)⟩,
  ⟨some 51, none, .load false true 5 (.t 12)⟩,
  ⟨some 52, none, .call false (.t 45) [.t 50, .t 51]⟩,
  ⟨some 53, none, .iaddr none 5 (.t 42) (.t 44)⟩,
  ⟨none, none, .store 5 (.t 53) (.t 52)⟩]
abbrev c160_12 : SC := .seq (.draw 0 [[], [], [1], [], [], [], [5], [4, 6], [7], [], [3, 8, 9], [0, 2, 10], [11]] r160_11) (.exit 1)
abbrev c160_13 : SC := .cond (.t 41) c160_12 (.skip)
abbrev c160_14 : SC := .seq (.draw 0 [[], [0], [1], [2], [2], [2], [5], [4, 6], [7], [2], [3, 8, 9], [10], [11]] r160_10) c160_13
abbrev c160_15 : SC := .seq (.ops r160_9) c160_14
abbrev r160_16 : List SOper := [
  ⟨some 54, none, .mov (.t 9)⟩,
  ⟨some 55, none, .load false true 5 (.t 12)⟩,
  ⟨some 56, none, .bsnap 5 [.t 55]⟩,
  ⟨some 57, none, .append 5 56 (.t 54) (.t 56)⟩,
  ⟨some 9, none, .mov (.t 57)⟩]
abbrev c160_17 : SC := .seq c160_15 (.ops r160_16)
abbrev c160_18 : SC := .seq (.ops r160_8) c160_17
abbrev c160_19 : SC := .block 1 [2, 3, 9, 21, 22, 23] [] c160_18
abbrev r160_20 : List SOper := [
  ⟨some 58, none, .bin .add (.t 23) (.c (.int .i64 1))⟩,
  ⟨some 23, none, .mov (.t 58)⟩]
abbrev c160_21 : SC := .seq c160_19 (.ops r160_20)
abbrev c160_22 : SC := .seq c160_7 c160_21
abbrev c160_23 : SC := .seq (.ops r160_6) c160_22
abbrev L160_1 : SC := .loop [2, 3, 9, 21, 22, 23] [] c160_23
abbrev c160_24 : SC := .block 0 [9] [] L160_1
abbrev c160_25 : SC := .seq (.ops r160_5) c160_24
abbrev r160_26 : List SOper := [
  ⟨some 59, none, .mov (.t 9)⟩,
  ⟨some 8, none, .mov (.t 59)⟩]
abbrev c160_27 : SC := .seq (.ops r160_26) (.ret)
abbrev c160_28 : SC := .seq c160_25 c160_27
abbrev c160_29 : SC := .seq (.ops r160_4) c160_28
abbrev c160_30 : SC := .seq (.ops r160_3) c160_29
abbrev c160_31 : SC := .seq (.ops r160_2) c160_30
abbrev c160_32 : SC := .seq (.ops r160_1) c160_31
def s160 : SF := ⟨[.t 8], c160_32, true, none, none⟩
/-! cmp.Compare[string] -/
abbrev r162_1 : List SOper := [
  ⟨some 4, none, .mov (.c (.int .i64 0))⟩]
abbrev r162_2 : List SOper := [
  ⟨some 7, none, .mov (.t 0)⟩,
  ⟨some 8, none, .call false (.c (.func 227 [])) [.t 7]⟩,
  ⟨some 5, none, .mov (.t 8)⟩]
abbrev r162_3 : List SOper := [
  ⟨some 9, none, .mov (.t 1)⟩,
  ⟨some 10, none, .call false (.c (.func 227 [])) [.t 9]⟩,
  ⟨some 6, none, .mov (.t 10)⟩]
abbrev r162_4 : List SOper := [
  ⟨some 11, none, .mov (.t 5)⟩]
abbrev r162_5 : List SOper := [
  ⟨some 12, none, .mov (.t 6)⟩]
abbrev r162_6 : List SOper := [
  ⟨some 4, none, .mov (.c (.int .i64 0))⟩]
abbrev c162_7 : SC := .seq (.ops r162_6) (.ret)
abbrev c162_8 : SC := .cond (.t 12) c162_7 (.skip)
abbrev c162_9 : SC := .seq (.ops r162_5) c162_8
abbrev r162_10 : List SOper := [
  ⟨some 4, none, .mov (.c (.int .i64 (-1)))⟩]
abbrev c162_11 : SC := .seq (.ops r162_10) (.ret)
abbrev c162_12 : SC := .seq c162_9 c162_11
abbrev c162_13 : SC := .cond (.t 11) c162_12 (.skip)
abbrev c162_14 : SC := .seq (.ops r162_4) c162_13
abbrev r162_15 : List SOper := [
  ⟨some 13, none, .mov (.t 6)⟩]
abbrev r162_16 : List SOper := [
  ⟨some 4, none, .mov (.c (.int .i64 1))⟩]
abbrev c162_17 : SC := .seq (.ops r162_16) (.ret)
abbrev c162_18 : SC := .cond (.t 13) c162_17 (.skip)
abbrev c162_19 : SC := .seq (.ops r162_15) c162_18
abbrev r162_20 : List SOper := [
  ⟨some 14, none, .mov (.t 0)⟩,
  ⟨some 15, none, .mov (.t 1)⟩,
  ⟨some 16, none, .bin .lss (.t 14) (.t 15)⟩]
abbrev r162_21 : List SOper := [
  ⟨some 4, none, .mov (.c (.int .i64 (-1)))⟩]
abbrev c162_22 : SC := .seq (.ops r162_21) (.ret)
abbrev c162_23 : SC := .cond (.t 16) c162_22 (.skip)
abbrev c162_24 : SC := .seq (.ops r162_20) c162_23
abbrev r162_25 : List SOper := [
  ⟨some 17, none, .mov (.t 0)⟩,
  ⟨some 18, none, .mov (.t 1)⟩,
  ⟨some 19, none, .bin .gtr (.t 17) (.t 18)⟩]
abbrev r162_26 : List SOper := [
  ⟨some 4, none, .mov (.c (.int .i64 1))⟩]
abbrev c162_27 : SC := .seq (.ops r162_26) (.ret)
abbrev c162_28 : SC := .cond (.t 19) c162_27 (.skip)
abbrev c162_29 : SC := .seq (.ops r162_25) c162_28
abbrev r162_30 : List SOper := [
  ⟨some 4, none, .mov (.c (.int .i64 0))⟩]
abbrev c162_31 : SC := .seq (.ops r162_30) (.ret)
abbrev c162_32 : SC := .seq c162_29 c162_31
abbrev c162_33 : SC := .seq c162_24 c162_32
abbrev c162_34 : SC := .seq c162_19 c162_33
abbrev c162_35 : SC := .seq c162_14 c162_34
abbrev c162_36 : SC := .seq (.ops r162_3) c162_35
abbrev c162_37 : SC := .seq (.ops r162_2) c162_36
abbrev c162_38 : SC := .seq (.ops r162_1) c162_37
def s162 : SF := ⟨[.t 4], c162_38, false, none, none⟩
/-! strings.Split -/
abbrev r166_1 : List SOper := [
  ⟨some 4, none, .mov (.c (.nils))⟩]
abbrev r166_2 : List SOper := [
  ⟨some 5, none, .mov (.t 0)⟩,
  ⟨some 6, none, .mov (.t 1)⟩,
  ⟨some 7, none, .call false (.c (.func 229 [])) [.t 5, .t 6, .c (.int .i64 0), .c (.int .i64 (-1))]⟩,
  ⟨some 4, none, .mov (.t 7)⟩]
abbrev c166_3 : SC := .seq (.ops r166_2) (.ret)
abbrev c166_4 : SC := .seq (.ops r166_1) c166_3
def s166 : SF := ⟨[.t 4], c166_4, false, none, none⟩
/-! crannog/names.Good -/
abbrev r167_1 : List SOper := [
  ⟨some 2, none, .mov (.c (.int .i64 0))⟩]
abbrev r167_2 : List SOper := [
  ⟨some 4, none, .mov (.t 0)⟩,
  ⟨some 5, none, .bin .eql (.t 4) (.c (.str []))⟩,
  ⟨some 6, none, .mov (.t 5)⟩,
  ⟨some 7, some (6, false), .mov (.t 0)⟩,
  ⟨some 8, some (6, false), .bin .eql (.t 7) (.c (.str [46]))⟩,
  ⟨some 9, none, .pick (.t 6) (.c (.bool true)) (.t 8)⟩,
  ⟨some 10, none, .mov (.t 9)⟩,
  ⟨some 11, some (10, false), .mov (.t 0)⟩,
  ⟨some 12, some (10, false), .bin .eql (.t 11) (.c (.str [46, 46]))⟩,
  ⟨some 13, none, .pick (.t 10) (.c (.bool true)) (.t 12)⟩,
  ⟨some 14, none, .mov (.t 13)⟩,
  ⟨some 15, some (14, false), .mov (.t 0)⟩,
  ⟨some 16, some (14, false), .call false (.c (.func 230 [])) [.t 15, .c (.str [47])]⟩,
  ⟨some 17, none, .pick (.t 14) (.c (.bool true)) (.t 16)⟩,
  ⟨some 18, none, .mov (.t 17)⟩,
  ⟨some 19, some (18, false), .mov (.t 0)⟩,
  ⟨some 20, some (18, false), .call false (.c (.func 230 [])) [.t 19, .c (.str [0])]⟩,
  ⟨some 21, none, .pick (.t 18) (.c (.bool true)) (.t 20)⟩,
  ⟨some 3, none, .mov (.t 21)⟩]
abbrev r167_3 : List SOper := [
  ⟨some 2, none, .mov (.c (.int .i64 22))⟩]
abbrev c167_4 : SC := .seq (.ops r167_3) (.ret)
abbrev r167_5 : List SOper := [
  ⟨some 23, none, .mov (.t 0)⟩,
  ⟨some 24, none, .len 0 (.t 23)⟩,
  ⟨some 25, none, .bin .gtr (.t 24) (.c (.int .i64 16))⟩,
  ⟨some 22, none, .mov (.t 25)⟩]
abbrev r167_6 : List SOper := [
  ⟨some 2, none, .mov (.c (.int .i64 36))⟩]
abbrev c167_7 : SC := .seq (.ops r167_6) (.ret)
abbrev c167_8 : SC := .cond (.t 22) c167_7 (.skip)
abbrev c167_9 : SC := .seq (.ops r167_5) c167_8
abbrev c167_10 : SC := .cond (.t 3) c167_4 c167_9
abbrev c167_11 : SC := .seq (.ops r167_2) c167_10
abbrev c167_12 : SC := .block 0 [] [] c167_11
abbrev r167_13 : List SOper := [
  ⟨some 2, none, .mov (.c (.int .i64 0))⟩]
abbrev c167_14 : SC := .seq (.ops r167_13) (.ret)
abbrev c167_15 : SC := .seq c167_12 c167_14
abbrev c167_16 : SC := .seq (.ops r167_1) c167_15
def s167 : SF := ⟨[.t 2], c167_16, false, none, none⟩
end Go.Vm.Tryz
end
