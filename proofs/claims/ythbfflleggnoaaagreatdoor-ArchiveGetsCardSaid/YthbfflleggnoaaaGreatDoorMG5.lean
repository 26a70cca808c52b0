/- The functions as the VM's code. The functions that are gone through. The code is the program's. The program's data as Lean data, and as the VM's values. Numbers with a point, by their bits: is one none, is one nought. The bytes of an inode, as lists. Numbers as bytes. Bits of 64. Times: both the program's functions and the document's answer the same. The arguments' shapes, as data. -/
import Derived.Test.YthbfflleggnoaaaGreatDoorMG0
import Derived.Test.YthbfflleggnoaaaGreatDoorMG1
import Derived.Test.YthbfflleggnoaaaGreatDoorMG2
import Derived.Test.YthbfflleggnoaaaGreatDoorMG3
import Derived.Test.YthbfflleggnoaaaGreatDoorMG4
import Derived.KernelRfl
import Derived.Test.YthbfflleggnoaaaGreatDoorProg
section
set_option linter.unusedVariables false
set_option linter.unusedSimpArgs false
namespace Go.Vm.Tryz
open Go Go.Vm
/-! crannog/view.step -/
abbrev r168_1 : List SOper := [
  ⟨some 4, none, .boxH none (.t 1)⟩,
  ⟨some 5, none, .boxH none (.t 2)⟩,
  ⟨some 6, none, .allocL [.int .i64 0, .int .i64 0, .int .i64 0, .int .i64 0, .int .i64 0, .int .i64 0, .str [], .bool false]⟩,
  ⟨some 7, none, .mov (.c (.bool false))⟩]
abbrev r168_2 : List SOper := [
  ⟨some 9, none, .load false true 2 (.t 4)⟩,
  ⟨some 10, none, .build [.int .i64 0, .int .i64 0] []⟩,
  ⟨some 11, none, .cmpA false [.int .i64, .int .i64] (.t 9) (.t 10)⟩,
  ⟨some 12, none, .mov (.t 11)⟩,
  ⟨some 13, some (12, true), .load false false 1 (.t 5)⟩,
  ⟨some 14, some (12, true), .bin .eql (.t 13) (.c (.str [46, 108, 111, 115, 116]))⟩,
  ⟨some 15, none, .pick (.t 12) (.t 14) (.c (.bool false))⟩]
abbrev r168_3 : List SOper := [
  ⟨some 16, none, .call false (.c (.func 127 [])) []⟩,
  ⟨some 17, none, .build [.int .i64 0, .int .i64 0, .int .i64 0, .int .i64 0, .int .i64 0, .int .i64 0, .str [], .bool false] [(2, 2, .t 16), (6, 1, .c (.str [46, 108, 111, 115, 116]))]⟩,
  ⟨none, none, .store 8 (.t 6) (.t 17)⟩,
  ⟨some 7, none, .mov (.c (.bool true))⟩]
abbrev c168_4 : SC := .seq (.ops r168_3) (.ret)
abbrev c168_5 : SC := .cond (.t 15) c168_4 (.skip)
abbrev c168_6 : SC := .seq (.ops r168_2) c168_5
abbrev r168_7 : List SOper := [
  ⟨some 18, none, .mov (.t 0)⟩,
  ⟨some 19, none, .mkfn 231 [.t 4, .t 5]⟩,
  ⟨some 20, none, .call false (.c (.func 205 [])) [.t 18, .t 19]⟩,
  ⟨some 8, none, .mov (.t 20)⟩]
abbrev r168_8 : List SOper := [
  ⟨some 21, none, .mov (.t 8)⟩,
  ⟨some 22, none, .bin .lss (.t 21) (.c (.int .i64 0))⟩]
abbrev r168_9 : List SOper := [
  ⟨some 23, none, .build [.int .i64 0, .int .i64 0, .int .i64 0, .int .i64 0, .int .i64 0, .int .i64 0, .str [], .bool false] []⟩,
  ⟨none, none, .store 8 (.t 6) (.t 23)⟩,
  ⟨some 7, none, .mov (.c (.bool false))⟩]
abbrev c168_10 : SC := .seq (.ops r168_9) (.ret)
abbrev c168_11 : SC := .cond (.t 22) c168_10 (.skip)
abbrev c168_12 : SC := .seq (.ops r168_8) c168_11
abbrev r168_13 : List SOper := [
  ⟨some 24, none, .mov (.t 0)⟩,
  ⟨some 25, none, .mov (.t 8)⟩,
  ⟨some 26, none, .iaddr none 8 (.t 24) (.t 25)⟩,
  ⟨some 27, none, .load false true 8 (.t 26)⟩,
  ⟨none, none, .store 8 (.t 6) (.t 27)⟩,
  ⟨some 7, none, .mov (.c (.bool true))⟩]
abbrev c168_14 : SC := .seq (.ops r168_13) (.ret)
abbrev c168_15 : SC := .seq c168_12 c168_14
abbrev c168_16 : SC := .seq (.ops r168_7) c168_15
abbrev c168_17 : SC := .seq c168_6 c168_16
abbrev c168_18 : SC := .seq (.ops r168_1) c168_17
def s168 : SF := ⟨[.c 6 true 8, .t 7], c168_18, false, none, none⟩
/-! crannog/view.In -/
abbrev r169_1 : List SOper := [
  ⟨some 3, none, .boxL (.t 1)⟩,
  ⟨some 4, none, .mov (.c (.nils))⟩]
abbrev r169_2 : List SOper := [
  ⟨some 5, none, .mov (.c (.nils))⟩]
abbrev r169_3 : List SOper := [
  ⟨some 8, none, .mov (.t 0)⟩,
  ⟨some 9, none, .len 1 (.t 8)⟩,
  ⟨some 10, none, .mov (.c (.int .i64 0))⟩]
abbrev r169_4 : List SOper := [
  ⟨some 11, none, .bin .lss (.t 10) (.t 9)⟩]
abbrev c169_5 : SC := .cond (.t 11) (.skip) (.exit 0)
abbrev r169_6 : List SOper := [
  ⟨some 12, none, .iaddr none 8 (.t 8) (.t 10)⟩,
  ⟨some 13, none, .load false true 8 (.t 12)⟩,
  ⟨some 7, none, .allocL [.int .i64 0, .int .i64 0, .int .i64 0, .int .i64 0, .int .i64 0, .int .i64 0, .str [], .bool false]⟩,
  ⟨none, none, .store 8 (.t 7) (.t 13)⟩]
abbrev r169_7 : List SOper := [
  ⟨some 14, none, .faddr 4 (.t 7)⟩,
  ⟨some 15, none, .load false true 2 (.t 14)⟩,
  ⟨some 16, none, .load false true 2 (.t 3)⟩,
  ⟨some 17, none, .cmpA false [.int .i64, .int .i64] (.t 15) (.t 16)⟩]
abbrev r169_8 : List SOper := [
  ⟨some 18, none, .mov (.t 5)⟩,
  ⟨some 19, none, .load false true 8 (.t 7)⟩,
  ⟨some 20, none, .bsnap 8 [.t 19]⟩,
  ⟨some 21, none, .append 8 72 (.t 18) (.t 20)⟩,
  ⟨some 5, none, .mov (.t 21)⟩]
abbrev c169_9 : SC := .cond (.t 17) (.ops r169_8) (.skip)
abbrev c169_10 : SC := .seq (.ops r169_7) c169_9
abbrev c169_11 : SC := .seq (.ops r169_6) c169_10
abbrev c169_12 : SC := .block 1 [3, 5, 8, 9, 10] [3] c169_11
abbrev r169_13 : List SOper := [
  ⟨some 22, none, .bin .add (.t 10) (.c (.int .i64 1))⟩,
  ⟨some 10, none, .mov (.t 22)⟩]
abbrev c169_14 : SC := .seq c169_12 (.ops r169_13)
abbrev c169_15 : SC := .seq c169_5 c169_14
abbrev c169_16 : SC := .seq (.ops r169_4) c169_15
abbrev L169_1 : SC := .loop [3, 5, 8, 9, 10] [3] c169_16
abbrev c169_17 : SC := .block 0 [5] [] L169_1
abbrev c169_18 : SC := .seq (.ops r169_3) c169_17
abbrev r169_19 : List SOper := [
  ⟨some 23, none, .mov (.t 5)⟩,
  ⟨some 4, none, .mov (.t 23)⟩]
abbrev c169_20 : SC := .seq (.ops r169_19) (.ret)
abbrev c169_21 : SC := .seq c169_18 c169_20
abbrev c169_22 : SC := .seq (.ops r169_2) c169_21
abbrev c169_23 : SC := .seq (.ops r169_1) c169_22
def s169 : SF := ⟨[.t 4], c169_23, true, none, none⟩
/-! crannog/crc.More -/
abbrev r171_1 : List SOper := [
  ⟨some 4, none, .mov (.c (.int .u64 0))⟩]
abbrev r171_2 : List SOper := [
  ⟨some 8, none, .mov (.t 0)⟩,
  ⟨some 9, none, .un .xor (.t 8)⟩,
  ⟨some 5, none, .mov (.t 9)⟩]
abbrev r171_3 : List SOper := [
  ⟨some 10, none, .mov (.t 1)⟩,
  ⟨some 11, none, .len 0 (.t 10)⟩,
  ⟨some 12, none, .mov (.c (.int .i64 0))⟩]
abbrev r171_4 : List SOper := [
  ⟨some 13, none, .bin .lss (.t 12) (.t 11)⟩]
abbrev c171_5 : SC := .cond (.t 13) (.skip) (.exit 0)
abbrev r171_6 : List SOper := [
  ⟨some 14, none, .mov (.t 12)⟩,
  ⟨some 6, none, .mov (.t 14)⟩]
abbrev r171_7 : List SOper := [
  ⟨some 15, none, .mov (.t 5)⟩,
  ⟨some 16, none, .mov (.t 1)⟩,
  ⟨some 17, none, .mov (.t 6)⟩,
  ⟨some 18, none, .index none (.t 16) (.t 17)⟩,
  ⟨some 19, none, .cvI .u64 (.t 18)⟩,
  ⟨some 20, none, .bin .xor (.t 15) (.t 19)⟩,
  ⟨some 5, none, .mov (.t 20)⟩]
abbrev r171_8 : List SOper := [
  ⟨some 21, none, .mov (.c (.int .i64 0))⟩]
abbrev r171_9 : List SOper := [
  ⟨some 22, none, .bin .lss (.t 21) (.c (.int .i64 8))⟩]
abbrev c171_10 : SC := .cond (.t 22) (.skip) (.exit 2)
abbrev r171_11 : List SOper := [
  ⟨some 23, none, .mov (.t 5)⟩,
  ⟨some 24, none, .bin .and (.t 23) (.c (.int .u64 1))⟩,
  ⟨some 7, none, .mov (.t 24)⟩]
abbrev r171_12 : List SOper := [
  ⟨some 25, none, .mov (.t 5)⟩,
  ⟨some 26, none, .bin .shr (.t 25) (.c (.int .u64 1))⟩,
  ⟨some 27, none, .mov (.t 7)⟩,
  ⟨some 28, none, .un .neg (.t 27)⟩,
  ⟨some 29, none, .bin .and (.c (.int .u64 14514072000185962306)) (.t 28)⟩,
  ⟨some 30, none, .bin .xor (.t 26) (.t 29)⟩,
  ⟨some 5, none, .mov (.t 30)⟩]
abbrev c171_13 : SC := .seq (.ops r171_11) (.ops r171_12)
abbrev c171_14 : SC := .block 3 [1, 5, 11, 12, 21] [] c171_13
abbrev r171_15 : List SOper := [
  ⟨some 31, none, .bin .add (.t 21) (.c (.int .i64 1))⟩,
  ⟨some 21, none, .mov (.t 31)⟩]
abbrev c171_16 : SC := .seq c171_14 (.ops r171_15)
abbrev c171_17 : SC := .seq c171_10 c171_16
abbrev c171_18 : SC := .seq (.ops r171_9) c171_17
abbrev L171_1 : SC := .loop [1, 5, 11, 12, 21] [] c171_18
abbrev c171_19 : SC := .block 2 [1, 5, 11, 12] [] L171_1
abbrev c171_20 : SC := .seq (.ops r171_8) c171_19
abbrev c171_21 : SC := .seq (.ops r171_7) c171_20
abbrev c171_22 : SC := .seq (.ops r171_6) c171_21
abbrev c171_23 : SC := .block 1 [1, 5, 11, 12] [] c171_22
abbrev r171_24 : List SOper := [
  ⟨some 32, none, .bin .add (.t 12) (.c (.int .i64 1))⟩,
  ⟨some 12, none, .mov (.t 32)⟩]
abbrev c171_25 : SC := .seq c171_23 (.ops r171_24)
abbrev c171_26 : SC := .seq c171_5 c171_25
abbrev c171_27 : SC := .seq (.ops r171_4) c171_26
abbrev L171_2 : SC := .loop [1, 5, 11, 12] [] c171_27
abbrev c171_28 : SC := .block 0 [5] [] L171_2
abbrev c171_29 : SC := .seq (.ops r171_3) c171_28
abbrev r171_30 : List SOper := [
  ⟨some 33, none, .mov (.t 5)⟩,
  ⟨some 34, none, .un .xor (.t 33)⟩,
  ⟨some 4, none, .mov (.t 34)⟩]
abbrev c171_31 : SC := .seq (.ops r171_30) (.ret)
abbrev c171_32 : SC := .seq c171_29 c171_31
abbrev c171_33 : SC := .seq (.ops r171_2) c171_32
abbrev c171_34 : SC := .seq (.ops r171_1) c171_33
def s171 : SF := ⟨[.t 4], c171_34, false, none, none⟩
/-! crannog/crannogref03.More -/
abbrev r172_1 : List SOper := [
  ⟨some 4, none, .mov (.c (.int .u64 0))⟩]
abbrev r172_2 : List SOper := [
  ⟨some 8, none, .mov (.t 0)⟩,
  ⟨some 9, none, .bin .sub (.c (.int .u64 18446744073709551615)) (.t 8)⟩,
  ⟨some 5, none, .mov (.t 9)⟩]
abbrev r172_3 : List SOper := [
  ⟨some 10, none, .mov (.t 1)⟩,
  ⟨some 11, none, .len 0 (.t 10)⟩,
  ⟨some 12, none, .mov (.c (.int .i64 0))⟩]
abbrev r172_4 : List SOper := [
  ⟨some 13, none, .bin .lss (.t 12) (.t 11)⟩]
abbrev c172_5 : SC := .cond (.t 13) (.skip) (.exit 0)
abbrev r172_6 : List SOper := [
  ⟨some 14, none, .mov (.t 12)⟩,
  ⟨some 6, none, .mov (.t 14)⟩]
abbrev r172_7 : List SOper := [
  ⟨some 15, none, .mov (.t 5)⟩,
  ⟨some 16, none, .mov (.t 1)⟩,
  ⟨some 17, none, .mov (.t 6)⟩,
  ⟨some 18, none, .index none (.t 16) (.t 17)⟩,
  ⟨some 19, none, .cvI .u64 (.t 18)⟩,
  ⟨some 20, none, .bin .xor (.t 15) (.t 19)⟩,
  ⟨some 5, none, .mov (.t 20)⟩]
abbrev r172_8 : List SOper := [
  ⟨some 21, none, .mov (.c (.int .i64 0))⟩]
abbrev r172_9 : List SOper := [
  ⟨some 22, none, .bin .lss (.t 21) (.c (.int .i64 8))⟩]
abbrev c172_10 : SC := .cond (.t 22) (.skip) (.exit 2)
abbrev r172_11 : List SOper := [
  ⟨some 23, none, .mov (.t 5)⟩,
  ⟨some 24, none, .bin .rem (.t 23) (.c (.int .u64 2))⟩,
  ⟨some 25, none, .bin .eql (.t 24) (.c (.int .u64 1))⟩,
  ⟨some 7, none, .mov (.t 25)⟩]
abbrev r172_12 : List SOper := [
  ⟨some 26, none, .mov (.t 5)⟩,
  ⟨some 27, none, .bin .quo (.t 26) (.c (.int .u64 2))⟩,
  ⟨some 5, none, .mov (.t 27)⟩]
abbrev r172_13 : List SOper := [
  ⟨some 28, none, .mov (.t 7)⟩]
abbrev r172_14 : List SOper := [
  ⟨some 29, none, .mov (.t 5)⟩,
  ⟨some 30, none, .bin .xor (.t 29) (.c (.int .u64 14514072000185962306))⟩,
  ⟨some 5, none, .mov (.t 30)⟩]
abbrev c172_15 : SC := .cond (.t 28) (.ops r172_14) (.skip)
abbrev c172_16 : SC := .seq (.ops r172_13) c172_15
abbrev c172_17 : SC := .seq (.ops r172_12) c172_16
abbrev c172_18 : SC := .seq (.ops r172_11) c172_17
abbrev c172_19 : SC := .block 3 [1, 5, 11, 12, 21] [] c172_18
abbrev r172_20 : List SOper := [
  ⟨some 31, none, .bin .add (.t 21) (.c (.int .i64 1))⟩,
  ⟨some 21, none, .mov (.t 31)⟩]
abbrev c172_21 : SC := .seq c172_19 (.ops r172_20)
abbrev c172_22 : SC := .seq c172_10 c172_21
abbrev c172_23 : SC := .seq (.ops r172_9) c172_22
abbrev L172_1 : SC := .loop [1, 5, 11, 12, 21] [] c172_23
abbrev c172_24 : SC := .block 2 [1, 5, 11, 12] [] L172_1
abbrev c172_25 : SC := .seq (.ops r172_8) c172_24
abbrev c172_26 : SC := .seq (.ops r172_7) c172_25
abbrev c172_27 : SC := .seq (.ops r172_6) c172_26
abbrev c172_28 : SC := .block 1 [1, 5, 11, 12] [] c172_27
abbrev r172_29 : List SOper := [
  ⟨some 32, none, .bin .add (.t 12) (.c (.int .i64 1))⟩,
  ⟨some 12, none, .mov (.t 32)⟩]
abbrev c172_30 : SC := .seq c172_28 (.ops r172_29)
abbrev c172_31 : SC := .seq c172_5 c172_30
abbrev c172_32 : SC := .seq (.ops r172_4) c172_31
abbrev L172_2 : SC := .loop [1, 5, 11, 12] [] c172_32
abbrev c172_33 : SC := .block 0 [5] [] L172_2
abbrev c172_34 : SC := .seq (.ops r172_3) c172_33
abbrev r172_35 : List SOper := [
  ⟨some 33, none, .mov (.t 5)⟩,
  ⟨some 34, none, .bin .sub (.c (.int .u64 18446744073709551615)) (.t 33)⟩,
  ⟨some 4, none, .mov (.t 34)⟩]
abbrev c172_36 : SC := .seq (.ops r172_35) (.ret)
abbrev c172_37 : SC := .seq c172_34 c172_36
abbrev c172_38 : SC := .seq (.ops r172_2) c172_37
abbrev c172_39 : SC := .seq (.ops r172_1) c172_38
def s172 : SF := ⟨[.t 4], c172_39, false, none, none⟩
/-! (*crannog/facts.maker).known -/
abbrev r180_1 : List SOper := [
  ⟨some 3, none, .boxL (.t 1)⟩,
  ⟨some 4, none, .mov (.c (.bool false))⟩]
abbrev r180_2 : List SOper := [
  ⟨some 5, none, .mov (.t 0)⟩,
  ⟨some 6, none, .nilck (.t 5)⟩,
  ⟨some 7, none, .faddr 0 (.t 6)⟩,
  ⟨some 8, none, .faddr 0 (.t 7)⟩,
  ⟨some 9, none, .load false true 8 (.t 8)⟩,
  ⟨some 10, none, .load false true 2 (.t 3)⟩,
  ⟨some 11, none, .call false (.c (.func 184 [])) [.t 9, .t 10]⟩,
  ⟨some 4, none, .mov (.t 11)⟩]
abbrev c180_3 : SC := .seq (.draw 0 [[], [0], [1], [2], [3], [], [4, 5], [6]] r180_2) (.ret)
abbrev c180_4 : SC := .seq (.ops r180_1) c180_3
def s180 : SF := ⟨[.t 4], c180_4, false, none, none⟩
/-! (*crannog/facts.maker).attr -/
abbrev r181_1 : List SOper := [
  ⟨some 3, none, .boxL (.t 1)⟩,
  ⟨some 4, none, .mov (.c (.bool false))⟩]
abbrev r181_2 : List SOper := [
  ⟨some 6, none, .faddr 0 (.t 3)⟩,
  ⟨some 7, none, .load false true 2 (.t 6)⟩,
  ⟨some 8, none, .build [.int .i64 0, .int .i64 0] []⟩,
  ⟨some 9, none, .cmpA false [.int .i64, .int .i64] (.t 7) (.t 8)⟩,
  ⟨some 5, none, .mov (.t 9)⟩]
abbrev r181_3 : List SOper := [
  ⟨some 10, none, .faddr 4 (.t 3)⟩,
  ⟨some 11, none, .faddr 2 (.t 10)⟩,
  ⟨some 12, none, .load false false 1 (.t 11)⟩,
  ⟨some 13, none, .bin .geq (.t 12) (.c (.int .i64 0))⟩,
  ⟨some 14, none, .mov (.t 13)⟩,
  ⟨some 15, some (14, true), .faddr 4 (.t 3)⟩,
  ⟨some 16, some (14, true), .faddr 2 (.t 15)⟩,
  ⟨some 17, some (14, true), .load false false 1 (.t 16)⟩,
  ⟨some 18, some (14, true), .bin .leq (.t 17) (.c (.int .i64 511))⟩,
  ⟨some 19, none, .pick (.t 14) (.t 18) (.c (.bool false))⟩,
  ⟨some 20, none, .mov (.t 19)⟩,
  ⟨some 21, some (20, true), .faddr 4 (.t 3)⟩,
  ⟨some 22, some (20, true), .faddr 3 (.t 21)⟩,
  ⟨some 23, some (20, true), .load false false 1 (.t 22)⟩,
  ⟨some 24, some (20, true), .call false (.c (.func 89 [])) [.t 23]⟩,
  ⟨some 25, none, .pick (.t 20) (.t 24) (.c (.bool false))⟩,
  ⟨some 26, none, .mov (.t 25)⟩,
  ⟨some 27, some (26, true), .mov (.t 0)⟩,
  ⟨some 28, some (26, true), .faddr 4 (.t 3)⟩,
  ⟨some 29, some (26, true), .faddr 0 (.t 28)⟩,
  ⟨some 30, some (26, true), .load false true 2 (.t 29)⟩,
  ⟨some 31, some (26, true), .call false (.c (.func 180 [])) [.t 27, .t 30]⟩,
  ⟨some 32, some (26, true), .mov (.t 31)⟩,
  ⟨some 33, some (32, false), .mov (.t 5)⟩,
  ⟨some 34, some (32, false), .mov (.t 33)⟩,
  ⟨some 35, some (34, true), .faddr 4 (.t 3)⟩,
  ⟨some 36, some (34, true), .faddr 0 (.t 35)⟩,
  ⟨some 37, some (34, true), .load false true 2 (.t 36)⟩,
  ⟨some 38, some (34, true), .build [.int .i64 0, .int .i64 0] []⟩,
  ⟨some 39, some (34, true), .cmpA false [.int .i64, .int .i64] (.t 37) (.t 38)⟩,
  ⟨some 40, some (32, false), .pick (.t 34) (.t 39) (.c (.bool false))⟩,
  ⟨some 41, some (26, true), .pick (.t 32) (.c (.bool true)) (.t 40)⟩,
  ⟨some 42, none, .pick (.t 26) (.t 41) (.c (.bool false))⟩,
  ⟨some 4, none, .mov (.t 42)⟩]
abbrev c181_4 : SC := .seq (.ops r181_3) (.ret)
abbrev c181_5 : SC := .seq (.ops r181_2) c181_4
abbrev c181_6 : SC := .seq (.ops r181_1) c181_5
def s181 : SF := ⟨[.t 4], c181_6, false, none, none⟩
/-! (*crannog/facts.maker).body -/
abbrev r182_1 : List SOper := [
  ⟨some 3, none, .boxL (.t 1)⟩,
  ⟨some 4, none, .mov (.c (.bool false))⟩]
abbrev r182_2 : List SOper := [
  ⟨some 7, none, .faddr 2 (.t 3)⟩,
  ⟨some 8, none, .load false false 1 (.t 7)⟩,
  ⟨some 9, none, .bin .neq (.t 8) (.c (.int .i64 1))⟩]
abbrev r182_3 : List SOper := [
  ⟨some 10, none, .faddr 8 (.t 3)⟩,
  ⟨some 11, none, .load false true 3 (.t 10)⟩,
  ⟨some 12, none, .build [.int .i64 0, .int .i64 0, .int .i64 0] []⟩,
  ⟨some 13, none, .cmpA false [.int .i64, .int .i64, .int .i64] (.t 11) (.t 12)⟩,
  ⟨some 14, none, .mov (.t 13)⟩,
  ⟨some 15, some (14, true), .faddr 11 (.t 3)⟩,
  ⟨some 16, some (14, true), .load false false 1 (.t 15)⟩,
  ⟨some 17, some (14, true), .len 1 (.t 16)⟩,
  ⟨some 18, some (14, true), .bin .eql (.t 17) (.c (.int .i64 0))⟩,
  ⟨some 19, none, .pick (.t 14) (.t 18) (.c (.bool false))⟩,
  ⟨some 4, none, .mov (.t 19)⟩]
abbrev c182_4 : SC := .seq (.ops r182_3) (.ret)
abbrev c182_5 : SC := .cond (.t 9) c182_4 (.skip)
abbrev c182_6 : SC := .seq (.ops r182_2) c182_5
abbrev r182_7 : List SOper := [
  ⟨some 20, none, .mov (.t 0)⟩,
  ⟨some 21, none, .faddr 8 (.t 3)⟩,
  ⟨some 22, none, .faddr 0 (.t 21)⟩,
  ⟨some 23, none, .load false true 2 (.t 22)⟩,
  ⟨some 24, none, .call false (.c (.func 180 [])) [.t 20, .t 23]⟩,
  ⟨some 25, none, .un .not (.t 24)⟩,
  ⟨some 26, none, .mov (.t 25)⟩,
  ⟨some 27, some (26, false), .faddr 8 (.t 3)⟩,
  ⟨some 28, some (26, false), .faddr 2 (.t 27)⟩,
  ⟨some 29, some (26, false), .load false false 1 (.t 28)⟩,
  ⟨some 30, some (26, false), .bin .lss (.t 29) (.c (.int .i64 0))⟩,
  ⟨some 31, none, .pick (.t 26) (.c (.bool true)) (.t 30)⟩,
  ⟨some 32, none, .mov (.t 31)⟩,
  ⟨some 33, some (32, false), .faddr 8 (.t 3)⟩,
  ⟨some 34, some (32, false), .faddr 2 (.t 33)⟩,
  ⟨some 35, some (32, false), .load false false 1 (.t 34)⟩,
  ⟨some 36, some (32, false), .bin .gtr (.t 35) (.c (.int .i64 1024))⟩,
  ⟨some 37, none, .pick (.t 32) (.c (.bool true)) (.t 36)⟩,
  ⟨some 38, none, .mov (.t 37)⟩,
  ⟨some 39, some (38, false), .faddr 11 (.t 3)⟩,
  ⟨some 40, some (38, false), .load false false 1 (.t 39)⟩,
  ⟨some 41, some (38, false), .len 1 (.t 40)⟩,
  ⟨some 42, some (38, false), .bin .gtr (.t 41) (.c (.int .i64 16))⟩,
  ⟨some 43, none, .pick (.t 38) (.c (.bool true)) (.t 42)⟩]
abbrev r182_8 : List SOper := [
  ⟨some 4, none, .mov (.c (.bool false))⟩]
abbrev c182_9 : SC := .seq (.ops r182_8) (.ret)
abbrev c182_10 : SC := .cond (.t 43) c182_9 (.skip)
abbrev c182_11 : SC := .seq (.ops r182_7) c182_10
abbrev r182_12 : List SOper := [
  ⟨some 44, none, .faddr 11 (.t 3)⟩,
  ⟨some 45, none, .load false false 1 (.t 44)⟩,
  ⟨some 46, none, .len 1 (.t 45)⟩,
  ⟨some 47, none, .mov (.c (.int .i64 0))⟩]
abbrev r182_13 : List SOper := [
  ⟨some 48, none, .bin .lss (.t 47) (.t 46)⟩]
abbrev c182_14 : SC := .cond (.t 48) (.skip) (.exit 0)
abbrev r182_15 : List SOper := [
  ⟨some 49, none, .mov (.t 47)⟩,
  ⟨some 50, none, .iaddr none 4 (.t 45) (.t 47)⟩,
  ⟨some 51, none, .load false true 4 (.t 50)⟩,
  ⟨some 6, none, .allocL [.int .i64 0, .int .i64 0, .int .i64 0, .str []]⟩,
  ⟨some 5, none, .mov (.t 49)⟩,
  ⟨none, none, .store 4 (.t 6) (.t 51)⟩]
abbrev r182_16 : List SOper := [
  ⟨some 52, none, .faddr 0 (.t 6)⟩,
  ⟨some 53, none, .load false false 1 (.t 52)⟩,
  ⟨some 54, none, .bin .lss (.t 53) (.c (.int .i64 0))⟩,
  ⟨some 55, none, .mov (.t 54)⟩,
  ⟨some 56, some (55, false), .faddr 0 (.t 6)⟩,
  ⟨some 57, some (55, false), .load false false 1 (.t 56)⟩,
  ⟨some 58, some (55, false), .bin .geq (.t 57) (.c (.int .i64 16))⟩,
  ⟨some 59, none, .pick (.t 55) (.c (.bool true)) (.t 58)⟩,
  ⟨some 60, none, .mov (.t 59)⟩,
  ⟨some 61, some (60, false), .mov (.t 5)⟩,
  ⟨some 62, some (60, false), .bin .gtr (.t 61) (.c (.int .i64 0))⟩,
  ⟨some 63, some (60, false), .mov (.t 62)⟩,
  ⟨some 64, some (63, true), .faddr 0 (.t 6)⟩,
  ⟨some 65, some (63, true), .load false false 1 (.t 64)⟩,
  ⟨some 66, some (63, true), .faddr 11 (.t 3)⟩,
  ⟨some 67, some (63, true), .load false false 1 (.t 66)⟩,
  ⟨some 68, some (63, true), .mov (.t 5)⟩,
  ⟨some 69, some (63, true), .bin .sub (.t 68) (.c (.int .i64 1))⟩,
  ⟨some 70, some (63, true), .iaddr none 4 (.t 67) (.t 69)⟩,
  ⟨some 71, some (63, true), .faddr 0 (.t 70)⟩,
  ⟨some 72, some (63, true), .load false false 1 (.t 71)⟩,
  ⟨some 73, some (63, true), .bin .leq (.t 65) (.t 72)⟩,
  ⟨some 74, some (60, false), .pick (.t 63) (.t 73) (.c (.bool false))⟩,
  ⟨some 75, none, .pick (.t 60) (.c (.bool true)) (.t 74)⟩,
  ⟨some 76, none, .mov (.t 75)⟩,
  ⟨some 77, some (76, false), .faddr 3 (.t 6)⟩,
  ⟨some 78, some (76, false), .load false false 1 (.t 77)⟩,
  ⟨some 79, some (76, false), .len 0 (.t 78)⟩,
  ⟨some 80, some (76, false), .bin .gtr (.t 79) (.c (.int .i64 64))⟩,
  ⟨some 81, none, .pick (.t 76) (.c (.bool true)) (.t 80)⟩,
  ⟨some 82, none, .mov (.t 81)⟩,
  ⟨some 83, some (82, false), .mov (.t 0)⟩,
  ⟨some 84, some (82, false), .faddr 1 (.t 6)⟩,
  ⟨some 85, some (82, false), .load false true 2 (.t 84)⟩,
  ⟨some 86, some (82, false), .call false (.c (.func 180 [])) [.t 83, .t 85]⟩,
  ⟨some 87, some (82, false), .un .not (.t 86)⟩,
  ⟨some 88, none, .pick (.t 82) (.c (.bool true)) (.t 87)⟩]
abbrev r182_17 : List SOper := [
  ⟨some 4, none, .mov (.c (.bool false))⟩]
abbrev c182_18 : SC := .seq (.ops r182_17) (.ret)
abbrev c182_19 : SC := .cond (.t 88) c182_18 (.skip)
abbrev c182_20 : SC := .seq (.draw 0 [[], [0], [1], [2], [3], [4], [5], [6], [7], [8], [9], [10], [11], [12], [11], [14], [11], [16], [15, 17], [18], [19], [13, 20], [21], [22], [23], [24], [25], [26], [27], [28], [29], [30], [30], [32], [31, 33], [34], [35]] r182_16) c182_19
abbrev c182_21 : SC := .seq (.ops r182_15) c182_20
abbrev c182_22 : SC := .block 1 [0, 3, 45, 46, 47] [3] c182_21
abbrev r182_23 : List SOper := [
  ⟨some 89, none, .bin .add (.t 47) (.c (.int .i64 1))⟩,
  ⟨some 47, none, .mov (.t 89)⟩]
abbrev c182_24 : SC := .seq c182_22 (.ops r182_23)
abbrev c182_25 : SC := .seq c182_14 c182_24
abbrev c182_26 : SC := .seq (.ops r182_13) c182_25
abbrev L182_1 : SC := .loop [0, 3, 45, 46, 47] [3] c182_26
abbrev c182_27 : SC := .block 0 [] [] L182_1
abbrev c182_28 : SC := .seq (.ops r182_12) c182_27
abbrev r182_29 : List SOper := [
  ⟨some 4, none, .mov (.c (.bool true))⟩]
abbrev c182_30 : SC := .seq (.ops r182_29) (.ret)
abbrev c182_31 : SC := .seq c182_28 c182_30
abbrev c182_32 : SC := .seq c182_11 c182_31
abbrev c182_33 : SC := .seq c182_6 c182_32
abbrev c182_34 : SC := .seq (.ops r182_1) c182_33
def s182 : SF := ⟨[.t 4], c182_34, false, none, none⟩
/-! (*crannog/facts.maker).xattrs -/
abbrev r183_1 : List SOper := [
  ⟨some 3, none, .boxL (.t 1)⟩,
  ⟨some 4, none, .mov (.c (.bool false))⟩]
abbrev r183_2 : List SOper := [
  ⟨some 7, none, .faddr 12 (.t 3)⟩,
  ⟨some 8, none, .load false false 1 (.t 7)⟩,
  ⟨some 9, none, .len 1 (.t 8)⟩,
  ⟨some 10, none, .bin .gtr (.t 9) (.c (.int .i64 32))⟩]
abbrev r183_3 : List SOper := [
  ⟨some 4, none, .mov (.c (.bool false))⟩]
abbrev c183_4 : SC := .seq (.ops r183_3) (.ret)
abbrev c183_5 : SC := .cond (.t 10) c183_4 (.skip)
abbrev c183_6 : SC := .seq (.ops r183_2) c183_5
abbrev r183_7 : List SOper := [
  ⟨some 11, none, .faddr 12 (.t 3)⟩,
  ⟨some 12, none, .load false false 1 (.t 11)⟩,
  ⟨some 13, none, .len 1 (.t 12)⟩,
  ⟨some 14, none, .mov (.c (.int .i64 0))⟩]
abbrev r183_8 : List SOper := [
  ⟨some 15, none, .bin .lss (.t 14) (.t 13)⟩]
abbrev c183_9 : SC := .cond (.t 15) (.skip) (.exit 0)
abbrev r183_10 : List SOper := [
  ⟨some 16, none, .mov (.t 14)⟩,
  ⟨some 17, none, .iaddr none 5 (.t 12) (.t 14)⟩,
  ⟨some 18, none, .load false true 5 (.t 17)⟩,
  ⟨some 6, none, .allocL [.str [], .int .i64 0, .int .i64 0, .str [], .bool false]⟩,
  ⟨some 5, none, .mov (.t 16)⟩,
  ⟨none, none, .store 5 (.t 6) (.t 18)⟩]
abbrev r183_11 : List SOper := [
  ⟨some 19, none, .faddr 0 (.t 6)⟩,
  ⟨some 20, none, .load false false 1 (.t 19)⟩,
  ⟨some 21, none, .call false (.c (.func 167 [])) [.t 20]⟩,
  ⟨some 22, none, .bin .neq (.t 21) (.c (.int .i64 0))⟩,
  ⟨some 23, none, .mov (.t 22)⟩,
  ⟨some 24, some (23, false), .mov (.t 5)⟩,
  ⟨some 25, some (23, false), .bin .gtr (.t 24) (.c (.int .i64 0))⟩,
  ⟨some 26, some (23, false), .mov (.t 25)⟩,
  ⟨some 27, some (26, true), .faddr 0 (.t 6)⟩,
  ⟨some 28, some (26, true), .load false false 1 (.t 27)⟩,
  ⟨some 29, some (26, true), .faddr 12 (.t 3)⟩,
  ⟨some 30, some (26, true), .load false false 1 (.t 29)⟩,
  ⟨some 31, some (26, true), .mov (.t 5)⟩,
  ⟨some 32, some (26, true), .bin .sub (.t 31) (.c (.int .i64 1))⟩,
  ⟨some 33, some (26, true), .iaddr none 5 (.t 30) (.t 32)⟩,
  ⟨some 34, some (26, true), .faddr 0 (.t 33)⟩,
  ⟨some 35, some (26, true), .load false false 1 (.t 34)⟩,
  ⟨some 36, some (26, true), .bin .leq (.t 28) (.t 35)⟩,
  ⟨some 37, some (23, false), .pick (.t 26) (.t 36) (.c (.bool false))⟩,
  ⟨some 38, none, .pick (.t 23) (.c (.bool true)) (.t 37)⟩,
  ⟨some 39, none, .mov (.t 38)⟩,
  ⟨some 40, some (39, false), .faddr 3 (.t 6)⟩,
  ⟨some 41, some (39, false), .load false false 1 (.t 40)⟩,
  ⟨some 42, some (39, false), .len 0 (.t 41)⟩,
  ⟨some 43, some (39, false), .bin .gtr (.t 42) (.c (.int .i64 32))⟩,
  ⟨some 44, none, .pick (.t 39) (.c (.bool true)) (.t 43)⟩,
  ⟨some 45, none, .mov (.t 44)⟩,
  ⟨some 46, some (45, false), .faddr 4 (.t 6)⟩,
  ⟨some 47, some (45, false), .load false false 1 (.t 46)⟩,
  ⟨some 48, some (45, false), .mov (.t 47)⟩,
  ⟨some 49, some (48, true), .faddr 3 (.t 6)⟩,
  ⟨some 50, some (48, true), .load false false 1 (.t 49)⟩,
  ⟨some 51, some (48, true), .bin .neq (.t 50) (.c (.str []))⟩,
  ⟨some 52, some (45, false), .pick (.t 48) (.t 51) (.c (.bool false))⟩,
  ⟨some 53, none, .pick (.t 45) (.c (.bool true)) (.t 52)⟩,
  ⟨some 54, none, .mov (.t 53)⟩,
  ⟨some 55, some (54, false), .mov (.t 0)⟩,
  ⟨some 56, some (54, false), .faddr 1 (.t 6)⟩,
  ⟨some 57, some (54, false), .load false true 2 (.t 56)⟩,
  ⟨some 58, some (54, false), .call false (.c (.func 180 [])) [.t 55, .t 57]⟩,
  ⟨some 59, some (54, false), .un .not (.t 58)⟩,
  ⟨some 60, none, .pick (.t 54) (.c (.bool true)) (.t 59)⟩]
abbrev r183_12 : List SOper := [
  ⟨some 4, none, .mov (.c (.bool false))⟩]
abbrev c183_13 : SC := .seq (.ops r183_12) (.ret)
abbrev c183_14 : SC := .cond (.t 60) c183_13 (.skip)
abbrev c183_15 : SC := .seq (.draw 0 [[], [0], [1], [2], [3], [4], [5], [6], [7], [8], [7], [10], [7], [12], [11, 13], [14], [15], [9, 16], [17], [18], [19], [20], [21], [22], [23], [24], [25], [26], [27], [28], [29], [30], [31], [32], [33], [34], [35], [35], [37], [36, 38], [39], [40]] r183_11) c183_14
abbrev c183_16 : SC := .seq (.ops r183_10) c183_15
abbrev c183_17 : SC := .block 1 [0, 3, 12, 13, 14] [3] c183_16
abbrev r183_18 : List SOper := [
  ⟨some 61, none, .bin .add (.t 14) (.c (.int .i64 1))⟩,
  ⟨some 14, none, .mov (.t 61)⟩]
abbrev c183_19 : SC := .seq c183_17 (.ops r183_18)
abbrev c183_20 : SC := .seq c183_9 c183_19
abbrev c183_21 : SC := .seq (.ops r183_8) c183_20
abbrev L183_1 : SC := .loop [0, 3, 12, 13, 14] [3] c183_21
abbrev c183_22 : SC := .block 0 [] [] L183_1
abbrev c183_23 : SC := .seq (.ops r183_7) c183_22
abbrev r183_24 : List SOper := [
  ⟨some 4, none, .mov (.c (.bool true))⟩]
abbrev c183_25 : SC := .seq (.ops r183_24) (.ret)
abbrev c183_26 : SC := .seq c183_23 c183_25
abbrev c183_27 : SC := .seq c183_6 c183_26
abbrev c183_28 : SC := .seq (.ops r183_1) c183_27
def s183 : SF := ⟨[.t 4], c183_28, false, none, none⟩
/-! crannog/vector.Has -/
abbrev r184_1 : List SOper := [
  ⟨some 2, none, .boxL (.t 0)⟩,
  ⟨some 3, none, .boxL (.t 1)⟩,
  ⟨some 4, none, .mov (.c (.bool false))⟩]
abbrev r184_2 : List SOper := [
  ⟨some 5, none, .load false true 2 (.t 3)⟩,
  ⟨some 6, none, .call false (.c (.func 240 [])) [.t 5]⟩,
  ⟨some 7, none, .mov (.t 6)⟩,
  ⟨some 8, some (7, true), .faddr 1 (.t 3)⟩,
  ⟨some 9, some (7, true), .load false false 1 (.t 8)⟩,
  ⟨some 10, some (7, true), .iaddr (some 8) 1 (.t 2) (.t 9)⟩,
  ⟨some 11, some (7, true), .load false false 1 (.t 10)⟩,
  ⟨some 12, some (7, true), .faddr 0 (.t 3)⟩,
  ⟨some 13, some (7, true), .load false false 1 (.t 12)⟩,
  ⟨some 14, some (7, true), .bin .geq (.t 11) (.t 13)⟩,
  ⟨some 15, none, .pick (.t 7) (.t 14) (.c (.bool false))⟩,
  ⟨some 4, none, .mov (.t 15)⟩]
abbrev c184_3 : SC := .seq (.draw 0 [[], [0], [1], [2], [3], [4], [5], [2], [7], [6, 8], [9], [10]] r184_2) (.ret)
abbrev c184_4 : SC := .seq (.ops r184_1) c184_3
def s184 : SF := ⟨[.t 4], c184_4, false, none, none⟩
/-! crannog/vector.Within -/
abbrev r185_1 : List SOper := [
  ⟨some 2, none, .boxL (.t 0)⟩,
  ⟨some 3, none, .boxL (.t 1)⟩,
  ⟨some 4, none, .mov (.c (.bool false))⟩]
abbrev r185_2 : List SOper := [
  ⟨some 5, none, .load false true 8 (.t 2)⟩,
  ⟨some 6, none, .load false true 8 (.t 3)⟩,
  ⟨some 7, none, .call false (.c (.func 74 [])) [.t 5, .t 6]⟩,
  ⟨some 8, none, .loadA (.loc 3) true 8 (.t 3)⟩,
  ⟨some 9, none, .cmpA false [.int .i64, .int .i64, .int .i64, .int .i64, .int .i64, .int .i64, .int .i64, .int .i64] (.t 7) (.t 8)⟩,
  ⟨some 4, none, .mov (.t 9)⟩]
abbrev c185_3 : SC := .seq (.draw 0 [[], [], [0, 1], [], [2, 3], [4]] r185_2) (.ret)
abbrev c185_4 : SC := .seq (.ops r185_1) c185_3
def s185 : SF := ⟨[.t 4], c185_4, false, none, none⟩
/-! slices.pdqsortCmpFunc[crannog/api.Shown] -/
abbrev r188_1 : List SOper := [
  ⟨some 10, none, .mov (.c (.bool true))⟩]
abbrev r188_2 : List SOper := [
  ⟨some 11, none, .mov (.c (.bool true))⟩]
abbrev r188_3 : List SOper := [
  ⟨some 21, none, .mov (.t 2)⟩,
  ⟨some 22, none, .mov (.t 1)⟩,
  ⟨some 23, none, .bin .sub (.t 21) (.t 22)⟩,
  ⟨some 12, none, .mov (.t 23)⟩]
abbrev r188_4 : List SOper := [
  ⟨some 24, none, .mov (.t 12)⟩,
  ⟨some 25, none, .bin .leq (.t 24) (.c (.int .i64 12))⟩]
abbrev r188_5 : List SOper := [
  ⟨some 26, none, .mov (.t 0)⟩,
  ⟨some 27, none, .mov (.t 1)⟩,
  ⟨some 28, none, .mov (.t 2)⟩,
  ⟨some 29, none, .mov (.t 4)⟩,
  ⟨some 30, none, .call false (.c (.func 241 [])) [.t 26, .t 27, .t 28, .t 29]⟩]
abbrev c188_6 : SC := .seq (.ops r188_5) (.ret)
abbrev c188_7 : SC := .cond (.t 25) c188_6 (.skip)
abbrev c188_8 : SC := .seq (.ops r188_4) c188_7
abbrev r188_9 : List SOper := [
  ⟨some 31, none, .mov (.t 3)⟩,
  ⟨some 32, none, .bin .eql (.t 31) (.c (.int .i64 0))⟩]
abbrev r188_10 : List SOper := [
  ⟨some 33, none, .mov (.t 0)⟩,
  ⟨some 34, none, .mov (.t 1)⟩,
  ⟨some 35, none, .mov (.t 2)⟩,
  ⟨some 36, none, .mov (.t 4)⟩,
  ⟨some 37, none, .call false (.c (.func 242 [])) [.t 33, .t 34, .t 35, .t 36]⟩]
abbrev c188_11 : SC := .seq (.ops r188_10) (.ret)
abbrev c188_12 : SC := .cond (.t 32) c188_11 (.skip)
abbrev c188_13 : SC := .seq (.ops r188_9) c188_12
abbrev r188_14 : List SOper := [
  ⟨some 38, none, .mov (.t 10)⟩,
  ⟨some 39, none, .un .not (.t 38)⟩]
abbrev r188_15 : List SOper := [
  ⟨some 40, none, .mov (.t 0)⟩,
  ⟨some 41, none, .mov (.t 1)⟩,
  ⟨some 42, none, .mov (.t 2)⟩,
  ⟨some 43, none, .mov (.t 4)⟩,
  ⟨some 44, none, .call false (.c (.func 243 [])) [.t 40, .t 41, .t 42, .t 43]⟩]
abbrev r188_16 : List SOper := [
  ⟨some 45, none, .mov (.t 3)⟩,
  ⟨some 46, none, .bin .sub (.t 45) (.c (.int .i64 1))⟩,
  ⟨some 3, none, .mov (.t 46)⟩]
abbrev c188_17 : SC := .seq (.ops r188_15) (.ops r188_16)
abbrev c188_18 : SC := .cond (.t 39) c188_17 (.skip)
abbrev c188_19 : SC := .seq (.ops r188_14) c188_18
abbrev r188_20 : List SOper := [
  ⟨some 48, none, .mov (.t 0)⟩,
  ⟨some 49, none, .mov (.t 1)⟩,
  ⟨some 50, none, .mov (.t 2)⟩,
  ⟨some 51, none, .mov (.t 4)⟩,
  ⟨some 52, none, .call false (.c (.func 244 [])) [.t 48, .t 49, .t 50, .t 51]⟩,
  ⟨some 47, none, .mov (.t 52)⟩,
  ⟨some 53, none, .extract (.t 47) 0⟩,
  ⟨some 54, none, .extract (.t 47) 1⟩,
  ⟨some 13, none, .mov (.t 53)⟩,
  ⟨some 14, none, .mov (.t 54)⟩]
abbrev r188_21 : List SOper := [
  ⟨some 55, none, .mov (.t 14)⟩,
  ⟨some 56, none, .bin .eql (.t 55) (.c (.int .i64 2))⟩]
abbrev r188_22 : List SOper := [
  ⟨some 57, none, .mov (.t 0)⟩,
  ⟨some 58, none, .mov (.t 1)⟩,
  ⟨some 59, none, .mov (.t 2)⟩,
  ⟨some 60, none, .mov (.t 4)⟩,
  ⟨some 61, none, .call false (.c (.func 245 [])) [.t 57, .t 58, .t 59, .t 60]⟩]
abbrev r188_23 : List SOper := [
  ⟨some 62, none, .mov (.t 2)⟩,
  ⟨some 63, none, .bin .sub (.t 62) (.c (.int .i64 1))⟩,
  ⟨some 64, none, .mov (.t 13)⟩,
  ⟨some 65, none, .mov (.t 1)⟩,
  ⟨some 66, none, .bin .sub (.t 64) (.t 65)⟩,
  ⟨some 67, none, .bin .sub (.t 63) (.t 66)⟩,
  ⟨some 13, none, .mov (.t 67)⟩]
abbrev r188_24 : List SOper := [
  ⟨some 14, none, .mov (.c (.int .i64 1))⟩]
abbrev c188_25 : SC := .seq (.ops r188_23) (.ops r188_24)
abbrev c188_26 : SC := .seq (.ops r188_22) c188_25
abbrev c188_27 : SC := .cond (.t 56) c188_26 (.skip)
abbrev c188_28 : SC := .seq (.ops r188_21) c188_27
abbrev r188_29 : List SOper := [
  ⟨some 68, none, .mov (.t 10)⟩,
  ⟨some 69, none, .mov (.t 68)⟩,
  ⟨some 70, some (69, true), .mov (.t 11)⟩,
  ⟨some 71, none, .pick (.t 69) (.t 70) (.c (.bool false))⟩,
  ⟨some 72, none, .mov (.t 71)⟩,
  ⟨some 73, some (72, true), .mov (.t 14)⟩,
  ⟨some 74, some (72, true), .bin .eql (.t 73) (.c (.int .i64 1))⟩,
  ⟨some 75, none, .pick (.t 72) (.t 74) (.c (.bool false))⟩]
abbrev r188_30 : List SOper := [
  ⟨some 76, none, .mov (.t 0)⟩,
  ⟨some 77, none, .mov (.t 1)⟩,
  ⟨some 78, none, .mov (.t 2)⟩,
  ⟨some 79, none, .mov (.t 4)⟩,
  ⟨some 80, none, .call false (.c (.func 246 [])) [.t 76, .t 77, .t 78, .t 79]⟩]
abbrev c188_31 : SC := .cond (.t 80) (.ret) (.skip)
abbrev c188_32 : SC := .seq (.ops r188_30) c188_31
abbrev c188_33 : SC := .cond (.t 75) c188_32 (.skip)
abbrev c188_34 : SC := .seq (.ops r188_29) c188_33
abbrev r188_35 : List SOper := [
  ⟨some 81, none, .mov (.t 1)⟩,
  ⟨some 82, none, .bin .gtr (.t 81) (.c (.int .i64 0))⟩,
  ⟨some 83, none, .mov (.t 82)⟩,
  ⟨some 84, some (83, true), .mov (.t 4)⟩,
  ⟨some 85, some (83, true), .mov (.t 0)⟩,
  ⟨some 86, some (83, true), .mov (.t 1)⟩,
  ⟨some 87, some (83, true), .bin .sub (.t 86) (.c (.int .i64 1))⟩,
  ⟨some 88, some (83, true), .iaddr none 8 (.t 85) (.t 87)⟩,
  ⟨some 89, some (83, true), .load false true 8 (.t 88)⟩,
  ⟨some 90, some (83, true), .mov (.t 0)⟩,
  ⟨some 91, some (83, true), .mov (.t 13)⟩,
  ⟨some 92, some (83, true), .iaddr none 8 (.t 90) (.t 91)⟩,
  ⟨some 93, some (83, true), .load false true 8 (.t 92)⟩,
  ⟨some 94, some (83, true), .call false (.t 84) [.t 89, .t 93]⟩,
  ⟨some 95, some (83, true), .bin .lss (.t 94) (.c (.int .i64 0))⟩,
  ⟨some 96, some (83, true), .un .not (.t 95)⟩,
  ⟨some 97, none, .pick (.t 83) (.t 96) (.c (.bool false))⟩]
abbrev r188_36 : List SOper := [
  ⟨some 98, none, .mov (.t 0)⟩,
  ⟨some 99, none, .mov (.t 1)⟩,
  ⟨some 100, none, .mov (.t 2)⟩,
  ⟨some 101, none, .mov (.t 13)⟩,
  ⟨some 102, none, .mov (.t 4)⟩,
  ⟨some 103, none, .call false (.c (.func 247 [])) [.t 98, .t 99, .t 100, .t 101, .t 102]⟩,
  ⟨some 15, none, .mov (.t 103)⟩]
abbrev r188_37 : List SOper := [
  ⟨some 104, none, .mov (.t 15)⟩,
  ⟨some 1, none, .mov (.t 104)⟩]
abbrev c188_38 : SC := .seq (.ops r188_37) (.exit 1)
abbrev c188_39 : SC := .seq (.ops r188_36) c188_38
abbrev c188_40 : SC := .cond (.t 97) c188_39 (.skip)
abbrev c188_41 : SC := .seq (.draw 0 [[], [0], [1], [2], [2], [2], [5], [4, 6], [7], [2], [2], [9, 10], [11], [3, 8, 12], [13], [14], [15]] r188_35) c188_40
abbrev r188_42 : List SOper := [
  ⟨some 106, none, .mov (.t 0)⟩,
  ⟨some 107, none, .mov (.t 1)⟩,
  ⟨some 108, none, .mov (.t 2)⟩,
  ⟨some 109, none, .mov (.t 13)⟩,
  ⟨some 110, none, .mov (.t 4)⟩,
  ⟨some 111, none, .call false (.c (.func 248 [])) [.t 106, .t 107, .t 108, .t 109, .t 110]⟩,
  ⟨some 105, none, .mov (.t 111)⟩,
  ⟨some 112, none, .extract (.t 105) 0⟩,
  ⟨some 113, none, .extract (.t 105) 1⟩,
  ⟨some 16, none, .mov (.t 112)⟩,
  ⟨some 17, none, .mov (.t 113)⟩]
abbrev r188_43 : List SOper := [
  ⟨some 114, none, .mov (.t 17)⟩,
  ⟨some 11, none, .mov (.t 114)⟩]
abbrev r188_44 : List SOper := [
  ⟨some 115, none, .mov (.t 16)⟩,
  ⟨some 116, none, .mov (.t 1)⟩,
  ⟨some 117, none, .bin .sub (.t 115) (.t 116)⟩,
  ⟨some 118, none, .mov (.t 2)⟩,
  ⟨some 119, none, .mov (.t 16)⟩,
  ⟨some 120, none, .bin .sub (.t 118) (.t 119)⟩,
  ⟨some 18, none, .mov (.t 117)⟩,
  ⟨some 19, none, .mov (.t 120)⟩]
abbrev r188_45 : List SOper := [
  ⟨some 121, none, .mov (.t 12)⟩,
  ⟨some 122, none, .bin .quo (.t 121) (.c (.int .i64 8))⟩,
  ⟨some 20, none, .mov (.t 122)⟩]
abbrev r188_46 : List SOper := [
  ⟨some 123, none, .mov (.t 18)⟩,
  ⟨some 124, none, .mov (.t 19)⟩,
  ⟨some 125, none, .bin .lss (.t 123) (.t 124)⟩]
abbrev r188_47 : List SOper := [
  ⟨some 126, none, .mov (.t 18)⟩,
  ⟨some 127, none, .mov (.t 20)⟩,
  ⟨some 128, none, .bin .geq (.t 126) (.t 127)⟩,
  ⟨some 10, none, .mov (.t 128)⟩]
abbrev r188_48 : List SOper := [
  ⟨some 129, none, .mov (.t 0)⟩,
  ⟨some 130, none, .mov (.t 1)⟩,
  ⟨some 131, none, .mov (.t 16)⟩,
  ⟨some 132, none, .mov (.t 3)⟩,
  ⟨some 133, none, .mov (.t 4)⟩,
  ⟨some 134, none, .call false (.c (.func 188 [])) [.t 129, .t 130, .t 131, .t 132, .t 133]⟩]
abbrev r188_49 : List SOper := [
  ⟨some 135, none, .mov (.t 16)⟩,
  ⟨some 136, none, .bin .add (.t 135) (.c (.int .i64 1))⟩,
  ⟨some 1, none, .mov (.t 136)⟩]
abbrev c188_50 : SC := .seq (.ops r188_48) (.ops r188_49)
abbrev c188_51 : SC := .seq (.ops r188_47) c188_50
abbrev r188_52 : List SOper := [
  ⟨some 137, none, .mov (.t 19)⟩,
  ⟨some 138, none, .mov (.t 20)⟩,
  ⟨some 139, none, .bin .geq (.t 137) (.t 138)⟩,
  ⟨some 10, none, .mov (.t 139)⟩]
abbrev r188_53 : List SOper := [
  ⟨some 140, none, .mov (.t 0)⟩,
  ⟨some 141, none, .mov (.t 16)⟩,
  ⟨some 142, none, .bin .add (.t 141) (.c (.int .i64 1))⟩,
  ⟨some 143, none, .mov (.t 2)⟩,
  ⟨some 144, none, .mov (.t 3)⟩,
  ⟨some 145, none, .mov (.t 4)⟩,
  ⟨some 146, none, .call false (.c (.func 188 [])) [.t 140, .t 142, .t 143, .t 144, .t 145]⟩]
abbrev r188_54 : List SOper := [
  ⟨some 147, none, .mov (.t 16)⟩,
  ⟨some 2, none, .mov (.t 147)⟩]
abbrev c188_55 : SC := .seq (.ops r188_53) (.ops r188_54)
abbrev c188_56 : SC := .seq (.ops r188_52) c188_55
abbrev c188_57 : SC := .cond (.t 125) c188_51 c188_56
abbrev c188_58 : SC := .seq (.ops r188_46) c188_57
abbrev c188_59 : SC := .seq (.ops r188_45) c188_58
abbrev c188_60 : SC := .seq (.ops r188_44) c188_59
abbrev c188_61 : SC := .seq (.ops r188_43) c188_60
abbrev c188_62 : SC := .seq (.ops r188_42) c188_61
abbrev c188_63 : SC := .seq c188_41 c188_62
abbrev c188_64 : SC := .seq c188_34 c188_63
abbrev c188_65 : SC := .seq c188_28 c188_64
abbrev c188_66 : SC := .seq (.ops r188_20) c188_65
abbrev c188_67 : SC := .seq c188_19 c188_66
abbrev c188_68 : SC := .seq c188_13 c188_67
abbrev c188_69 : SC := .seq c188_8 c188_68
abbrev c188_70 : SC := .seq (.ops r188_3) c188_69
abbrev c188_71 : SC := .block 1 [0, 1, 2, 3, 4, 10, 11] [] c188_70
abbrev L188_1 : SC := .loop [0, 1, 2, 3, 4, 10, 11] [] c188_71
abbrev c188_72 : SC := .block 0 [] [] L188_1
abbrev c188_73 : SC := .seq (.ops r188_2) c188_72
abbrev c188_74 : SC := .seq (.ops r188_1) c188_73
def s188 : SF := ⟨[], c188_74, false, none, none⟩
/-! math/bits.Len -/
abbrev r189_1 : List SOper := [
  ⟨some 2, none, .mov (.c (.int .i64 0))⟩]
abbrev r189_2 : List SOper := [
  ⟨some 3, none, .mov (.t 0)⟩,
  ⟨some 4, none, .cvI .u32 (.t 3)⟩,
  ⟨some 5, none, .call false (.c (.func 249 [])) [.t 4]⟩,
  ⟨some 2, none, .mov (.t 5)⟩]
abbrev c189_3 : SC := .seq (.ops r189_2) (.ret)
abbrev c189_4 : SC := .cond (.c (.bool false)) c189_3 (.skip)
abbrev r189_5 : List SOper := [
  ⟨some 6, none, .mov (.t 0)⟩,
  ⟨some 7, none, .call false (.c (.func 250 [])) [.t 6]⟩,
  ⟨some 2, none, .mov (.t 7)⟩]
abbrev c189_6 : SC := .seq (.ops r189_5) (.ret)
abbrev c189_7 : SC := .seq c189_4 c189_6
abbrev c189_8 : SC := .seq (.ops r189_1) c189_7
def s189 : SF := ⟨[.t 2], c189_8, false, none, none⟩
/-! (*crannog/calls.desk).spare -/
abbrev r190_1 : List SOper := [
  ⟨some 4, none, .allocL [.nils, .int .i64 0, .int .i64 0]⟩,
  ⟨some 5, none, .mov (.c (.str []))⟩]
abbrev r190_2 : List SOper := [
  ⟨some 12, none, .mov (.t 1)⟩,
  ⟨some 13, none, .call false (.c (.func 251 [])) [.t 12]⟩,
  ⟨some 11, none, .mov (.t 13)⟩,
  ⟨some 14, none, .extract (.t 11) 0⟩,
  ⟨some 15, none, .extract (.t 11) 1⟩,
  ⟨some 16, none, .extract (.t 11) 2⟩,
  ⟨some 6, none, .mov (.t 14)⟩,
  ⟨some 7, none, .mov (.t 15)⟩,
  ⟨some 8, none, .mov (.t 16)⟩]
abbrev r190_3 : List SOper := [
  ⟨some 17, none, .mov (.t 8)⟩,
  ⟨some 18, none, .bin .eql (.t 17) (.c (.int .i64 16))⟩]
abbrev r190_4 : List SOper := [
  ⟨some 8, none, .mov (.c (.int .i64 17))⟩]
abbrev c190_5 : SC := .cond (.t 18) (.ops r190_4) (.skip)
abbrev c190_6 : SC := .seq (.ops r190_3) c190_5
abbrev r190_7 : List SOper := [
  ⟨some 19, none, .mov (.t 8)⟩,
  ⟨some 20, none, .call false (.c (.func 69 [])) [.t 19]⟩]
abbrev r190_8 : List SOper := [
  ⟨some 22, none, .mov (.t 6)⟩,
  ⟨some 23, none, .call false (.c (.func 252 [])) [.t 22]⟩,
  ⟨some 21, none, .mov (.t 23)⟩,
  ⟨some 24, none, .extract (.t 21) 0⟩,
  ⟨some 25, none, .extract (.t 21) 1⟩,
  ⟨some 9, none, .mov (.t 24)⟩,
  ⟨some 8, none, .mov (.t 25)⟩]
abbrev r190_9 : List SOper := [
  ⟨some 26, none, .mov (.t 8)⟩,
  ⟨some 27, none, .call false (.c (.func 69 [])) [.t 26]⟩]
abbrev r190_10 : List SOper := [
  ⟨some 28, none, .mov (.t 0)⟩,
  ⟨some 29, none, .mov (.t 9)⟩,
  ⟨some 30, none, .call false (.c (.func 196 [])) [.t 28, .t 29]⟩,
  ⟨some 10, none, .allocL [.nils, .int .i64 0, .int .i64 0]⟩,
  ⟨none, none, .store 3 (.t 10) (.t 30)⟩]
abbrev r190_11 : List SOper := [
  ⟨some 31, none, .mov (.t 0)⟩,
  ⟨some 32, none, .load false true 3 (.t 10)⟩,
  ⟨some 33, none, .call false (.c (.func 197 [])) [.t 31, .t 32]⟩,
  ⟨some 34, none, .bin .eql (.t 33) (.c (.int .i64 2))⟩,
  ⟨some 35, none, .call false (.c (.func 114 [])) [.t 34, .c (.int .i64 20)]⟩]
abbrev r190_12 : List SOper := [
  ⟨some 36, none, .load false true 3 (.t 10)⟩,
  ⟨some 37, none, .call false (.c (.func 199 [])) [.t 36]⟩,
  ⟨some 38, none, .un .not (.t 37)⟩,
  ⟨some 39, none, .mov (.t 38)⟩,
  ⟨some 40, some (39, true), .load false true 3 (.t 10)⟩,
  ⟨some 41, some (39, true), .call false (.c (.func 198 [])) [.t 40]⟩,
  ⟨some 42, some (39, true), .mov (.t 41)⟩,
  ⟨some 43, some (42, true), .mov (.t 7)⟩,
  ⟨some 44, some (42, true), .bin .eql (.t 43) (.c (.str [46, 108, 111, 115, 116]))⟩,
  ⟨some 45, some (39, true), .pick (.t 42) (.t 44) (.c (.bool false))⟩,
  ⟨some 46, some (39, true), .un .not (.t 45)⟩,
  ⟨some 47, none, .pick (.t 39) (.t 46) (.c (.bool false))⟩,
  ⟨some 48, none, .call false (.c (.func 114 [])) [.t 47, .c (.int .i64 1)]⟩]
abbrev r190_13 : List SOper := [
  ⟨some 49, none, .load false true 3 (.t 10)⟩,
  ⟨some 50, none, .mov (.t 7)⟩,
  ⟨none, none, .store 3 (.t 4) (.t 49)⟩,
  ⟨some 5, none, .mov (.t 50)⟩]
abbrev c190_14 : SC := .seq (.ops r190_13) (.ret)
abbrev c190_15 : SC := .seq (.ops r190_12) c190_14
abbrev c190_16 : SC := .seq (.ops r190_11) c190_15
abbrev c190_17 : SC := .seq (.ops r190_10) c190_16
abbrev c190_18 : SC := .seq (.ops r190_9) c190_17
abbrev c190_19 : SC := .seq (.ops r190_8) c190_18
abbrev c190_20 : SC := .seq (.ops r190_7) c190_19
abbrev c190_21 : SC := .seq c190_6 c190_20
abbrev c190_22 : SC := .seq (.ops r190_2) c190_21
abbrev c190_23 : SC := .seq (.ops r190_1) c190_22
def s190 : SF := ⟨[.c 4 true 3, .t 5], c190_23, false, none, none⟩
/-! (*crannog/calls.desk).free -/
abbrev r191_1 : List SOper := [
  ⟨some 4, none, .boxH none (.t 1)⟩,
  ⟨some 5, none, .boxH none (.t 2)⟩]
abbrev r191_2 : List SOper := [
  ⟨some 6, none, .mov (.t 0)⟩,
  ⟨some 7, none, .nilck (.t 6)⟩,
  ⟨some 8, none, .faddr 10 (.t 7)⟩,
  ⟨some 9, none, .load false false 1 (.t 8)⟩,
  ⟨some 10, none, .mkfn 253 [.t 4, .t 5]⟩,
  ⟨some 11, none, .call false (.c (.func 203 [])) [.t 9, .t 10]⟩,
  ⟨some 12, none, .un .not (.t 11)⟩,
  ⟨some 13, none, .call false (.c (.func 114 [])) [.t 12, .c (.int .i64 17)]⟩]
abbrev c191_3 : SC := .seq (.ops r191_1) (.ops r191_2)
def s191 : SF := ⟨[], c191_3, false, none, none⟩
/-! crannog/calls.time -/
abbrev r192_1 : List SOper := [
  ⟨some 1, none, .boxL (.t 0)⟩,
  ⟨some 2, none, .mov (.c (.int .u64 0))⟩]
abbrev r192_2 : List SOper := [
  ⟨some 6, none, .faddr 6 (.t 1)⟩,
  ⟨some 7, none, .load false false 1 (.t 6)⟩,
  ⟨some 8, none, .call false (.c (.func 67 [])) [.t 7]⟩,
  ⟨some 5, none, .mov (.t 8)⟩,
  ⟨some 9, none, .extract (.t 5) 0⟩,
  ⟨some 10, none, .extract (.t 5) 1⟩,
  ⟨some 3, none, .mov (.t 9)⟩,
  ⟨some 4, none, .mov (.t 10)⟩]
abbrev r192_3 : List SOper := [
  ⟨some 11, none, .mov (.t 4)⟩,
  ⟨some 12, none, .bin .eql (.t 11) (.c (.int .i64 0))⟩,
  ⟨some 13, none, .call false (.c (.func 114 [])) [.t 12, .c (.int .i64 22)]⟩]
abbrev r192_4 : List SOper := [
  ⟨some 14, none, .mov (.t 3)⟩,
  ⟨some 2, none, .mov (.t 14)⟩]
abbrev c192_5 : SC := .seq (.ops r192_4) (.ret)
abbrev c192_6 : SC := .seq (.ops r192_3) c192_5
abbrev c192_7 : SC := .seq (.ops r192_2) c192_6
abbrev c192_8 : SC := .seq (.ops r192_1) c192_7
def s192 : SF := ⟨[.t 2], c192_8, false, none, none⟩
/-! (*crannog/calls.desk).room -/
abbrev r193_1 : List SOper := [
  ⟨some 4, none, .mov (.t 0)⟩,
  ⟨some 5, none, .nilck (.t 4)⟩,
  ⟨some 6, none, .faddr 0 (.t 5)⟩,
  ⟨some 7, none, .faddr 8 (.t 6)⟩,
  ⟨some 8, none, .load false false 1 (.t 7)⟩,
  ⟨some 9, none, .len 1 (.t 8)⟩,
  ⟨some 10, none, .mov (.t 1)⟩,
  ⟨some 11, none, .bin .add (.t 9) (.t 10)⟩,
  ⟨some 12, none, .bin .leq (.t 11) (.c (.int .i64 60))⟩,
  ⟨some 13, none, .mov (.t 12)⟩,
  ⟨some 14, some (13, true), .mov (.t 0)⟩,
  ⟨some 15, some (13, true), .nilck (.t 14)⟩,
  ⟨some 16, some (13, true), .faddr 0 (.t 15)⟩,
  ⟨some 17, some (13, true), .faddr 9 (.t 16)⟩,
  ⟨some 18, some (13, true), .load false false 1 (.t 17)⟩,
  ⟨some 19, some (13, true), .len 1 (.t 18)⟩,
  ⟨some 20, some (13, true), .bin .lss (.t 19) (.c (.int .i64 80))⟩,
  ⟨some 21, none, .pick (.t 13) (.t 20) (.c (.bool false))⟩,
  ⟨some 22, none, .call false (.c (.func 114 [])) [.t 21, .c (.int .i64 28)]⟩]
def s193 : SF := ⟨[], .ops r193_1, false, none, none⟩
/-! (*crannog/calls.desk).begin -/
abbrev r194_1 : List SOper := [
  ⟨some 2, none, .mov (.t 0)⟩,
  ⟨some 3, none, .nilck (.t 2)⟩,
  ⟨some 4, none, .faddr 13 (.t 3)⟩,
  ⟨some 5, none, .load false false 1 (.t 4)⟩,
  ⟨some 6, none, .call false (.c (.func 69 [])) [.t 5]⟩]
abbrev r194_2 : List SOper := [
  ⟨some 7, none, .mov (.t 0)⟩,
  ⟨some 8, none, .build [.int .i64 0, .int .i64 0, .int .i64 0, .int .i64 0, .int .i64 0, .int .i64 0, .int .i64 0, .int .i64 0] []⟩,
  ⟨some 9, none, .mov (.t 0)⟩,
  ⟨some 10, none, .nilck (.t 9)⟩,
  ⟨some 11, none, .faddr 11 (.t 10)⟩,
  ⟨some 12, none, .load false true 2 (.t 11)⟩,
  ⟨some 13, none, .call false (.c (.func 254 [])) [.t 8, .t 12]⟩,
  ⟨some 14, none, .nilck (.t 7)⟩,
  ⟨some 15, none, .faddr 14 (.t 14)⟩,
  ⟨some 16, none, .faddr 0 (.t 15)⟩,
  ⟨none, none, .store 8 (.t 16) (.t 13)⟩]
abbrev c194_3 : SC := .seq (.ops r194_1) (.ops r194_2)
def s194 : SF := ⟨[], c194_3, false, none, none⟩
/-! (*crannog/calls.desk).place -/
abbrev r195_1 : List SOper := [
  ⟨some 5, none, .boxL (.t 1)⟩,
  ⟨some 7, none, .boxL (.t 3)⟩]
abbrev r195_2 : List SOper := [
  ⟨some 8, none, .mov (.t 0)⟩,
  ⟨some 9, none, .faddr 0 (.t 5)⟩,
  ⟨some 10, none, .load false false 1 (.t 9)⟩,
  ⟨some 11, none, .call false (.c (.func 207 [])) [.t 8, .t 10]⟩]
abbrev r195_3 : List SOper := [
  ⟨some 12, none, .mov (.t 0)⟩,
  ⟨some 13, none, .mov (.t 0)⟩,
  ⟨some 14, none, .nilck (.t 13)⟩,
  ⟨some 15, none, .faddr 11 (.t 14)⟩,
  ⟨some 16, none, .load false true 2 (.t 15)⟩,
  ⟨some 17, none, .load false true 2 (.t 7)⟩,
  ⟨some 18, none, .mov (.t 0)⟩,
  ⟨some 19, none, .nilck (.t 18)⟩,
  ⟨some 20, none, .faddr 11 (.t 19)⟩,
  ⟨some 21, none, .load false true 2 (.t 20)⟩,
  ⟨some 22, none, .faddr 1 (.t 5)⟩,
  ⟨some 23, none, .load false true 2 (.t 22)⟩,
  ⟨some 24, none, .mov (.t 2)⟩,
  ⟨some 25, none, .mov (.t 0)⟩,
  ⟨some 26, none, .nilck (.t 25)⟩,
  ⟨some 27, none, .faddr 14 (.t 26)⟩,
  ⟨some 28, none, .faddr 0 (.t 27)⟩,
  ⟨some 29, none, .load false true 8 (.t 28)⟩,
  ⟨some 30, none, .build [.int .i64 0, .int .i64 0, .int .i64 0, .int .i64 0, .int .i64 0, .int .i64 0, .int .i64 0, .int .i64 0, .str [], .int .i64 0, .int .i64 0, .int .i64 0, .int .i64 0, .int .i64 0, .int .i64 0, .int .i64 0, .int .i64 0, .int .i64 0, .int .i64 0, .int .i64 0, .int .i64 0, .int .i64 0, .int .i64 0, .int .i64 0, .int .i64 0] [(0, 2, .t 16), (2, 2, .t 17), (4, 2, .t 21), (6, 2, .t 23), (8, 1, .t 24), (9, 8, .t 29)]⟩,
  ⟨some 31, none, .call false (.c (.func 208 [])) [.t 12, .t 30]⟩]
abbrev c195_4 : SC := .seq (.ops r195_2) (.draw 0 [[], [], [1], [2], [3], [], [], [6], [7], [8], [], [10], [], [], [13], [14], [15], [16], [4, 5, 9, 11, 12, 17], [0, 18]] r195_3)
abbrev c195_5 : SC := .seq (.ops r195_1) c195_4
def s195 : SF := ⟨[], c195_5, false, none, none⟩
/-! (*crannog/calls.desk).find -/
abbrev r196_1 : List SOper := [
  ⟨some 4, none, .allocL [.nils, .int .i64 0, .int .i64 0]⟩]
abbrev r196_2 : List SOper := [
  ⟨some 10, none, .mov (.t 1)⟩,
  ⟨some 11, none, .call false (.c (.func 84 [])) [.t 10]⟩,
  ⟨some 9, none, .mov (.t 11)⟩,
  ⟨some 12, none, .extract (.t 9) 0⟩,
  ⟨some 13, none, .extract (.t 9) 1⟩,
  ⟨some 5, none, .mov (.t 12)⟩,
  ⟨some 6, none, .mov (.t 13)⟩]
abbrev r196_3 : List SOper := [
  ⟨some 14, none, .mov (.t 6)⟩,
  ⟨some 15, none, .call false (.c (.func 69 [])) [.t 14]⟩]
abbrev r196_4 : List SOper := [
  ⟨some 17, none, .mov (.t 0)⟩,
  ⟨some 18, none, .nilck (.t 17)⟩,
  ⟨some 19, none, .faddr 0 (.t 18)⟩,
  ⟨some 20, none, .load false true 10 (.t 19)⟩,
  ⟨some 21, none, .mov (.t 0)⟩,
  ⟨some 22, none, .nilck (.t 21)⟩,
  ⟨some 23, none, .faddr 10 (.t 22)⟩,
  ⟨some 24, none, .load false false 1 (.t 23)⟩,
  ⟨some 25, none, .mov (.t 5)⟩,
  ⟨some 26, none, .call false (.c (.func 85 [])) [.t 20, .t 24, .t 25]⟩,
  ⟨some 16, none, .mov (.t 26)⟩,
  ⟨some 27, none, .extract (.t 16) 0⟩,
  ⟨some 28, none, .extract (.t 16) 1⟩,
  ⟨some 7, none, .mov (.t 27)⟩,
  ⟨some 6, none, .mov (.t 28)⟩]
abbrev r196_5 : List SOper := [
  ⟨some 29, none, .mov (.t 6)⟩,
  ⟨some 30, none, .call false (.c (.func 69 [])) [.t 29]⟩]
abbrev r196_6 : List SOper := [
  ⟨some 31, none, .mov (.t 7)⟩,
  ⟨some 32, none, .build [.nils, .int .i64 0, .int .i64 0] [(0, 1, .t 31)]⟩,
  ⟨some 8, none, .allocL [.nils, .int .i64 0, .int .i64 0]⟩,
  ⟨none, none, .store 3 (.t 8) (.t 32)⟩]
abbrev r196_7 : List SOper := [
  ⟨some 33, none, .mov (.t 7)⟩,
  ⟨some 34, none, .len 1 (.t 33)⟩,
  ⟨some 35, none, .bin .gtr (.t 34) (.c (.int .i64 0))⟩]
abbrev r196_8 : List SOper := [
  ⟨some 36, none, .mov (.t 7)⟩,
  ⟨some 37, none, .mov (.t 7)⟩,
  ⟨some 38, none, .len 1 (.t 37)⟩,
  ⟨some 39, none, .bin .sub (.t 38) (.c (.int .i64 1))⟩,
  ⟨some 40, none, .iaddr none 8 (.t 36) (.t 39)⟩,
  ⟨some 41, none, .faddr 2 (.t 40)⟩,
  ⟨some 42, none, .load false true 2 (.t 41)⟩,
  ⟨some 43, none, .faddr 1 (.t 8)⟩,
  ⟨none, none, .store 2 (.t 43) (.t 42)⟩]
abbrev c196_9 : SC := .cond (.t 35) (.ops r196_8) (.skip)
abbrev c196_10 : SC := .seq (.ops r196_7) c196_9
abbrev r196_11 : List SOper := [
  ⟨some 44, none, .load false true 3 (.t 8)⟩,
  ⟨none, none, .store 3 (.t 4) (.t 44)⟩]
abbrev c196_12 : SC := .seq (.ops r196_11) (.ret)
abbrev c196_13 : SC := .seq c196_10 c196_12
abbrev c196_14 : SC := .seq (.ops r196_6) c196_13
abbrev c196_15 : SC := .seq (.ops r196_5) c196_14
abbrev c196_16 : SC := .seq (.draw 0 [[], [0], [1], [2], [], [4], [5], [6], [], [3, 7, 8], [9], [10], [10], [11], [12, 13]] r196_4) c196_15
abbrev c196_17 : SC := .seq (.ops r196_3) c196_16
abbrev c196_18 : SC := .seq (.ops r196_2) c196_17
abbrev c196_19 : SC := .seq (.ops r196_1) c196_18
def s196 : SF := ⟨[.c 4 true 3], c196_19, false, none, none⟩
/-! (*crannog/calls.desk).kind -/
abbrev r197_1 : List SOper := [
  ⟨some 3, none, .boxL (.t 1)⟩,
  ⟨some 4, none, .mov (.c (.int .i64 0))⟩]
abbrev r197_2 : List SOper := [
  ⟨some 5, none, .mov (.t 0)⟩,
  ⟨some 6, none, .nilck (.t 5)⟩,
  ⟨some 7, none, .faddr 0 (.t 6)⟩,
  ⟨some 8, none, .load false true 10 (.t 7)⟩,
  ⟨some 9, none, .faddr 1 (.t 3)⟩,
  ⟨some 10, none, .load false true 2 (.t 9)⟩,
  ⟨some 11, none, .call false (.c (.func 86 [])) [.t 8, .t 10]⟩,
  ⟨some 4, none, .mov (.t 11)⟩]
abbrev c197_3 : SC := .seq (.draw 0 [[], [0], [1], [2], [], [4], [3, 5], [6]] r197_2) (.ret)
abbrev c197_4 : SC := .seq (.ops r197_1) c197_3
def s197 : SF := ⟨[.t 4], c197_4, false, none, none⟩
/-! (crannog/calls.spot).root -/
abbrev r198_1 : List SOper := [
  ⟨some 1, none, .boxL (.t 0)⟩,
  ⟨some 2, none, .mov (.c (.bool false))⟩]
abbrev r198_2 : List SOper := [
  ⟨some 3, none, .faddr 0 (.t 1)⟩,
  ⟨some 4, none, .load false false 1 (.t 3)⟩,
  ⟨some 5, none, .len 1 (.t 4)⟩,
  ⟨some 6, none, .bin .eql (.t 5) (.c (.int .i64 0))⟩,
  ⟨some 2, none, .mov (.t 6)⟩]
abbrev c198_3 : SC := .seq (.ops r198_2) (.ret)
abbrev c198_4 : SC := .seq (.ops r198_1) c198_3
def s198 : SF := ⟨[.t 2], c198_4, false, none, none⟩
/-! (crannog/calls.spot).odd -/
abbrev r199_1 : List SOper := [
  ⟨some 1, none, .boxL (.t 0)⟩,
  ⟨some 2, none, .mov (.c (.bool false))⟩]
abbrev r199_2 : List SOper := [
  ⟨some 3, none, .faddr 1 (.t 1)⟩,
  ⟨some 4, none, .loadA (.loc 1) true 2 (.t 3)⟩,
  ⟨some 5, none, .call false (.c (.func 127 [])) []⟩,
  ⟨some 6, none, .cmpA false [.int .i64, .int .i64] (.t 4) (.t 5)⟩,
  ⟨some 2, none, .mov (.t 6)⟩]
abbrev c199_3 : SC := .seq (.draw 0 [[], [0], [], [1, 2], [3]] r199_2) (.ret)
abbrev c199_4 : SC := .seq (.ops r199_1) c199_3
def s199 : SF := ⟨[.t 2], c199_4, false, none, none⟩
/-! slices.ContainsFunc[[]crannog/api.Shown,crannog/api.Shown] -/
abbrev r203_1 : List SOper := [
  ⟨some 4, none, .mov (.c (.bool false))⟩]
abbrev r203_2 : List SOper := [
  ⟨some 5, none, .mov (.t 0)⟩,
  ⟨some 6, none, .mov (.t 1)⟩,
  ⟨some 7, none, .call false (.c (.func 205 [])) [.t 5, .t 6]⟩,
  ⟨some 8, none, .bin .geq (.t 7) (.c (.int .i64 0))⟩,
  ⟨some 4, none, .mov (.t 8)⟩]
abbrev c203_3 : SC := .seq (.ops r203_2) (.ret)
abbrev c203_4 : SC := .seq (.ops r203_1) c203_3
def s203 : SF := ⟨[.t 4], c203_4, false, none, none⟩
/-! slices.IndexFunc[[]crannog/api.Shown,crannog/api.Shown] -/
abbrev r205_1 : List SOper := [
  ⟨some 4, none, .mov (.c (.int .i64 0))⟩]
abbrev r205_2 : List SOper := [
  ⟨some 6, none, .mov (.t 0)⟩,
  ⟨some 7, none, .len 1 (.t 6)⟩,
  ⟨some 8, none, .mov (.c (.int .i64 0))⟩]
abbrev r205_3 : List SOper := [
  ⟨some 9, none, .bin .lss (.t 8) (.t 7)⟩]
abbrev c205_4 : SC := .cond (.t 9) (.skip) (.exit 0)
abbrev r205_5 : List SOper := [
  ⟨some 10, none, .mov (.t 8)⟩,
  ⟨some 5, none, .mov (.t 10)⟩]
abbrev r205_6 : List SOper := [
  ⟨some 11, none, .mov (.t 1)⟩,
  ⟨some 12, none, .mov (.t 0)⟩,
  ⟨some 13, none, .mov (.t 5)⟩,
  ⟨some 14, none, .iaddr none 8 (.t 12) (.t 13)⟩,
  ⟨some 15, none, .load false true 8 (.t 14)⟩,
  ⟨some 16, none, .call false (.t 11) [.t 15]⟩]
abbrev r205_7 : List SOper := [
  ⟨some 17, none, .mov (.t 5)⟩,
  ⟨some 4, none, .mov (.t 17)⟩]
abbrev c205_8 : SC := .seq (.ops r205_7) (.ret)
abbrev c205_9 : SC := .cond (.t 16) c205_8 (.skip)
abbrev c205_10 : SC := .seq (.ops r205_6) c205_9
abbrev c205_11 : SC := .seq (.ops r205_5) c205_10
abbrev c205_12 : SC := .block 1 [0, 1, 7, 8] [] c205_11
abbrev r205_13 : List SOper := [
  ⟨some 18, none, .bin .add (.t 8) (.c (.int .i64 1))⟩,
  ⟨some 8, none, .mov (.t 18)⟩]
abbrev c205_14 : SC := .seq c205_12 (.ops r205_13)
abbrev c205_15 : SC := .seq c205_4 c205_14
abbrev c205_16 : SC := .seq (.ops r205_3) c205_15
abbrev L205_1 : SC := .loop [0, 1, 7, 8] [] c205_16
abbrev c205_17 : SC := .block 0 [] [] L205_1
abbrev c205_18 : SC := .seq (.ops r205_2) c205_17
abbrev r205_19 : List SOper := [
  ⟨some 4, none, .mov (.c (.int .i64 (-1)))⟩]
abbrev c205_20 : SC := .seq (.ops r205_19) (.ret)
abbrev c205_21 : SC := .seq c205_18 c205_20
abbrev c205_22 : SC := .seq (.ops r205_1) c205_21
def s205 : SF := ⟨[.t 4], c205_22, false, none, none⟩
/-! (*crannog/calls.desk).touch -/
abbrev r207_1 : List SOper := [
  ⟨some 6, none, .mov (.t 1)⟩,
  ⟨some 7, none, .len 1 (.t 6)⟩,
  ⟨some 8, none, .mov (.c (.int .i64 0))⟩]
abbrev r207_2 : List SOper := [
  ⟨some 9, none, .bin .lss (.t 8) (.t 7)⟩]
abbrev c207_3 : SC := .cond (.t 9) (.skip) (.exit 0)
abbrev r207_4 : List SOper := [
  ⟨some 10, none, .iaddr none 8 (.t 6) (.t 8)⟩,
  ⟨some 11, none, .load false true 8 (.t 10)⟩,
  ⟨some 5, none, .allocL [.int .i64 0, .int .i64 0, .int .i64 0, .int .i64 0, .int .i64 0, .int .i64 0, .str [], .bool false]⟩,
  ⟨none, none, .store 8 (.t 5) (.t 11)⟩]
abbrev r207_5 : List SOper := [
  ⟨some 12, none, .faddr 0 (.t 5)⟩,
  ⟨some 13, none, .load false true 2 (.t 12)⟩,
  ⟨some 14, none, .build [.int .i64 0, .int .i64 0] []⟩,
  ⟨some 15, none, .cmpA true [.int .i64, .int .i64] (.t 13) (.t 14)⟩]
abbrev r207_6 : List SOper := [
  ⟨some 16, none, .mov (.t 0)⟩,
  ⟨some 17, none, .faddr 0 (.t 5)⟩,
  ⟨some 18, none, .load false true 2 (.t 17)⟩,
  ⟨some 19, none, .mov (.t 0)⟩,
  ⟨some 20, none, .nilck (.t 19)⟩,
  ⟨some 21, none, .faddr 14 (.t 20)⟩,
  ⟨some 22, none, .faddr 0 (.t 21)⟩,
  ⟨some 23, none, .load false true 8 (.t 22)⟩,
  ⟨some 24, none, .build [.int .i64 0, .int .i64 0, .int .i64 0, .int .i64 0, .int .i64 0, .int .i64 0, .int .i64 0, .int .i64 0, .str [], .int .i64 0, .int .i64 0, .int .i64 0, .int .i64 0, .int .i64 0, .int .i64 0, .int .i64 0, .int .i64 0, .int .i64 0, .int .i64 0, .int .i64 0, .int .i64 0, .int .i64 0, .int .i64 0, .int .i64 0, .int .i64 0] [(0, 2, .t 18), (9, 8, .t 23)]⟩,
  ⟨some 25, none, .call false (.c (.func 208 [])) [.t 16, .t 24]⟩]
abbrev c207_7 : SC := .cond (.t 15) (.draw 0 [[], [], [1], [], [3], [4], [5], [6], [2, 7], [0, 8]] r207_6) (.skip)
abbrev c207_8 : SC := .seq (.ops r207_5) c207_7
abbrev c207_9 : SC := .seq (.ops r207_4) c207_8
abbrev c207_10 : SC := .block 1 [0, 6, 7, 8] [] c207_9
abbrev r207_11 : List SOper := [
  ⟨some 26, none, .bin .add (.t 8) (.c (.int .i64 1))⟩,
  ⟨some 8, none, .mov (.t 26)⟩]
abbrev c207_12 : SC := .seq c207_10 (.ops r207_11)
abbrev c207_13 : SC := .seq c207_3 c207_12
abbrev c207_14 : SC := .seq (.ops r207_2) c207_13
abbrev L207_1 : SC := .loop [0, 6, 7, 8] [] c207_14
abbrev c207_15 : SC := .block 0 [] [] L207_1
abbrev c207_16 : SC := .seq (.ops r207_1) c207_15
def s207 : SF := ⟨[], c207_16, false, none, none⟩
/-! (*crannog/calls.desk).write -/
abbrev r208_1 : List SOper := [
  ⟨some 3, none, .boxH none (.t 1)⟩]
abbrev r208_2 : List SOper := [
  ⟨some 6, none, .mov (.t 0)⟩,
  ⟨some 7, none, .nilck (.t 6)⟩,
  ⟨some 8, none, .faddr 14 (.t 7)⟩,
  ⟨some 9, none, .faddr 9 (.t 8)⟩,
  ⟨some 10, none, .load false false 1 (.t 9)⟩,
  ⟨some 11, none, .mkfn 259 [.t 3]⟩,
  ⟨some 12, none, .call false (.c (.func 258 [])) [.t 10, .t 11]⟩,
  ⟨some 4, none, .mov (.t 12)⟩]
abbrev r208_3 : List SOper := [
  ⟨some 13, none, .mov (.t 4)⟩,
  ⟨some 14, none, .bin .lss (.t 13) (.c (.int .i64 0))⟩]
abbrev r208_4 : List SOper := [
  ⟨some 15, none, .mov (.t 0)⟩,
  ⟨some 16, none, .mov (.t 0)⟩,
  ⟨some 17, none, .nilck (.t 16)⟩,
  ⟨some 18, none, .faddr 14 (.t 17)⟩,
  ⟨some 19, none, .faddr 9 (.t 18)⟩,
  ⟨some 20, none, .load false false 1 (.t 19)⟩,
  ⟨some 21, none, .load false true 25 (.t 3)⟩,
  ⟨some 22, none, .bsnap 25 [.t 21]⟩,
  ⟨some 23, none, .append 25 208 (.t 20) (.t 22)⟩,
  ⟨some 24, none, .nilck (.t 15)⟩,
  ⟨some 25, none, .faddr 14 (.t 24)⟩,
  ⟨some 26, none, .faddr 9 (.t 25)⟩,
  ⟨none, none, .store 1 (.t 26) (.t 23)⟩]
abbrev r208_5 : List SOper := [
  ⟨some 27, none, .mov (.t 0)⟩,
  ⟨some 28, none, .nilck (.t 27)⟩,
  ⟨some 29, none, .faddr 14 (.t 28)⟩,
  ⟨some 30, none, .faddr 9 (.t 29)⟩,
  ⟨some 31, none, .load false false 1 (.t 30)⟩,
  ⟨some 32, none, .call false (.c (.func 260 [])) [.t 31, .c (.func 261 [])]⟩]
abbrev c208_6 : SC := .seq (.ops r208_5) (.ret)
abbrev c208_7 : SC := .seq (.draw 0 [[], [], [1], [2], [3], [4], [], [6], [5, 7], [0, 8], [9], [10], [11]] r208_4) c208_6
abbrev c208_8 : SC := .cond (.t 14) c208_7 (.skip)
abbrev c208_9 : SC := .seq (.ops r208_3) c208_8
abbrev r208_10 : List SOper := [
  ⟨some 33, none, .mov (.t 0)⟩,
  ⟨some 34, none, .nilck (.t 33)⟩,
  ⟨some 35, none, .faddr 14 (.t 34)⟩,
  ⟨some 36, none, .faddr 9 (.t 35)⟩,
  ⟨some 37, none, .load false false 1 (.t 36)⟩,
  ⟨some 38, none, .mov (.t 4)⟩,
  ⟨some 39, none, .iaddr none 25 (.t 37) (.t 38)⟩,
  ⟨some 5, none, .mov (.t 39)⟩]
abbrev r208_11 : List SOper := [
  ⟨some 40, none, .faddr 4 (.t 3)⟩,
  ⟨some 41, none, .load false true 2 (.t 40)⟩,
  ⟨some 42, none, .build [.int .i64 0, .int .i64 0] []⟩,
  ⟨some 43, none, .cmpA true [.int .i64, .int .i64] (.t 41) (.t 42)⟩]
abbrev r208_12 : List SOper := [
  ⟨some 44, none, .mov (.t 5)⟩,
  ⟨some 45, none, .mov (.t 5)⟩,
  ⟨some 46, none, .mov (.t 5)⟩,
  ⟨some 47, none, .mov (.t 5)⟩,
  ⟨some 48, none, .faddr 2 (.t 3)⟩,
  ⟨some 49, none, .load false true 2 (.t 48)⟩,
  ⟨some 50, none, .faddr 4 (.t 3)⟩,
  ⟨some 51, none, .loadA .ptr true 2 (.t 50)⟩,
  ⟨some 52, none, .faddr 6 (.t 3)⟩,
  ⟨some 53, none, .loadA .ptr true 2 (.t 52)⟩,
  ⟨some 54, none, .faddr 8 (.t 3)⟩,
  ⟨some 55, none, .loadA .ptr false 1 (.t 54)⟩,
  ⟨some 56, none, .nilck (.t 44)⟩,
  ⟨some 57, none, .faddr 2 (.t 56)⟩,
  ⟨none, none, .storeA .eptr 2 (.t 57) (.t 49)⟩,
  ⟨some 58, none, .nilck (.t 45)⟩,
  ⟨some 59, none, .faddr 4 (.t 58)⟩,
  ⟨none, none, .storeA .eptr 2 (.t 59) (.t 51)⟩,
  ⟨some 60, none, .nilck (.t 46)⟩,
  ⟨some 61, none, .faddr 6 (.t 60)⟩,
  ⟨none, none, .storeA .eptr 2 (.t 61) (.t 53)⟩,
  ⟨some 62, none, .nilck (.t 47)⟩,
  ⟨some 63, none, .faddr 8 (.t 62)⟩,
  ⟨none, none, .store 1 (.t 63) (.t 55)⟩]
abbrev c208_13 : SC := .cond (.t 43) (.draw 0 [[], [], [], [], [], [4], [], [6], [], [8], [], [10], [0, 5], [12], [13], [1, 7, 14], [15], [16], [2, 9, 17], [18], [19], [3, 11, 20], [21], [22]] r208_12) (.skip)
abbrev c208_14 : SC := .seq (.ops r208_11) c208_13
abbrev r208_15 : List SOper := [
  ⟨some 64, none, .mov (.t 5)⟩,
  ⟨some 65, none, .mov (.t 5)⟩,
  ⟨some 66, none, .mov (.t 5)⟩,
  ⟨some 67, none, .nilck (.t 66)⟩,
  ⟨some 68, none, .faddr 9 (.t 67)⟩,
  ⟨some 69, none, .load false true 8 (.t 68)⟩,
  ⟨some 70, none, .faddr 9 (.t 3)⟩,
  ⟨some 71, none, .load false true 8 (.t 70)⟩,
  ⟨some 72, none, .call true (.c (.func 74 [])) [.t 69, .t 71]⟩,
  ⟨some 73, none, .mov (.t 5)⟩,
  ⟨some 74, none, .nilck (.t 73)⟩,
  ⟨some 75, none, .faddr 17 (.t 74)⟩,
  ⟨some 76, none, .load false true 8 (.t 75)⟩,
  ⟨some 77, none, .faddr 17 (.t 3)⟩,
  ⟨some 78, none, .load false true 8 (.t 77)⟩,
  ⟨some 79, none, .call false (.c (.func 74 [])) [.t 76, .t 78]⟩,
  ⟨some 80, none, .nilck (.t 64)⟩,
  ⟨some 81, none, .faddr 9 (.t 80)⟩,
  ⟨none, none, .store 8 (.t 81) (.t 72)⟩,
  ⟨some 82, none, .nilck (.t 65)⟩,
  ⟨some 83, none, .faddr 17 (.t 82)⟩,
  ⟨none, none, .store 8 (.t 83) (.t 79)⟩]
abbrev c208_16 : SC := .seq c208_14 (.draw 0 [[], [], [], [2], [3], [4], [], [6], [5, 7], [], [9], [10], [11], [], [13], [8, 12, 14], [0, 15], [16], [17], [1, 18], [19], [20]] r208_15)
abbrev c208_17 : SC := .seq (.ops r208_10) c208_16
abbrev c208_18 : SC := .seq c208_9 c208_17
abbrev c208_19 : SC := .seq (.ops r208_2) c208_18
abbrev c208_20 : SC := .seq (.ops r208_1) c208_19
def s208 : SF := ⟨[], c208_20, false, none, none⟩
/-! slices.Grow[[]crannog/api.Inode,crannog/api.Inode] -/
abbrev r217_1 : List SOper := [
  ⟨some 4, none, .mov (.c (.nils))⟩]
abbrev r217_2 : List SOper := [
  ⟨some 5, none, .mov (.t 1)⟩,
  ⟨some 6, none, .bin .lss (.t 5) (.c (.int .i64 0))⟩]
abbrev r217_3 : List SOper := [
  ⟨some 7, none, .mkif 9 (.c (.str [99, 97, 110, 110, 111, 116, 32, 98, 101, 32, 110, 101, 103, 97, 116, 105, 118, 101]))⟩,
  ⟨none, none, .panic (.t 7)⟩]
abbrev c217_4 : SC := .cond (.t 6) (.ops r217_3) (.skip)
abbrev c217_5 : SC := .seq (.ops r217_2) c217_4
abbrev r217_6 : List SOper := [
  ⟨some 8, none, .mov (.t 1)⟩,
  ⟨some 9, none, .mov (.t 0)⟩,
  ⟨some 10, none, .cap (.t 9)⟩,
  ⟨some 11, none, .mov (.t 0)⟩,
  ⟨some 12, none, .len 1 (.t 11)⟩,
  ⟨some 13, none, .bin .sub (.t 10) (.t 12)⟩,
  ⟨some 14, none, .bin .sub (.t 8) (.t 13)⟩,
  ⟨some 1, none, .mov (.t 14)⟩]
abbrev r217_7 : List SOper := [
  ⟨some 15, none, .mov (.t 1)⟩,
  ⟨some 16, none, .bin .gtr (.t 15) (.c (.int .i64 0))⟩]
abbrev r217_8 : List SOper := [
  ⟨some 17, none, .mov (.t 0)⟩,
  ⟨some 18, none, .mov (.t 0)⟩,
  ⟨some 19, none, .cap (.t 18)⟩,
  ⟨some 20, none, .slice false 13 (.t 17) none (some (.t 19)) none⟩,
  ⟨some 21, none, .mov (.t 1)⟩,
  ⟨some 22, none, .appendz 13 144 (.agg [.int .i64 0, .int .i64 0, .int .i64 0, .str [], .int .i64 0, .int .i64 0, .int .i64 0, .int .u64 0, .int .i64 0, .int .i64 0, .int .i64 0, .nils, .nils]) (.t 20) (.t 21)⟩,
  ⟨some 23, none, .mov (.t 0)⟩,
  ⟨some 24, none, .len 1 (.t 23)⟩,
  ⟨some 25, none, .slice false 13 (.t 22) none (some (.t 24)) none⟩,
  ⟨some 0, none, .mov (.t 25)⟩]
abbrev c217_9 : SC := .cond (.t 16) (.ops r217_8) (.skip)
abbrev c217_10 : SC := .seq (.ops r217_7) c217_9
abbrev c217_11 : SC := .seq (.ops r217_6) c217_10
abbrev r217_12 : List SOper := [
  ⟨some 26, none, .mov (.t 0)⟩,
  ⟨some 4, none, .mov (.t 26)⟩]
abbrev c217_13 : SC := .seq (.ops r217_12) (.ret)
abbrev c217_14 : SC := .seq c217_11 c217_13
abbrev c217_15 : SC := .seq c217_5 c217_14
abbrev c217_16 : SC := .seq (.ops r217_1) c217_15
def s217 : SF := ⟨[.t 4], c217_16, true, none, none⟩
/-! slices.stableCmpFunc[crannog/api.Inode] -/
abbrev r218_1 : List SOper := [
  ⟨some 6, none, .mov (.c (.int .i64 20))⟩]
abbrev r218_2 : List SOper := [
  ⟨some 10, none, .mov (.t 6)⟩,
  ⟨some 7, none, .mov (.c (.int .i64 0))⟩,
  ⟨some 8, none, .mov (.t 10)⟩]
abbrev r218_3 : List SOper := [
  ⟨some 11, none, .mov (.t 8)⟩,
  ⟨some 12, none, .mov (.t 1)⟩,
  ⟨some 13, none, .bin .leq (.t 11) (.t 12)⟩]
abbrev c218_4 : SC := .cond (.t 13) (.skip) (.exit 0)
abbrev c218_5 : SC := .seq (.ops r218_3) c218_4
abbrev r218_6 : List SOper := [
  ⟨some 14, none, .mov (.t 0)⟩,
  ⟨some 15, none, .mov (.t 7)⟩,
  ⟨some 16, none, .mov (.t 8)⟩,
  ⟨some 17, none, .mov (.t 2)⟩,
  ⟨some 18, none, .call false (.c (.func 264 [])) [.t 14, .t 15, .t 16, .t 17]⟩]
abbrev r218_7 : List SOper := [
  ⟨some 19, none, .mov (.t 8)⟩,
  ⟨some 7, none, .mov (.t 19)⟩]
abbrev r218_8 : List SOper := [
  ⟨some 20, none, .mov (.t 8)⟩,
  ⟨some 21, none, .mov (.t 6)⟩,
  ⟨some 22, none, .bin .add (.t 20) (.t 21)⟩,
  ⟨some 8, none, .mov (.t 22)⟩]
abbrev c218_9 : SC := .seq (.ops r218_7) (.ops r218_8)
abbrev c218_10 : SC := .seq (.ops r218_6) c218_9
abbrev c218_11 : SC := .block 1 [0, 1, 2, 6, 7, 8] [] c218_10
abbrev c218_12 : SC := .seq c218_5 c218_11
abbrev L218_1 : SC := .loop [0, 1, 2, 6, 7, 8] [] c218_12
abbrev c218_13 : SC := .block 0 [0, 1, 2, 6, 7] [] L218_1
abbrev r218_14 : List SOper := [
  ⟨some 23, none, .mov (.t 0)⟩,
  ⟨some 24, none, .mov (.t 7)⟩,
  ⟨some 25, none, .mov (.t 1)⟩,
  ⟨some 26, none, .mov (.t 2)⟩,
  ⟨some 27, none, .call false (.c (.func 264 [])) [.t 23, .t 24, .t 25, .t 26]⟩]
abbrev r218_15 : List SOper := [
  ⟨some 28, none, .mov (.t 6)⟩,
  ⟨some 29, none, .mov (.t 1)⟩,
  ⟨some 30, none, .bin .lss (.t 28) (.t 29)⟩]
abbrev c218_16 : SC := .cond (.t 30) (.skip) (.exit 2)
abbrev c218_17 : SC := .seq (.ops r218_15) c218_16
abbrev r218_18 : List SOper := [
  ⟨some 31, none, .mov (.t 6)⟩,
  ⟨some 32, none, .bin .mul (.c (.int .i64 2)) (.t 31)⟩,
  ⟨some 7, none, .mov (.c (.int .i64 0))⟩,
  ⟨some 8, none, .mov (.t 32)⟩]
abbrev r218_19 : List SOper := [
  ⟨some 33, none, .mov (.t 8)⟩,
  ⟨some 34, none, .mov (.t 1)⟩,
  ⟨some 35, none, .bin .leq (.t 33) (.t 34)⟩]
abbrev c218_20 : SC := .cond (.t 35) (.skip) (.exit 4)
abbrev c218_21 : SC := .seq (.ops r218_19) c218_20
abbrev r218_22 : List SOper := [
  ⟨some 36, none, .mov (.t 0)⟩,
  ⟨some 37, none, .mov (.t 7)⟩,
  ⟨some 38, none, .mov (.t 7)⟩,
  ⟨some 39, none, .mov (.t 6)⟩,
  ⟨some 40, none, .bin .add (.t 38) (.t 39)⟩,
  ⟨some 41, none, .mov (.t 8)⟩,
  ⟨some 42, none, .mov (.t 2)⟩,
  ⟨some 43, none, .call false (.c (.func 265 [])) [.t 36, .t 37, .t 40, .t 41, .t 42]⟩]
abbrev r218_23 : List SOper := [
  ⟨some 44, none, .mov (.t 8)⟩,
  ⟨some 7, none, .mov (.t 44)⟩]
abbrev r218_24 : List SOper := [
  ⟨some 45, none, .mov (.t 8)⟩,
  ⟨some 46, none, .mov (.t 6)⟩,
  ⟨some 47, none, .bin .mul (.c (.int .i64 2)) (.t 46)⟩,
  ⟨some 48, none, .bin .add (.t 45) (.t 47)⟩,
  ⟨some 8, none, .mov (.t 48)⟩]
abbrev c218_25 : SC := .seq (.ops r218_23) (.ops r218_24)
abbrev c218_26 : SC := .seq (.ops r218_22) c218_25
abbrev c218_27 : SC := .block 5 [0, 1, 2, 6, 7, 8] [] c218_26
abbrev c218_28 : SC := .seq c218_21 c218_27
abbrev L218_2 : SC := .loop [0, 1, 2, 6, 7, 8] [] c218_28
abbrev c218_29 : SC := .block 4 [0, 1, 2, 6, 7] [] L218_2
abbrev r218_30 : List SOper := [
  ⟨some 49, none, .mov (.t 7)⟩,
  ⟨some 50, none, .mov (.t 6)⟩,
  ⟨some 51, none, .bin .add (.t 49) (.t 50)⟩,
  ⟨some 9, none, .mov (.t 51)⟩]
abbrev r218_31 : List SOper := [
  ⟨some 52, none, .mov (.t 9)⟩,
  ⟨some 53, none, .mov (.t 1)⟩,
  ⟨some 54, none, .bin .lss (.t 52) (.t 53)⟩]
abbrev r218_32 : List SOper := [
  ⟨some 55, none, .mov (.t 0)⟩,
  ⟨some 56, none, .mov (.t 7)⟩,
  ⟨some 57, none, .mov (.t 9)⟩,
  ⟨some 58, none, .mov (.t 1)⟩,
  ⟨some 59, none, .mov (.t 2)⟩,
  ⟨some 60, none, .call false (.c (.func 265 [])) [.t 55, .t 56, .t 57, .t 58, .t 59]⟩]
abbrev c218_33 : SC := .cond (.t 54) (.ops r218_32) (.skip)
abbrev c218_34 : SC := .seq (.ops r218_31) c218_33
abbrev c218_35 : SC := .seq (.ops r218_30) c218_34
abbrev r218_36 : List SOper := [
  ⟨some 61, none, .mov (.t 6)⟩,
  ⟨some 62, none, .bin .mul (.t 61) (.c (.int .i64 2))⟩,
  ⟨some 6, none, .mov (.t 62)⟩]
abbrev c218_37 : SC := .seq c218_35 (.ops r218_36)
abbrev c218_38 : SC := .seq c218_29 c218_37
abbrev c218_39 : SC := .seq (.ops r218_18) c218_38
abbrev c218_40 : SC := .block 3 [0, 1, 2, 6] [] c218_39
abbrev c218_41 : SC := .seq c218_17 c218_40
abbrev L218_3 : SC := .loop [0, 1, 2, 6] [] c218_41
abbrev c218_42 : SC := .block 2 [] [] L218_3
abbrev c218_43 : SC := .seq (.ops r218_14) c218_42
abbrev c218_44 : SC := .seq c218_13 c218_43
abbrev c218_45 : SC := .seq (.ops r218_2) c218_44
abbrev c218_46 : SC := .seq (.ops r218_1) c218_45
def s218 : SF := ⟨[], c218_46, false, none, none⟩
/-! cmp.isNaN[int] -/
abbrev r219_1 : List SOper := [
  ⟨some 2, none, .mov (.c (.bool false))⟩]
abbrev r219_2 : List SOper := [
  ⟨some 3, none, .mov (.t 0)⟩,
  ⟨some 4, none, .mov (.t 0)⟩,
  ⟨some 5, none, .bin .neq (.t 3) (.t 4)⟩,
  ⟨some 2, none, .mov (.t 5)⟩]
abbrev c219_3 : SC := .seq (.ops r219_2) (.ret)
abbrev c219_4 : SC := .seq (.ops r219_1) c219_3
def s219 : SF := ⟨[.t 2], c219_4, false, none, none⟩
/-! slices.Grow[[]crannog/api.Piece,crannog/api.Piece] -/
abbrev r221_1 : List SOper := [
  ⟨some 4, none, .mov (.c (.nils))⟩]
abbrev r221_2 : List SOper := [
  ⟨some 5, none, .mov (.t 1)⟩,
  ⟨some 6, none, .bin .lss (.t 5) (.c (.int .i64 0))⟩]
abbrev r221_3 : List SOper := [
  ⟨some 7, none, .mkif 9 (.c (.str [99, 97, 110, 110, 111, 116, 32, 98, 101, 32, 110, 101, 103, 97, 116, 105, 118, 101]))⟩,
  ⟨none, none, .panic (.t 7)⟩]
abbrev c221_4 : SC := .cond (.t 6) (.ops r221_3) (.skip)
abbrev c221_5 : SC := .seq (.ops r221_2) c221_4
abbrev r221_6 : List SOper := [
  ⟨some 8, none, .mov (.t 1)⟩,
  ⟨some 9, none, .mov (.t 0)⟩,
  ⟨some 10, none, .cap (.t 9)⟩,
  ⟨some 11, none, .mov (.t 0)⟩,
  ⟨some 12, none, .len 1 (.t 11)⟩,
  ⟨some 13, none, .bin .sub (.t 10) (.t 12)⟩,
  ⟨some 14, none, .bin .sub (.t 8) (.t 13)⟩,
  ⟨some 1, none, .mov (.t 14)⟩]
abbrev r221_7 : List SOper := [
  ⟨some 15, none, .mov (.t 1)⟩,
  ⟨some 16, none, .bin .gtr (.t 15) (.c (.int .i64 0))⟩]
abbrev r221_8 : List SOper := [
  ⟨some 17, none, .mov (.t 0)⟩,
  ⟨some 18, none, .mov (.t 0)⟩,
  ⟨some 19, none, .cap (.t 18)⟩,
  ⟨some 20, none, .slice false 4 (.t 17) none (some (.t 19)) none⟩,
  ⟨some 21, none, .mov (.t 1)⟩,
  ⟨some 22, none, .appendz 4 40 (.agg [.int .i64 0, .int .i64 0, .int .i64 0, .str []]) (.t 20) (.t 21)⟩,
  ⟨some 23, none, .mov (.t 0)⟩,
  ⟨some 24, none, .len 1 (.t 23)⟩,
  ⟨some 25, none, .slice false 4 (.t 22) none (some (.t 24)) none⟩,
  ⟨some 0, none, .mov (.t 25)⟩]
abbrev c221_9 : SC := .cond (.t 16) (.ops r221_8) (.skip)
abbrev c221_10 : SC := .seq (.ops r221_7) c221_9
abbrev c221_11 : SC := .seq (.ops r221_6) c221_10
abbrev r221_12 : List SOper := [
  ⟨some 26, none, .mov (.t 0)⟩,
  ⟨some 4, none, .mov (.t 26)⟩]
abbrev c221_13 : SC := .seq (.ops r221_12) (.ret)
abbrev c221_14 : SC := .seq c221_11 c221_13
abbrev c221_15 : SC := .seq c221_5 c221_14
abbrev c221_16 : SC := .seq (.ops r221_1) c221_15
def s221 : SF := ⟨[.t 4], c221_16, true, none, none⟩
/-! slices.Grow[[]crannog/api.Xattr,crannog/api.Xattr] -/
abbrev r222_1 : List SOper := [
  ⟨some 4, none, .mov (.c (.nils))⟩]
abbrev r222_2 : List SOper := [
  ⟨some 5, none, .mov (.t 1)⟩,
  ⟨some 6, none, .bin .lss (.t 5) (.c (.int .i64 0))⟩]
abbrev r222_3 : List SOper := [
  ⟨some 7, none, .mkif 9 (.c (.str [99, 97, 110, 110, 111, 116, 32, 98, 101, 32, 110, 101, 103, 97, 116, 105, 118, 101]))⟩,
  ⟨none, none, .panic (.t 7)⟩]
abbrev c222_4 : SC := .cond (.t 6) (.ops r222_3) (.skip)
abbrev c222_5 : SC := .seq (.ops r222_2) c222_4
abbrev r222_6 : List SOper := [
  ⟨some 8, none, .mov (.t 1)⟩,
  ⟨some 9, none, .mov (.t 0)⟩,
  ⟨some 10, none, .cap (.t 9)⟩,
  ⟨some 11, none, .mov (.t 0)⟩,
  ⟨some 12, none, .len 1 (.t 11)⟩,
  ⟨some 13, none, .bin .sub (.t 10) (.t 12)⟩,
  ⟨some 14, none, .bin .sub (.t 8) (.t 13)⟩,
  ⟨some 1, none, .mov (.t 14)⟩]
abbrev r222_7 : List SOper := [
  ⟨some 15, none, .mov (.t 1)⟩,
  ⟨some 16, none, .bin .gtr (.t 15) (.c (.int .i64 0))⟩]
abbrev r222_8 : List SOper := [
  ⟨some 17, none, .mov (.t 0)⟩,
  ⟨some 18, none, .mov (.t 0)⟩,
  ⟨some 19, none, .cap (.t 18)⟩,
  ⟨some 20, none, .slice false 5 (.t 17) none (some (.t 19)) none⟩,
  ⟨some 21, none, .mov (.t 1)⟩,
  ⟨some 22, none, .appendz 5 56 (.agg [.str [], .int .i64 0, .int .i64 0, .str [], .bool false]) (.t 20) (.t 21)⟩,
  ⟨some 23, none, .mov (.t 0)⟩,
  ⟨some 24, none, .len 1 (.t 23)⟩,
  ⟨some 25, none, .slice false 5 (.t 22) none (some (.t 24)) none⟩,
  ⟨some 0, none, .mov (.t 25)⟩]
abbrev c222_9 : SC := .cond (.t 16) (.ops r222_8) (.skip)
abbrev c222_10 : SC := .seq (.ops r222_7) c222_9
abbrev c222_11 : SC := .seq (.ops r222_6) c222_10
abbrev r222_12 : List SOper := [
  ⟨some 26, none, .mov (.t 0)⟩,
  ⟨some 4, none, .mov (.t 26)⟩]
abbrev c222_13 : SC := .seq (.ops r222_12) (.ret)
abbrev c222_14 : SC := .seq c222_11 c222_13
abbrev c222_15 : SC := .seq c222_5 c222_14
abbrev c222_16 : SC := .seq (.ops r222_1) c222_15
def s222 : SF := ⟨[.t 4], c222_16, true, none, none⟩
/-! slices.Grow[[]crannog/api.Link,crannog/api.Link] -/
abbrev r223_1 : List SOper := [
  ⟨some 4, none, .mov (.c (.nils))⟩]
abbrev r223_2 : List SOper := [
  ⟨some 5, none, .mov (.t 1)⟩,
  ⟨some 6, none, .bin .lss (.t 5) (.c (.int .i64 0))⟩]
abbrev r223_3 : List SOper := [
  ⟨some 7, none, .mkif 9 (.c (.str [99, 97, 110, 110, 111, 116, 32, 98, 101, 32, 110, 101, 103, 97, 116, 105, 118, 101]))⟩,
  ⟨none, none, .panic (.t 7)⟩]
abbrev c223_4 : SC := .cond (.t 6) (.ops r223_3) (.skip)
abbrev c223_5 : SC := .seq (.ops r223_2) c223_4
abbrev r223_6 : List SOper := [
  ⟨some 8, none, .mov (.t 1)⟩,
  ⟨some 9, none, .mov (.t 0)⟩,
  ⟨some 10, none, .cap (.t 9)⟩,
  ⟨some 11, none, .mov (.t 0)⟩,
  ⟨some 12, none, .len 1 (.t 11)⟩,
  ⟨some 13, none, .bin .sub (.t 10) (.t 12)⟩,
  ⟨some 14, none, .bin .sub (.t 8) (.t 13)⟩,
  ⟨some 1, none, .mov (.t 14)⟩]
abbrev r223_7 : List SOper := [
  ⟨some 15, none, .mov (.t 1)⟩,
  ⟨some 16, none, .bin .gtr (.t 15) (.c (.int .i64 0))⟩]
abbrev r223_8 : List SOper := [
  ⟨some 17, none, .mov (.t 0)⟩,
  ⟨some 18, none, .mov (.t 0)⟩,
  ⟨some 19, none, .cap (.t 18)⟩,
  ⟨some 20, none, .slice false 25 (.t 17) none (some (.t 19)) none⟩,
  ⟨some 21, none, .mov (.t 1)⟩,
  ⟨some 22, none, .appendz 25 208 (.agg [.int .i64 0, .int .i64 0, .int .i64 0, .int .i64 0, .int .i64 0, .int .i64 0, .int .i64 0, .int .i64 0, .str [], .int .i64 0, .int .i64 0, .int .i64 0, .int .i64 0, .int .i64 0, .int .i64 0, .int .i64 0, .int .i64 0, .int .i64 0, .int .i64 0, .int .i64 0, .int .i64 0, .int .i64 0, .int .i64 0, .int .i64 0, .int .i64 0]) (.t 20) (.t 21)⟩,
  ⟨some 23, none, .mov (.t 0)⟩,
  ⟨some 24, none, .len 1 (.t 23)⟩,
  ⟨some 25, none, .slice false 25 (.t 22) none (some (.t 24)) none⟩,
  ⟨some 0, none, .mov (.t 25)⟩]
abbrev c223_9 : SC := .cond (.t 16) (.ops r223_8) (.skip)
abbrev c223_10 : SC := .seq (.ops r223_7) c223_9
abbrev c223_11 : SC := .seq (.ops r223_6) c223_10
abbrev r223_12 : List SOper := [
  ⟨some 26, none, .mov (.t 0)⟩,
  ⟨some 4, none, .mov (.t 26)⟩]
abbrev c223_13 : SC := .seq (.ops r223_12) (.ret)
abbrev c223_14 : SC := .seq c223_11 c223_13
abbrev c223_15 : SC := .seq c223_5 c223_14
abbrev c223_16 : SC := .seq (.ops r223_1) c223_15
def s223 : SF := ⟨[.t 4], c223_16, true, none, none⟩
/-! slices.stableCmpFunc[crannog/api.Link] -/
abbrev r224_1 : List SOper := [
  ⟨some 6, none, .mov (.c (.int .i64 20))⟩]
abbrev r224_2 : List SOper := [
  ⟨some 10, none, .mov (.t 6)⟩,
  ⟨some 7, none, .mov (.c (.int .i64 0))⟩,
  ⟨some 8, none, .mov (.t 10)⟩]
abbrev r224_3 : List SOper := [
  ⟨some 11, none, .mov (.t 8)⟩,
  ⟨some 12, none, .mov (.t 1)⟩,
  ⟨some 13, none, .bin .leq (.t 11) (.t 12)⟩]
abbrev c224_4 : SC := .cond (.t 13) (.skip) (.exit 0)
abbrev c224_5 : SC := .seq (.ops r224_3) c224_4
abbrev r224_6 : List SOper := [
  ⟨some 14, none, .mov (.t 0)⟩,
  ⟨some 15, none, .mov (.t 7)⟩,
  ⟨some 16, none, .mov (.t 8)⟩,
  ⟨some 17, none, .mov (.t 2)⟩,
  ⟨some 18, none, .call false (.c (.func 267 [])) [.t 14, .t 15, .t 16, .t 17]⟩]
abbrev r224_7 : List SOper := [
  ⟨some 19, none, .mov (.t 8)⟩,
  ⟨some 7, none, .mov (.t 19)⟩]
abbrev r224_8 : List SOper := [
  ⟨some 20, none, .mov (.t 8)⟩,
  ⟨some 21, none, .mov (.t 6)⟩,
  ⟨some 22, none, .bin .add (.t 20) (.t 21)⟩,
  ⟨some 8, none, .mov (.t 22)⟩]
abbrev c224_9 : SC := .seq (.ops r224_7) (.ops r224_8)
abbrev c224_10 : SC := .seq (.ops r224_6) c224_9
abbrev c224_11 : SC := .block 1 [0, 1, 2, 6, 7, 8] [] c224_10
abbrev c224_12 : SC := .seq c224_5 c224_11
abbrev L224_1 : SC := .loop [0, 1, 2, 6, 7, 8] [] c224_12
abbrev c224_13 : SC := .block 0 [0, 1, 2, 6, 7] [] L224_1
abbrev r224_14 : List SOper := [
  ⟨some 23, none, .mov (.t 0)⟩,
  ⟨some 24, none, .mov (.t 7)⟩,
  ⟨some 25, none, .mov (.t 1)⟩,
  ⟨some 26, none, .mov (.t 2)⟩,
  ⟨some 27, none, .call false (.c (.func 267 [])) [.t 23, .t 24, .t 25, .t 26]⟩]
abbrev r224_15 : List SOper := [
  ⟨some 28, none, .mov (.t 6)⟩,
  ⟨some 29, none, .mov (.t 1)⟩,
  ⟨some 30, none, .bin .lss (.t 28) (.t 29)⟩]
abbrev c224_16 : SC := .cond (.t 30) (.skip) (.exit 2)
abbrev c224_17 : SC := .seq (.ops r224_15) c224_16
abbrev r224_18 : List SOper := [
  ⟨some 31, none, .mov (.t 6)⟩,
  ⟨some 32, none, .bin .mul (.c (.int .i64 2)) (.t 31)⟩,
  ⟨some 7, none, .mov (.c (.int .i64 0))⟩,
  ⟨some 8, none, .mov (.t 32)⟩]
abbrev r224_19 : List SOper := [
  ⟨some 33, none, .mov (.t 8)⟩,
  ⟨some 34, none, .mov (.t 1)⟩,
  ⟨some 35, none, .bin .leq (.t 33) (.t 34)⟩]
abbrev c224_20 : SC := .cond (.t 35) (.skip) (.exit 4)
abbrev c224_21 : SC := .seq (.ops r224_19) c224_20
abbrev r224_22 : List SOper := [
  ⟨some 36, none, .mov (.t 0)⟩,
  ⟨some 37, none, .mov (.t 7)⟩,
  ⟨some 38, none, .mov (.t 7)⟩,
  ⟨some 39, none, .mov (.t 6)⟩,
  ⟨some 40, none, .bin .add (.t 38) (.t 39)⟩,
  ⟨some 41, none, .mov (.t 8)⟩,
  ⟨some 42, none, .mov (.t 2)⟩,
  ⟨some 43, none, .call false (.c (.func 268 [])) [.t 36, .t 37, .t 40, .t 41, .t 42]⟩]
abbrev r224_23 : List SOper := [
  ⟨some 44, none, .mov (.t 8)⟩,
  ⟨some 7, none, .mov (.t 44)⟩]
abbrev r224_24 : List SOper := [
  ⟨some 45, none, .mov (.t 8)⟩,
  ⟨some 46, none, .mov (.t 6)⟩,
  ⟨some 47, none, .bin .mul (.c (.int .i64 2)) (.t 46)⟩,
  ⟨some 48, none, .bin .add (.t 45) (.t 47)⟩,
  ⟨some 8, none, .mov (.t 48)⟩]
abbrev c224_25 : SC := .seq (.ops r224_23) (.ops r224_24)
abbrev c224_26 : SC := .seq (.ops r224_22) c224_25
abbrev c224_27 : SC := .block 5 [0, 1, 2, 6, 7, 8] [] c224_26
abbrev c224_28 : SC := .seq c224_21 c224_27
abbrev L224_2 : SC := .loop [0, 1, 2, 6, 7, 8] [] c224_28
abbrev c224_29 : SC := .block 4 [0, 1, 2, 6, 7] [] L224_2
abbrev r224_30 : List SOper := [
  ⟨some 49, none, .mov (.t 7)⟩,
  ⟨some 50, none, .mov (.t 6)⟩,
  ⟨some 51, none, .bin .add (.t 49) (.t 50)⟩,
  ⟨some 9, none, .mov (.t 51)⟩]
abbrev r224_31 : List SOper := [
  ⟨some 52, none, .mov (.t 9)⟩,
  ⟨some 53, none, .mov (.t 1)⟩,
  ⟨some 54, none, .bin .lss (.t 52) (.t 53)⟩]
abbrev r224_32 : List SOper := [
  ⟨some 55, none, .mov (.t 0)⟩,
  ⟨some 56, none, .mov (.t 7)⟩,
  ⟨some 57, none, .mov (.t 9)⟩,
  ⟨some 58, none, .mov (.t 1)⟩,
  ⟨some 59, none, .mov (.t 2)⟩,
  ⟨some 60, none, .call false (.c (.func 268 [])) [.t 55, .t 56, .t 57, .t 58, .t 59]⟩]
abbrev c224_33 : SC := .cond (.t 54) (.ops r224_32) (.skip)
abbrev c224_34 : SC := .seq (.ops r224_31) c224_33
abbrev c224_35 : SC := .seq (.ops r224_30) c224_34
abbrev r224_36 : List SOper := [
  ⟨some 61, none, .mov (.t 6)⟩,
  ⟨some 62, none, .bin .mul (.t 61) (.c (.int .i64 2))⟩,
  ⟨some 6, none, .mov (.t 62)⟩]
abbrev c224_37 : SC := .seq c224_35 (.ops r224_36)
abbrev c224_38 : SC := .seq c224_29 c224_37
abbrev c224_39 : SC := .seq (.ops r224_18) c224_38
abbrev c224_40 : SC := .block 3 [0, 1, 2, 6] [] c224_39
abbrev c224_41 : SC := .seq c224_17 c224_40
abbrev L224_3 : SC := .loop [0, 1, 2, 6] [] c224_41
abbrev c224_42 : SC := .block 2 [] [] L224_3
abbrev c224_43 : SC := .seq (.ops r224_14) c224_42
abbrev c224_44 : SC := .seq c224_13 c224_43
abbrev c224_45 : SC := .seq (.ops r224_2) c224_44
abbrev c224_46 : SC := .seq (.ops r224_1) c224_45
def s224 : SF := ⟨[], c224_46, false, none, none⟩
/-! slices.SortStableFunc[[]crannog/api.Piece,crannog/api.Piece] -/
abbrev r225_1 : List SOper := [
  ⟨some 4, none, .mov (.t 0)⟩,
  ⟨some 5, none, .mov (.t 0)⟩,
  ⟨some 6, none, .len 1 (.t 5)⟩,
  ⟨some 7, none, .mov (.t 1)⟩,
  ⟨some 8, none, .call false (.c (.func 269 [])) [.t 4, .t 6, .t 7]⟩]
def s225 : SF := ⟨[], .ops r225_1, false, none, none⟩
/-! slices.SortStableFunc[[]crannog/api.Xattr,crannog/api.Xattr] -/
abbrev r226_1 : List SOper := [
  ⟨some 4, none, .mov (.t 0)⟩,
  ⟨some 5, none, .mov (.t 0)⟩,
  ⟨some 6, none, .len 1 (.t 5)⟩,
  ⟨some 7, none, .mov (.t 1)⟩,
  ⟨some 8, none, .call false (.c (.func 270 [])) [.t 4, .t 6, .t 7]⟩]
def s226 : SF := ⟨[], .ops r226_1, false, none, none⟩
/-! cmp.isNaN[string] -/
abbrev r227_1 : List SOper := [
  ⟨some 2, none, .mov (.c (.bool false))⟩]
abbrev r227_2 : List SOper := [
  ⟨some 3, none, .mov (.t 0)⟩,
  ⟨some 4, none, .mov (.t 0)⟩,
  ⟨some 5, none, .bin .neq (.t 3) (.t 4)⟩,
  ⟨some 2, none, .mov (.t 5)⟩]
abbrev c227_3 : SC := .seq (.ops r227_2) (.ret)
abbrev c227_4 : SC := .seq (.ops r227_1) c227_3
def s227 : SF := ⟨[.t 2], c227_4, false, none, none⟩
/-! strings.genSplit -/
abbrev r229_1 : List SOper := [
  ⟨some 8, none, .mov (.c (.nils))⟩]
abbrev r229_2 : List SOper := [
  ⟨some 12, none, .mov (.t 3)⟩,
  ⟨some 13, none, .bin .eql (.t 12) (.c (.int .i64 0))⟩]
abbrev r229_3 : List SOper := [
  ⟨some 8, none, .mov (.c (.nils))⟩]
abbrev c229_4 : SC := .seq (.ops r229_3) (.ret)
abbrev c229_5 : SC := .cond (.t 13) c229_4 (.skip)
abbrev c229_6 : SC := .seq (.ops r229_2) c229_5
abbrev r229_7 : List SOper := [
  ⟨some 14, none, .mov (.t 1)⟩,
  ⟨some 15, none, .bin .eql (.t 14) (.c (.str []))⟩]
abbrev r229_8 : List SOper := [
  ⟨some 16, none, .mov (.t 0)⟩,
  ⟨some 17, none, .mov (.t 3)⟩,
  ⟨some 18, none, .call false (.c (.func 271 [])) [.t 16, .t 17]⟩,
  ⟨some 8, none, .mov (.t 18)⟩]
abbrev c229_9 : SC := .seq (.ops r229_8) (.ret)
abbrev c229_10 : SC := .cond (.t 15) c229_9 (.skip)
abbrev c229_11 : SC := .seq (.ops r229_7) c229_10
abbrev r229_12 : List SOper := [
  ⟨some 19, none, .mov (.t 3)⟩,
  ⟨some 20, none, .bin .lss (.t 19) (.c (.int .i64 0))⟩]
abbrev r229_13 : List SOper := [
  ⟨some 21, none, .mov (.t 0)⟩,
  ⟨some 22, none, .mov (.t 1)⟩,
  ⟨some 23, none, .call false (.c (.func 272 [])) [.t 21, .t 22]⟩,
  ⟨some 24, none, .bin .add (.t 23) (.c (.int .i64 1))⟩,
  ⟨some 3, none, .mov (.t 24)⟩]
abbrev c229_14 : SC := .cond (.t 20) (.ops r229_13) (.skip)
abbrev c229_15 : SC := .seq (.ops r229_12) c229_14
abbrev r229_16 : List SOper := [
  ⟨some 25, none, .mov (.t 3)⟩,
  ⟨some 26, none, .mov (.t 0)⟩,
  ⟨some 27, none, .len 0 (.t 26)⟩,
  ⟨some 28, none, .bin .add (.t 27) (.c (.int .i64 1))⟩,
  ⟨some 29, none, .minmax false [.t 25, .t 28]⟩,
  ⟨some 3, none, .mov (.t 29)⟩]
abbrev r229_17 : List SOper := [
  ⟨some 30, none, .mov (.t 3)⟩,
  ⟨some 31, none, .mkslice none 16 1 (.str []) (.t 30) (.t 30)⟩,
  ⟨some 9, none, .mov (.t 31)⟩]
abbrev r229_18 : List SOper := [
  ⟨some 32, none, .mov (.t 3)⟩,
  ⟨some 33, none, .bin .sub (.t 32) (.c (.int .i64 1))⟩,
  ⟨some 3, none, .mov (.t 33)⟩]
abbrev r229_19 : List SOper := [
  ⟨some 10, none, .mov (.c (.int .i64 0))⟩]
abbrev r229_20 : List SOper := [
  ⟨some 34, none, .mov (.t 10)⟩,
  ⟨some 35, none, .mov (.t 3)⟩,
  ⟨some 36, none, .bin .lss (.t 34) (.t 35)⟩]
abbrev c229_21 : SC := .cond (.t 36) (.skip) (.exit 0)
abbrev c229_22 : SC := .seq (.ops r229_20) c229_21
abbrev r229_23 : List SOper := [
  ⟨some 37, none, .mov (.t 0)⟩,
  ⟨some 38, none, .mov (.t 1)⟩,
  ⟨some 39, none, .call false (.c (.func 273 [])) [.t 37, .t 38]⟩,
  ⟨some 11, none, .mov (.t 39)⟩]
abbrev r229_24 : List SOper := [
  ⟨some 40, none, .mov (.t 11)⟩,
  ⟨some 41, none, .bin .lss (.t 40) (.c (.int .i64 0))⟩]
abbrev c229_25 : SC := .cond (.t 41) (.exit 0) (.skip)
abbrev c229_26 : SC := .seq (.ops r229_24) c229_25
abbrev r229_27 : List SOper := [
  ⟨some 42, none, .mov (.t 9)⟩,
  ⟨some 43, none, .mov (.t 10)⟩,
  ⟨some 44, none, .mov (.t 0)⟩,
  ⟨some 45, none, .mov (.t 11)⟩,
  ⟨some 46, none, .mov (.t 2)⟩,
  ⟨some 47, none, .bin .add (.t 45) (.t 46)⟩,
  ⟨some 48, none, .slice true 1 (.t 44) none (some (.t 47)) none⟩,
  ⟨some 49, none, .iaddr none 1 (.t 42) (.t 43)⟩,
  ⟨none, none, .store 1 (.t 49) (.t 48)⟩]
abbrev r229_28 : List SOper := [
  ⟨some 50, none, .mov (.t 0)⟩,
  ⟨some 51, none, .mov (.t 11)⟩,
  ⟨some 52, none, .mov (.t 1)⟩,
  ⟨some 53, none, .len 0 (.t 52)⟩,
  ⟨some 54, none, .bin .add (.t 51) (.t 53)⟩,
  ⟨some 55, none, .slice true 1 (.t 50) (some (.t 54)) none none⟩,
  ⟨some 0, none, .mov (.t 55)⟩]
abbrev r229_29 : List SOper := [
  ⟨some 56, none, .mov (.t 10)⟩,
  ⟨some 57, none, .bin .add (.t 56) (.c (.int .i64 1))⟩,
  ⟨some 10, none, .mov (.t 57)⟩]
abbrev c229_30 : SC := .seq (.ops r229_28) (.ops r229_29)
abbrev c229_31 : SC := .seq (.ops r229_27) c229_30
abbrev c229_32 : SC := .seq c229_26 c229_31
abbrev c229_33 : SC := .seq (.ops r229_23) c229_32
abbrev c229_34 : SC := .block 1 [0, 1, 2, 3, 9, 10] [] c229_33
abbrev c229_35 : SC := .seq c229_22 c229_34
abbrev L229_1 : SC := .loop [0, 1, 2, 3, 9, 10] [] c229_35
abbrev c229_36 : SC := .block 0 [0, 9, 10] [] L229_1
abbrev r229_37 : List SOper := [
  ⟨some 58, none, .mov (.t 9)⟩,
  ⟨some 59, none, .mov (.t 10)⟩,
  ⟨some 60, none, .mov (.t 0)⟩,
  ⟨some 61, none, .iaddr none 1 (.t 58) (.t 59)⟩,
  ⟨none, none, .store 1 (.t 61) (.t 60)⟩]
abbrev r229_38 : List SOper := [
  ⟨some 62, none, .mov (.t 9)⟩,
  ⟨some 63, none, .mov (.t 10)⟩,
  ⟨some 64, none, .bin .add (.t 63) (.c (.int .i64 1))⟩,
  ⟨some 65, none, .slice false 1 (.t 62) none (some (.t 64)) none⟩,
  ⟨some 8, none, .mov (.t 65)⟩]
abbrev c229_39 : SC := .seq (.ops r229_38) (.ret)
abbrev c229_40 : SC := .seq (.ops r229_37) c229_39
abbrev c229_41 : SC := .seq c229_36 c229_40
abbrev c229_42 : SC := .seq (.ops r229_19) c229_41
abbrev c229_43 : SC := .seq (.ops r229_18) c229_42
abbrev c229_44 : SC := .seq (.ops r229_17) c229_43
abbrev c229_45 : SC := .seq (.ops r229_16) c229_44
abbrev c229_46 : SC := .seq c229_15 c229_45
abbrev c229_47 : SC := .seq c229_11 c229_46
abbrev c229_48 : SC := .seq c229_6 c229_47
abbrev c229_49 : SC := .seq (.ops r229_1) c229_48
def s229 : SF := ⟨[.t 8], c229_49, false, none, none⟩
/-! strings.Contains -/
abbrev r230_1 : List SOper := [
  ⟨some 4, none, .mov (.c (.bool false))⟩]
abbrev r230_2 : List SOper := [
  ⟨some 5, none, .mov (.t 0)⟩,
  ⟨some 6, none, .mov (.t 1)⟩,
  ⟨some 7, none, .call false (.c (.func 273 [])) [.t 5, .t 6]⟩,
  ⟨some 8, none, .bin .geq (.t 7) (.c (.int .i64 0))⟩,
  ⟨some 4, none, .mov (.t 8)⟩]
abbrev c230_3 : SC := .seq (.ops r230_2) (.ret)
abbrev c230_4 : SC := .seq (.ops r230_1) c230_3
def s230 : SF := ⟨[.t 4], c230_4, false, none, none⟩
/-! crannog/view.step$1 -/
abbrev r231_1 : List SOper := [
  ⟨some 3, none, .boxL (.t 0)⟩,
  ⟨some 4, none, .mov (.c (.bool false))⟩]
abbrev r231_2 : List SOper := [
  ⟨some 5, none, .faddr 4 (.t 3)⟩,
  ⟨some 6, none, .load false true 2 (.t 5)⟩,
  ⟨some 7, none, .load false true 2 (.t 1)⟩,
  ⟨some 8, none, .cmpA false [.int .i64, .int .i64] (.t 6) (.t 7)⟩,
  ⟨some 9, none, .mov (.t 8)⟩,
  ⟨some 10, some (9, true), .faddr 6 (.t 3)⟩,
  ⟨some 11, some (9, true), .load false false 1 (.t 10)⟩,
  ⟨some 12, some (9, true), .load false false 1 (.t 2)⟩,
  ⟨some 13, some (9, true), .bin .eql (.t 11) (.t 12)⟩,
  ⟨some 14, none, .pick (.t 9) (.t 13) (.c (.bool false))⟩,
  ⟨some 4, none, .mov (.t 14)⟩]
abbrev c231_3 : SC := .seq (.ops r231_2) (.ret)
abbrev c231_4 : SC := .seq (.ops r231_1) c231_3
def s231 : SF := ⟨[.t 4], c231_4, false, none, none⟩
/-! crannog/vector.Is -/
abbrev r240_1 : List SOper := [
  ⟨some 1, none, .boxL (.t 0)⟩,
  ⟨some 2, none, .mov (.c (.bool false))⟩]
abbrev r240_2 : List SOper := [
  ⟨some 3, none, .faddr 0 (.t 1)⟩,
  ⟨some 4, none, .load false false 1 (.t 3)⟩,
  ⟨some 5, none, .bin .geq (.t 4) (.c (.int .i64 1))⟩,
  ⟨some 6, none, .mov (.t 5)⟩,
  ⟨some 7, some (6, true), .faddr 0 (.t 1)⟩,
  ⟨some 8, some (6, true), .load false false 1 (.t 7)⟩,
  ⟨some 9, some (6, true), .bin .leq (.t 8) (.c (.int .i64 1099511627776))⟩,
  ⟨some 10, none, .pick (.t 6) (.t 9) (.c (.bool false))⟩,
  ⟨some 11, none, .mov (.t 10)⟩,
  ⟨some 12, some (11, true), .faddr 1 (.t 1)⟩,
  ⟨some 13, some (11, true), .load false false 1 (.t 12)⟩,
  ⟨some 14, some (11, true), .bin .geq (.t 13) (.c (.int .i64 0))⟩,
  ⟨some 15, none, .pick (.t 11) (.t 14) (.c (.bool false))⟩,
  ⟨some 16, none, .mov (.t 15)⟩,
  ⟨some 17, some (16, true), .faddr 1 (.t 1)⟩,
  ⟨some 18, some (16, true), .load false false 1 (.t 17)⟩,
  ⟨some 19, some (16, true), .bin .lss (.t 18) (.c (.int .i64 8))⟩,
  ⟨some 20, none, .pick (.t 16) (.t 19) (.c (.bool false))⟩,
  ⟨some 2, none, .mov (.t 20)⟩]
abbrev c240_3 : SC := .seq (.ops r240_2) (.ret)
abbrev c240_4 : SC := .seq (.ops r240_1) c240_3
def s240 : SF := ⟨[.t 2], c240_4, false, none, none⟩
/-! slices.insertionSortCmpFunc[crannog/api.Shown] -/
abbrev r241_1 : List SOper := [
  ⟨some 10, none, .mov (.t 1)⟩,
  ⟨some 11, none, .bin .add (.t 10) (.c (.int .i64 1))⟩,
  ⟨some 8, none, .mov (.t 11)⟩]
abbrev r241_2 : List SOper := [
  ⟨some 12, none, .mov (.t 8)⟩,
  ⟨some 13, none, .mov (.t 2)⟩,
  ⟨some 14, none, .bin .lss (.t 12) (.t 13)⟩]
abbrev c241_3 : SC := .cond (.t 14) (.skip) (.exit 0)
abbrev c241_4 : SC := .seq (.ops r241_2) c241_3
abbrev r241_5 : List SOper := [
  ⟨some 17, none, .mov (.t 8)⟩,
  ⟨some 9, none, .mov (.t 17)⟩]
abbrev r241_6 : List SOper := [
  ⟨some 18, none, .mov (.t 9)⟩,
  ⟨some 19, none, .mov (.t 1)⟩,
  ⟨some 20, none, .bin .gtr (.t 18) (.t 19)⟩,
  ⟨some 21, none, .mov (.t 20)⟩,
  ⟨some 22, some (21, true), .mov (.t 3)⟩,
  ⟨some 23, some (21, true), .mov (.t 0)⟩,
  ⟨some 24, some (21, true), .mov (.t 9)⟩,
  ⟨some 25, some (21, true), .iaddr none 8 (.t 23) (.t 24)⟩,
  ⟨some 26, some (21, true), .load false true 8 (.t 25)⟩,
  ⟨some 27, some (21, true), .mov (.t 0)⟩,
  ⟨some 28, some (21, true), .mov (.t 9)⟩,
  ⟨some 29, some (21, true), .bin .sub (.t 28) (.c (.int .i64 1))⟩,
  ⟨some 30, some (21, true), .iaddr none 8 (.t 27) (.t 29)⟩,
  ⟨some 31, some (21, true), .load false true 8 (.t 30)⟩,
  ⟨some 32, some (21, true), .call false (.t 22) [.t 26, .t 31]⟩,
  ⟨some 33, some (21, true), .bin .lss (.t 32) (.c (.int .i64 0))⟩,
  ⟨some 34, none, .pick (.t 21) (.t 33) (.c (.bool false))⟩]
abbrev c241_7 : SC := .cond (.t 34) (.skip) (.exit 2)
abbrev c241_8 : SC := .seq (.draw 0 [[], [], [0, 1], [2], [3], [3], [3], [5, 6], [7], [3], [3], [10], [9, 11], [12], [4, 8, 13], [14], [15]] r241_6) c241_7
abbrev r241_9 : List SOper := [
  ⟨some 37, none, .mov (.t 0)⟩,
  ⟨some 38, none, .mov (.t 9)⟩,
  ⟨some 39, none, .mov (.t 0)⟩,
  ⟨some 40, none, .mov (.t 9)⟩,
  ⟨some 41, none, .bin .sub (.t 40) (.c (.int .i64 1))⟩,
  ⟨some 42, none, .mov (.t 0)⟩,
  ⟨some 43, none, .mov (.t 9)⟩,
  ⟨some 44, none, .bin .sub (.t 43) (.c (.int .i64 1))⟩,
  ⟨some 45, none, .iaddr none 8 (.t 42) (.t 44)⟩,
  ⟨some 46, none, .load false true 8 (.t 45)⟩,
  ⟨some 47, none, .mov (.t 0)⟩,
  ⟨some 48, none, .mov (.t 9)⟩,
  ⟨some 49, none, .iaddr none 8 (.t 47) (.t 48)⟩,
  ⟨some 50, none, .load false true 8 (.t 49)⟩,
  ⟨some 51, none, .iaddr none 8 (.t 37) (.t 38)⟩,
  ⟨none, none, .store 8 (.t 51) (.t 46)⟩,
  ⟨some 52, none, .iaddr none 8 (.t 39) (.t 41)⟩,
  ⟨none, none, .store 8 (.t 52) (.t 50)⟩]
abbrev c241_10 : SC := .block 3 [0, 1, 2, 3, 8, 9] [] (.draw 0 [[], [], [], [], [3], [], [], [6], [5, 7], [8], [], [], [10, 11], [12], [0, 1, 9, 13], [14], [2, 4, 15], [16]] r241_9)
abbrev r241_11 : List SOper := [
  ⟨some 35, none, .mov (.t 9)⟩,
  ⟨some 36, none, .bin .sub (.t 35) (.c (.int .i64 1))⟩,
  ⟨some 9, none, .mov (.t 36)⟩]
abbrev c241_12 : SC := .seq c241_10 (.ops r241_11)
abbrev c241_13 : SC := .seq c241_8 c241_12
abbrev L241_1 : SC := .loop [0, 1, 2, 3, 8, 9] [] c241_13
abbrev c241_14 : SC := .block 2 [0, 1, 2, 3, 8] [] L241_1
abbrev c241_15 : SC := .seq (.ops r241_5) c241_14
abbrev c241_16 : SC := .block 1 [0, 1, 2, 3, 8] [] c241_15
abbrev r241_17 : List SOper := [
  ⟨some 15, none, .mov (.t 8)⟩,
  ⟨some 16, none, .bin .add (.t 15) (.c (.int .i64 1))⟩,
  ⟨some 8, none, .mov (.t 16)⟩]
abbrev c241_18 : SC := .seq c241_16 (.ops r241_17)
abbrev c241_19 : SC := .seq c241_4 c241_18
abbrev L241_2 : SC := .loop [0, 1, 2, 3, 8] [] c241_19
abbrev c241_20 : SC := .block 0 [] [] L241_2
abbrev c241_21 : SC := .seq (.ops r241_1) c241_20
def s241 : SF := ⟨[], c241_21, false, none, none⟩
/-! math/bits.Len64 -/
abbrev r250_1 : List SOper := [
  ⟨some 2, none, .mov (.c (.int .i64 0))⟩]
abbrev r250_2 : List SOper := [
  ⟨some 3, none, .mov (.t 0)⟩,
  ⟨some 4, none, .bin .geq (.t 3) (.c (.int .u64 4294967296))⟩]
abbrev r250_3 : List SOper := [
  ⟨some 5, none, .mov (.t 0)⟩,
  ⟨some 6, none, .bin .shr (.t 5) (.c (.int .u64 32))⟩,
  ⟨some 0, none, .mov (.t 6)⟩]
abbrev r250_4 : List SOper := [
  ⟨some 2, none, .mov (.c (.int .i64 32))⟩]
abbrev c250_5 : SC := .seq (.ops r250_3) (.ops r250_4)
abbrev c250_6 : SC := .cond (.t 4) c250_5 (.skip)
abbrev c250_7 : SC := .seq (.ops r250_2) c250_6
abbrev r250_8 : List SOper := [
  ⟨some 7, none, .mov (.t 0)⟩,
  ⟨some 8, none, .bin .geq (.t 7) (.c (.int .u64 65536))⟩]
abbrev r250_9 : List SOper := [
  ⟨some 9, none, .mov (.t 0)⟩,
  ⟨some 10, none, .bin .shr (.t 9) (.c (.int .u64 16))⟩,
  ⟨some 0, none, .mov (.t 10)⟩]
abbrev r250_10 : List SOper := [
  ⟨some 11, none, .mov (.t 2)⟩,
  ⟨some 12, none, .bin .add (.t 11) (.c (.int .i64 16))⟩,
  ⟨some 2, none, .mov (.t 12)⟩]
abbrev c250_11 : SC := .seq (.ops r250_9) (.ops r250_10)
abbrev c250_12 : SC := .cond (.t 8) c250_11 (.skip)
abbrev c250_13 : SC := .seq (.ops r250_8) c250_12
abbrev r250_14 : List SOper := [
  ⟨some 13, none, .mov (.t 0)⟩,
  ⟨some 14, none, .bin .geq (.t 13) (.c (.int .u64 256))⟩]
abbrev r250_15 : List SOper := [
  ⟨some 15, none, .mov (.t 0)⟩,
  ⟨some 16, none, .bin .shr (.t 15) (.c (.int .u64 8))⟩,
  ⟨some 0, none, .mov (.t 16)⟩]
abbrev r250_16 : List SOper := [
  ⟨some 17, none, .mov (.t 2)⟩,
  ⟨some 18, none, .bin .add (.t 17) (.c (.int .i64 8))⟩,
  ⟨some 2, none, .mov (.t 18)⟩]
abbrev c250_17 : SC := .seq (.ops r250_15) (.ops r250_16)
abbrev c250_18 : SC := .cond (.t 14) c250_17 (.skip)
abbrev c250_19 : SC := .seq (.ops r250_14) c250_18
abbrev r250_20 : List SOper := [
  ⟨some 19, none, .mov (.t 2)⟩,
  ⟨some 20, none, .mov (.t 0)⟩,
  ⟨some 21, none, .cvI .u8 (.t 20)⟩,
  ⟨some 22, none, .index none (.c (.str [0, 1, 2, 2, 3, 3, 3, 3, 4, 4, 4, 4, 4, 4, 4, 4, 5, 5, 5, 5, 5, 5, 5, 5, 5, 5, 5, 5, 5, 5, 5, 5, 6, 6, 6, 6, 6, 6, 6, 6, 6, 6, 6, 6, 6, 6, 6, 6, 6, 6, 6, 6, 6, 6, 6, 6, 6, 6, 6, 6, 6, 6, 6, 6, 7, 7, 7, 7, 7, 7, 7, 7, 7, 7, 7, 7, 7, 7, 7, 7, 7, 7, 7, 7, 7, 7, 7, 7, 7, 7, 7, 7, 7, 7, 7, 7, 7, 7, 7, 7, 7, 7, 7, 7, 7, 7, 7, 7, 7, 7, 7, 7, 7, 7, 7, 7, 7, 7, 7, 7, 7, 7, 7, 7, 7, 7, 7, 7, 8, 8, 8, 8, 8, 8, 8, 8, 8, 8, 8, 8, 8, 8, 8, 8, 8, 8, 8, 8, 8, 8, 8, 8, 8, 8, 8, 8, 8, 8, 8, 8, 8, 8, 8, 8, 8, 8, 8, 8, 8, 8, 8, 8, 8, 8, 8, 8, 8, 8, 8, 8, 8, 8, 8, 8, 8, 8, 8, 8, 8, 8, 8, 8, 8, 8, 8, 8, 8, 8, 8, 8, 8, 8, 8, 8, 8, 8, 8, 8, 8, 8, 8, 8, 8, 8, 8, 8, 8, 8, 8, 8, 8, 8, 8, 8, 8, 8, 8, 8, 8, 8, 8, 8, 8, 8, 8, 8, 8, 8, 8, 8, 8, 8, 8, 8, 8, 8, 8, 8, 8, 8, 8, 8, 8, 8, 8, 8])) (.t 21)⟩,
  ⟨some 23, none, .cvI .i64 (.t 22)⟩,
  ⟨some 24, none, .bin .add (.t 19) (.t 23)⟩,
  ⟨some 2, none, .mov (.t 24)⟩]
abbrev c250_21 : SC := .seq (.ops r250_20) (.ret)
abbrev c250_22 : SC := .seq c250_19 c250_21
abbrev c250_23 : SC := .seq c250_13 c250_22
abbrev c250_24 : SC := .seq c250_7 c250_23
abbrev c250_25 : SC := .seq (.ops r250_1) c250_24
def s250 : SF := ⟨[.t 2], c250_25, false, none, none⟩
/-! crannog/names.Parent -/
abbrev r251_1 : List SOper := [
  ⟨some 2, none, .mov (.c (.nils))⟩,
  ⟨some 3, none, .mov (.c (.str []))⟩,
  ⟨some 4, none, .mov (.c (.int .i64 0))⟩]
abbrev r251_2 : List SOper := [
  ⟨some 8, none, .mov (.t 0)⟩,
  ⟨some 9, none, .call false (.c (.func 84 [])) [.t 8]⟩,
  ⟨some 7, none, .mov (.t 9)⟩,
  ⟨some 10, none, .extract (.t 7) 0⟩,
  ⟨some 11, none, .extract (.t 7) 1⟩,
  ⟨some 5, none, .mov (.t 10)⟩,
  ⟨some 6, none, .mov (.t 11)⟩]
abbrev r251_3 : List SOper := [
  ⟨some 12, none, .mov (.t 6)⟩,
  ⟨some 13, none, .bin .neq (.t 12) (.c (.int .i64 0))⟩]
abbrev r251_4 : List SOper := [
  ⟨some 14, none, .mov (.t 6)⟩,
  ⟨some 2, none, .mov (.c (.nils))⟩,
  ⟨some 3, none, .mov (.c (.str []))⟩,
  ⟨some 4, none, .mov (.t 14)⟩]
abbrev c251_5 : SC := .seq (.ops r251_4) (.ret)
abbrev c251_6 : SC := .cond (.t 13) c251_5 (.skip)
abbrev c251_7 : SC := .seq (.ops r251_3) c251_6
abbrev r251_8 : List SOper := [
  ⟨some 15, none, .mov (.t 5)⟩,
  ⟨some 16, none, .len 1 (.t 15)⟩,
  ⟨some 17, none, .bin .eql (.t 16) (.c (.int .i64 0))⟩]
abbrev r251_9 : List SOper := [
  ⟨some 2, none, .mov (.c (.nils))⟩,
  ⟨some 3, none, .mov (.c (.str []))⟩,
  ⟨some 4, none, .mov (.c (.int .i64 16))⟩]
abbrev c251_10 : SC := .seq (.ops r251_9) (.ret)
abbrev c251_11 : SC := .cond (.t 17) c251_10 (.skip)
abbrev c251_12 : SC := .seq (.ops r251_8) c251_11
abbrev r251_13 : List SOper := [
  ⟨some 18, none, .mov (.t 5)⟩,
  ⟨some 19, none, .mov (.t 5)⟩,
  ⟨some 20, none, .len 1 (.t 19)⟩,
  ⟨some 21, none, .bin .sub (.t 20) (.c (.int .i64 1))⟩,
  ⟨some 22, none, .mov (.t 5)⟩,
  ⟨some 23, none, .len 1 (.t 22)⟩,
  ⟨some 24, none, .bin .sub (.t 23) (.c (.int .i64 1))⟩,
  ⟨some 25, none, .slice false 1 (.t 18) none (some (.t 21)) (some (.t 24))⟩,
  ⟨some 26, none, .mov (.t 5)⟩,
  ⟨some 27, none, .mov (.t 5)⟩,
  ⟨some 28, none, .len 1 (.t 27)⟩,
  ⟨some 29, none, .bin .sub (.t 28) (.c (.int .i64 1))⟩,
  ⟨some 30, none, .iaddr none 1 (.t 26) (.t 29)⟩,
  ⟨some 31, none, .load false false 1 (.t 30)⟩,
  ⟨some 2, none, .mov (.t 25)⟩,
  ⟨some 3, none, .mov (.t 31)⟩,
  ⟨some 4, none, .mov (.c (.int .i64 0))⟩]
abbrev c251_14 : SC := .seq (.draw 0 [[], [], [1], [2], [], [4], [5], [0, 3, 6], [], [], [9], [10], [8, 11], [12], [7], [13, 14], [15]] r251_13) (.ret)
abbrev c251_15 : SC := .seq c251_12 c251_14
abbrev c251_16 : SC := .seq c251_7 c251_15
abbrev c251_17 : SC := .seq (.ops r251_2) c251_16
abbrev c251_18 : SC := .seq (.ops r251_1) c251_17
def s251 : SF := ⟨[.t 2, .t 3, .t 4], c251_18, false, none, none⟩
/-! crannog/names.Join -/
abbrev r252_1 : List SOper := [
  ⟨some 2, none, .mov (.c (.str []))⟩,
  ⟨some 3, none, .mov (.c (.int .i64 0))⟩]
abbrev r252_2 : List SOper := [
  ⟨some 7, none, .mov (.t 0)⟩,
  ⟨some 8, none, .mov (.t 0)⟩,
  ⟨some 9, none, .len 1 (.t 8)⟩,
  ⟨some 10, none, .minmax false [.t 9, .c (.int .i64 9)]⟩,
  ⟨some 11, none, .slice false 1 (.t 7) none (some (.t 10)) none⟩,
  ⟨some 12, none, .call false (.c (.func 283 [])) [.t 11, .c (.str [47])]⟩,
  ⟨some 13, none, .bin .add (.c (.str [47])) (.t 12)⟩,
  ⟨some 4, none, .mov (.t 13)⟩]
abbrev r252_3 : List SOper := [
  ⟨some 14, none, .mov (.t 0)⟩,
  ⟨some 15, none, .len 1 (.t 14)⟩,
  ⟨some 16, none, .bin .gtr (.t 15) (.c (.int .i64 8))⟩]
abbrev r252_4 : List SOper := [
  ⟨some 2, none, .mov (.c (.str []))⟩,
  ⟨some 3, none, .mov (.c (.int .i64 36))⟩]
abbrev c252_5 : SC := .seq (.ops r252_4) (.ret)
abbrev c252_6 : SC := .cond (.t 16) c252_5 (.skip)
abbrev c252_7 : SC := .seq (.ops r252_3) c252_6
abbrev r252_8 : List SOper := [
  ⟨some 18, none, .mov (.t 4)⟩,
  ⟨some 19, none, .call false (.c (.func 84 [])) [.t 18]⟩,
  ⟨some 17, none, .mov (.t 19)⟩,
  ⟨some 20, none, .extract (.t 17) 0⟩,
  ⟨some 21, none, .extract (.t 17) 1⟩,
  ⟨some 5, none, .mov (.t 20)⟩,
  ⟨some 6, none, .mov (.t 21)⟩]
abbrev r252_9 : List SOper := [
  ⟨some 22, none, .mov (.t 6)⟩,
  ⟨some 23, none, .bin .neq (.t 22) (.c (.int .i64 0))⟩,
  ⟨some 24, none, .mov (.t 23)⟩,
  ⟨some 25, some (24, false), .mov (.t 5)⟩,
  ⟨some 26, some (24, false), .mov (.t 0)⟩,
  ⟨some 27, some (24, false), .call false (.c (.func 34 [])) [.t 25, .t 26]⟩,
  ⟨some 28, some (24, false), .un .not (.t 27)⟩,
  ⟨some 29, none, .pick (.t 24) (.c (.bool true)) (.t 28)⟩]
abbrev r252_10 : List SOper := [
  ⟨some 30, none, .mov (.t 6)⟩,
  ⟨some 31, none, .minmax true [.t 30, .c (.int .i64 22)]⟩,
  ⟨some 2, none, .mov (.c (.str []))⟩,
  ⟨some 3, none, .mov (.t 31)⟩]
abbrev c252_11 : SC := .seq (.ops r252_10) (.ret)
abbrev c252_12 : SC := .cond (.t 29) c252_11 (.skip)
abbrev c252_13 : SC := .seq (.ops r252_9) c252_12
abbrev c252_14 : SC := .seq (.ops r252_8) c252_13
abbrev r252_15 : List SOper := [
  ⟨some 32, none, .mov (.t 4)⟩,
  ⟨some 2, none, .mov (.t 32)⟩,
  ⟨some 3, none, .mov (.c (.int .i64 0))⟩]
abbrev c252_16 : SC := .seq (.ops r252_15) (.ret)
abbrev c252_17 : SC := .seq c252_14 c252_16
abbrev c252_18 : SC := .seq c252_7 c252_17
abbrev c252_19 : SC := .seq (.ops r252_2) c252_18
abbrev c252_20 : SC := .seq (.ops r252_1) c252_19
def s252 : SF := ⟨[.t 2, .t 3], c252_20, false, none, none⟩
/-! (*crannog/calls.desk).free$1 -/
abbrev r253_1 : List SOper := [
  ⟨some 3, none, .boxL (.t 0)⟩,
  ⟨some 4, none, .mov (.c (.bool false))⟩]
abbrev r253_2 : List SOper := [
  ⟨some 5, none, .faddr 4 (.t 3)⟩,
  ⟨some 6, none, .load false true 2 (.t 5)⟩,
  ⟨some 7, none, .faddr 1 (.t 1)⟩,
  ⟨some 8, none, .load false true 2 (.t 7)⟩,
  ⟨some 9, none, .cmpA false [.int .i64, .int .i64] (.t 6) (.t 8)⟩,
  ⟨some 10, none, .mov (.t 9)⟩,
  ⟨some 11, some (10, true), .faddr 6 (.t 3)⟩,
  ⟨some 12, some (10, true), .load false false 1 (.t 11)⟩,
  ⟨some 13, some (10, true), .load false false 1 (.t 2)⟩,
  ⟨some 14, some (10, true), .bin .eql (.t 12) (.t 13)⟩,
  ⟨some 15, none, .pick (.t 10) (.t 14) (.c (.bool false))⟩,
  ⟨some 4, none, .mov (.t 15)⟩]
abbrev c253_3 : SC := .seq (.ops r253_2) (.ret)
abbrev c253_4 : SC := .seq (.ops r253_1) c253_3
def s253 : SF := ⟨[.t 4], c253_4, false, none, none⟩
/-! crannog/vector.With -/
abbrev r254_1 : List SOper := [
  ⟨some 2, none, .boxL (.t 0)⟩,
  ⟨some 3, none, .boxL (.t 1)⟩,
  ⟨some 4, none, .allocL [.int .i64 0, .int .i64 0, .int .i64 0, .int .i64 0, .int .i64 0, .int .i64 0, .int .i64 0, .int .i64 0]⟩]
abbrev r254_2 : List SOper := [
  ⟨some 5, none, .load false true 2 (.t 3)⟩,
  ⟨some 6, none, .call false (.c (.func 240 [])) [.t 5]⟩]
abbrev r254_3 : List SOper := [
  ⟨some 7, none, .faddr 1 (.t 3)⟩,
  ⟨some 8, none, .load false false 1 (.t 7)⟩,
  ⟨some 9, none, .faddr 1 (.t 3)⟩,
  ⟨some 10, none, .load false false 1 (.t 9)⟩,
  ⟨some 11, none, .iaddr (some 8) 1 (.t 2) (.t 10)⟩,
  ⟨some 12, none, .load false false 1 (.t 11)⟩,
  ⟨some 13, none, .faddr 0 (.t 3)⟩,
  ⟨some 14, none, .load false false 1 (.t 13)⟩,
  ⟨some 15, none, .minmax true [.t 12, .t 14]⟩,
  ⟨some 16, none, .iaddr (some 8) 1 (.t 2) (.t 8)⟩,
  ⟨none, none, .store 1 (.t 16) (.t 15)⟩]
abbrev c254_4 : SC := .cond (.t 6) (.draw 0 [[], [0], [], [2], [3], [4], [], [6], [5, 7], [1, 8], [9]] r254_3) (.skip)
abbrev c254_5 : SC := .seq (.ops r254_2) c254_4
abbrev r254_6 : List SOper := [
  ⟨some 17, none, .load false true 8 (.t 2)⟩,
  ⟨none, none, .store 8 (.t 4) (.t 17)⟩]
abbrev c254_7 : SC := .seq (.ops r254_6) (.ret)
abbrev c254_8 : SC := .seq c254_5 c254_7
abbrev c254_9 : SC := .seq (.ops r254_1) c254_8
def s254 : SF := ⟨[.c 4 true 8], c254_9, false, none, none⟩
/-! slices.IndexFunc[[]crannog/api.Link,crannog/api.Link] -/
abbrev r258_1 : List SOper := [
  ⟨some 4, none, .mov (.c (.int .i64 0))⟩]
abbrev r258_2 : List SOper := [
  ⟨some 6, none, .mov (.t 0)⟩,
  ⟨some 7, none, .len 1 (.t 6)⟩,
  ⟨some 8, none, .mov (.c (.int .i64 0))⟩]
abbrev r258_3 : List SOper := [
  ⟨some 9, none, .bin .lss (.t 8) (.t 7)⟩]
abbrev c258_4 : SC := .cond (.t 9) (.skip) (.exit 0)
abbrev r258_5 : List SOper := [
  ⟨some 10, none, .mov (.t 8)⟩,
  ⟨some 5, none, .mov (.t 10)⟩]
abbrev r258_6 : List SOper := [
  ⟨some 11, none, .mov (.t 1)⟩,
  ⟨some 12, none, .mov (.t 0)⟩,
  ⟨some 13, none, .mov (.t 5)⟩,
  ⟨some 14, none, .iaddr none 25 (.t 12) (.t 13)⟩,
  ⟨some 15, none, .load false true 25 (.t 14)⟩,
  ⟨some 16, none, .call false (.t 11) [.t 15]⟩]
abbrev r258_7 : List SOper := [
  ⟨some 17, none, .mov (.t 5)⟩,
  ⟨some 4, none, .mov (.t 17)⟩]
abbrev c258_8 : SC := .seq (.ops r258_7) (.ret)
abbrev c258_9 : SC := .cond (.t 16) c258_8 (.skip)
abbrev c258_10 : SC := .seq (.ops r258_6) c258_9
abbrev c258_11 : SC := .seq (.ops r258_5) c258_10
abbrev c258_12 : SC := .block 1 [0, 1, 7, 8] [] c258_11
abbrev r258_13 : List SOper := [
  ⟨some 18, none, .bin .add (.t 8) (.c (.int .i64 1))⟩,
  ⟨some 8, none, .mov (.t 18)⟩]
abbrev c258_14 : SC := .seq c258_12 (.ops r258_13)
abbrev c258_15 : SC := .seq c258_4 c258_14
abbrev c258_16 : SC := .seq (.ops r258_3) c258_15
abbrev L258_1 : SC := .loop [0, 1, 7, 8] [] c258_16
abbrev c258_17 : SC := .block 0 [] [] L258_1
abbrev c258_18 : SC := .seq (.ops r258_2) c258_17
abbrev r258_19 : List SOper := [
  ⟨some 4, none, .mov (.c (.int .i64 (-1)))⟩]
abbrev c258_20 : SC := .seq (.ops r258_19) (.ret)
abbrev c258_21 : SC := .seq c258_18 c258_20
abbrev c258_22 : SC := .seq (.ops r258_1) c258_21
def s258 : SF := ⟨[.t 4], c258_22, false, none, none⟩
/-! (*crannog/calls.desk).write$1 -/
abbrev r259_1 : List SOper := [
  ⟨some 2, none, .boxL (.t 0)⟩,
  ⟨some 3, none, .mov (.c (.bool false))⟩]
abbrev r259_2 : List SOper := [
  ⟨some 4, none, .faddr 0 (.t 2)⟩,
  ⟨some 5, none, .load false true 2 (.t 4)⟩,
  ⟨some 6, none, .faddr 0 (.t 1)⟩,
  ⟨some 7, none, .load false true 2 (.t 6)⟩,
  ⟨some 8, none, .cmpA false [.int .i64, .int .i64] (.t 5) (.t 7)⟩,
  ⟨some 3, none, .mov (.t 8)⟩]
abbrev c259_3 : SC := .seq (.ops r259_2) (.ret)
abbrev c259_4 : SC := .seq (.ops r259_1) c259_3
def s259 : SF := ⟨[.t 3], c259_4, false, none, none⟩
/-! slices.SortFunc[[]crannog/api.Link,crannog/api.Link] -/
abbrev r260_1 : List SOper := [
  ⟨some 5, none, .mov (.t 0)⟩,
  ⟨some 6, none, .len 1 (.t 5)⟩,
  ⟨some 4, none, .mov (.t 6)⟩]
abbrev r260_2 : List SOper := [
  ⟨some 7, none, .mov (.t 0)⟩,
  ⟨some 8, none, .mov (.t 4)⟩,
  ⟨some 9, none, .mov (.t 4)⟩,
  ⟨some 10, none, .cvI .u64 (.t 9)⟩,
  ⟨some 11, none, .call false (.c (.func 189 [])) [.t 10]⟩,
  ⟨some 12, none, .mov (.t 1)⟩,
  ⟨some 13, none, .call false (.c (.func 284 [])) [.t 7, .c (.int .i64 0), .t 8, .t 11, .t 12]⟩]
abbrev c260_3 : SC := .seq (.ops r260_1) (.ops r260_2)
def s260 : SF := ⟨[], c260_3, false, none, none⟩
/-! (*crannog/calls.desk).write$2 -/
abbrev r261_1 : List SOper := [
  ⟨some 2, none, .boxL (.t 0)⟩,
  ⟨some 3, none, .boxL (.t 1)⟩,
  ⟨some 4, none, .mov (.c (.int .i64 0))⟩]
abbrev r261_2 : List SOper := [
  ⟨some 5, none, .faddr 0 (.t 2)⟩,
  ⟨some 6, none, .load false true 2 (.t 5)⟩,
  ⟨some 7, none, .faddr 0 (.t 3)⟩,
  ⟨some 8, none, .load false true 2 (.t 7)⟩,
  ⟨some 9, none, .call false (.c (.func 131 [])) [.t 6, .t 8]⟩]
abbrev r261_3 : List SOper := [
  ⟨some 4, none, .mov (.c (.int .i64 (-1)))⟩]
abbrev c261_4 : SC := .seq (.ops r261_3) (.ret)
abbrev c261_5 : SC := .cond (.t 9) c261_4 (.skip)
abbrev c261_6 : SC := .seq (.ops r261_2) c261_5
abbrev r261_7 : List SOper := [
  ⟨some 4, none, .mov (.c (.int .i64 1))⟩]
abbrev c261_8 : SC := .seq (.ops r261_7) (.ret)
abbrev c261_9 : SC := .seq c261_6 c261_8
abbrev c261_10 : SC := .seq (.ops r261_1) c261_9
def s261 : SF := ⟨[.t 4], c261_10, false, none, none⟩
/-! slices.insertionSortCmpFunc[crannog/api.Inode] -/
abbrev r264_1 : List SOper := [
  ⟨some 10, none, .mov (.t 1)⟩,
  ⟨some 11, none, .bin .add (.t 10) (.c (.int .i64 1))⟩,
  ⟨some 8, none, .mov (.t 11)⟩]
abbrev r264_2 : List SOper := [
  ⟨some 12, none, .mov (.t 8)⟩,
  ⟨some 13, none, .mov (.t 2)⟩,
  ⟨some 14, none, .bin .lss (.t 12) (.t 13)⟩]
abbrev c264_3 : SC := .cond (.t 14) (.skip) (.exit 0)
abbrev c264_4 : SC := .seq (.ops r264_2) c264_3
abbrev r264_5 : List SOper := [
  ⟨some 17, none, .mov (.t 8)⟩,
  ⟨some 9, none, .mov (.t 17)⟩]
abbrev r264_6 : List SOper := [
  ⟨some 18, none, .mov (.t 9)⟩,
  ⟨some 19, none, .mov (.t 1)⟩,
  ⟨some 20, none, .bin .gtr (.t 18) (.t 19)⟩,
  ⟨some 21, none, .mov (.t 20)⟩,
  ⟨some 22, some (21, true), .mov (.t 3)⟩,
  ⟨some 23, some (21, true), .mov (.t 0)⟩,
  ⟨some 24, some (21, true), .mov (.t 9)⟩,
  ⟨some 25, some (21, true), .iaddr none 13 (.t 23) (.t 24)⟩,
  ⟨some 26, some (21, true), .load false true 13 (.t 25)⟩,
  ⟨some 27, some (21, true), .mov (.t 0)⟩,
  ⟨some 28, some (21, true), .mov (.t 9)⟩,
  ⟨some 29, some (21, true), .bin .sub (.t 28) (.c (.int .i64 1))⟩,
  ⟨some 30, some (21, true), .iaddr none 13 (.t 27) (.t 29)⟩,
  ⟨some 31, some (21, true), .load false true 13 (.t 30)⟩,
  ⟨some 32, some (21, true), .call false (.t 22) [.t 26, .t 31]⟩,
  ⟨some 33, some (21, true), .bin .lss (.t 32) (.c (.int .i64 0))⟩,
  ⟨some 34, none, .pick (.t 21) (.t 33) (.c (.bool false))⟩]
abbrev c264_7 : SC := .cond (.t 34) (.skip) (.exit 2)
abbrev c264_8 : SC := .seq (.draw 0 [[], [], [0, 1], [2], [3], [3], [3], [5, 6], [7], [3], [3], [10], [9, 11], [12], [4, 8, 13], [14], [15]] r264_6) c264_7
abbrev r264_9 : List SOper := [
  ⟨some 37, none, .mov (.t 0)⟩,
  ⟨some 38, none, .mov (.t 9)⟩,
  ⟨some 39, none, .mov (.t 0)⟩,
  ⟨some 40, none, .mov (.t 9)⟩,
  ⟨some 41, none, .bin .sub (.t 40) (.c (.int .i64 1))⟩,
  ⟨some 42, none, .mov (.t 0)⟩,
  ⟨some 43, none, .mov (.t 9)⟩,
  ⟨some 44, none, .bin .sub (.t 43) (.c (.int .i64 1))⟩,
  ⟨some 45, none, .iaddr none 13 (.t 42) (.t 44)⟩,
  ⟨some 46, none, .load false true 13 (.t 45)⟩,
  ⟨some 47, none, .mov (.t 0)⟩,
  ⟨some 48, none, .mov (.t 9)⟩,
  ⟨some 49, none, .iaddr none 13 (.t 47) (.t 48)⟩,
  ⟨some 50, none, .load false true 13 (.t 49)⟩,
  ⟨some 51, none, .iaddr none 13 (.t 37) (.t 38)⟩,
  ⟨none, none, .store 13 (.t 51) (.t 46)⟩,
  ⟨some 52, none, .iaddr none 13 (.t 39) (.t 41)⟩,
  ⟨none, none, .store 13 (.t 52) (.t 50)⟩]
abbrev c264_10 : SC := .block 3 [0, 1, 2, 3, 8, 9] [] (.draw 0 [[], [], [], [], [3], [], [], [6], [5, 7], [8], [], [], [10, 11], [12], [0, 1, 9, 13], [14], [2, 4, 15], [16]] r264_9)
abbrev r264_11 : List SOper := [
  ⟨some 35, none, .mov (.t 9)⟩,
  ⟨some 36, none, .bin .sub (.t 35) (.c (.int .i64 1))⟩,
  ⟨some 9, none, .mov (.t 36)⟩]
abbrev c264_12 : SC := .seq c264_10 (.ops r264_11)
abbrev c264_13 : SC := .seq c264_8 c264_12
abbrev L264_1 : SC := .loop [0, 1, 2, 3, 8, 9] [] c264_13
abbrev c264_14 : SC := .block 2 [0, 1, 2, 3, 8] [] L264_1
abbrev c264_15 : SC := .seq (.ops r264_5) c264_14
abbrev c264_16 : SC := .block 1 [0, 1, 2, 3, 8] [] c264_15
abbrev r264_17 : List SOper := [
  ⟨some 15, none, .mov (.t 8)⟩,
  ⟨some 16, none, .bin .add (.t 15) (.c (.int .i64 1))⟩,
  ⟨some 8, none, .mov (.t 16)⟩]
abbrev c264_18 : SC := .seq c264_16 (.ops r264_17)
abbrev c264_19 : SC := .seq c264_4 c264_18
abbrev L264_2 : SC := .loop [0, 1, 2, 3, 8] [] c264_19
abbrev c264_20 : SC := .block 0 [] [] L264_2
abbrev c264_21 : SC := .seq (.ops r264_1) c264_20
def s264 : SF := ⟨[], c264_21, false, none, none⟩
/-! slices.insertionSortCmpFunc[crannog/api.Link] -/
abbrev r267_1 : List SOper := [
  ⟨some 10, none, .mov (.t 1)⟩,
  ⟨some 11, none, .bin .add (.t 10) (.c (.int .i64 1))⟩,
  ⟨some 8, none, .mov (.t 11)⟩]
abbrev r267_2 : List SOper := [
  ⟨some 12, none, .mov (.t 8)⟩,
  ⟨some 13, none, .mov (.t 2)⟩,
  ⟨some 14, none, .bin .lss (.t 12) (.t 13)⟩]
abbrev c267_3 : SC := .cond (.t 14) (.skip) (.exit 0)
abbrev c267_4 : SC := .seq (.ops r267_2) c267_3
abbrev r267_5 : List SOper := [
  ⟨some 17, none, .mov (.t 8)⟩,
  ⟨some 9, none, .mov (.t 17)⟩]
abbrev r267_6 : List SOper := [
  ⟨some 18, none, .mov (.t 9)⟩,
  ⟨some 19, none, .mov (.t 1)⟩,
  ⟨some 20, none, .bin .gtr (.t 18) (.t 19)⟩,
  ⟨some 21, none, .mov (.t 20)⟩,
  ⟨some 22, some (21, true), .mov (.t 3)⟩,
  ⟨some 23, some (21, true), .mov (.t 0)⟩,
  ⟨some 24, some (21, true), .mov (.t 9)⟩,
  ⟨some 25, some (21, true), .iaddr none 25 (.t 23) (.t 24)⟩,
  ⟨some 26, some (21, true), .load false true 25 (.t 25)⟩,
  ⟨some 27, some (21, true), .mov (.t 0)⟩,
  ⟨some 28, some (21, true), .mov (.t 9)⟩,
  ⟨some 29, some (21, true), .bin .sub (.t 28) (.c (.int .i64 1))⟩,
  ⟨some 30, some (21, true), .iaddr none 25 (.t 27) (.t 29)⟩,
  ⟨some 31, some (21, true), .load false true 25 (.t 30)⟩,
  ⟨some 32, some (21, true), .call false (.t 22) [.t 26, .t 31]⟩,
  ⟨some 33, some (21, true), .bin .lss (.t 32) (.c (.int .i64 0))⟩,
  ⟨some 34, none, .pick (.t 21) (.t 33) (.c (.bool false))⟩]
abbrev c267_7 : SC := .cond (.t 34) (.skip) (.exit 2)
abbrev c267_8 : SC := .seq (.draw 0 [[], [], [0, 1], [2], [3], [3], [3], [5, 6], [7], [3], [3], [10], [9, 11], [12], [4, 8, 13], [14], [15]] r267_6) c267_7
abbrev r267_9 : List SOper := [
  ⟨some 37, none, .mov (.t 0)⟩,
  ⟨some 38, none, .mov (.t 9)⟩,
  ⟨some 39, none, .mov (.t 0)⟩,
  ⟨some 40, none, .mov (.t 9)⟩,
  ⟨some 41, none, .bin .sub (.t 40) (.c (.int .i64 1))⟩,
  ⟨some 42, none, .mov (.t 0)⟩,
  ⟨some 43, none, .mov (.t 9)⟩,
  ⟨some 44, none, .bin .sub (.t 43) (.c (.int .i64 1))⟩,
  ⟨some 45, none, .iaddr none 25 (.t 42) (.t 44)⟩,
  ⟨some 46, none, .load false true 25 (.t 45)⟩,
  ⟨some 47, none, .mov (.t 0)⟩,
  ⟨some 48, none, .mov (.t 9)⟩,
  ⟨some 49, none, .iaddr none 25 (.t 47) (.t 48)⟩,
  ⟨some 50, none, .load false true 25 (.t 49)⟩,
  ⟨some 51, none, .iaddr none 25 (.t 37) (.t 38)⟩,
  ⟨none, none, .store 25 (.t 51) (.t 46)⟩,
  ⟨some 52, none, .iaddr none 25 (.t 39) (.t 41)⟩,
  ⟨none, none, .store 25 (.t 52) (.t 50)⟩]
abbrev c267_10 : SC := .block 3 [0, 1, 2, 3, 8, 9] [] (.draw 0 [[], [], [], [], [3], [], [], [6], [5, 7], [8], [], [], [10, 11], [12], [0, 1, 9, 13], [14], [2, 4, 15], [16]] r267_9)
abbrev r267_11 : List SOper := [
  ⟨some 35, none, .mov (.t 9)⟩,
  ⟨some 36, none, .bin .sub (.t 35) (.c (.int .i64 1))⟩,
  ⟨some 9, none, .mov (.t 36)⟩]
abbrev c267_12 : SC := .seq c267_10 (.ops r267_11)
abbrev c267_13 : SC := .seq c267_8 c267_12
abbrev L267_1 : SC := .loop [0, 1, 2, 3, 8, 9] [] c267_13
abbrev c267_14 : SC := .block 2 [0, 1, 2, 3, 8] [] L267_1
abbrev c267_15 : SC := .seq (.ops r267_5) c267_14
abbrev c267_16 : SC := .block 1 [0, 1, 2, 3, 8] [] c267_15
abbrev r267_17 : List SOper := [
  ⟨some 15, none, .mov (.t 8)⟩,
  ⟨some 16, none, .bin .add (.t 15) (.c (.int .i64 1))⟩,
  ⟨some 8, none, .mov (.t 16)⟩]
abbrev c267_18 : SC := .seq c267_16 (.ops r267_17)
abbrev c267_19 : SC := .seq c267_4 c267_18
abbrev L267_2 : SC := .loop [0, 1, 2, 3, 8] [] c267_19
abbrev c267_20 : SC := .block 0 [] [] L267_2
abbrev c267_21 : SC := .seq (.ops r267_1) c267_20
def s267 : SF := ⟨[], c267_21, false, none, none⟩
/-! slices.stableCmpFunc[crannog/api.Piece] -/
abbrev r269_1 : List SOper := [
  ⟨some 6, none, .mov (.c (.int .i64 20))⟩]
abbrev r269_2 : List SOper := [
  ⟨some 10, none, .mov (.t 6)⟩,
  ⟨some 7, none, .mov (.c (.int .i64 0))⟩,
  ⟨some 8, none, .mov (.t 10)⟩]
abbrev r269_3 : List SOper := [
  ⟨some 11, none, .mov (.t 8)⟩,
  ⟨some 12, none, .mov (.t 1)⟩,
  ⟨some 13, none, .bin .leq (.t 11) (.t 12)⟩]
abbrev c269_4 : SC := .cond (.t 13) (.skip) (.exit 0)
abbrev c269_5 : SC := .seq (.ops r269_3) c269_4
abbrev r269_6 : List SOper := [
  ⟨some 14, none, .mov (.t 0)⟩,
  ⟨some 15, none, .mov (.t 7)⟩,
  ⟨some 16, none, .mov (.t 8)⟩,
  ⟨some 17, none, .mov (.t 2)⟩,
  ⟨some 18, none, .call false (.c (.func 288 [])) [.t 14, .t 15, .t 16, .t 17]⟩]
abbrev r269_7 : List SOper := [
  ⟨some 19, none, .mov (.t 8)⟩,
  ⟨some 7, none, .mov (.t 19)⟩]
abbrev r269_8 : List SOper := [
  ⟨some 20, none, .mov (.t 8)⟩,
  ⟨some 21, none, .mov (.t 6)⟩,
  ⟨some 22, none, .bin .add (.t 20) (.t 21)⟩,
  ⟨some 8, none, .mov (.t 22)⟩]
abbrev c269_9 : SC := .seq (.ops r269_7) (.ops r269_8)
abbrev c269_10 : SC := .seq (.ops r269_6) c269_9
abbrev c269_11 : SC := .block 1 [0, 1, 2, 6, 7, 8] [] c269_10
abbrev c269_12 : SC := .seq c269_5 c269_11
abbrev L269_1 : SC := .loop [0, 1, 2, 6, 7, 8] [] c269_12
abbrev c269_13 : SC := .block 0 [0, 1, 2, 6, 7] [] L269_1
abbrev r269_14 : List SOper := [
  ⟨some 23, none, .mov (.t 0)⟩,
  ⟨some 24, none, .mov (.t 7)⟩,
  ⟨some 25, none, .mov (.t 1)⟩,
  ⟨some 26, none, .mov (.t 2)⟩,
  ⟨some 27, none, .call false (.c (.func 288 [])) [.t 23, .t 24, .t 25, .t 26]⟩]
abbrev r269_15 : List SOper := [
  ⟨some 28, none, .mov (.t 6)⟩,
  ⟨some 29, none, .mov (.t 1)⟩,
  ⟨some 30, none, .bin .lss (.t 28) (.t 29)⟩]
abbrev c269_16 : SC := .cond (.t 30) (.skip) (.exit 2)
abbrev c269_17 : SC := .seq (.ops r269_15) c269_16
abbrev r269_18 : List SOper := [
  ⟨some 31, none, .mov (.t 6)⟩,
  ⟨some 32, none, .bin .mul (.c (.int .i64 2)) (.t 31)⟩,
  ⟨some 7, none, .mov (.c (.int .i64 0))⟩,
  ⟨some 8, none, .mov (.t 32)⟩]
abbrev r269_19 : List SOper := [
  ⟨some 33, none, .mov (.t 8)⟩,
  ⟨some 34, none, .mov (.t 1)⟩,
  ⟨some 35, none, .bin .leq (.t 33) (.t 34)⟩]
abbrev c269_20 : SC := .cond (.t 35) (.skip) (.exit 4)
abbrev c269_21 : SC := .seq (.ops r269_19) c269_20
abbrev r269_22 : List SOper := [
  ⟨some 36, none, .mov (.t 0)⟩,
  ⟨some 37, none, .mov (.t 7)⟩,
  ⟨some 38, none, .mov (.t 7)⟩,
  ⟨some 39, none, .mov (.t 6)⟩,
  ⟨some 40, none, .bin .add (.t 38) (.t 39)⟩,
  ⟨some 41, none, .mov (.t 8)⟩,
  ⟨some 42, none, .mov (.t 2)⟩,
  ⟨some 43, none, .call false (.c (.func 289 [])) [.t 36, .t 37, .t 40, .t 41, .t 42]⟩]
abbrev r269_23 : List SOper := [
  ⟨some 44, none, .mov (.t 8)⟩,
  ⟨some 7, none, .mov (.t 44)⟩]
abbrev r269_24 : List SOper := [
  ⟨some 45, none, .mov (.t 8)⟩,
  ⟨some 46, none, .mov (.t 6)⟩,
  ⟨some 47, none, .bin .mul (.c (.int .i64 2)) (.t 46)⟩,
  ⟨some 48, none, .bin .add (.t 45) (.t 47)⟩,
  ⟨some 8, none, .mov (.t 48)⟩]
abbrev c269_25 : SC := .seq (.ops r269_23) (.ops r269_24)
abbrev c269_26 : SC := .seq (.ops r269_22) c269_25
abbrev c269_27 : SC := .block 5 [0, 1, 2, 6, 7, 8] [] c269_26
abbrev c269_28 : SC := .seq c269_21 c269_27
abbrev L269_2 : SC := .loop [0, 1, 2, 6, 7, 8] [] c269_28
abbrev c269_29 : SC := .block 4 [0, 1, 2, 6, 7] [] L269_2
abbrev r269_30 : List SOper := [
  ⟨some 49, none, .mov (.t 7)⟩,
  ⟨some 50, none, .mov (.t 6)⟩,
  ⟨some 51, none, .bin .add (.t 49) (.t 50)⟩,
  ⟨some 9, none, .mov (.t 51)⟩]
abbrev r269_31 : List SOper := [
  ⟨some 52, none, .mov (.t 9)⟩,
  ⟨some 53, none, .mov (.t 1)⟩,
  ⟨some 54, none, .bin .lss (.t 52) (.t 53)⟩]
abbrev r269_32 : List SOper := [
  ⟨some 55, none, .mov (.t 0)⟩,
  ⟨some 56, none, .mov (.t 7)⟩,
  ⟨some 57, none, .mov (.t 9)⟩,
  ⟨some 58, none, .mov (.t 1)⟩,
  ⟨some 59, none, .mov (.t 2)⟩,
  ⟨some 60, none, .call false (.c (.func 289 [])) [.t 55, .t 56, .t 57, .t 58, .t 59]⟩]
abbrev c269_33 : SC := .cond (.t 54) (.ops r269_32) (.skip)
abbrev c269_34 : SC := .seq (.ops r269_31) c269_33
abbrev c269_35 : SC := .seq (.ops r269_30) c269_34
abbrev r269_36 : List SOper := [
  ⟨some 61, none, .mov (.t 6)⟩,
  ⟨some 62, none, .bin .mul (.t 61) (.c (.int .i64 2))⟩,
  ⟨some 6, none, .mov (.t 62)⟩]
abbrev c269_37 : SC := .seq c269_35 (.ops r269_36)
abbrev c269_38 : SC := .seq c269_29 c269_37
abbrev c269_39 : SC := .seq (.ops r269_18) c269_38
abbrev c269_40 : SC := .block 3 [0, 1, 2, 6] [] c269_39
abbrev c269_41 : SC := .seq c269_17 c269_40
abbrev L269_3 : SC := .loop [0, 1, 2, 6] [] c269_41
abbrev c269_42 : SC := .block 2 [] [] L269_3
abbrev c269_43 : SC := .seq (.ops r269_14) c269_42
abbrev c269_44 : SC := .seq c269_13 c269_43
abbrev c269_45 : SC := .seq (.ops r269_2) c269_44
abbrev c269_46 : SC := .seq (.ops r269_1) c269_45
def s269 : SF := ⟨[], c269_46, false, none, none⟩
/-! slices.stableCmpFunc[crannog/api.Xattr] -/
abbrev r270_1 : List SOper := [
  ⟨some 6, none, .mov (.c (.int .i64 20))⟩]
abbrev r270_2 : List SOper := [
  ⟨some 10, none, .mov (.t 6)⟩,
  ⟨some 7, none, .mov (.c (.int .i64 0))⟩,
  ⟨some 8, none, .mov (.t 10)⟩]
abbrev r270_3 : List SOper := [
  ⟨some 11, none, .mov (.t 8)⟩,
  ⟨some 12, none, .mov (.t 1)⟩,
  ⟨some 13, none, .bin .leq (.t 11) (.t 12)⟩]
abbrev c270_4 : SC := .cond (.t 13) (.skip) (.exit 0)
abbrev c270_5 : SC := .seq (.ops r270_3) c270_4
abbrev r270_6 : List SOper := [
  ⟨some 14, none, .mov (.t 0)⟩,
  ⟨some 15, none, .mov (.t 7)⟩,
  ⟨some 16, none, .mov (.t 8)⟩,
  ⟨some 17, none, .mov (.t 2)⟩,
  ⟨some 18, none, .call false (.c (.func 290 [])) [.t 14, .t 15, .t 16, .t 17]⟩]
abbrev r270_7 : List SOper := [
  ⟨some 19, none, .mov (.t 8)⟩,
  ⟨some 7, none, .mov (.t 19)⟩]
abbrev r270_8 : List SOper := [
  ⟨some 20, none, .mov (.t 8)⟩,
  ⟨some 21, none, .mov (.t 6)⟩,
  ⟨some 22, none, .bin .add (.t 20) (.t 21)⟩,
  ⟨some 8, none, .mov (.t 22)⟩]
abbrev c270_9 : SC := .seq (.ops r270_7) (.ops r270_8)
abbrev c270_10 : SC := .seq (.ops r270_6) c270_9
abbrev c270_11 : SC := .block 1 [0, 1, 2, 6, 7, 8] [] c270_10
abbrev c270_12 : SC := .seq c270_5 c270_11
abbrev L270_1 : SC := .loop [0, 1, 2, 6, 7, 8] [] c270_12
abbrev c270_13 : SC := .block 0 [0, 1, 2, 6, 7] [] L270_1
abbrev r270_14 : List SOper := [
  ⟨some 23, none, .mov (.t 0)⟩,
  ⟨some 24, none, .mov (.t 7)⟩,
  ⟨some 25, none, .mov (.t 1)⟩,
  ⟨some 26, none, .mov (.t 2)⟩,
  ⟨some 27, none, .call false (.c (.func 290 [])) [.t 23, .t 24, .t 25, .t 26]⟩]
abbrev r270_15 : List SOper := [
  ⟨some 28, none, .mov (.t 6)⟩,
  ⟨some 29, none, .mov (.t 1)⟩,
  ⟨some 30, none, .bin .lss (.t 28) (.t 29)⟩]
abbrev c270_16 : SC := .cond (.t 30) (.skip) (.exit 2)
abbrev c270_17 : SC := .seq (.ops r270_15) c270_16
abbrev r270_18 : List SOper := [
  ⟨some 31, none, .mov (.t 6)⟩,
  ⟨some 32, none, .bin .mul (.c (.int .i64 2)) (.t 31)⟩,
  ⟨some 7, none, .mov (.c (.int .i64 0))⟩,
  ⟨some 8, none, .mov (.t 32)⟩]
abbrev r270_19 : List SOper := [
  ⟨some 33, none, .mov (.t 8)⟩,
  ⟨some 34, none, .mov (.t 1)⟩,
  ⟨some 35, none, .bin .leq (.t 33) (.t 34)⟩]
abbrev c270_20 : SC := .cond (.t 35) (.skip) (.exit 4)
abbrev c270_21 : SC := .seq (.ops r270_19) c270_20
abbrev r270_22 : List SOper := [
  ⟨some 36, none, .mov (.t 0)⟩,
  ⟨some 37, none, .mov (.t 7)⟩,
  ⟨some 38, none, .mov (.t 7)⟩,
  ⟨some 39, none, .mov (.t 6)⟩,
  ⟨some 40, none, .bin .add (.t 38) (.t 39)⟩,
  ⟨some 41, none, .mov (.t 8)⟩,
  ⟨some 42, none, .mov (.t 2)⟩,
  ⟨some 43, none, .call false (.c (.func 291 [])) [.t 36, .t 37, .t 40, .t 41, .t 42]⟩]
abbrev r270_23 : List SOper := [
  ⟨some 44, none, .mov (.t 8)⟩,
  ⟨some 7, none, .mov (.t 44)⟩]
abbrev r270_24 : List SOper := [
  ⟨some 45, none, .mov (.t 8)⟩,
  ⟨some 46, none, .mov (.t 6)⟩,
  ⟨some 47, none, .bin .mul (.c (.int .i64 2)) (.t 46)⟩,
  ⟨some 48, none, .bin .add (.t 45) (.t 47)⟩,
  ⟨some 8, none, .mov (.t 48)⟩]
abbrev c270_25 : SC := .seq (.ops r270_23) (.ops r270_24)
abbrev c270_26 : SC := .seq (.ops r270_22) c270_25
abbrev c270_27 : SC := .block 5 [0, 1, 2, 6, 7, 8] [] c270_26
abbrev c270_28 : SC := .seq c270_21 c270_27
abbrev L270_2 : SC := .loop [0, 1, 2, 6, 7, 8] [] c270_28
abbrev c270_29 : SC := .block 4 [0, 1, 2, 6, 7] [] L270_2
abbrev r270_30 : List SOper := [
  ⟨some 49, none, .mov (.t 7)⟩,
  ⟨some 50, none, .mov (.t 6)⟩,
  ⟨some 51, none, .bin .add (.t 49) (.t 50)⟩,
  ⟨some 9, none, .mov (.t 51)⟩]
abbrev r270_31 : List SOper := [
  ⟨some 52, none, .mov (.t 9)⟩,
  ⟨some 53, none, .mov (.t 1)⟩,
  ⟨some 54, none, .bin .lss (.t 52) (.t 53)⟩]
abbrev r270_32 : List SOper := [
  ⟨some 55, none, .mov (.t 0)⟩,
  ⟨some 56, none, .mov (.t 7)⟩,
  ⟨some 57, none, .mov (.t 9)⟩,
  ⟨some 58, none, .mov (.t 1)⟩,
  ⟨some 59, none, .mov (.t 2)⟩,
  ⟨some 60, none, .call false (.c (.func 291 [])) [.t 55, .t 56, .t 57, .t 58, .t 59]⟩]
abbrev c270_33 : SC := .cond (.t 54) (.ops r270_32) (.skip)
abbrev c270_34 : SC := .seq (.ops r270_31) c270_33
abbrev c270_35 : SC := .seq (.ops r270_30) c270_34
abbrev r270_36 : List SOper := [
  ⟨some 61, none, .mov (.t 6)⟩,
  ⟨some 62, none, .bin .mul (.t 61) (.c (.int .i64 2))⟩,
  ⟨some 6, none, .mov (.t 62)⟩]
abbrev c270_37 : SC := .seq c270_35 (.ops r270_36)
abbrev c270_38 : SC := .seq c270_29 c270_37
abbrev c270_39 : SC := .seq (.ops r270_18) c270_38
abbrev c270_40 : SC := .block 3 [0, 1, 2, 6] [] c270_39
abbrev c270_41 : SC := .seq c270_17 c270_40
abbrev L270_3 : SC := .loop [0, 1, 2, 6] [] c270_41
abbrev c270_42 : SC := .block 2 [] [] L270_3
abbrev c270_43 : SC := .seq (.ops r270_14) c270_42
abbrev c270_44 : SC := .seq c270_13 c270_43
abbrev c270_45 : SC := .seq (.ops r270_2) c270_44
abbrev c270_46 : SC := .seq (.ops r270_1) c270_45
def s270 : SF := ⟨[], c270_46, false, none, none⟩
/-! strings.Count -/
abbrev r272_1 : List SOper := [
  ⟨some 4, none, .mov (.c (.int .i64 0))⟩]
abbrev r272_2 : List SOper := [
  ⟨some 7, none, .mov (.t 1)⟩,
  ⟨some 8, none, .len 0 (.t 7)⟩,
  ⟨some 9, none, .bin .eql (.t 8) (.c (.int .i64 0))⟩]
abbrev r272_3 : List SOper := [
  ⟨some 10, none, .mov (.t 0)⟩,
  ⟨some 11, none, .call false (.c (.func 292 [])) [.t 10]⟩,
  ⟨some 12, none, .bin .add (.t 11) (.c (.int .i64 1))⟩,
  ⟨some 4, none, .mov (.t 12)⟩]
abbrev c272_4 : SC := .seq (.ops r272_3) (.ret)
abbrev c272_5 : SC := .cond (.t 9) c272_4 (.skip)
abbrev c272_6 : SC := .seq (.ops r272_2) c272_5
abbrev r272_7 : List SOper := [
  ⟨some 13, none, .mov (.t 1)⟩,
  ⟨some 14, none, .len 0 (.t 13)⟩,
  ⟨some 15, none, .bin .eql (.t 14) (.c (.int .i64 1))⟩]
abbrev r272_8 : List SOper := [
  ⟨some 16, none, .mov (.t 0)⟩,
  ⟨some 17, none, .mov (.t 1)⟩,
  ⟨some 18, none, .index none (.t 17) (.c (.int .i64 0))⟩,
  ⟨some 19, none, .call false (.c (.func 294 [])) [.t 16, .t 18]⟩,
  ⟨some 4, none, .mov (.t 19)⟩]
abbrev c272_9 : SC := .seq (.ops r272_8) (.ret)
abbrev c272_10 : SC := .cond (.t 15) c272_9 (.skip)
abbrev c272_11 : SC := .seq (.ops r272_7) c272_10
abbrev r272_12 : List SOper := [
  ⟨some 5, none, .mov (.c (.int .i64 0))⟩]
abbrev r272_13 : List SOper := [
  ⟨some 20, none, .mov (.t 0)⟩,
  ⟨some 21, none, .mov (.t 1)⟩,
  ⟨some 22, none, .call false (.c (.func 273 [])) [.t 20, .t 21]⟩,
  ⟨some 6, none, .mov (.t 22)⟩]
abbrev r272_14 : List SOper := [
  ⟨some 23, none, .mov (.t 6)⟩,
  ⟨some 24, none, .bin .eql (.t 23) (.c (.int .i64 (-1)))⟩]
abbrev r272_15 : List SOper := [
  ⟨some 25, none, .mov (.t 5)⟩,
  ⟨some 4, none, .mov (.t 25)⟩]
abbrev c272_16 : SC := .seq (.ops r272_15) (.ret)
abbrev c272_17 : SC := .cond (.t 24) c272_16 (.skip)
abbrev c272_18 : SC := .seq (.ops r272_14) c272_17
abbrev r272_19 : List SOper := [
  ⟨some 26, none, .mov (.t 5)⟩,
  ⟨some 27, none, .bin .add (.t 26) (.c (.int .i64 1))⟩,
  ⟨some 5, none, .mov (.t 27)⟩]
abbrev r272_20 : List SOper := [
  ⟨some 28, none, .mov (.t 0)⟩,
  ⟨some 29, none, .mov (.t 6)⟩,
  ⟨some 30, none, .mov (.t 1)⟩,
  ⟨some 31, none, .len 0 (.t 30)⟩,
  ⟨some 32, none, .bin .add (.t 29) (.t 31)⟩,
  ⟨some 33, none, .slice true 1 (.t 28) (some (.t 32)) none none⟩,
  ⟨some 0, none, .mov (.t 33)⟩]
abbrev c272_21 : SC := .seq (.ops r272_19) (.ops r272_20)
abbrev c272_22 : SC := .seq c272_18 c272_21
abbrev c272_23 : SC := .seq (.ops r272_13) c272_22
abbrev c272_24 : SC := .block 1 [0, 1, 5] [] c272_23
abbrev L272_1 : SC := .loop [0, 1, 5] [] c272_24
abbrev c272_25 : SC := .block 0 [4] [] L272_1
abbrev c272_26 : SC := .seq (.ops r272_12) c272_25
abbrev c272_27 : SC := .seq c272_11 c272_26
abbrev c272_28 : SC := .seq c272_6 c272_27
abbrev c272_29 : SC := .seq (.ops r272_1) c272_28
def s272 : SF := ⟨[.t 4], c272_29, false, none, none⟩
/-! strings.Index -/
abbrev r273_1 : List SOper := [
  ⟨some 4, none, .mov (.c (.int .i64 0))⟩]
abbrev r273_2 : List SOper := [
  ⟨some 5, none, .mov (.t 0)⟩,
  ⟨some 6, none, .mov (.t 1)⟩,
  ⟨some 7, none, .call false (.c (.func 295 [])) [.t 5, .t 6]⟩,
  ⟨some 4, none, .mov (.t 7)⟩]
abbrev c273_3 : SC := .seq (.ops r273_2) (.ret)
abbrev c273_4 : SC := .seq (.ops r273_1) c273_3
def s273 : SF := ⟨[.t 4], c273_4, false, none, none⟩
/-! strings.Join -/
abbrev r283_1 : List SOper := [
  ⟨some 4, none, .mov (.c (.str []))⟩]
abbrev r283_2 : List SOper := [
  ⟨some 11, none, .mov (.t 0)⟩,
  ⟨some 12, none, .len 1 (.t 11)⟩]
abbrev r283_3 : List SOper := [
  ⟨some 14, none, .bin .eql (.t 12) (.c (.int .i64 0))⟩,
  ⟨some 13, none, .mov (.t 14)⟩]
abbrev r283_4 : List SOper := [
  ⟨some 4, none, .mov (.c (.str []))⟩]
abbrev c283_5 : SC := .seq (.ops r283_4) (.ret)
abbrev r283_6 : List SOper := [
  ⟨some 16, none, .bin .eql (.t 12) (.c (.int .i64 1))⟩,
  ⟨some 15, none, .mov (.t 16)⟩]
abbrev r283_7 : List SOper := [
  ⟨some 17, none, .mov (.t 0)⟩,
  ⟨some 18, none, .iaddr none 1 (.t 17) (.c (.int .i64 0))⟩,
  ⟨some 19, none, .load false false 1 (.t 18)⟩,
  ⟨some 4, none, .mov (.t 19)⟩]
abbrev c283_8 : SC := .seq (.ops r283_7) (.ret)
abbrev c283_9 : SC := .cond (.t 15) c283_8 (.skip)
abbrev c283_10 : SC := .seq (.ops r283_6) c283_9
abbrev c283_11 : SC := .cond (.t 13) c283_5 c283_10
abbrev c283_12 : SC := .seq (.ops r283_3) c283_11
abbrev c283_13 : SC := .block 0 [0, 1] [] c283_12
abbrev c283_14 : SC := .seq (.ops r283_2) c283_13
abbrev r283_15 : List SOper := [
  ⟨some 5, none, .mov (.c (.int .i64 0))⟩]
abbrev r283_16 : List SOper := [
  ⟨some 20, none, .mov (.t 1)⟩,
  ⟨some 21, none, .len 0 (.t 20)⟩,
  ⟨some 22, none, .bin .gtr (.t 21) (.c (.int .i64 0))⟩]
abbrev r283_17 : List SOper := [
  ⟨some 23, none, .mov (.t 1)⟩,
  ⟨some 24, none, .len 0 (.t 23)⟩,
  ⟨some 25, none, .mov (.t 0)⟩,
  ⟨some 26, none, .len 1 (.t 25)⟩,
  ⟨some 27, none, .bin .sub (.t 26) (.c (.int .i64 1))⟩,
  ⟨some 28, none, .bin .quo (.c (.int .i64 9223372036854775807)) (.t 27)⟩,
  ⟨some 29, none, .bin .geq (.t 24) (.t 28)⟩]
abbrev r283_18 : List SOper := [
  ⟨some 30, none, .mkif 9 (.c (.str [115, 116, 114, 105, 110, 103, 115, 58, 32, 74, 111, 105, 110, 32, 111, 117, 116, 112, 117, 116, 32, 108, 101, 110, 103, 116, 104, 32, 111, 118, 101, 114, 102, 108, 111, 119]))⟩,
  ⟨none, none, .panic (.t 30)⟩]
abbrev c283_19 : SC := .cond (.t 29) (.ops r283_18) (.skip)
abbrev c283_20 : SC := .seq (.ops r283_17) c283_19
abbrev r283_21 : List SOper := [
  ⟨some 31, none, .mov (.t 5)⟩,
  ⟨some 32, none, .mov (.t 1)⟩,
  ⟨some 33, none, .len 0 (.t 32)⟩,
  ⟨some 34, none, .mov (.t 0)⟩,
  ⟨some 35, none, .len 1 (.t 34)⟩,
  ⟨some 36, none, .bin .sub (.t 35) (.c (.int .i64 1))⟩,
  ⟨some 37, none, .bin .mul (.t 33) (.t 36)⟩,
  ⟨some 38, none, .bin .add (.t 31) (.t 37)⟩,
  ⟨some 5, none, .mov (.t 38)⟩]
abbrev c283_22 : SC := .seq c283_20 (.ops r283_21)
abbrev c283_23 : SC := .cond (.t 22) c283_22 (.skip)
abbrev c283_24 : SC := .seq (.ops r283_16) c283_23
abbrev r283_25 : List SOper := [
  ⟨some 39, none, .mov (.t 0)⟩,
  ⟨some 40, none, .len 1 (.t 39)⟩,
  ⟨some 41, none, .mov (.c (.int .i64 0))⟩]
abbrev r283_26 : List SOper := [
  ⟨some 42, none, .bin .lss (.t 41) (.t 40)⟩]
abbrev c283_27 : SC := .cond (.t 42) (.skip) (.exit 1)
abbrev r283_28 : List SOper := [
  ⟨some 43, none, .iaddr none 1 (.t 39) (.t 41)⟩,
  ⟨some 44, none, .load false false 1 (.t 43)⟩,
  ⟨some 7, none, .mov (.t 44)⟩]
abbrev r283_29 : List SOper := [
  ⟨some 45, none, .mov (.t 7)⟩,
  ⟨some 46, none, .len 0 (.t 45)⟩,
  ⟨some 47, none, .mov (.t 5)⟩,
  ⟨some 48, none, .bin .sub (.c (.int .i64 9223372036854775807)) (.t 47)⟩,
  ⟨some 49, none, .bin .gtr (.t 46) (.t 48)⟩]
abbrev r283_30 : List SOper := [
  ⟨some 50, none, .mkif 9 (.c (.str [115, 116, 114, 105, 110, 103, 115, 58, 32, 74, 111, 105, 110, 32, 111, 117, 116, 112, 117, 116, 32, 108, 101, 110, 103, 116, 104, 32, 111, 118, 101, 114, 102, 108, 111, 119]))⟩,
  ⟨none, none, .panic (.t 50)⟩]
abbrev c283_31 : SC := .cond (.t 49) (.ops r283_30) (.skip)
abbrev c283_32 : SC := .seq (.ops r283_29) c283_31
abbrev r283_33 : List SOper := [
  ⟨some 51, none, .mov (.t 5)⟩,
  ⟨some 52, none, .mov (.t 7)⟩,
  ⟨some 53, none, .len 0 (.t 52)⟩,
  ⟨some 54, none, .bin .add (.t 51) (.t 53)⟩,
  ⟨some 5, none, .mov (.t 54)⟩]
abbrev c283_34 : SC := .seq c283_32 (.ops r283_33)
abbrev c283_35 : SC := .seq (.ops r283_28) c283_34
abbrev c283_36 : SC := .block 2 [0, 1, 5, 39, 40, 41] [] c283_35
abbrev r283_37 : List SOper := [
  ⟨some 55, none, .bin .add (.t 41) (.c (.int .i64 1))⟩,
  ⟨some 41, none, .mov (.t 55)⟩]
abbrev c283_38 : SC := .seq c283_36 (.ops r283_37)
abbrev c283_39 : SC := .seq c283_27 c283_38
abbrev c283_40 : SC := .seq (.ops r283_26) c283_39
abbrev L283_1 : SC := .loop [0, 1, 5, 39, 40, 41] [] c283_40
abbrev c283_41 : SC := .block 1 [0, 1, 5] [] L283_1
abbrev c283_42 : SC := .seq (.ops r283_25) c283_41
abbrev r283_43 : List SOper := [
  ⟨some 8, none, .allocH none [.nilp, .nils]⟩]
abbrev r283_44 : List SOper := [
  ⟨some 56, none, .mov (.t 5)⟩,
  ⟨some 57, none, .call false (.c (.func 298 [])) [.t 8, .t 56]⟩]
abbrev r283_45 : List SOper := [
  ⟨some 58, none, .mov (.t 0)⟩,
  ⟨some 59, none, .iaddr none 1 (.t 58) (.c (.int .i64 0))⟩,
  ⟨some 60, none, .load false false 1 (.t 59)⟩,
  ⟨some 61, none, .call false (.c (.func 299 [])) [.t 8, .t 60]⟩]
abbrev r283_46 : List SOper := [
  ⟨some 62, none, .mov (.t 0)⟩,
  ⟨some 63, none, .slice false 1 (.t 62) (some (.c (.int .i64 1))) none none⟩,
  ⟨some 64, none, .len 1 (.t 63)⟩,
  ⟨some 65, none, .mov (.c (.int .i64 0))⟩]
abbrev r283_47 : List SOper := [
  ⟨some 66, none, .bin .lss (.t 65) (.t 64)⟩]
abbrev c283_48 : SC := .cond (.t 66) (.skip) (.exit 3)
abbrev r283_49 : List SOper := [
  ⟨some 67, none, .iaddr none 1 (.t 63) (.t 65)⟩,
  ⟨some 68, none, .load false false 1 (.t 67)⟩,
  ⟨some 10, none, .mov (.t 68)⟩]
abbrev r283_50 : List SOper := [
  ⟨some 69, none, .mov (.t 1)⟩,
  ⟨some 70, none, .call false (.c (.func 299 [])) [.t 8, .t 69]⟩]
abbrev r283_51 : List SOper := [
  ⟨some 71, none, .mov (.t 10)⟩,
  ⟨some 72, none, .call false (.c (.func 299 [])) [.t 8, .t 71]⟩]
abbrev c283_52 : SC := .seq (.ops r283_50) (.ops r283_51)
abbrev c283_53 : SC := .seq (.ops r283_49) c283_52
abbrev c283_54 : SC := .block 4 [1, 8, 63, 64, 65] [] c283_53
abbrev r283_55 : List SOper := [
  ⟨some 73, none, .bin .add (.t 65) (.c (.int .i64 1))⟩,
  ⟨some 65, none, .mov (.t 73)⟩]
abbrev c283_56 : SC := .seq c283_54 (.ops r283_55)
abbrev c283_57 : SC := .seq c283_48 c283_56
abbrev c283_58 : SC := .seq (.ops r283_47) c283_57
abbrev L283_2 : SC := .loop [1, 8, 63, 64, 65] [] c283_58
abbrev c283_59 : SC := .block 3 [8] [] L283_2
abbrev c283_60 : SC := .seq (.ops r283_46) c283_59
abbrev r283_61 : List SOper := [
  ⟨some 74, none, .call false (.c (.func 300 [])) [.t 8]⟩,
  ⟨some 4, none, .mov (.t 74)⟩]
abbrev c283_62 : SC := .seq (.ops r283_61) (.ret)
abbrev c283_63 : SC := .seq c283_60 c283_62
abbrev c283_64 : SC := .seq (.ops r283_45) c283_63
abbrev c283_65 : SC := .seq (.ops r283_44) c283_64
abbrev c283_66 : SC := .seq (.ops r283_43) c283_65
abbrev c283_67 : SC := .seq c283_42 c283_66
abbrev c283_68 : SC := .seq c283_24 c283_67
abbrev c283_69 : SC := .seq (.ops r283_15) c283_68
abbrev c283_70 : SC := .seq c283_14 c283_69
abbrev c283_71 : SC := .seq (.ops r283_1) c283_70
def s283 : SF := ⟨[.t 4], c283_71, false, none, none⟩
/-! slices.pdqsortCmpFunc[crannog/api.Link] -/
abbrev r284_1 : List SOper := [
  ⟨some 10, none, .mov (.c (.bool true))⟩]
abbrev r284_2 : List SOper := [
  ⟨some 11, none, .mov (.c (.bool true))⟩]
abbrev r284_3 : List SOper := [
  ⟨some 21, none, .mov (.t 2)⟩,
  ⟨some 22, none, .mov (.t 1)⟩,
  ⟨some 23, none, .bin .sub (.t 21) (.t 22)⟩,
  ⟨some 12, none, .mov (.t 23)⟩]
abbrev r284_4 : List SOper := [
  ⟨some 24, none, .mov (.t 12)⟩,
  ⟨some 25, none, .bin .leq (.t 24) (.c (.int .i64 12))⟩]
abbrev r284_5 : List SOper := [
  ⟨some 26, none, .mov (.t 0)⟩,
  ⟨some 27, none, .mov (.t 1)⟩,
  ⟨some 28, none, .mov (.t 2)⟩,
  ⟨some 29, none, .mov (.t 4)⟩,
  ⟨some 30, none, .call false (.c (.func 267 [])) [.t 26, .t 27, .t 28, .t 29]⟩]
abbrev c284_6 : SC := .seq (.ops r284_5) (.ret)
abbrev c284_7 : SC := .cond (.t 25) c284_6 (.skip)
abbrev c284_8 : SC := .seq (.ops r284_4) c284_7
abbrev r284_9 : List SOper := [
  ⟨some 31, none, .mov (.t 3)⟩,
  ⟨some 32, none, .bin .eql (.t 31) (.c (.int .i64 0))⟩]
abbrev r284_10 : List SOper := [
  ⟨some 33, none, .mov (.t 0)⟩,
  ⟨some 34, none, .mov (.t 1)⟩,
  ⟨some 35, none, .mov (.t 2)⟩,
  ⟨some 36, none, .mov (.t 4)⟩,
  ⟨some 37, none, .call false (.c (.func 301 [])) [.t 33, .t 34, .t 35, .t 36]⟩]
abbrev c284_11 : SC := .seq (.ops r284_10) (.ret)
abbrev c284_12 : SC := .cond (.t 32) c284_11 (.skip)
abbrev c284_13 : SC := .seq (.ops r284_9) c284_12
abbrev r284_14 : List SOper := [
  ⟨some 38, none, .mov (.t 10)⟩,
  ⟨some 39, none, .un .not (.t 38)⟩]
abbrev r284_15 : List SOper := [
  ⟨some 40, none, .mov (.t 0)⟩,
  ⟨some 41, none, .mov (.t 1)⟩,
  ⟨some 42, none, .mov (.t 2)⟩,
  ⟨some 43, none, .mov (.t 4)⟩,
  ⟨some 44, none, .call false (.c (.func 302 [])) [.t 40, .t 41, .t 42, .t 43]⟩]
abbrev r284_16 : List SOper := [
  ⟨some 45, none, .mov (.t 3)⟩,
  ⟨some 46, none, .bin .sub (.t 45) (.c (.int .i64 1))⟩,
  ⟨some 3, none, .mov (.t 46)⟩]
abbrev c284_17 : SC := .seq (.ops r284_15) (.ops r284_16)
abbrev c284_18 : SC := .cond (.t 39) c284_17 (.skip)
abbrev c284_19 : SC := .seq (.ops r284_14) c284_18
abbrev r284_20 : List SOper := [
  ⟨some 48, none, .mov (.t 0)⟩,
  ⟨some 49, none, .mov (.t 1)⟩,
  ⟨some 50, none, .mov (.t 2)⟩,
  ⟨some 51, none, .mov (.t 4)⟩,
  ⟨some 52, none, .call false (.c (.func 303 [])) [.t 48, .t 49, .t 50, .t 51]⟩,
  ⟨some 47, none, .mov (.t 52)⟩,
  ⟨some 53, none, .extract (.t 47) 0⟩,
  ⟨some 54, none, .extract (.t 47) 1⟩,
  ⟨some 13, none, .mov (.t 53)⟩,
  ⟨some 14, none, .mov (.t 54)⟩]
abbrev r284_21 : List SOper := [
  ⟨some 55, none, .mov (.t 14)⟩,
  ⟨some 56, none, .bin .eql (.t 55) (.c (.int .i64 2))⟩]
abbrev r284_22 : List SOper := [
  ⟨some 57, none, .mov (.t 0)⟩,
  ⟨some 58, none, .mov (.t 1)⟩,
  ⟨some 59, none, .mov (.t 2)⟩,
  ⟨some 60, none, .mov (.t 4)⟩,
  ⟨some 61, none, .call false (.c (.func 304 [])) [.t 57, .t 58, .t 59, .t 60]⟩]
abbrev r284_23 : List SOper := [
  ⟨some 62, none, .mov (.t 2)⟩,
  ⟨some 63, none, .bin .sub (.t 62) (.c (.int .i64 1))⟩,
  ⟨some 64, none, .mov (.t 13)⟩,
  ⟨some 65, none, .mov (.t 1)⟩,
  ⟨some 66, none, .bin .sub (.t 64) (.t 65)⟩,
  ⟨some 67, none, .bin .sub (.t 63) (.t 66)⟩,
  ⟨some 13, none, .mov (.t 67)⟩]
abbrev r284_24 : List SOper := [
  ⟨some 14, none, .mov (.c (.int .i64 1))⟩]
abbrev c284_25 : SC := .seq (.ops r284_23) (.ops r284_24)
abbrev c284_26 : SC := .seq (.ops r284_22) c284_25
abbrev c284_27 : SC := .cond (.t 56) c284_26 (.skip)
abbrev c284_28 : SC := .seq (.ops r284_21) c284_27
abbrev r284_29 : List SOper := [
  ⟨some 68, none, .mov (.t 10)⟩,
  ⟨some 69, none, .mov (.t 68)⟩,
  ⟨some 70, some (69, true), .mov (.t 11)⟩,
  ⟨some 71, none, .pick (.t 69) (.t 70) (.c (.bool false))⟩,
  ⟨some 72, none, .mov (.t 71)⟩,
  ⟨some 73, some (72, true), .mov (.t 14)⟩,
  ⟨some 74, some (72, true), .bin .eql (.t 73) (.c (.int .i64 1))⟩,
  ⟨some 75, none, .pick (.t 72) (.t 74) (.c (.bool false))⟩]
abbrev r284_30 : List SOper := [
  ⟨some 76, none, .mov (.t 0)⟩,
  ⟨some 77, none, .mov (.t 1)⟩,
  ⟨some 78, none, .mov (.t 2)⟩,
  ⟨some 79, none, .mov (.t 4)⟩,
  ⟨some 80, none, .call false (.c (.func 305 [])) [.t 76, .t 77, .t 78, .t 79]⟩]
abbrev c284_31 : SC := .cond (.t 80) (.ret) (.skip)
abbrev c284_32 : SC := .seq (.ops r284_30) c284_31
abbrev c284_33 : SC := .cond (.t 75) c284_32 (.skip)
abbrev c284_34 : SC := .seq (.ops r284_29) c284_33
abbrev r284_35 : List SOper := [
  ⟨some 81, none, .mov (.t 1)⟩,
  ⟨some 82, none, .bin .gtr (.t 81) (.c (.int .i64 0))⟩,
  ⟨some 83, none, .mov (.t 82)⟩,
  ⟨some 84, some (83, true), .mov (.t 4)⟩,
  ⟨some 85, some (83, true), .mov (.t 0)⟩,
  ⟨some 86, some (83, true), .mov (.t 1)⟩,
  ⟨some 87, some (83, true), .bin .sub (.t 86) (.c (.int .i64 1))⟩,
  ⟨some 88, some (83, true), .iaddr none 25 (.t 85) (.t 87)⟩,
  ⟨some 89, some (83, true), .load false true 25 (.t 88)⟩,
  ⟨some 90, some (83, true), .mov (.t 0)⟩,
  ⟨some 91, some (83, true), .mov (.t 13)⟩,
  ⟨some 92, some (83, true), .iaddr none 25 (.t 90) (.t 91)⟩,
  ⟨some 93, some (83, true), .load false true 25 (.t 92)⟩,
  ⟨some 94, some (83, true), .call false (.t 84) [.t 89, .t 93]⟩,
  ⟨some 95, some (83, true), .bin .lss (.t 94) (.c (.int .i64 0))⟩,
  ⟨some 96, some (83, true), .un .not (.t 95)⟩,
  ⟨some 97, none, .pick (.t 83) (.t 96) (.c (.bool false))⟩]
abbrev r284_36 : List SOper := [
  ⟨some 98, none, .mov (.t 0)⟩,
  ⟨some 99, none, .mov (.t 1)⟩,
  ⟨some 100, none, .mov (.t 2)⟩,
  ⟨some 101, none, .mov (.t 13)⟩,
  ⟨some 102, none, .mov (.t 4)⟩,
  ⟨some 103, none, .call false (.c (.func 306 [])) [.t 98, .t 99, .t 100, .t 101, .t 102]⟩,
  ⟨some 15, none, .mov (.t 103)⟩]
abbrev r284_37 : List SOper := [
  ⟨some 104, none, .mov (.t 15)⟩,
  ⟨some 1, none, .mov (.t 104)⟩]
abbrev c284_38 : SC := .seq (.ops r284_37) (.exit 1)
abbrev c284_39 : SC := .seq (.ops r284_36) c284_38
abbrev c284_40 : SC := .cond (.t 97) c284_39 (.skip)
abbrev c284_41 : SC := .seq (.draw 0 [[], [0], [1], [2], [2], [2], [5], [4, 6], [7], [2], [2], [9, 10], [11], [3, 8, 12], [13], [14], [15]] r284_35) c284_40
abbrev r284_42 : List SOper := [
  ⟨some 106, none, .mov (.t 0)⟩,
  ⟨some 107, none, .mov (.t 1)⟩,
  ⟨some 108, none, .mov (.t 2)⟩,
  ⟨some 109, none, .mov (.t 13)⟩,
  ⟨some 110, none, .mov (.t 4)⟩,
  ⟨some 111, none, .call false (.c (.func 307 [])) [.t 106, .t 107, .t 108, .t 109, .t 110]⟩,
  ⟨some 105, none, .mov (.t 111)⟩,
  ⟨some 112, none, .extract (.t 105) 0⟩,
  ⟨some 113, none, .extract (.t 105) 1⟩,
  ⟨some 16, none, .mov (.t 112)⟩,
  ⟨some 17, none, .mov (.t 113)⟩]
abbrev r284_43 : List SOper := [
  ⟨some 114, none, .mov (.t 17)⟩,
  ⟨some 11, none, .mov (.t 114)⟩]
abbrev r284_44 : List SOper := [
  ⟨some 115, none, .mov (.t 16)⟩,
  ⟨some 116, none, .mov (.t 1)⟩,
  ⟨some 117, none, .bin .sub (.t 115) (.t 116)⟩,
  ⟨some 118, none, .mov (.t 2)⟩,
  ⟨some 119, none, .mov (.t 16)⟩,
  ⟨some 120, none, .bin .sub (.t 118) (.t 119)⟩,
  ⟨some 18, none, .mov (.t 117)⟩,
  ⟨some 19, none, .mov (.t 120)⟩]
abbrev r284_45 : List SOper := [
  ⟨some 121, none, .mov (.t 12)⟩,
  ⟨some 122, none, .bin .quo (.t 121) (.c (.int .i64 8))⟩,
  ⟨some 20, none, .mov (.t 122)⟩]
abbrev r284_46 : List SOper := [
  ⟨some 123, none, .mov (.t 18)⟩,
  ⟨some 124, none, .mov (.t 19)⟩,
  ⟨some 125, none, .bin .lss (.t 123) (.t 124)⟩]
abbrev r284_47 : List SOper := [
  ⟨some 126, none, .mov (.t 18)⟩,
  ⟨some 127, none, .mov (.t 20)⟩,
  ⟨some 128, none, .bin .geq (.t 126) (.t 127)⟩,
  ⟨some 10, none, .mov (.t 128)⟩]
abbrev r284_48 : List SOper := [
  ⟨some 129, none, .mov (.t 0)⟩,
  ⟨some 130, none, .mov (.t 1)⟩,
  ⟨some 131, none, .mov (.t 16)⟩,
  ⟨some 132, none, .mov (.t 3)⟩,
  ⟨some 133, none, .mov (.t 4)⟩,
  ⟨some 134, none, .call false (.c (.func 284 [])) [.t 129, .t 130, .t 131, .t 132, .t 133]⟩]
abbrev r284_49 : List SOper := [
  ⟨some 135, none, .mov (.t 16)⟩,
  ⟨some 136, none, .bin .add (.t 135) (.c (.int .i64 1))⟩,
  ⟨some 1, none, .mov (.t 136)⟩]
abbrev c284_50 : SC := .seq (.ops r284_48) (.ops r284_49)
abbrev c284_51 : SC := .seq (.ops r284_47) c284_50
abbrev r284_52 : List SOper := [
  ⟨some 137, none, .mov (.t 19)⟩,
  ⟨some 138, none, .mov (.t 20)⟩,
  ⟨some 139, none, .bin .geq (.t 137) (.t 138)⟩,
  ⟨some 10, none, .mov (.t 139)⟩]
abbrev r284_53 : List SOper := [
  ⟨some 140, none, .mov (.t 0)⟩,
  ⟨some 141, none, .mov (.t 16)⟩,
  ⟨some 142, none, .bin .add (.t 141) (.c (.int .i64 1))⟩,
  ⟨some 143, none, .mov (.t 2)⟩,
  ⟨some 144, none, .mov (.t 3)⟩,
  ⟨some 145, none, .mov (.t 4)⟩,
  ⟨some 146, none, .call false (.c (.func 284 [])) [.t 140, .t 142, .t 143, .t 144, .t 145]⟩]
abbrev r284_54 : List SOper := [
  ⟨some 147, none, .mov (.t 16)⟩,
  ⟨some 2, none, .mov (.t 147)⟩]
abbrev c284_55 : SC := .seq (.ops r284_53) (.ops r284_54)
abbrev c284_56 : SC := .seq (.ops r284_52) c284_55
abbrev c284_57 : SC := .cond (.t 125) c284_51 c284_56
abbrev c284_58 : SC := .seq (.ops r284_46) c284_57
abbrev c284_59 : SC := .seq (.ops r284_45) c284_58
abbrev c284_60 : SC := .seq (.ops r284_44) c284_59
abbrev c284_61 : SC := .seq (.ops r284_43) c284_60
abbrev c284_62 : SC := .seq (.ops r284_42) c284_61
abbrev c284_63 : SC := .seq c284_41 c284_62
abbrev c284_64 : SC := .seq c284_34 c284_63
abbrev c284_65 : SC := .seq c284_28 c284_64
abbrev c284_66 : SC := .seq (.ops r284_20) c284_65
abbrev c284_67 : SC := .seq c284_19 c284_66
abbrev c284_68 : SC := .seq c284_13 c284_67
abbrev c284_69 : SC := .seq c284_8 c284_68
abbrev c284_70 : SC := .seq (.ops r284_3) c284_69
abbrev c284_71 : SC := .block 1 [0, 1, 2, 3, 4, 10, 11] [] c284_70
abbrev L284_1 : SC := .loop [0, 1, 2, 3, 4, 10, 11] [] c284_71
abbrev c284_72 : SC := .block 0 [] [] L284_1
abbrev c284_73 : SC := .seq (.ops r284_2) c284_72
abbrev c284_74 : SC := .seq (.ops r284_1) c284_73
def s284 : SF := ⟨[], c284_74, false, none, none⟩
/-! slices.insertionSortCmpFunc[crannog/api.Piece] -/
abbrev r288_1 : List SOper := [
  ⟨some 10, none, .mov (.t 1)⟩,
  ⟨some 11, none, .bin .add (.t 10) (.c (.int .i64 1))⟩,
  ⟨some 8, none, .mov (.t 11)⟩]
abbrev r288_2 : List SOper := [
  ⟨some 12, none, .mov (.t 8)⟩,
  ⟨some 13, none, .mov (.t 2)⟩,
  ⟨some 14, none, .bin .lss (.t 12) (.t 13)⟩]
abbrev c288_3 : SC := .cond (.t 14) (.skip) (.exit 0)
abbrev c288_4 : SC := .seq (.ops r288_2) c288_3
abbrev r288_5 : List SOper := [
  ⟨some 17, none, .mov (.t 8)⟩,
  ⟨some 9, none, .mov (.t 17)⟩]
abbrev r288_6 : List SOper := [
  ⟨some 18, none, .mov (.t 9)⟩,
  ⟨some 19, none, .mov (.t 1)⟩,
  ⟨some 20, none, .bin .gtr (.t 18) (.t 19)⟩,
  ⟨some 21, none, .mov (.t 20)⟩,
  ⟨some 22, some (21, true), .mov (.t 3)⟩,
  ⟨some 23, some (21, true), .mov (.t 0)⟩,
  ⟨some 24, some (21, true), .mov (.t 9)⟩,
  ⟨some 25, some (21, true), .iaddr none 4 (.t 23) (.t 24)⟩,
  ⟨some 26, some (21, true), .load false true 4 (.t 25)⟩,
  ⟨some 27, some (21, true), .mov (.t 0)⟩,
  ⟨some 28, some (21, true), .mov (.t 9)⟩,
  ⟨some 29, some (21, true), .bin .sub (.t 28) (.c (.int .i64 1))⟩,
  ⟨some 30, some (21, true), .iaddr none 4 (.t 27) (.t 29)⟩,
  ⟨some 31, some (21, true), .load false true 4 (.t 30)⟩,
  ⟨some 32, some (21, true), .call false (.t 22) [.t 26, .t 31]⟩,
  ⟨some 33, some (21, true), .bin .lss (.t 32) (.c (.int .i64 0))⟩,
  ⟨some 34, none, .pick (.t 21) (.t 33) (.c (.bool false))⟩]
abbrev c288_7 : SC := .cond (.t 34) (.skip) (.exit 2)
abbrev c288_8 : SC := .seq (.draw 0 [[], [], [0, 1], [2], [3], [3], [3], [5, 6], [7], [3], [3], [10], [9, 11], [12], [4, 8, 13], [14], [15]] r288_6) c288_7
abbrev r288_9 : List SOper := [
  ⟨some 37, none, .mov (.t 0)⟩,
  ⟨some 38, none, .mov (.t 9)⟩,
  ⟨some 39, none, .mov (.t 0)⟩,
  ⟨some 40, none, .mov (.t 9)⟩,
  ⟨some 41, none, .bin .sub (.t 40) (.c (.int .i64 1))⟩,
  ⟨some 42, none, .mov (.t 0)⟩,
  ⟨some 43, none, .mov (.t 9)⟩,
  ⟨some 44, none, .bin .sub (.t 43) (.c (.int .i64 1))⟩,
  ⟨some 45, none, .iaddr none 4 (.t 42) (.t 44)⟩,
  ⟨some 46, none, .load false true 4 (.t 45)⟩,
  ⟨some 47, none, .mov (.t 0)⟩,
  ⟨some 48, none, .mov (.t 9)⟩,
  ⟨some 49, none, .iaddr none 4 (.t 47) (.t 48)⟩,
  ⟨some 50, none, .load false true 4 (.t 49)⟩,
  ⟨some 51, none, .iaddr none 4 (.t 37) (.t 38)⟩,
  ⟨none, none, .store 4 (.t 51) (.t 46)⟩,
  ⟨some 52, none, .iaddr none 4 (.t 39) (.t 41)⟩,
  ⟨none, none, .store 4 (.t 52) (.t 50)⟩]
abbrev c288_10 : SC := .block 3 [0, 1, 2, 3, 8, 9] [] (.draw 0 [[], [], [], [], [3], [], [], [6], [5, 7], [8], [], [], [10, 11], [12], [0, 1, 9, 13], [14], [2, 4, 15], [16]] r288_9)
abbrev r288_11 : List SOper := [
  ⟨some 35, none, .mov (.t 9)⟩,
  ⟨some 36, none, .bin .sub (.t 35) (.c (.int .i64 1))⟩,
  ⟨some 9, none, .mov (.t 36)⟩]
abbrev c288_12 : SC := .seq c288_10 (.ops r288_11)
abbrev c288_13 : SC := .seq c288_8 c288_12
abbrev L288_1 : SC := .loop [0, 1, 2, 3, 8, 9] [] c288_13
abbrev c288_14 : SC := .block 2 [0, 1, 2, 3, 8] [] L288_1
abbrev c288_15 : SC := .seq (.ops r288_5) c288_14
abbrev c288_16 : SC := .block 1 [0, 1, 2, 3, 8] [] c288_15
abbrev r288_17 : List SOper := [
  ⟨some 15, none, .mov (.t 8)⟩,
  ⟨some 16, none, .bin .add (.t 15) (.c (.int .i64 1))⟩,
  ⟨some 8, none, .mov (.t 16)⟩]
abbrev c288_18 : SC := .seq c288_16 (.ops r288_17)
abbrev c288_19 : SC := .seq c288_4 c288_18
abbrev L288_2 : SC := .loop [0, 1, 2, 3, 8] [] c288_19
abbrev c288_20 : SC := .block 0 [] [] L288_2
abbrev c288_21 : SC := .seq (.ops r288_1) c288_20
def s288 : SF := ⟨[], c288_21, false, none, none⟩
/-! slices.insertionSortCmpFunc[crannog/api.Xattr] -/
abbrev r290_1 : List SOper := [
  ⟨some 10, none, .mov (.t 1)⟩,
  ⟨some 11, none, .bin .add (.t 10) (.c (.int .i64 1))⟩,
  ⟨some 8, none, .mov (.t 11)⟩]
abbrev r290_2 : List SOper := [
  ⟨some 12, none, .mov (.t 8)⟩,
  ⟨some 13, none, .mov (.t 2)⟩,
  ⟨some 14, none, .bin .lss (.t 12) (.t 13)⟩]
abbrev c290_3 : SC := .cond (.t 14) (.skip) (.exit 0)
abbrev c290_4 : SC := .seq (.ops r290_2) c290_3
abbrev r290_5 : List SOper := [
  ⟨some 17, none, .mov (.t 8)⟩,
  ⟨some 9, none, .mov (.t 17)⟩]
abbrev r290_6 : List SOper := [
  ⟨some 18, none, .mov (.t 9)⟩,
  ⟨some 19, none, .mov (.t 1)⟩,
  ⟨some 20, none, .bin .gtr (.t 18) (.t 19)⟩,
  ⟨some 21, none, .mov (.t 20)⟩,
  ⟨some 22, some (21, true), .mov (.t 3)⟩,
  ⟨some 23, some (21, true), .mov (.t 0)⟩,
  ⟨some 24, some (21, true), .mov (.t 9)⟩,
  ⟨some 25, some (21, true), .iaddr none 5 (.t 23) (.t 24)⟩,
  ⟨some 26, some (21, true), .load false true 5 (.t 25)⟩,
  ⟨some 27, some (21, true), .mov (.t 0)⟩,
  ⟨some 28, some (21, true), .mov (.t 9)⟩,
  ⟨some 29, some (21, true), .bin .sub (.t 28) (.c (.int .i64 1))⟩,
  ⟨some 30, some (21, true), .iaddr none 5 (.t 27) (.t 29)⟩,
  ⟨some 31, some (21, true), .load false true 5 (.t 30)⟩,
  ⟨some 32, some (21, true), .call false (.t 22) [.t 26, .t 31]⟩,
  ⟨some 33, some (21, true), .bin .lss (.t 32) (.c (.int .i64 0))⟩,
  ⟨some 34, none, .pick (.t 21) (.t 33) (.c (.bool false))⟩]
abbrev c290_7 : SC := .cond (.t 34) (.skip) (.exit 2)
abbrev c290_8 : SC := .seq (.draw 0 [[], [], [0, 1], [2], [3], [3], [3], [5, 6], [7], [3], [3], [10], [9, 11], [12], [4, 8, 13], [14], [15]] r290_6) c290_7
abbrev r290_9 : List SOper := [
  ⟨some 37, none, .mov (.t 0)⟩,
  ⟨some 38, none, .mov (.t 9)⟩,
  ⟨some 39, none, .mov (.t 0)⟩,
  ⟨some 40, none, .mov (.t 9)⟩,
  ⟨some 41, none, .bin .sub (.t 40) (.c (.int .i64 1))⟩,
  ⟨some 42, none, .mov (.t 0)⟩,
  ⟨some 43, none, .mov (.t 9)⟩,
  ⟨some 44, none, .bin .sub (.t 43) (.c (.int .i64 1))⟩,
  ⟨some 45, none, .iaddr none 5 (.t 42) (.t 44)⟩,
  ⟨some 46, none, .load false true 5 (.t 45)⟩,
  ⟨some 47, none, .mov (.t 0)⟩,
  ⟨some 48, none, .mov (.t 9)⟩,
  ⟨some 49, none, .iaddr none 5 (.t 47) (.t 48)⟩,
  ⟨some 50, none, .load false true 5 (.t 49)⟩,
  ⟨some 51, none, .iaddr none 5 (.t 37) (.t 38)⟩,
  ⟨none, none, .store 5 (.t 51) (.t 46)⟩,
  ⟨some 52, none, .iaddr none 5 (.t 39) (.t 41)⟩,
  ⟨none, none, .store 5 (.t 52) (.t 50)⟩]
abbrev c290_10 : SC := .block 3 [0, 1, 2, 3, 8, 9] [] (.draw 0 [[], [], [], [], [3], [], [], [6], [5, 7], [8], [], [], [10, 11], [12], [0, 1, 9, 13], [14], [2, 4, 15], [16]] r290_9)
abbrev r290_11 : List SOper := [
  ⟨some 35, none, .mov (.t 9)⟩,
  ⟨some 36, none, .bin .sub (.t 35) (.c (.int .i64 1))⟩,
  ⟨some 9, none, .mov (.t 36)⟩]
abbrev c290_12 : SC := .seq c290_10 (.ops r290_11)
abbrev c290_13 : SC := .seq c290_8 c290_12
abbrev L290_1 : SC := .loop [0, 1, 2, 3, 8, 9] [] c290_13
abbrev c290_14 : SC := .block 2 [0, 1, 2, 3, 8] [] L290_1
abbrev c290_15 : SC := .seq (.ops r290_5) c290_14
abbrev c290_16 : SC := .block 1 [0, 1, 2, 3, 8] [] c290_15
abbrev r290_17 : List SOper := [
  ⟨some 15, none, .mov (.t 8)⟩,
  ⟨some 16, none, .bin .add (.t 15) (.c (.int .i64 1))⟩,
  ⟨some 8, none, .mov (.t 16)⟩]
abbrev c290_18 : SC := .seq c290_16 (.ops r290_17)
abbrev c290_19 : SC := .seq c290_4 c290_18
abbrev L290_2 : SC := .loop [0, 1, 2, 3, 8] [] c290_19
abbrev c290_20 : SC := .block 0 [] [] L290_2
abbrev c290_21 : SC := .seq (.ops r290_1) c290_20
def s290 : SF := ⟨[], c290_21, false, none, none⟩
/-! internal/stringslite.Index -/
abbrev r295_1 : List SOper := [
  ⟨some 4, none, .mov (.c (.int .i64 0))⟩]
abbrev r295_2 : List SOper := [
  ⟨some 14, none, .mov (.t 1)⟩,
  ⟨some 15, none, .len 0 (.t 14)⟩,
  ⟨some 5, none, .mov (.t 15)⟩]
abbrev r295_3 : List SOper := [
  ⟨some 17, none, .mov (.t 5)⟩,
  ⟨some 18, none, .bin .eql (.t 17) (.c (.int .i64 0))⟩,
  ⟨some 19, none, .mov (.t 18)⟩,
  ⟨some 20, some (19, false), .mov (.t 1)⟩,
  ⟨some 21, some (19, false), .mov (.t 0)⟩,
  ⟨some 22, some (19, false), .bin .eql (.t 20) (.t 21)⟩,
  ⟨some 23, none, .pick (.t 19) (.c (.bool true)) (.t 22)⟩,
  ⟨some 16, none, .mov (.t 23)⟩]
abbrev r295_4 : List SOper := [
  ⟨some 4, none, .mov (.c (.int .i64 0))⟩]
abbrev c295_5 : SC := .seq (.ops r295_4) (.ret)
abbrev r295_6 : List SOper := [
  ⟨some 25, none, .mov (.t 5)⟩,
  ⟨some 26, none, .bin .eql (.t 25) (.c (.int .i64 1))⟩,
  ⟨some 24, none, .mov (.t 26)⟩]
abbrev r295_7 : List SOper := [
  ⟨some 27, none, .mov (.t 0)⟩,
  ⟨some 28, none, .mov (.t 1)⟩,
  ⟨some 29, none, .index none (.t 28) (.c (.int .i64 0))⟩,
  ⟨some 30, none, .call false (.c (.func 322 [])) [.t 27, .t 29]⟩,
  ⟨some 4, none, .mov (.t 30)⟩]
abbrev c295_8 : SC := .seq (.ops r295_7) (.ret)
abbrev r295_9 : List SOper := [
  ⟨some 32, none, .mov (.t 5)⟩,
  ⟨some 33, none, .mov (.t 0)⟩,
  ⟨some 34, none, .len 0 (.t 33)⟩,
  ⟨some 35, none, .bin .geq (.t 32) (.t 34)⟩,
  ⟨some 31, none, .mov (.t 35)⟩]
abbrev r295_10 : List SOper := [
  ⟨some 4, none, .mov (.c (.int .i64 (-1)))⟩]
abbrev c295_11 : SC := .seq (.ops r295_10) (.ret)
abbrev r295_12 : List SOper := [
  ⟨some 37, none, .mov (.t 5)⟩,
  ⟨some 38, none, .no⟩,
  ⟨some 39, none, .bin .leq (.t 37) (.t 38)⟩,
  ⟨some 40, none, .mov (.t 39)⟩,
  ⟨some 41, some (40, true), .mov (.t 0)⟩,
  ⟨some 42, some (40, true), .len 0 (.t 41)⟩,
  ⟨some 43, some (40, true), .bin .leq (.t 42) (.c (.int .i64 64))⟩,
  ⟨some 44, none, .pick (.t 40) (.t 43) (.c (.bool false))⟩,
  ⟨some 36, none, .mov (.t 44)⟩]
abbrev r295_13 : List SOper := [
  ⟨some 45, none, .mov (.t 0)⟩,
  ⟨some 46, none, .mov (.t 1)⟩,
  ⟨some 47, none, .call false (.c (.func 323 [])) [.t 45, .t 46]⟩,
  ⟨some 4, none, .mov (.t 47)⟩]
abbrev c295_14 : SC := .seq (.ops r295_13) (.ret)
abbrev c295_15 : SC := .cond (.t 36) c295_14 (.skip)
abbrev c295_16 : SC := .seq (.ops r295_12) c295_15
abbrev c295_17 : SC := .cond (.t 31) c295_11 c295_16
abbrev c295_18 : SC := .seq (.ops r295_9) c295_17
abbrev c295_19 : SC := .cond (.t 24) c295_8 c295_18
abbrev c295_20 : SC := .seq (.ops r295_6) c295_19
abbrev c295_21 : SC := .cond (.t 16) c295_5 c295_20
abbrev c295_22 : SC := .seq (.ops r295_3) c295_21
abbrev c295_23 : SC := .block 0 [0, 1, 5] [] c295_22
abbrev r295_24 : List SOper := [
  ⟨some 48, none, .mov (.t 1)⟩,
  ⟨some 49, none, .index none (.t 48) (.c (.int .i64 0))⟩,
  ⟨some 6, none, .mov (.t 49)⟩]
abbrev r295_25 : List SOper := [
  ⟨some 50, none, .mov (.t 1)⟩,
  ⟨some 51, none, .index none (.t 50) (.c (.int .i64 1))⟩,
  ⟨some 7, none, .mov (.t 51)⟩]
abbrev r295_26 : List SOper := [
  ⟨some 8, none, .mov (.c (.int .i64 0))⟩]
abbrev r295_27 : List SOper := [
  ⟨some 52, none, .mov (.t 0)⟩,
  ⟨some 53, none, .len 0 (.t 52)⟩,
  ⟨some 54, none, .mov (.t 5)⟩,
  ⟨some 55, none, .bin .sub (.t 53) (.t 54)⟩,
  ⟨some 56, none, .bin .add (.t 55) (.c (.int .i64 1))⟩,
  ⟨some 9, none, .mov (.t 56)⟩]
abbrev r295_28 : List SOper := [
  ⟨some 10, none, .mov (.c (.int .i64 0))⟩]
abbrev r295_29 : List SOper := [
  ⟨some 57, none, .mov (.t 8)⟩,
  ⟨some 58, none, .mov (.t 9)⟩,
  ⟨some 59, none, .bin .lss (.t 57) (.t 58)⟩]
abbrev c295_30 : SC := .cond (.t 59) (.skip) (.exit 1)
abbrev c295_31 : SC := .seq (.ops r295_29) c295_30
abbrev r295_32 : List SOper := [
  ⟨some 60, none, .mov (.t 0)⟩,
  ⟨some 61, none, .mov (.t 8)⟩,
  ⟨some 62, none, .index none (.t 60) (.t 61)⟩,
  ⟨some 63, none, .mov (.t 6)⟩,
  ⟨some 64, none, .bin .neq (.t 62) (.t 63)⟩]
abbrev r295_33 : List SOper := [
  ⟨some 65, none, .mov (.t 0)⟩,
  ⟨some 66, none, .mov (.t 8)⟩,
  ⟨some 67, none, .bin .add (.t 66) (.c (.int .i64 1))⟩,
  ⟨some 68, none, .mov (.t 9)⟩,
  ⟨some 69, none, .slice true 1 (.t 65) (some (.t 67)) (some (.t 68)) none⟩,
  ⟨some 70, none, .mov (.t 6)⟩,
  ⟨some 71, none, .call false (.c (.func 322 [])) [.t 69, .t 70]⟩,
  ⟨some 11, none, .mov (.t 71)⟩]
abbrev r295_34 : List SOper := [
  ⟨some 72, none, .mov (.t 11)⟩,
  ⟨some 73, none, .bin .lss (.t 72) (.c (.int .i64 0))⟩]
abbrev r295_35 : List SOper := [
  ⟨some 4, none, .mov (.c (.int .i64 (-1)))⟩]
abbrev c295_36 : SC := .seq (.ops r295_35) (.ret)
abbrev c295_37 : SC := .cond (.t 73) c295_36 (.skip)
abbrev c295_38 : SC := .seq (.ops r295_34) c295_37
abbrev r295_39 : List SOper := [
  ⟨some 74, none, .mov (.t 8)⟩,
  ⟨some 75, none, .mov (.t 11)⟩,
  ⟨some 76, none, .bin .add (.t 75) (.c (.int .i64 1))⟩,
  ⟨some 77, none, .bin .add (.t 74) (.t 76)⟩,
  ⟨some 8, none, .mov (.t 77)⟩]
abbrev c295_40 : SC := .seq c295_38 (.ops r295_39)
abbrev c295_41 : SC := .seq (.ops r295_33) c295_40
abbrev c295_42 : SC := .cond (.t 64) c295_41 (.skip)
abbrev c295_43 : SC := .seq (.ops r295_32) c295_42
abbrev r295_44 : List SOper := [
  ⟨some 78, none, .mov (.t 0)⟩,
  ⟨some 79, none, .mov (.t 8)⟩,
  ⟨some 80, none, .bin .add (.t 79) (.c (.int .i64 1))⟩,
  ⟨some 81, none, .index none (.t 78) (.t 80)⟩,
  ⟨some 82, none, .mov (.t 7)⟩,
  ⟨some 83, none, .bin .eql (.t 81) (.t 82)⟩,
  ⟨some 84, none, .mov (.t 83)⟩,
  ⟨some 85, some (84, true), .mov (.t 0)⟩,
  ⟨some 86, some (84, true), .mov (.t 8)⟩,
  ⟨some 87, some (84, true), .mov (.t 8)⟩,
  ⟨some 88, some (84, true), .mov (.t 5)⟩,
  ⟨some 89, some (84, true), .bin .add (.t 87) (.t 88)⟩,
  ⟨some 90, some (84, true), .slice true 1 (.t 85) (some (.t 86)) (some (.t 89)) none⟩,
  ⟨some 91, some (84, true), .mov (.t 1)⟩,
  ⟨some 92, some (84, true), .bin .eql (.t 90) (.t 91)⟩,
  ⟨some 93, none, .pick (.t 84) (.t 92) (.c (.bool false))⟩]
abbrev r295_45 : List SOper := [
  ⟨some 94, none, .mov (.t 8)⟩,
  ⟨some 4, none, .mov (.t 94)⟩]
abbrev c295_46 : SC := .seq (.ops r295_45) (.ret)
abbrev c295_47 : SC := .cond (.t 93) c295_46 (.skip)
abbrev c295_48 : SC := .seq (.ops r295_44) c295_47
abbrev r295_49 : List SOper := [
  ⟨some 95, none, .mov (.t 8)⟩,
  ⟨some 96, none, .bin .add (.t 95) (.c (.int .i64 1))⟩,
  ⟨some 8, none, .mov (.t 96)⟩]
abbrev r295_50 : List SOper := [
  ⟨some 97, none, .mov (.t 10)⟩,
  ⟨some 98, none, .bin .add (.t 97) (.c (.int .i64 1))⟩,
  ⟨some 10, none, .mov (.t 98)⟩]
abbrev r295_51 : List SOper := [
  ⟨some 99, none, .mov (.t 5)⟩,
  ⟨some 100, none, .no⟩,
  ⟨some 101, none, .bin .leq (.t 99) (.t 100)⟩,
  ⟨some 102, none, .mov (.t 101)⟩,
  ⟨some 103, some (102, true), .mov (.t 10)⟩,
  ⟨some 104, some (102, true), .mov (.t 8)⟩,
  ⟨some 105, some (102, true), .call false (.c (.func 324 [])) [.t 104]⟩,
  ⟨some 106, some (102, true), .bin .gtr (.t 103) (.t 105)⟩,
  ⟨some 107, none, .pick (.t 102) (.t 106) (.c (.bool false))⟩]
abbrev r295_52 : List SOper := [
  ⟨some 108, none, .mov (.t 0)⟩,
  ⟨some 109, none, .mov (.t 8)⟩,
  ⟨some 110, none, .slice true 1 (.t 108) (some (.t 109)) none none⟩,
  ⟨some 111, none, .mov (.t 1)⟩,
  ⟨some 112, none, .call false (.c (.func 323 [])) [.t 110, .t 111]⟩,
  ⟨some 12, none, .mov (.t 112)⟩]
abbrev r295_53 : List SOper := [
  ⟨some 113, none, .mov (.t 12)⟩,
  ⟨some 114, none, .bin .geq (.t 113) (.c (.int .i64 0))⟩]
abbrev r295_54 : List SOper := [
  ⟨some 115, none, .mov (.t 12)⟩,
  ⟨some 116, none, .mov (.t 8)⟩,
  ⟨some 117, none, .bin .add (.t 115) (.t 116)⟩,
  ⟨some 4, none, .mov (.t 117)⟩]
abbrev c295_55 : SC := .seq (.ops r295_54) (.ret)
abbrev c295_56 : SC := .cond (.t 114) c295_55 (.skip)
abbrev c295_57 : SC := .seq (.ops r295_53) c295_56
abbrev r295_58 : List SOper := [
  ⟨some 4, none, .mov (.c (.int .i64 (-1)))⟩]
abbrev c295_59 : SC := .seq (.ops r295_58) (.ret)
abbrev c295_60 : SC := .seq c295_57 c295_59
abbrev c295_61 : SC := .seq (.ops r295_52) c295_60
abbrev r295_62 : List SOper := [
  ⟨some 118, none, .mov (.t 5)⟩,
  ⟨some 119, none, .no⟩,
  ⟨some 120, none, .bin .gtr (.t 118) (.t 119)⟩,
  ⟨some 121, none, .mov (.t 120)⟩,
  ⟨some 122, some (121, true), .mov (.t 10)⟩,
  ⟨some 123, some (121, true), .mov (.t 8)⟩,
  ⟨some 124, some (121, true), .bin .shr (.t 123) (.c (.int .u64 4))⟩,
  ⟨some 125, some (121, true), .bin .add (.c (.int .i64 4)) (.t 124)⟩,
  ⟨some 126, some (121, true), .bin .geq (.t 122) (.t 125)⟩,
  ⟨some 127, none, .pick (.t 121) (.t 126) (.c (.bool false))⟩,
  ⟨some 128, none, .mov (.t 127)⟩,
  ⟨some 129, some (128, true), .mov (.t 8)⟩,
  ⟨some 130, some (128, true), .mov (.t 9)⟩,
  ⟨some 131, some (128, true), .bin .lss (.t 129) (.t 130)⟩,
  ⟨some 132, none, .pick (.t 128) (.t 131) (.c (.bool false))⟩]
abbrev r295_63 : List SOper := [
  ⟨some 133, none, .mov (.t 0)⟩,
  ⟨some 134, none, .mov (.t 8)⟩,
  ⟨some 135, none, .slice true 1 (.t 133) (some (.t 134)) none none⟩,
  ⟨some 136, none, .mov (.t 1)⟩,
  ⟨some 137, none, .call false (.c (.func 325 [])) [.t 135, .t 136]⟩,
  ⟨some 13, none, .mov (.t 137)⟩]
abbrev r295_64 : List SOper := [
  ⟨some 138, none, .mov (.t 13)⟩,
  ⟨some 139, none, .bin .lss (.t 138) (.c (.int .i64 0))⟩]
abbrev r295_65 : List SOper := [
  ⟨some 4, none, .mov (.c (.int .i64 (-1)))⟩]
abbrev c295_66 : SC := .seq (.ops r295_65) (.ret)
abbrev c295_67 : SC := .cond (.t 139) c295_66 (.skip)
abbrev c295_68 : SC := .seq (.ops r295_64) c295_67
abbrev r295_69 : List SOper := [
  ⟨some 140, none, .mov (.t 8)⟩,
  ⟨some 141, none, .mov (.t 13)⟩,
  ⟨some 142, none, .bin .add (.t 140) (.t 141)⟩,
  ⟨some 4, none, .mov (.t 142)⟩]
abbrev c295_70 : SC := .seq (.ops r295_69) (.ret)
abbrev c295_71 : SC := .seq c295_68 c295_70
abbrev c295_72 : SC := .seq (.ops r295_63) c295_71
abbrev c295_73 : SC := .cond (.t 132) c295_72 (.skip)
abbrev c295_74 : SC := .seq (.ops r295_62) c295_73
abbrev c295_75 : SC := .cond (.t 107) c295_61 c295_74
abbrev c295_76 : SC := .seq (.ops r295_51) c295_75
abbrev c295_77 : SC := .seq (.ops r295_50) c295_76
abbrev c295_78 : SC := .seq (.ops r295_49) c295_77
abbrev c295_79 : SC := .seq c295_48 c295_78
abbrev c295_80 : SC := .seq c295_43 c295_79
abbrev c295_81 : SC := .block 2 [0, 1, 5, 6, 7, 8, 9, 10] [] c295_80
abbrev c295_82 : SC := .seq c295_31 c295_81
abbrev L295_1 : SC := .loop [0, 1, 5, 6, 7, 8, 9, 10] [] c295_82
abbrev c295_83 : SC := .block 1 [] [] L295_1
abbrev r295_84 : List SOper := [
  ⟨some 4, none, .mov (.c (.int .i64 (-1)))⟩]
abbrev c295_85 : SC := .seq (.ops r295_84) (.ret)
abbrev c295_86 : SC := .seq c295_83 c295_85
abbrev c295_87 : SC := .seq (.ops r295_28) c295_86
abbrev c295_88 : SC := .seq (.ops r295_27) c295_87
abbrev c295_89 : SC := .seq (.ops r295_26) c295_88
abbrev c295_90 : SC := .seq (.ops r295_25) c295_89
abbrev c295_91 : SC := .seq (.ops r295_24) c295_90
abbrev c295_92 : SC := .seq c295_23 c295_91
abbrev c295_93 : SC := .seq (.ops r295_2) c295_92
abbrev c295_94 : SC := .seq (.ops r295_1) c295_93
def s295 : SF := ⟨[.t 4], c295_94, false, none, none⟩
/-! internal/stringslite.IndexByte -/
abbrev r322_1 : List SOper := [
  ⟨some 4, none, .mov (.c (.int .i64 0))⟩]
abbrev r322_2 : List SOper := [
  ⟨some 5, none, .mov (.t 0)⟩,
  ⟨some 6, none, .mov (.t 1)⟩,
  ⟨some 7, none, .call false (.c (.func 337 [])) [.t 5, .t 6]⟩,
  ⟨some 4, none, .mov (.t 7)⟩]
abbrev c322_3 : SC := .seq (.ops r322_2) (.ret)
abbrev c322_4 : SC := .seq (.ops r322_1) c322_3
def s322 : SF := ⟨[.t 4], c322_4, false, none, none⟩
end Go.Vm.Tryz
end

section
set_option maxRecDepth 100000
namespace Go.Vm.Tryz
open Go Go.Vm
def fns : List (Nat × SF) := [(6, s6), (9, s9), (14, s14), (17, s17), (28, s28), (29, s29), (30, s30), (31, s31), (32, s32), (33, s33), (34, s34), (35, s35), (36, s36), (38, s38), (39, s39), (42, s42), (45, s45), (52, s52), (53, s53), (54, s54), (55, s55), (56, s56), (57, s57), (58, s58), (59, s59), (60, s60), (61, s61), (62, s62), (63, s63), (64, s64), (65, s65), (66, s66), (67, s67), (68, s68), (69, s69), (70, s70), (71, s71), (72, s72), (73, s73), (74, s74), (75, s75), (76, s76), (77, s77), (79, s79), (80, s80), (81, s81), (82, s82), (83, s83), (84, s84), (85, s85), (86, s86), (87, s87), (88, s88), (89, s89), (90, s90), (92, s92), (93, s93), (94, s94), (95, s95), (106, s106), (107, s107), (108, s108), (109, s109), (110, s110), (111, s111), (112, s112), (113, s113), (114, s114), (115, s115), (116, s116), (117, s117), (118, s118), (119, s119), (120, s120), (121, s121), (122, s122), (123, s123), (124, s124), (125, s125), (126, s126), (127, s127), (129, s129), (130, s130), (131, s131), (132, s132), (133, s133), (140, s140), (141, s141), (142, s142), (143, s143), (144, s144), (148, s148), (149, s149), (150, s150), (151, s151), (152, s152), (153, s153), (154, s154), (155, s155), (160, s160), (162, s162), (166, s166), (167, s167), (168, s168), (169, s169), (171, s171), (172, s172), (180, s180), (181, s181), (182, s182), (183, s183), (184, s184), (185, s185), (188, s188), (189, s189), (190, s190), (191, s191), (192, s192), (193, s193), (194, s194), (195, s195), (196, s196), (197, s197), (198, s198), (199, s199), (203, s203), (205, s205), (207, s207), (208, s208), (217, s217), (218, s218), (219, s219), (221, s221), (222, s222), (223, s223), (224, s224), (225, s225), (226, s226), (227, s227), (229, s229), (230, s230), (231, s231), (240, s240), (241, s241), (250, s250), (251, s251), (252, s252), (253, s253), (254, s254), (258, s258), (259, s259), (260, s260), (261, s261), (264, s264), (267, s267), (269, s269), (270, s270), (272, s272), (273, s273), (283, s283), (284, s284), (288, s288), (290, s290), (295, s295), (322, s322)]
def fnOf (f : Nat) : Option SF := (fns.find? fun p => p.1 == f).map (·.2)
def extOf (f : Nat) : Option (List V → List HO → Option (CR × List HO)) :=
  if f = 49 then some xBits else
  if f = 91 then some xFromBits else
  if f = 294 then some xCount else
  if f = 337 then some xIndex else
  none
def X : Env := ⟨fnOf, extOf⟩
theorem v6 (a : List V) (h : List HO) : VC X 6 a h = endOf s6 h (run X [.c s6.body] (St.init a h)) := VC_run (X := X) rfl rfl rfl rfl a h
theorem v17 (a : List V) (h : List HO) : VC X 17 a h = endOf s17 h (run X [.c s17.body] (St.init a h)) := VC_run (X := X) rfl rfl rfl rfl a h
theorem v38 (a : List V) (h : List HO) : VC X 38 a h = endOf s38 h (run X [.c s38.body] (St.init a h)) := VC_run (X := X) rfl rfl rfl rfl a h
theorem v39 (a : List V) (h : List HO) : VC X 39 a h = endOf s39 h (run X [.c s39.body] (St.init a h)) := VC_run (X := X) rfl rfl rfl rfl a h
theorem v42 (a : List V) (h : List HO) : VC X 42 a h = endOf s42 h (run X [.c s42.body] (St.init a h)) := VC_run (X := X) rfl rfl rfl rfl a h
theorem v45 (a : List V) (h : List HO) : VC X 45 a h = endOf s45 h (run X [.c s45.body] (St.init a h)) := VC_run (X := X) rfl rfl rfl rfl a h
theorem v67 (a : List V) (h : List HO) : VC X 67 a h = endOf s67 h (run X [.c s67.body] (St.init a h)) := VC_run (X := X) rfl rfl rfl rfl a h
theorem v88 (a : List V) (h : List HO) : VC X 88 a h = endOf s88 h (run X [.c s88.body] (St.init a h)) := VC_run (X := X) rfl rfl rfl rfl a h
theorem v89 (a : List V) (h : List HO) : VC X 89 a h = endOf s89 h (run X [.c s89.body] (St.init a h)) := VC_run (X := X) rfl rfl rfl rfl a h
theorem v90 (a : List V) (h : List HO) : VC X 90 a h = endOf s90 h (run X [.c s90.body] (St.init a h)) := VC_run (X := X) rfl rfl rfl rfl a h
theorem v92 (a : List V) (h : List HO) : VC X 92 a h = endOf s92 h (run X [.c s92.body] (St.init a h)) := VC_run (X := X) rfl rfl rfl rfl a h
theorem v93 (a : List V) (h : List HO) : VC X 93 a h = endOf s93 h (run X [.c s93.body] (St.init a h)) := VC_run (X := X) rfl rfl rfl rfl a h
theorem v94 (a : List V) (h : List HO) : VC X 94 a h = endOf s94 h (run X [.c s94.body] (St.init a h)) := VC_run (X := X) rfl rfl rfl rfl a h
theorem v95 (a : List V) (h : List HO) : VC X 95 a h = endOf s95 h (run X [.c s95.body] (St.init a h)) := VC_run (X := X) rfl rfl rfl rfl a h
theorem v113 (a : List V) (h : List HO) : VC X 113 a h = endOf s113 h (run X [.c s113.body] (St.init a h)) := VC_run (X := X) rfl rfl rfl rfl a h
theorem v171 (a : List V) (h : List HO) : VC X 171 a h = endOf s171 h (run X [.c s171.body] (St.init a h)) := VC_run (X := X) rfl rfl rfl rfl a h
theorem v172 (a : List V) (h : List HO) : VC X 172 a h = endOf s172 h (run X [.c s172.body] (St.init a h)) := VC_run (X := X) rfl rfl rfl rfl a h
theorem v28 (a : List V) (h : List HO) : VC X 28 a h = endOf s28 h (run X [.c s28.body] (St.init a h)) := VC_run (X := X) rfl rfl rfl rfl a h
theorem v29 (a : List V) (h : List HO) : VC X 29 a h = endOf s29 h (run X [.c s29.body] (St.init a h)) := VC_run (X := X) rfl rfl rfl rfl a h
theorem v30 (a : List V) (h : List HO) : VC X 30 a h = endOf s30 h (run X [.c s30.body] (St.init a h)) := VC_run (X := X) rfl rfl rfl rfl a h
theorem v52 (a : List V) (h : List HO) : VC X 52 a h = endOf s52 h (run X [.c s52.body] (St.init a h)) := VC_run (X := X) rfl rfl rfl rfl a h
theorem v54 (a : List V) (h : List HO) : VC X 54 a h = endOf s54 h (run X [.c s54.body] (St.init a h)) := VC_run (X := X) rfl rfl rfl rfl a h
theorem v55 (a : List V) (h : List HO) : VC X 55 a h = endOf s55 h (run X [.c s55.body] (St.init a h)) := VC_run (X := X) rfl rfl rfl rfl a h
theorem v56 (a : List V) (h : List HO) : VC X 56 a h = endOf s56 h (run X [.c s56.body] (St.init a h)) := VC_run (X := X) rfl rfl rfl rfl a h
theorem v57 (a : List V) (h : List HO) : VC X 57 a h = endOf s57 h (run X [.c s57.body] (St.init a h)) := VC_run (X := X) rfl rfl rfl rfl a h
theorem v58 (a : List V) (h : List HO) : VC X 58 a h = endOf s58 h (run X [.c s58.body] (St.init a h)) := VC_run (X := X) rfl rfl rfl rfl a h
theorem v59 (a : List V) (h : List HO) : VC X 59 a h = endOf s59 h (run X [.c s59.body] (St.init a h)) := VC_run (X := X) rfl rfl rfl rfl a h
theorem v60 (a : List V) (h : List HO) : VC X 60 a h = endOf s60 h (run X [.c s60.body] (St.init a h)) := VC_run (X := X) rfl rfl rfl rfl a h
theorem v61 (a : List V) (h : List HO) : VC X 61 a h = endOf s61 h (run X [.c s61.body] (St.init a h)) := VC_run (X := X) rfl rfl rfl rfl a h
theorem v62 (a : List V) (h : List HO) : VC X 62 a h = endOf s62 h (run X [.c s62.body] (St.init a h)) := VC_run (X := X) rfl rfl rfl rfl a h
theorem v63 (a : List V) (h : List HO) : VC X 63 a h = endOf s63 h (run X [.c s63.body] (St.init a h)) := VC_run (X := X) rfl rfl rfl rfl a h
theorem v64 (a : List V) (h : List HO) : VC X 64 a h = endOf s64 h (run X [.c s64.body] (St.init a h)) := VC_run (X := X) rfl rfl rfl rfl a h
theorem v65 (a : List V) (h : List HO) : VC X 65 a h = endOf s65 h (run X [.c s65.body] (St.init a h)) := VC_run (X := X) rfl rfl rfl rfl a h
theorem v66 (a : List V) (h : List HO) : VC X 66 a h = endOf s66 h (run X [.c s66.body] (St.init a h)) := VC_run (X := X) rfl rfl rfl rfl a h
theorem v107 (a : List V) (h : List HO) : VC X 107 a h = endOf s107 h (run X [.c s107.body] (St.init a h)) := VC_run (X := X) rfl rfl rfl rfl a h
theorem v110 (a : List V) (h : List HO) : VC X 110 a h = endOf s110 h (run X [.c s110.body] (St.init a h)) := VC_run (X := X) rfl rfl rfl rfl a h
theorem v111 (a : List V) (h : List HO) : VC X 111 a h = endOf s111 h (run X [.c s111.body] (St.init a h)) := VC_run (X := X) rfl rfl rfl rfl a h
theorem v112 (a : List V) (h : List HO) : VC X 112 a h = endOf s112 h (run X [.c s112.body] (St.init a h)) := VC_run (X := X) rfl rfl rfl rfl a h
theorem v14 (a : List V) (h : List HO) : VC X 14 a h = endOf s14 h (run X [.c s14.body] (St.init a h)) := VC_run (X := X) rfl rfl rfl rfl a h
theorem v108 (a : List V) (h : List HO) : VC X 108 a h = endOf s108 h (run X [.c s108.body] (St.init a h)) := VC_run (X := X) rfl rfl rfl rfl a h
theorem v109 (a : List V) (h : List HO) : VC X 109 a h = endOf s109 h (run X [.c s109.body] (St.init a h)) := VC_run (X := X) rfl rfl rfl rfl a h
@[simp] theorem dr29_19 : drawOk [[], [0], [], [2], [3], [1, 4], [5], [6]] r29_19 = true := by kernel_rfl
@[simp] theorem dr57_8 : drawOk [[], [0], [], [2], [], [3, 4], [5], [6], [1, 7], [8], [9]] r57_8 = true := by kernel_rfl
@[simp] theorem dpr57_8 : panOk [[], [0], [], [2], [], [3, 4], [5], [6], [1, 7], [8], [9]] r57_8 = true := by kernel_rfl
@[simp] theorem dr59_7 : drawOk [[], [], [1], [2], [0, 3], [], [], [6], [7], [5, 8], [9], [], [10, 11], [4, 10], [12, 13]] r59_7 = true := by kernel_rfl
@[simp] theorem dr63_2 : drawOk [[], [0], [1], [2], [3], [4], [5], [6], [7], [8], [5], [10], [11], [12], [13], [9, 14], [15]] r63_2 = true := by kernel_rfl
@[simp] theorem dr66_11 : drawOk [[], [], [0, 1], [2], [], [], [4, 5], [6], [3, 7]] r66_11 = true := by kernel_rfl
@[simp] theorem dr111_7 : drawOk [[], [0], [1], [2], [2], [4], [5], [6], [7], [2], [9], [10], [11], [8, 12], [3, 13], [14]] r111_7 = true := by kernel_rfl
@[simp] theorem dr111_15 : drawOk [[], [0], [1], [2], [], [4], [5], [6], [], [7, 8], [], [10], [11], [12], [3, 9, 13], [14]] r111_15 = true := by kernel_rfl
theorem do6 : s6.drawsOk = true := by kernel_rfl
theorem do9 : s9.drawsOk = true := by kernel_rfl
theorem do14 : s14.drawsOk = true := by kernel_rfl
theorem do17 : s17.drawsOk = true := by kernel_rfl
theorem do28 : s28.drawsOk = true := by kernel_rfl
theorem do29 : s29.drawsOk = true := by kernel_rfl
theorem do30 : s30.drawsOk = true := by kernel_rfl
theorem do31 : s31.drawsOk = true := by kernel_rfl
theorem do32 : s32.drawsOk = true := by kernel_rfl
theorem do33 : s33.drawsOk = true := by kernel_rfl
theorem do34 : s34.drawsOk = true := by kernel_rfl
theorem do35 : s35.drawsOk = true := by kernel_rfl
theorem do36 : s36.drawsOk = true := by kernel_rfl
theorem do38 : s38.drawsOk = true := by kernel_rfl
theorem do39 : s39.drawsOk = true := by kernel_rfl
theorem do42 : s42.drawsOk = true := by kernel_rfl
theorem do45 : s45.drawsOk = true := by kernel_rfl
theorem do52 : s52.drawsOk = true := by kernel_rfl
theorem do53 : s53.drawsOk = true := by kernel_rfl
theorem do54 : s54.drawsOk = true := by kernel_rfl
theorem do55 : s55.drawsOk = true := by kernel_rfl
theorem do56 : s56.drawsOk = true := by kernel_rfl
theorem do57 : s57.drawsOk = true := by kernel_rfl
theorem do58 : s58.drawsOk = true := by kernel_rfl
theorem do59 : s59.drawsOk = true := by kernel_rfl
theorem do60 : s60.drawsOk = true := by kernel_rfl
theorem do61 : s61.drawsOk = true := by kernel_rfl
theorem do62 : s62.drawsOk = true := by kernel_rfl
theorem do63 : s63.drawsOk = true := by kernel_rfl
theorem do64 : s64.drawsOk = true := by kernel_rfl
theorem do65 : s65.drawsOk = true := by kernel_rfl
theorem do66 : s66.drawsOk = true := by kernel_rfl
theorem do67 : s67.drawsOk = true := by kernel_rfl
theorem do68 : s68.drawsOk = true := by kernel_rfl
theorem do69 : s69.drawsOk = true := by kernel_rfl
theorem do70 : s70.drawsOk = true := by kernel_rfl
theorem do71 : s71.drawsOk = true := by kernel_rfl
theorem do72 : s72.drawsOk = true := by kernel_rfl
theorem do73 : s73.drawsOk = true := by kernel_rfl
theorem do74 : s74.drawsOk = true := by kernel_rfl
theorem do75 : s75.drawsOk = true := by kernel_rfl
theorem do76 : s76.drawsOk = true := by kernel_rfl
theorem do77 : s77.drawsOk = true := by kernel_rfl
theorem do79 : s79.drawsOk = true := by kernel_rfl
theorem do80 : s80.drawsOk = true := by kernel_rfl
theorem do81 : s81.drawsOk = true := by kernel_rfl
theorem do82 : s82.drawsOk = true := by kernel_rfl
theorem do83 : s83.drawsOk = true := by kernel_rfl
theorem do84 : s84.drawsOk = true := by kernel_rfl
theorem do85 : s85.drawsOk = true := by kernel_rfl
theorem do86 : s86.drawsOk = true := by kernel_rfl
theorem do87 : s87.drawsOk = true := by kernel_rfl
theorem do88 : s88.drawsOk = true := by kernel_rfl
theorem do89 : s89.drawsOk = true := by kernel_rfl
theorem do90 : s90.drawsOk = true := by kernel_rfl
theorem do92 : s92.drawsOk = true := by kernel_rfl
theorem do93 : s93.drawsOk = true := by kernel_rfl
theorem do94 : s94.drawsOk = true := by kernel_rfl
theorem do95 : s95.drawsOk = true := by kernel_rfl
theorem do106 : s106.drawsOk = true := by kernel_rfl
theorem do107 : s107.drawsOk = true := by kernel_rfl
theorem do108 : s108.drawsOk = true := by kernel_rfl
theorem do109 : s109.drawsOk = true := by kernel_rfl
theorem do110 : s110.drawsOk = true := by kernel_rfl
theorem do111 : s111.drawsOk = true := by kernel_rfl
theorem do112 : s112.drawsOk = true := by kernel_rfl
theorem do113 : s113.drawsOk = true := by kernel_rfl
theorem do114 : s114.drawsOk = true := by kernel_rfl
theorem do115 : s115.drawsOk = true := by kernel_rfl
theorem do116 : s116.drawsOk = true := by kernel_rfl
theorem do117 : s117.drawsOk = true := by kernel_rfl
theorem do118 : s118.drawsOk = true := by kernel_rfl
theorem do119 : s119.drawsOk = true := by kernel_rfl
theorem do120 : s120.drawsOk = true := by kernel_rfl
theorem do121 : s121.drawsOk = true := by kernel_rfl
theorem do122 : s122.drawsOk = true := by kernel_rfl
theorem do123 : s123.drawsOk = true := by kernel_rfl
theorem do124 : s124.drawsOk = true := by kernel_rfl
theorem do125 : s125.drawsOk = true := by kernel_rfl
theorem do126 : s126.drawsOk = true := by kernel_rfl
theorem do127 : s127.drawsOk = true := by kernel_rfl
theorem do129 : s129.drawsOk = true := by kernel_rfl
theorem do130 : s130.drawsOk = true := by kernel_rfl
theorem do131 : s131.drawsOk = true := by kernel_rfl
theorem do132 : s132.drawsOk = true := by kernel_rfl
theorem do133 : s133.drawsOk = true := by kernel_rfl
theorem do140 : s140.drawsOk = true := by kernel_rfl
theorem do141 : s141.drawsOk = true := by kernel_rfl
theorem do142 : s142.drawsOk = true := by kernel_rfl
theorem do143 : s143.drawsOk = true := by kernel_rfl
theorem do144 : s144.drawsOk = true := by kernel_rfl
theorem do148 : s148.drawsOk = true := by kernel_rfl
theorem do149 : s149.drawsOk = true := by kernel_rfl
theorem do150 : s150.drawsOk = true := by kernel_rfl
theorem do151 : s151.drawsOk = true := by kernel_rfl
theorem do152 : s152.drawsOk = true := by kernel_rfl
theorem do153 : s153.drawsOk = true := by kernel_rfl
theorem do154 : s154.drawsOk = true := by kernel_rfl
theorem do155 : s155.drawsOk = true := by kernel_rfl
theorem do160 : s160.drawsOk = true := by kernel_rfl
theorem do162 : s162.drawsOk = true := by kernel_rfl
theorem do166 : s166.drawsOk = true := by kernel_rfl
theorem do167 : s167.drawsOk = true := by kernel_rfl
theorem do168 : s168.drawsOk = true := by kernel_rfl
theorem do169 : s169.drawsOk = true := by kernel_rfl
theorem do171 : s171.drawsOk = true := by kernel_rfl
theorem do172 : s172.drawsOk = true := by kernel_rfl
theorem do180 : s180.drawsOk = true := by kernel_rfl
theorem do181 : s181.drawsOk = true := by kernel_rfl
theorem do182 : s182.drawsOk = true := by kernel_rfl
theorem do183 : s183.drawsOk = true := by kernel_rfl
theorem do184 : s184.drawsOk = true := by kernel_rfl
theorem do185 : s185.drawsOk = true := by kernel_rfl
theorem do188 : s188.drawsOk = true := by kernel_rfl
theorem do189 : s189.drawsOk = true := by kernel_rfl
theorem do190 : s190.drawsOk = true := by kernel_rfl
theorem do191 : s191.drawsOk = true := by kernel_rfl
theorem do192 : s192.drawsOk = true := by kernel_rfl
theorem do193 : s193.drawsOk = true := by kernel_rfl
theorem do194 : s194.drawsOk = true := by kernel_rfl
theorem do195 : s195.drawsOk = true := by kernel_rfl
theorem do196 : s196.drawsOk = true := by kernel_rfl
theorem do197 : s197.drawsOk = true := by kernel_rfl
theorem do198 : s198.drawsOk = true := by kernel_rfl
theorem do199 : s199.drawsOk = true := by kernel_rfl
theorem do203 : s203.drawsOk = true := by kernel_rfl
theorem do205 : s205.drawsOk = true := by kernel_rfl
theorem do207 : s207.drawsOk = true := by kernel_rfl
theorem do208 : s208.drawsOk = true := by kernel_rfl
theorem do217 : s217.drawsOk = true := by kernel_rfl
theorem do218 : s218.drawsOk = true := by kernel_rfl
theorem do219 : s219.drawsOk = true := by kernel_rfl
theorem do221 : s221.drawsOk = true := by kernel_rfl
theorem do222 : s222.drawsOk = true := by kernel_rfl
theorem do223 : s223.drawsOk = true := by kernel_rfl
theorem do224 : s224.drawsOk = true := by kernel_rfl
theorem do225 : s225.drawsOk = true := by kernel_rfl
theorem do226 : s226.drawsOk = true := by kernel_rfl
theorem do227 : s227.drawsOk = true := by kernel_rfl
theorem do229 : s229.drawsOk = true := by kernel_rfl
theorem do230 : s230.drawsOk = true := by kernel_rfl
theorem do231 : s231.drawsOk = true := by kernel_rfl
theorem do240 : s240.drawsOk = true := by kernel_rfl
theorem do241 : s241.drawsOk = true := by kernel_rfl
theorem do250 : s250.drawsOk = true := by kernel_rfl
theorem do251 : s251.drawsOk = true := by kernel_rfl
theorem do252 : s252.drawsOk = true := by kernel_rfl
theorem do253 : s253.drawsOk = true := by kernel_rfl
theorem do254 : s254.drawsOk = true := by kernel_rfl
theorem do258 : s258.drawsOk = true := by kernel_rfl
theorem do259 : s259.drawsOk = true := by kernel_rfl
theorem do260 : s260.drawsOk = true := by kernel_rfl
theorem do261 : s261.drawsOk = true := by kernel_rfl
theorem do264 : s264.drawsOk = true := by kernel_rfl
theorem do267 : s267.drawsOk = true := by kernel_rfl
theorem do269 : s269.drawsOk = true := by kernel_rfl
theorem do270 : s270.drawsOk = true := by kernel_rfl
theorem do272 : s272.drawsOk = true := by kernel_rfl
theorem do273 : s273.drawsOk = true := by kernel_rfl
theorem do283 : s283.drawsOk = true := by kernel_rfl
theorem do284 : s284.drawsOk = true := by kernel_rfl
theorem do288 : s288.drawsOk = true := by kernel_rfl
theorem do290 : s290.drawsOk = true := by kernel_rfl
theorem do295 : s295.drawsOk = true := by kernel_rfl
theorem do322 : s322.drawsOk = true := by kernel_rfl
theorem drawsAll : ∀ p ∈ fns, p.2.drawsOk = true := by
  unfold fns
  simp only [List.forall_mem_cons]
  exact ⟨do6, do9, do14, do17, do28, do29, do30, do31, do32, do33, do34, do35, do36, do38, do39, do42, do45, do52, do53, do54, do55, do56, do57, do58, do59, do60, do61, do62, do63, do64, do65, do66, do67, do68, do69, do70, do71, do72, do73, do74, do75, do76, do77, do79, do80, do81, do82, do83, do84, do85, do86, do87, do88, do89, do90, do92, do93, do94, do95, do106, do107, do108, do109, do110, do111, do112, do113, do114, do115, do116, do117, do118, do119, do120, do121, do122, do123, do124, do125, do126, do127, do129, do130, do131, do132, do133, do140, do141, do142, do143, do144, do148, do149, do150, do151, do152, do153, do154, do155, do160, do162, do166, do167, do168, do169, do171, do172, do180, do181, do182, do183, do184, do185, do188, do189, do190, do191, do192, do193, do194, do195, do196, do197, do198, do199, do203, do205, do207, do208, do217, do218, do219, do221, do222, do223, do224, do225, do226, do227, do229, do230, do231, do240, do241, do250, do251, do252, do253, do254, do258, do259, do260, do261, do264, do267, do269, do270, do272, do273, do283, do284, do288, do290, do295, do322, by simp⟩
theorem draws_ok : ∀ f sf, X.fn f = some sf → sf.drawsOk = true := by
  intro f sf h
  obtain ⟨p, hp, rfl⟩ := Option.map_eq_some_iff.1 (show (fns.find? fun p => p.1 == f).map (·.2) = some sf from h)
  exact drawsAll p (List.mem_of_find?_eq_some hp)
end Go.Vm.Tryz
end

section
set_option maxRecDepth 100000
namespace Go.Vm.Tryz
open Go Go.Vm Go.Proofs
theorem fit6 : fitFn Tryz.prog Tryz.f6 s6 = true := by kernel_rfl
theorem at6 : Tryz.prog.funcs[6]? = some Tryz.f6 := by kernel_rfl
theorem fit9 : fitFn Tryz.prog Tryz.f9 s9 = true := by kernel_rfl
theorem at9 : Tryz.prog.funcs[9]? = some Tryz.f9 := by kernel_rfl
theorem fit14 : fitFn Tryz.prog Tryz.f14 s14 = true := by kernel_rfl
theorem at14 : Tryz.prog.funcs[14]? = some Tryz.f14 := by kernel_rfl
theorem fit17 : fitFn Tryz.prog Tryz.f17 s17 = true := by kernel_rfl
theorem at17 : Tryz.prog.funcs[17]? = some Tryz.f17 := by kernel_rfl
theorem fit28 : fitFn Tryz.prog Tryz.f28 s28 = true := by kernel_rfl
theorem at28 : Tryz.prog.funcs[28]? = some Tryz.f28 := by kernel_rfl
theorem fit29 : fitFn Tryz.prog Tryz.f29 s29 = true := by kernel_rfl
theorem at29 : Tryz.prog.funcs[29]? = some Tryz.f29 := by kernel_rfl
theorem fit30 : fitFn Tryz.prog Tryz.f30 s30 = true := by kernel_rfl
theorem at30 : Tryz.prog.funcs[30]? = some Tryz.f30 := by kernel_rfl
theorem fit31 : fitFn Tryz.prog Tryz.f31 s31 = true := by kernel_rfl
theorem at31 : Tryz.prog.funcs[31]? = some Tryz.f31 := by kernel_rfl
theorem fit32 : fitFn Tryz.prog Tryz.f32 s32 = true := by kernel_rfl
theorem at32 : Tryz.prog.funcs[32]? = some Tryz.f32 := by kernel_rfl
theorem fit33 : fitFn Tryz.prog Tryz.f33 s33 = true := by kernel_rfl
theorem at33 : Tryz.prog.funcs[33]? = some Tryz.f33 := by kernel_rfl
theorem fit34 : fitFn Tryz.prog Tryz.f34 s34 = true := by kernel_rfl
theorem at34 : Tryz.prog.funcs[34]? = some Tryz.f34 := by kernel_rfl
theorem fit35 : fitFn Tryz.prog Tryz.f35 s35 = true := by kernel_rfl
theorem at35 : Tryz.prog.funcs[35]? = some Tryz.f35 := by kernel_rfl
theorem fit36 : fitFn Tryz.prog Tryz.f36 s36 = true := by kernel_rfl
theorem at36 : Tryz.prog.funcs[36]? = some Tryz.f36 := by kernel_rfl
theorem fit38 : fitFn Tryz.prog Tryz.f38 s38 = true := by kernel_rfl
theorem at38 : Tryz.prog.funcs[38]? = some Tryz.f38 := by kernel_rfl
theorem fit39 : fitFn Tryz.prog Tryz.f39 s39 = true := by kernel_rfl
theorem at39 : Tryz.prog.funcs[39]? = some Tryz.f39 := by kernel_rfl
theorem fit42 : fitFn Tryz.prog Tryz.f42 s42 = true := by kernel_rfl
theorem at42 : Tryz.prog.funcs[42]? = some Tryz.f42 := by kernel_rfl
theorem fit45 : fitFn Tryz.prog Tryz.f45 s45 = true := by kernel_rfl
theorem at45 : Tryz.prog.funcs[45]? = some Tryz.f45 := by kernel_rfl
theorem fit52 : fitFn Tryz.prog Tryz.f52 s52 = true := by kernel_rfl
theorem at52 : Tryz.prog.funcs[52]? = some Tryz.f52 := by kernel_rfl
theorem fit53 : fitFn Tryz.prog Tryz.f53 s53 = true := by kernel_rfl
theorem at53 : Tryz.prog.funcs[53]? = some Tryz.f53 := by kernel_rfl
theorem fit54 : fitFn Tryz.prog Tryz.f54 s54 = true := by kernel_rfl
theorem at54 : Tryz.prog.funcs[54]? = some Tryz.f54 := by kernel_rfl
theorem fit55 : fitFn Tryz.prog Tryz.f55 s55 = true := by kernel_rfl
theorem at55 : Tryz.prog.funcs[55]? = some Tryz.f55 := by kernel_rfl
theorem fit56 : fitFn Tryz.prog Tryz.f56 s56 = true := by kernel_rfl
theorem at56 : Tryz.prog.funcs[56]? = some Tryz.f56 := by kernel_rfl
theorem fit57 : fitFn Tryz.prog Tryz.f57 s57 = true := by kernel_rfl
theorem at57 : Tryz.prog.funcs[57]? = some Tryz.f57 := by kernel_rfl
theorem fit58 : fitFn Tryz.prog Tryz.f58 s58 = true := by kernel_rfl
theorem at58 : Tryz.prog.funcs[58]? = some Tryz.f58 := by kernel_rfl
theorem fit59 : fitFn Tryz.prog Tryz.f59 s59 = true := by kernel_rfl
theorem at59 : Tryz.prog.funcs[59]? = some Tryz.f59 := by kernel_rfl
theorem fit60 : fitFn Tryz.prog Tryz.f60 s60 = true := by kernel_rfl
theorem at60 : Tryz.prog.funcs[60]? = some Tryz.f60 := by kernel_rfl
theorem fit61 : fitFn Tryz.prog Tryz.f61 s61 = true := by kernel_rfl
theorem at61 : Tryz.prog.funcs[61]? = some Tryz.f61 := by kernel_rfl
theorem fit62 : fitFn Tryz.prog Tryz.f62 s62 = true := by kernel_rfl
theorem at62 : Tryz.prog.funcs[62]? = some Tryz.f62 := by kernel_rfl
theorem fit63 : fitFn Tryz.prog Tryz.f63 s63 = true := by kernel_rfl
theorem at63 : Tryz.prog.funcs[63]? = some Tryz.f63 := by kernel_rfl
theorem fit64 : fitFn Tryz.prog Tryz.f64 s64 = true := by kernel_rfl
theorem at64 : Tryz.prog.funcs[64]? = some Tryz.f64 := by kernel_rfl
theorem fit65 : fitFn Tryz.prog Tryz.f65 s65 = true := by kernel_rfl
theorem at65 : Tryz.prog.funcs[65]? = some Tryz.f65 := by kernel_rfl
theorem fit66 : fitFn Tryz.prog Tryz.f66 s66 = true := by kernel_rfl
theorem at66 : Tryz.prog.funcs[66]? = some Tryz.f66 := by kernel_rfl
theorem fit67 : fitFn Tryz.prog Tryz.f67 s67 = true := by kernel_rfl
theorem at67 : Tryz.prog.funcs[67]? = some Tryz.f67 := by kernel_rfl
theorem fit68 : fitFn Tryz.prog Tryz.f68 s68 = true := by kernel_rfl
theorem at68 : Tryz.prog.funcs[68]? = some Tryz.f68 := by kernel_rfl
theorem fit69 : fitFn Tryz.prog Tryz.f69 s69 = true := by kernel_rfl
theorem at69 : Tryz.prog.funcs[69]? = some Tryz.f69 := by kernel_rfl
theorem fit70 : fitFn Tryz.prog Tryz.f70 s70 = true := by kernel_rfl
theorem at70 : Tryz.prog.funcs[70]? = some Tryz.f70 := by kernel_rfl
theorem fit71 : fitFn Tryz.prog Tryz.f71 s71 = true := by kernel_rfl
theorem at71 : Tryz.prog.funcs[71]? = some Tryz.f71 := by kernel_rfl
theorem fit72 : fitFn Tryz.prog Tryz.f72 s72 = true := by kernel_rfl
theorem at72 : Tryz.prog.funcs[72]? = some Tryz.f72 := by kernel_rfl
theorem fit73 : fitFn Tryz.prog Tryz.f73 s73 = true := by kernel_rfl
theorem at73 : Tryz.prog.funcs[73]? = some Tryz.f73 := by kernel_rfl
theorem fit74 : fitFn Tryz.prog Tryz.f74 s74 = true := by kernel_rfl
theorem at74 : Tryz.prog.funcs[74]? = some Tryz.f74 := by kernel_rfl
theorem fit75 : fitFn Tryz.prog Tryz.f75 s75 = true := by kernel_rfl
theorem at75 : Tryz.prog.funcs[75]? = some Tryz.f75 := by kernel_rfl
theorem fit76 : fitFn Tryz.prog Tryz.f76 s76 = true := by kernel_rfl
theorem at76 : Tryz.prog.funcs[76]? = some Tryz.f76 := by kernel_rfl
theorem fit77 : fitFn Tryz.prog Tryz.f77 s77 = true := by kernel_rfl
theorem at77 : Tryz.prog.funcs[77]? = some Tryz.f77 := by kernel_rfl
theorem fit79 : fitFn Tryz.prog Tryz.f79 s79 = true := by kernel_rfl
theorem at79 : Tryz.prog.funcs[79]? = some Tryz.f79 := by kernel_rfl
theorem fit80 : fitFn Tryz.prog Tryz.f80 s80 = true := by kernel_rfl
theorem at80 : Tryz.prog.funcs[80]? = some Tryz.f80 := by kernel_rfl
theorem fit81 : fitFn Tryz.prog Tryz.f81 s81 = true := by kernel_rfl
theorem at81 : Tryz.prog.funcs[81]? = some Tryz.f81 := by kernel_rfl
theorem fit82 : fitFn Tryz.prog Tryz.f82 s82 = true := by kernel_rfl
theorem at82 : Tryz.prog.funcs[82]? = some Tryz.f82 := by kernel_rfl
theorem fit83 : fitFn Tryz.prog Tryz.f83 s83 = true := by kernel_rfl
theorem at83 : Tryz.prog.funcs[83]? = some Tryz.f83 := by kernel_rfl
theorem fit84 : fitFn Tryz.prog Tryz.f84 s84 = true := by kernel_rfl
theorem at84 : Tryz.prog.funcs[84]? = some Tryz.f84 := by kernel_rfl
theorem fit85 : fitFn Tryz.prog Tryz.f85 s85 = true := by kernel_rfl
theorem at85 : Tryz.prog.funcs[85]? = some Tryz.f85 := by kernel_rfl
theorem fit86 : fitFn Tryz.prog Tryz.f86 s86 = true := by kernel_rfl
theorem at86 : Tryz.prog.funcs[86]? = some Tryz.f86 := by kernel_rfl
theorem fit87 : fitFn Tryz.prog Tryz.f87 s87 = true := by kernel_rfl
theorem at87 : Tryz.prog.funcs[87]? = some Tryz.f87 := by kernel_rfl
theorem fit88 : fitFn Tryz.prog Tryz.f88 s88 = true := by kernel_rfl
theorem at88 : Tryz.prog.funcs[88]? = some Tryz.f88 := by kernel_rfl
theorem fit89 : fitFn Tryz.prog Tryz.f89 s89 = true := by kernel_rfl
theorem at89 : Tryz.prog.funcs[89]? = some Tryz.f89 := by kernel_rfl
theorem fit90 : fitFn Tryz.prog Tryz.f90 s90 = true := by kernel_rfl
theorem at90 : Tryz.prog.funcs[90]? = some Tryz.f90 := by kernel_rfl
theorem fit92 : fitFn Tryz.prog Tryz.f92 s92 = true := by kernel_rfl
theorem at92 : Tryz.prog.funcs[92]? = some Tryz.f92 := by kernel_rfl
theorem fit93 : fitFn Tryz.prog Tryz.f93 s93 = true := by kernel_rfl
theorem at93 : Tryz.prog.funcs[93]? = some Tryz.f93 := by kernel_rfl
theorem fit94 : fitFn Tryz.prog Tryz.f94 s94 = true := by kernel_rfl
theorem at94 : Tryz.prog.funcs[94]? = some Tryz.f94 := by kernel_rfl
theorem fit95 : fitFn Tryz.prog Tryz.f95 s95 = true := by kernel_rfl
theorem at95 : Tryz.prog.funcs[95]? = some Tryz.f95 := by kernel_rfl
theorem fit106 : fitFn Tryz.prog Tryz.f106 s106 = true := by kernel_rfl
theorem at106 : Tryz.prog.funcs[106]? = some Tryz.f106 := by kernel_rfl
theorem fit107 : fitFn Tryz.prog Tryz.f107 s107 = true := by kernel_rfl
theorem at107 : Tryz.prog.funcs[107]? = some Tryz.f107 := by kernel_rfl
theorem fit108 : fitFn Tryz.prog Tryz.f108 s108 = true := by kernel_rfl
theorem at108 : Tryz.prog.funcs[108]? = some Tryz.f108 := by kernel_rfl
theorem fit109 : fitFn Tryz.prog Tryz.f109 s109 = true := by kernel_rfl
theorem at109 : Tryz.prog.funcs[109]? = some Tryz.f109 := by kernel_rfl
theorem fit110 : fitFn Tryz.prog Tryz.f110 s110 = true := by kernel_rfl
theorem at110 : Tryz.prog.funcs[110]? = some Tryz.f110 := by kernel_rfl
theorem fit111 : fitFn Tryz.prog Tryz.f111 s111 = true := by kernel_rfl
theorem at111 : Tryz.prog.funcs[111]? = some Tryz.f111 := by kernel_rfl
theorem fit112 : fitFn Tryz.prog Tryz.f112 s112 = true := by kernel_rfl
theorem at112 : Tryz.prog.funcs[112]? = some Tryz.f112 := by kernel_rfl
theorem fit113 : fitFn Tryz.prog Tryz.f113 s113 = true := by kernel_rfl
theorem at113 : Tryz.prog.funcs[113]? = some Tryz.f113 := by kernel_rfl
theorem fit114 : fitFn Tryz.prog Tryz.f114 s114 = true := by kernel_rfl
theorem at114 : Tryz.prog.funcs[114]? = some Tryz.f114 := by kernel_rfl
theorem fit115 : fitFn Tryz.prog Tryz.f115 s115 = true := by kernel_rfl
theorem at115 : Tryz.prog.funcs[115]? = some Tryz.f115 := by kernel_rfl
theorem fit116 : fitFn Tryz.prog Tryz.f116 s116 = true := by kernel_rfl
theorem at116 : Tryz.prog.funcs[116]? = some Tryz.f116 := by kernel_rfl
theorem fit117 : fitFn Tryz.prog Tryz.f117 s117 = true := by kernel_rfl
theorem at117 : Tryz.prog.funcs[117]? = some Tryz.f117 := by kernel_rfl
theorem fit118 : fitFn Tryz.prog Tryz.f118 s118 = true := by kernel_rfl
theorem at118 : Tryz.prog.funcs[118]? = some Tryz.f118 := by kernel_rfl
theorem fit119 : fitFn Tryz.prog Tryz.f119 s119 = true := by kernel_rfl
theorem at119 : Tryz.prog.funcs[119]? = some Tryz.f119 := by kernel_rfl
theorem fit120 : fitFn Tryz.prog Tryz.f120 s120 = true := by kernel_rfl
theorem at120 : Tryz.prog.funcs[120]? = some Tryz.f120 := by kernel_rfl
theorem fit121 : fitFn Tryz.prog Tryz.f121 s121 = true := by kernel_rfl
theorem at121 : Tryz.prog.funcs[121]? = some Tryz.f121 := by kernel_rfl
theorem fit122 : fitFn Tryz.prog Tryz.f122 s122 = true := by kernel_rfl
theorem at122 : Tryz.prog.funcs[122]? = some Tryz.f122 := by kernel_rfl
theorem fit123 : fitFn Tryz.prog Tryz.f123 s123 = true := by kernel_rfl
theorem at123 : Tryz.prog.funcs[123]? = some Tryz.f123 := by kernel_rfl
theorem fit124 : fitFn Tryz.prog Tryz.f124 s124 = true := by kernel_rfl
theorem at124 : Tryz.prog.funcs[124]? = some Tryz.f124 := by kernel_rfl
theorem fit125 : fitFn Tryz.prog Tryz.f125 s125 = true := by kernel_rfl
theorem at125 : Tryz.prog.funcs[125]? = some Tryz.f125 := by kernel_rfl
theorem fit126 : fitFn Tryz.prog Tryz.f126 s126 = true := by kernel_rfl
theorem at126 : Tryz.prog.funcs[126]? = some Tryz.f126 := by kernel_rfl
theorem fit127 : fitFn Tryz.prog Tryz.f127 s127 = true := by kernel_rfl
theorem at127 : Tryz.prog.funcs[127]? = some Tryz.f127 := by kernel_rfl
theorem fit129 : fitFn Tryz.prog Tryz.f129 s129 = true := by kernel_rfl
theorem at129 : Tryz.prog.funcs[129]? = some Tryz.f129 := by kernel_rfl
theorem fit130 : fitFn Tryz.prog Tryz.f130 s130 = true := by kernel_rfl
theorem at130 : Tryz.prog.funcs[130]? = some Tryz.f130 := by kernel_rfl
theorem fit131 : fitFn Tryz.prog Tryz.f131 s131 = true := by kernel_rfl
theorem at131 : Tryz.prog.funcs[131]? = some Tryz.f131 := by kernel_rfl
theorem fit132 : fitFn Tryz.prog Tryz.f132 s132 = true := by kernel_rfl
theorem at132 : Tryz.prog.funcs[132]? = some Tryz.f132 := by kernel_rfl
theorem fit133 : fitFn Tryz.prog Tryz.f133 s133 = true := by kernel_rfl
theorem at133 : Tryz.prog.funcs[133]? = some Tryz.f133 := by kernel_rfl
theorem fit140 : fitFn Tryz.prog Tryz.f140 s140 = true := by kernel_rfl
theorem at140 : Tryz.prog.funcs[140]? = some Tryz.f140 := by kernel_rfl
theorem fit141 : fitFn Tryz.prog Tryz.f141 s141 = true := by kernel_rfl
theorem at141 : Tryz.prog.funcs[141]? = some Tryz.f141 := by kernel_rfl
theorem fit142 : fitFn Tryz.prog Tryz.f142 s142 = true := by kernel_rfl
theorem at142 : Tryz.prog.funcs[142]? = some Tryz.f142 := by kernel_rfl
theorem fit143 : fitFn Tryz.prog Tryz.f143 s143 = true := by kernel_rfl
theorem at143 : Tryz.prog.funcs[143]? = some Tryz.f143 := by kernel_rfl
theorem fit144 : fitFn Tryz.prog Tryz.f144 s144 = true := by kernel_rfl
theorem at144 : Tryz.prog.funcs[144]? = some Tryz.f144 := by kernel_rfl
theorem fit148 : fitFn Tryz.prog Tryz.f148 s148 = true := by kernel_rfl
theorem at148 : Tryz.prog.funcs[148]? = some Tryz.f148 := by kernel_rfl
theorem fit149 : fitFn Tryz.prog Tryz.f149 s149 = true := by kernel_rfl
theorem at149 : Tryz.prog.funcs[149]? = some Tryz.f149 := by kernel_rfl
theorem fit150 : fitFn Tryz.prog Tryz.f150 s150 = true := by kernel_rfl
theorem at150 : Tryz.prog.funcs[150]? = some Tryz.f150 := by kernel_rfl
theorem fit151 : fitFn Tryz.prog Tryz.f151 s151 = true := by kernel_rfl
theorem at151 : Tryz.prog.funcs[151]? = some Tryz.f151 := by kernel_rfl
theorem fit152 : fitFn Tryz.prog Tryz.f152 s152 = true := by kernel_rfl
theorem at152 : Tryz.prog.funcs[152]? = some Tryz.f152 := by kernel_rfl
theorem fit153 : fitFn Tryz.prog Tryz.f153 s153 = true := by kernel_rfl
theorem at153 : Tryz.prog.funcs[153]? = some Tryz.f153 := by kernel_rfl
theorem fit154 : fitFn Tryz.prog Tryz.f154 s154 = true := by kernel_rfl
theorem at154 : Tryz.prog.funcs[154]? = some Tryz.f154 := by kernel_rfl
theorem fit155 : fitFn Tryz.prog Tryz.f155 s155 = true := by kernel_rfl
theorem at155 : Tryz.prog.funcs[155]? = some Tryz.f155 := by kernel_rfl
theorem fit160 : fitFn Tryz.prog Tryz.f160 s160 = true := by kernel_rfl
theorem at160 : Tryz.prog.funcs[160]? = some Tryz.f160 := by kernel_rfl
theorem fit162 : fitFn Tryz.prog Tryz.f162 s162 = true := by kernel_rfl
theorem at162 : Tryz.prog.funcs[162]? = some Tryz.f162 := by kernel_rfl
theorem fit166 : fitFn Tryz.prog Tryz.f166 s166 = true := by kernel_rfl
theorem at166 : Tryz.prog.funcs[166]? = some Tryz.f166 := by kernel_rfl
theorem fit167 : fitFn Tryz.prog Tryz.f167 s167 = true := by kernel_rfl
theorem at167 : Tryz.prog.funcs[167]? = some Tryz.f167 := by kernel_rfl
theorem fit168 : fitFn Tryz.prog Tryz.f168 s168 = true := by kernel_rfl
theorem at168 : Tryz.prog.funcs[168]? = some Tryz.f168 := by kernel_rfl
theorem fit169 : fitFn Tryz.prog Tryz.f169 s169 = true := by kernel_rfl
theorem at169 : Tryz.prog.funcs[169]? = some Tryz.f169 := by kernel_rfl
theorem fit171 : fitFn Tryz.prog Tryz.f171 s171 = true := by kernel_rfl
theorem at171 : Tryz.prog.funcs[171]? = some Tryz.f171 := by kernel_rfl
theorem fit172 : fitFn Tryz.prog Tryz.f172 s172 = true := by kernel_rfl
theorem at172 : Tryz.prog.funcs[172]? = some Tryz.f172 := by kernel_rfl
theorem fit180 : fitFn Tryz.prog Tryz.f180 s180 = true := by kernel_rfl
theorem at180 : Tryz.prog.funcs[180]? = some Tryz.f180 := by kernel_rfl
theorem fit181 : fitFn Tryz.prog Tryz.f181 s181 = true := by kernel_rfl
theorem at181 : Tryz.prog.funcs[181]? = some Tryz.f181 := by kernel_rfl
theorem fit182 : fitFn Tryz.prog Tryz.f182 s182 = true := by kernel_rfl
theorem at182 : Tryz.prog.funcs[182]? = some Tryz.f182 := by kernel_rfl
theorem fit183 : fitFn Tryz.prog Tryz.f183 s183 = true := by kernel_rfl
theorem at183 : Tryz.prog.funcs[183]? = some Tryz.f183 := by kernel_rfl
theorem fit184 : fitFn Tryz.prog Tryz.f184 s184 = true := by kernel_rfl
theorem at184 : Tryz.prog.funcs[184]? = some Tryz.f184 := by kernel_rfl
theorem fit185 : fitFn Tryz.prog Tryz.f185 s185 = true := by kernel_rfl
theorem at185 : Tryz.prog.funcs[185]? = some Tryz.f185 := by kernel_rfl
theorem fit188 : fitFn Tryz.prog Tryz.f188 s188 = true := by kernel_rfl
theorem at188 : Tryz.prog.funcs[188]? = some Tryz.f188 := by kernel_rfl
theorem fit189 : fitFn Tryz.prog Tryz.f189 s189 = true := by kernel_rfl
theorem at189 : Tryz.prog.funcs[189]? = some Tryz.f189 := by kernel_rfl
theorem fit190 : fitFn Tryz.prog Tryz.f190 s190 = true := by kernel_rfl
theorem at190 : Tryz.prog.funcs[190]? = some Tryz.f190 := by kernel_rfl
theorem fit191 : fitFn Tryz.prog Tryz.f191 s191 = true := by kernel_rfl
theorem at191 : Tryz.prog.funcs[191]? = some Tryz.f191 := by kernel_rfl
theorem fit192 : fitFn Tryz.prog Tryz.f192 s192 = true := by kernel_rfl
theorem at192 : Tryz.prog.funcs[192]? = some Tryz.f192 := by kernel_rfl
theorem fit193 : fitFn Tryz.prog Tryz.f193 s193 = true := by kernel_rfl
theorem at193 : Tryz.prog.funcs[193]? = some Tryz.f193 := by kernel_rfl
theorem fit194 : fitFn Tryz.prog Tryz.f194 s194 = true := by kernel_rfl
theorem at194 : Tryz.prog.funcs[194]? = some Tryz.f194 := by kernel_rfl
theorem fit195 : fitFn Tryz.prog Tryz.f195 s195 = true := by kernel_rfl
theorem at195 : Tryz.prog.funcs[195]? = some Tryz.f195 := by kernel_rfl
theorem fit196 : fitFn Tryz.prog Tryz.f196 s196 = true := by kernel_rfl
theorem at196 : Tryz.prog.funcs[196]? = some Tryz.f196 := by kernel_rfl
theorem fit197 : fitFn Tryz.prog Tryz.f197 s197 = true := by kernel_rfl
theorem at197 : Tryz.prog.funcs[197]? = some Tryz.f197 := by kernel_rfl
theorem fit198 : fitFn Tryz.prog Tryz.f198 s198 = true := by kernel_rfl
theorem at198 : Tryz.prog.funcs[198]? = some Tryz.f198 := by kernel_rfl
theorem fit199 : fitFn Tryz.prog Tryz.f199 s199 = true := by kernel_rfl
theorem at199 : Tryz.prog.funcs[199]? = some Tryz.f199 := by kernel_rfl
theorem fit203 : fitFn Tryz.prog Tryz.f203 s203 = true := by kernel_rfl
theorem at203 : Tryz.prog.funcs[203]? = some Tryz.f203 := by kernel_rfl
theorem fit205 : fitFn Tryz.prog Tryz.f205 s205 = true := by kernel_rfl
theorem at205 : Tryz.prog.funcs[205]? = some Tryz.f205 := by kernel_rfl
theorem fit207 : fitFn Tryz.prog Tryz.f207 s207 = true := by kernel_rfl
theorem at207 : Tryz.prog.funcs[207]? = some Tryz.f207 := by kernel_rfl
theorem fit208 : fitFn Tryz.prog Tryz.f208 s208 = true := by kernel_rfl
theorem at208 : Tryz.prog.funcs[208]? = some Tryz.f208 := by kernel_rfl
theorem fit217 : fitFn Tryz.prog Tryz.f217 s217 = true := by kernel_rfl
theorem at217 : Tryz.prog.funcs[217]? = some Tryz.f217 := by kernel_rfl
theorem fit218 : fitFn Tryz.prog Tryz.f218 s218 = true := by kernel_rfl
theorem at218 : Tryz.prog.funcs[218]? = some Tryz.f218 := by kernel_rfl
theorem fit219 : fitFn Tryz.prog Tryz.f219 s219 = true := by kernel_rfl
theorem at219 : Tryz.prog.funcs[219]? = some Tryz.f219 := by kernel_rfl
theorem fit221 : fitFn Tryz.prog Tryz.f221 s221 = true := by kernel_rfl
theorem at221 : Tryz.prog.funcs[221]? = some Tryz.f221 := by kernel_rfl
theorem fit222 : fitFn Tryz.prog Tryz.f222 s222 = true := by kernel_rfl
theorem at222 : Tryz.prog.funcs[222]? = some Tryz.f222 := by kernel_rfl
theorem fit223 : fitFn Tryz.prog Tryz.f223 s223 = true := by kernel_rfl
theorem at223 : Tryz.prog.funcs[223]? = some Tryz.f223 := by kernel_rfl
theorem fit224 : fitFn Tryz.prog Tryz.f224 s224 = true := by kernel_rfl
theorem at224 : Tryz.prog.funcs[224]? = some Tryz.f224 := by kernel_rfl
theorem fit225 : fitFn Tryz.prog Tryz.f225 s225 = true := by kernel_rfl
theorem at225 : Tryz.prog.funcs[225]? = some Tryz.f225 := by kernel_rfl
theorem fit226 : fitFn Tryz.prog Tryz.f226 s226 = true := by kernel_rfl
theorem at226 : Tryz.prog.funcs[226]? = some Tryz.f226 := by kernel_rfl
theorem fit227 : fitFn Tryz.prog Tryz.f227 s227 = true := by kernel_rfl
theorem at227 : Tryz.prog.funcs[227]? = some Tryz.f227 := by kernel_rfl
theorem fit229 : fitFn Tryz.prog Tryz.f229 s229 = true := by kernel_rfl
theorem at229 : Tryz.prog.funcs[229]? = some Tryz.f229 := by kernel_rfl
theorem fit230 : fitFn Tryz.prog Tryz.f230 s230 = true := by kernel_rfl
theorem at230 : Tryz.prog.funcs[230]? = some Tryz.f230 := by kernel_rfl
theorem fit231 : fitFn Tryz.prog Tryz.f231 s231 = true := by kernel_rfl
theorem at231 : Tryz.prog.funcs[231]? = some Tryz.f231 := by kernel_rfl
theorem fit240 : fitFn Tryz.prog Tryz.f240 s240 = true := by kernel_rfl
theorem at240 : Tryz.prog.funcs[240]? = some Tryz.f240 := by kernel_rfl
theorem fit241 : fitFn Tryz.prog Tryz.f241 s241 = true := by kernel_rfl
theorem at241 : Tryz.prog.funcs[241]? = some Tryz.f241 := by kernel_rfl
theorem fit250 : fitFn Tryz.prog Tryz.f250 s250 = true := by kernel_rfl
theorem at250 : Tryz.prog.funcs[250]? = some Tryz.f250 := by kernel_rfl
theorem fit251 : fitFn Tryz.prog Tryz.f251 s251 = true := by kernel_rfl
theorem at251 : Tryz.prog.funcs[251]? = some Tryz.f251 := by kernel_rfl
theorem fit252 : fitFn Tryz.prog Tryz.f252 s252 = true := by kernel_rfl
theorem at252 : Tryz.prog.funcs[252]? = some Tryz.f252 := by kernel_rfl
theorem fit253 : fitFn Tryz.prog Tryz.f253 s253 = true := by kernel_rfl
theorem at253 : Tryz.prog.funcs[253]? = some Tryz.f253 := by kernel_rfl
theorem fit254 : fitFn Tryz.prog Tryz.f254 s254 = true := by kernel_rfl
theorem at254 : Tryz.prog.funcs[254]? = some Tryz.f254 := by kernel_rfl
theorem fit258 : fitFn Tryz.prog Tryz.f258 s258 = true := by kernel_rfl
theorem at258 : Tryz.prog.funcs[258]? = some Tryz.f258 := by kernel_rfl
theorem fit259 : fitFn Tryz.prog Tryz.f259 s259 = true := by kernel_rfl
theorem at259 : Tryz.prog.funcs[259]? = some Tryz.f259 := by kernel_rfl
theorem fit260 : fitFn Tryz.prog Tryz.f260 s260 = true := by kernel_rfl
theorem at260 : Tryz.prog.funcs[260]? = some Tryz.f260 := by kernel_rfl
theorem fit261 : fitFn Tryz.prog Tryz.f261 s261 = true := by kernel_rfl
theorem at261 : Tryz.prog.funcs[261]? = some Tryz.f261 := by kernel_rfl
theorem fit264 : fitFn Tryz.prog Tryz.f264 s264 = true := by kernel_rfl
theorem at264 : Tryz.prog.funcs[264]? = some Tryz.f264 := by kernel_rfl
theorem fit267 : fitFn Tryz.prog Tryz.f267 s267 = true := by kernel_rfl
theorem at267 : Tryz.prog.funcs[267]? = some Tryz.f267 := by kernel_rfl
theorem fit269 : fitFn Tryz.prog Tryz.f269 s269 = true := by kernel_rfl
theorem at269 : Tryz.prog.funcs[269]? = some Tryz.f269 := by kernel_rfl
theorem fit270 : fitFn Tryz.prog Tryz.f270 s270 = true := by kernel_rfl
theorem at270 : Tryz.prog.funcs[270]? = some Tryz.f270 := by kernel_rfl
theorem fit272 : fitFn Tryz.prog Tryz.f272 s272 = true := by kernel_rfl
theorem at272 : Tryz.prog.funcs[272]? = some Tryz.f272 := by kernel_rfl
theorem fit273 : fitFn Tryz.prog Tryz.f273 s273 = true := by kernel_rfl
theorem at273 : Tryz.prog.funcs[273]? = some Tryz.f273 := by kernel_rfl
theorem fit283 : fitFn Tryz.prog Tryz.f283 s283 = true := by kernel_rfl
theorem at283 : Tryz.prog.funcs[283]? = some Tryz.f283 := by kernel_rfl
theorem fit284 : fitFn Tryz.prog Tryz.f284 s284 = true := by kernel_rfl
theorem at284 : Tryz.prog.funcs[284]? = some Tryz.f284 := by kernel_rfl
theorem fit288 : fitFn Tryz.prog Tryz.f288 s288 = true := by kernel_rfl
theorem at288 : Tryz.prog.funcs[288]? = some Tryz.f288 := by kernel_rfl
theorem fit290 : fitFn Tryz.prog Tryz.f290 s290 = true := by kernel_rfl
theorem at290 : Tryz.prog.funcs[290]? = some Tryz.f290 := by kernel_rfl
theorem fit295 : fitFn Tryz.prog Tryz.f295 s295 = true := by kernel_rfl
theorem at295 : Tryz.prog.funcs[295]? = some Tryz.f295 := by kernel_rfl
theorem fit322 : fitFn Tryz.prog Tryz.f322 s322 = true := by kernel_rfl
theorem at322 : Tryz.prog.funcs[322]? = some Tryz.f322 := by kernel_rfl
theorem fitsAll : ∀ p ∈ fns, ∃ fn, Tryz.prog.funcs[p.1]? = some fn ∧ fitFn Tryz.prog fn p.2 = true := by
  unfold fns
  simp only [List.forall_mem_cons]
  exact ⟨⟨_, at6, fit6⟩, ⟨_, at9, fit9⟩, ⟨_, at14, fit14⟩, ⟨_, at17, fit17⟩, ⟨_, at28, fit28⟩, ⟨_, at29, fit29⟩, ⟨_, at30, fit30⟩, ⟨_, at31, fit31⟩, ⟨_, at32, fit32⟩, ⟨_, at33, fit33⟩, ⟨_, at34, fit34⟩, ⟨_, at35, fit35⟩, ⟨_, at36, fit36⟩, ⟨_, at38, fit38⟩, ⟨_, at39, fit39⟩, ⟨_, at42, fit42⟩, ⟨_, at45, fit45⟩, ⟨_, at52, fit52⟩, ⟨_, at53, fit53⟩, ⟨_, at54, fit54⟩, ⟨_, at55, fit55⟩, ⟨_, at56, fit56⟩, ⟨_, at57, fit57⟩, ⟨_, at58, fit58⟩, ⟨_, at59, fit59⟩, ⟨_, at60, fit60⟩, ⟨_, at61, fit61⟩, ⟨_, at62, fit62⟩, ⟨_, at63, fit63⟩, ⟨_, at64, fit64⟩, ⟨_, at65, fit65⟩, ⟨_, at66, fit66⟩, ⟨_, at67, fit67⟩, ⟨_, at68, fit68⟩, ⟨_, at69, fit69⟩, ⟨_, at70, fit70⟩, ⟨_, at71, fit71⟩, ⟨_, at72, fit72⟩, ⟨_, at73, fit73⟩, ⟨_, at74, fit74⟩, ⟨_, at75, fit75⟩, ⟨_, at76, fit76⟩, ⟨_, at77, fit77⟩, ⟨_, at79, fit79⟩, ⟨_, at80, fit80⟩, ⟨_, at81, fit81⟩, ⟨_, at82, fit82⟩, ⟨_, at83, fit83⟩, ⟨_, at84, fit84⟩, ⟨_, at85, fit85⟩, ⟨_, at86, fit86⟩, ⟨_, at87, fit87⟩, ⟨_, at88, fit88⟩, ⟨_, at89, fit89⟩, ⟨_, at90, fit90⟩, ⟨_, at92, fit92⟩, ⟨_, at93, fit93⟩, ⟨_, at94, fit94⟩, ⟨_, at95, fit95⟩, ⟨_, at106, fit106⟩, ⟨_, at107, fit107⟩, ⟨_, at108, fit108⟩, ⟨_, at109, fit109⟩, ⟨_, at110, fit110⟩, ⟨_, at111, fit111⟩, ⟨_, at112, fit112⟩, ⟨_, at113, fit113⟩, ⟨_, at114, fit114⟩, ⟨_, at115, fit115⟩, ⟨_, at116, fit116⟩, ⟨_, at117, fit117⟩, ⟨_, at118, fit118⟩, ⟨_, at119, fit119⟩, ⟨_, at120, fit120⟩, ⟨_, at121, fit121⟩, ⟨_, at122, fit122⟩, ⟨_, at123, fit123⟩, ⟨_, at124, fit124⟩, ⟨_, at125, fit125⟩, ⟨_, at126, fit126⟩, ⟨_, at127, fit127⟩, ⟨_, at129, fit129⟩, ⟨_, at130, fit130⟩, ⟨_, at131, fit131⟩, ⟨_, at132, fit132⟩, ⟨_, at133, fit133⟩, ⟨_, at140, fit140⟩, ⟨_, at141, fit141⟩, ⟨_, at142, fit142⟩, ⟨_, at143, fit143⟩, ⟨_, at144, fit144⟩, ⟨_, at148, fit148⟩, ⟨_, at149, fit149⟩, ⟨_, at150, fit150⟩, ⟨_, at151, fit151⟩, ⟨_, at152, fit152⟩, ⟨_, at153, fit153⟩, ⟨_, at154, fit154⟩, ⟨_, at155, fit155⟩, ⟨_, at160, fit160⟩, ⟨_, at162, fit162⟩, ⟨_, at166, fit166⟩, ⟨_, at167, fit167⟩, ⟨_, at168, fit168⟩, ⟨_, at169, fit169⟩, ⟨_, at171, fit171⟩, ⟨_, at172, fit172⟩, ⟨_, at180, fit180⟩, ⟨_, at181, fit181⟩, ⟨_, at182, fit182⟩, ⟨_, at183, fit183⟩, ⟨_, at184, fit184⟩, ⟨_, at185, fit185⟩, ⟨_, at188, fit188⟩, ⟨_, at189, fit189⟩, ⟨_, at190, fit190⟩, ⟨_, at191, fit191⟩, ⟨_, at192, fit192⟩, ⟨_, at193, fit193⟩, ⟨_, at194, fit194⟩, ⟨_, at195, fit195⟩, ⟨_, at196, fit196⟩, ⟨_, at197, fit197⟩, ⟨_, at198, fit198⟩, ⟨_, at199, fit199⟩, ⟨_, at203, fit203⟩, ⟨_, at205, fit205⟩, ⟨_, at207, fit207⟩, ⟨_, at208, fit208⟩, ⟨_, at217, fit217⟩, ⟨_, at218, fit218⟩, ⟨_, at219, fit219⟩, ⟨_, at221, fit221⟩, ⟨_, at222, fit222⟩, ⟨_, at223, fit223⟩, ⟨_, at224, fit224⟩, ⟨_, at225, fit225⟩, ⟨_, at226, fit226⟩, ⟨_, at227, fit227⟩, ⟨_, at229, fit229⟩, ⟨_, at230, fit230⟩, ⟨_, at231, fit231⟩, ⟨_, at240, fit240⟩, ⟨_, at241, fit241⟩, ⟨_, at250, fit250⟩, ⟨_, at251, fit251⟩, ⟨_, at252, fit252⟩, ⟨_, at253, fit253⟩, ⟨_, at254, fit254⟩, ⟨_, at258, fit258⟩, ⟨_, at259, fit259⟩, ⟨_, at260, fit260⟩, ⟨_, at261, fit261⟩, ⟨_, at264, fit264⟩, ⟨_, at267, fit267⟩, ⟨_, at269, fit269⟩, ⟨_, at270, fit270⟩, ⟨_, at272, fit272⟩, ⟨_, at273, fit273⟩, ⟨_, at283, fit283⟩, ⟨_, at284, fit284⟩, ⟨_, at288, fit288⟩, ⟨_, at290, fit290⟩, ⟨_, at295, fit295⟩, ⟨_, at322, fit322⟩, by simp⟩
theorem ext_ok : ∀ f e, X.ext f = some e → ExtOK Tryz.prog f e := by
  intro f e h
  change extOf f = some e at h
  unfold extOf at h
  split at h
  · rename_i hf
    subst hf
    cases h
    exact xBits_ok (fn := Tryz.f49) (by kernel_rfl) (by kernel_rfl) (by kernel_rfl) (by kernel_rfl) (by kernel_rfl)
  split at h
  · rename_i hf
    subst hf
    cases h
    exact xFromBits_ok (fn := Tryz.f91) (by kernel_rfl) (by kernel_rfl) (by kernel_rfl) (by kernel_rfl) (by kernel_rfl)
  split at h
  · rename_i hf
    subst hf
    cases h
    exact xCount_ok (fn := Tryz.f294) (by kernel_rfl) (by kernel_rfl) (by kernel_rfl) (by kernel_rfl) (by kernel_rfl)
  split at h
  · rename_i hf
    subst hf
    cases h
    exact xIndex_ok (fn := Tryz.f337) (by kernel_rfl) (by kernel_rfl) (by kernel_rfl) (by kernel_rfl) (by kernel_rfl)
  cases h
theorem X_ok : X.OK Tryz.prog where
  mixed := by kernel_rfl
  fn f sf h := by
    obtain ⟨p, hp, rfl⟩ := Option.map_eq_some_iff.1 (show (fns.find? fun p => p.1 == f).map (·.2) = some sf from h)
    have h1 := List.find?_some hp
    obtain ⟨fn, h2, h3⟩ := fitsAll p (List.mem_of_find?_eq_some hp)
    have : p.1 = f := by simpa using h1
    rw [this] at h2
    exact ⟨fn, h2, h3⟩
  ext := ext_ok
end Go.Vm.Tryz
end

section
set_option linter.unusedSimpArgs false
set_option linter.unusedVariables false
namespace Go.Vm.Tryz
open Go Go.Vm

abbrev I (n : Int) : V := .int .i64 n
abbrev B (b : Bool) : V := .bool b
abbrev Str := List UInt8
abbrev S (s : Str) : V := .str s
def R (n : Int) : Prop := -9223372036854775808 ≤ n ∧ n ≤ 9223372036854775807

/-- A slice: nil, or one that holds a list. -/
abbrev Sl (α : Type) := Option (List α)
def Sl.l {α : Type} : Sl α → List α
  | none => []
  | some l => l
def Sl.v {α : Type} (f : α → V) : Sl α → V
  | none => .nils
  | some l => .snap (l.map f)
@[simp] theorem Sl.l_none {α : Type} : Sl.l (none : Sl α) = [] := rfl
@[simp] theorem Sl.l_some {α : Type} (l : List α) : Sl.l (some l) = l := rfl
@[simp] theorem Sl.v_none {α : Type} (f : α → V) : Sl.v f none = .nils := rfl
@[simp] theorem Sl.v_some {α : Type} (f : α → V) (l : List α) : Sl.v f (some l) = .snap (l.map f) := rfl
/-- A slice that holds a list. -/
def Row {α : Type} (f : α → V) (v : V) (l : List α) : Prop := v = .nils ∧ l = [] ∨ v = .snap (l.map f)
theorem Sl.row {α : Type} (f : α → V) : ∀ o : Sl α, Row f (Sl.v f o) (Sl.l o)
  | none => .inl ⟨rfl, rfl⟩
  | some _ => .inr rfl

structure Stamp where
  time : Int
  who : Int
  deriving DecidableEq
structure Piece where
  index : Int
  at_ : Stamp
  data : Str
  deriving DecidableEq
structure Xattr where
  name : Str
  at_ : Stamp
  val : Str
  gone : Bool
  deriving DecidableEq
structure Inode where
  id : Stamp
  kind : Int
  text : Str
  aAt : Stamp
  mode : Int
  time : Int
  sAt : Stamp
  n : Int
  pieces : Sl Piece
  xattrs : Sl Xattr
  deriving DecidableEq
/-- A vector: eight numbers. -/
structure Vec where
  l : List Int
  len : l.length = 8
  deriving DecidableEq
abbrev Vec.c (v : Vec) : List V := v.l.map I
@[simp] theorem Vec.len_ (v : Vec) : v.l.length = 8 := v.len
structure Link where
  id : Stamp
  node : Stamp
  at_ : Stamp
  parent : Stamp
  name : Str
  alive : Vec
  dead : Vec
  deriving DecidableEq
structure State where
  seen : Vec
  nodes : Sl Inode
  links : Sl Link
  deriving DecidableEq
structure Stat where
  node : Stamp
  kind : Int
  mode : Int
  time : Int
  size : Int
  links : Int
  deriving DecidableEq
structure Answer where
  err : Int
  data : Str
  names : Sl Str
  stat : Stat
  deriving DecidableEq

structure Item where
  path : Str
  kind : Int
  mode : Int
  time : Int
  body : Str
  xattrs : Sl Xattr
  same : Int
  deriving DecidableEq
structure RItem where
  path : Str
  kind : Int
  mode : Int
  time : Int
  body : Str
  xattrs : Sl Xattr
  same : Int
  node : Stamp
  deriving DecidableEq
/-- A call; its time: the number's bits. -/
structure Call where
  kind : Int
  path : Str
  to : Str
  off : Int
  n : Int
  data : Str
  time : Nat
  deriving DecidableEq

abbrev Piece.v (p : Piece) : V := .agg [I p.index, I p.at_.time, I p.at_.who, S p.data]
abbrev Xattr.v (x : Xattr) : V := .agg [S x.name, I x.at_.time, I x.at_.who, S x.val, B x.gone]
abbrev Inode.c (n : Inode) : List V := [I n.id.time, I n.id.who, I n.kind, S n.text, I n.aAt.time, I n.aAt.who, I n.mode, .int .u64 n.time, I n.sAt.time, I n.sAt.who, I n.n,
  Sl.v Piece.v n.pieces, Sl.v Xattr.v n.xattrs]
abbrev Inode.v (n : Inode) : V := .agg n.c
abbrev Link.c (l : Link) : List V := [I l.id.time, I l.id.who, I l.node.time, I l.node.who, I l.at_.time, I l.at_.who, I l.parent.time, I l.parent.who, S l.name] ++ (l.alive.c ++ l.dead.c)
abbrev Link.v (l : Link) : V := .agg l.c
abbrev State.c (s : State) : List V := s.seen.c ++ [Sl.v Inode.v s.nodes, Sl.v Link.v s.links]
abbrev State.v (s : State) : V := .agg s.c
abbrev Stat.c (s : Stat) : List V := [I s.node.time, I s.node.who, I s.kind, I s.mode, .int .u64 s.time, I s.size, I s.links]
abbrev Answer.v (a : Answer) : V := .agg ([I a.err, S a.data, Sl.v S a.names] ++ a.stat.c)
abbrev Item.c (i : Item) : List V := [S i.path, I i.kind, I i.mode, .int .u64 i.time, S i.body, Sl.v Xattr.v i.xattrs, I i.same]
abbrev Item.v (i : Item) : V := .agg i.c
abbrev RItem.c (i : RItem) : List V := [S i.path, I i.kind, I i.mode, .int .u64 i.time, S i.body, Sl.v Xattr.v i.xattrs, I i.same, I i.node.time, I i.node.who]
abbrev RItem.v (i : RItem) : V := .agg i.c
abbrev Call.c (c : Call) : List V := [I c.kind, S c.path, S c.to, I c.off, I c.n, S c.data, .float .f64 c.time]
abbrev Call.v (c : Call) : V := .agg c.c
end Go.Vm.Tryz
end

section
set_option linter.unusedVariables false
namespace Go.Vm
open Go

/-- Bits of no number. -/
def nanB (x : Nat) : Bool := decide (9218868437227405312 < x % 9223372036854775808)

theorem double_read (x : Nat) : Ieee.double.read x =
    (if x % 9223372036854775808 < 4503599627370496 then .number (x / 9223372036854775808 % 2 == 1) (x % 9223372036854775808) Ieee.double.leastPlace
    else if x % 9223372036854775808 < 9218868437227405312 then .number (x / 9223372036854775808 % 2 == 1) (4503599627370496 + x % 9223372036854775808 % 4503599627370496) (Ieee.double.leastPlace + (x % 9223372036854775808 / 4503599627370496 - 1 : Nat))
    else if x % 9223372036854775808 = 9218868437227405312 then .infinity (x / 9223372036854775808 % 2 == 1)
    else .nan (x / 9223372036854775808 % 2 == 1) (x % 9223372036854775808 - 9218868437227405312)) := rfl

theorem order_self (x : Nat) : (FloatKind.f64.format.order x x == some .eq) = !(nanB x) := by
  show ((Ieee.double.read x).order (Ieee.double.read x) == some .eq) = _
  rw [double_read]
  unfold nanB
  split
  · rename_i h
    have : ¬ 9218868437227405312 < x % 9223372036854775808 := by omega
    simp [Ieee.Datum.order, this, Std.ReflCmp.compare_self]
  · split
    · rename_i h
      have : ¬ 9218868437227405312 < x % 9223372036854775808 := by omega
      simp [Ieee.Datum.order, this, Std.ReflCmp.compare_self]
    · split
      · rename_i h
        simp [Ieee.Datum.order, h, Std.ReflCmp.compare_self]
      · have : 9218868437227405312 < x % 9223372036854775808 := by omega
        simp [Ieee.Datum.order, this]

theorem signed_zero (b : Bool) (up : Nat) : Ieee.signed b 0 up = 0 := by
  cases b <;> simp [Ieee.signed]
theorem signed_pos (b : Bool) (m up : Nat) (h : 0 < m) : Ieee.signed b m up ≠ 0 := by
  have h1 : 0 < m <<< up := by rw [Nat.shiftLeft_eq]; exact Nat.mul_pos h (Nat.pow_pos (by decide))
  cases b <;> simp [Ieee.signed] <;> omega

theorem order_zero (x : Nat) : (FloatKind.f64.format.order x 0 == some .eq) = (x % 9223372036854775808 == 0) := by
  show ((Ieee.double.read x).order (Ieee.double.read 0) == some .eq) = _
  have h0 : Ieee.double.read 0 = .number false 0 Ieee.double.leastPlace := rfl
  rw [double_read, h0]
  have key : ∀ (s : Bool) (m : Nat) (i : Int), ((Ieee.Datum.number s m i).order (.number false 0 Ieee.double.leastPlace) == some .eq) = (m == 0) := by
    intro s m i
    simp only [Ieee.Datum.order, signed_zero]
    rw [Bool.eq_iff_iff]
    simp only [beq_iff_eq, Option.some.injEq, Std.compare_eq_iff_eq]
    constructor
    · intro h
      rcases Nat.eq_zero_or_pos m with h1 | h1
      · exact h1
      · exact absurd h (signed_pos _ _ _ h1)
    · rintro rfl
      exact signed_zero _ _
  split
  · rw [key]
  · split
    · rw [key]
      rw [Bool.eq_iff_iff]
      simp only [beq_iff_eq]
      omega
    · split
      · rename_i h
        rw [h]
        simp [Ieee.Datum.order]
        split <;> simp
      · simp [Ieee.Datum.order]
        omega
end Go.Vm
end

section
set_option linter.unusedSimpArgs false
set_option linter.unusedVariables false
namespace Go.Vm.Tryz
open Go Go.Vm

theorem unbytes_bytesV (s : Str) : unbytes (bytesV s) = some s := by
  induction s with
  | nil => rfl
  | cons b s ih =>
    show (unbytes (bytesV s)).bind _ = _
    rw [ih]
    have : (0 : Int) ≤ b.toNat ∧ (b.toNat : Int) < 256 := ⟨by omega, by have := b.toNat_lt; omega⟩
    simp [this]
@[simp] theorem bytesV_len (s : Str) : (bytesV s).length = s.length := by simp [bytesV]
theorem bytesV_take (s : Str) (n : Nat) : (bytesV s).take n = bytesV (s.take n) := by simp [bytesV, List.map_take]
theorem bytesV_drop (s : Str) (n : Nat) : (bytesV s).drop n = bytesV (s.drop n) := by simp [bytesV, List.map_drop]
theorem bytesV_app (s t : Str) : bytesV s ++ bytesV t = bytesV (s ++ t) := by simp [bytesV]
theorem bytesV_set (s : Str) (i : Nat) (b : UInt8) : (bytesV s).set i (.int .u8 b.toNat) = bytesV (s.set i b) := by simp [bytesV, List.map_set]
theorem bytesV_rep (n : Nat) : List.replicate n (V.int .u8 0) = bytesV (List.replicate n 0) := by simp [bytesV]
theorem bytesV_get (s : Str) (i : Nat) : (bytesV s)[i]? = s[i]?.map fun b => V.int .u8 b.toNat := by simp [bytesV]
theorem bytesV_getE (s : Str) (i : Nat) (h : i < (bytesV s).length) : (bytesV s)[i] = V.int .u8 (s[i]'(by simpa using h)).toNat := by simp [bytesV]
theorem bytesV_all (s : Str) : ((bytesV s).all fun v => v.cells.length == 1) = true := by
  induction s with
  | nil => rfl
  | cons b s ih => simp only [bytesV, List.map_cons, List.all_cons] at ih ⊢; rw [ih]; rfl
theorem bytesV_all' (s : Str) : (∀ x, x ∈ bytesV s → x.cells.length = 1) = True := by
  have := bytesV_all s
  rw [List.all_eq_true] at this
  exact eq_true fun x hx => by simpa using this x hx
theorem bytesV_pure (s : Str) : V.pure.pures (bytesV s) = true := by
  induction s with
  | nil => rfl
  | cons b s ih => simp only [bytesV, List.map_cons, V.pure.pures] at ih ⊢; rw [ih]; rfl

/-- A piece's first j bytes, put at its place. -/
def put (bs : Str) (p : Piece) (j : Nat) : Str :=
  if 0 ≤ p.index ∧ p.index < 16 then bs.take (p.index.toNat * 64) ++ (p.data.take j).take (bs.length - p.index.toNat * 64) ++ bs.drop (p.index.toNat * 64 + j) else bs

theorem put_len (bs : Str) (p : Piece) (j : Nat) (hj : j ≤ p.data.length) : (put bs p j).length = bs.length := by
  unfold put
  split
  · simp; omega
  · rfl

theorem put_zero (bs : Str) (p : Piece) : put bs p 0 = bs := by
  unfold put
  split <;> simp

theorem put_step (bs : Str) (p : Piece) (j : Nat) (hj : j < p.data.length) (hi : 0 ≤ p.index ∧ p.index < 16) (ho : p.index.toNat * 64 + j < bs.length) :
    put bs p (j + 1) = (put bs p j).set (p.index.toNat * 64 + j) p.data[j] := by
  unfold put
  rw [if_pos hi, if_pos hi]
  generalize p.index.toNat * 64 = o at ho ⊢
  generalize p.data = d at hj ⊢
  apply List.ext_getElem?
  intro k
  simp only [List.getElem?_append, List.getElem?_set, List.getElem?_take, List.getElem?_drop, List.length_append, List.length_take, List.length_drop]
  rcases Nat.lt_trichotomy k (o + j) with hk | hk | hk
  · have h0 : ¬ o + j = k := by omega
    simp only [h0, if_false]
    by_cases h1 : k < o
    · have h2 : k < min o bs.length := by omega
      have h3 : k < min o bs.length + min (bs.length - o) (min (j + 1) d.length) := by omega
      have h4 : k < min o bs.length + min (bs.length - o) (min j d.length) := by omega
      simp only [h2, h3, h4, if_true]
    · have h2 : ¬ k < min o bs.length := by omega
      have h3 : k < min o bs.length + min (bs.length - o) (min (j + 1) d.length) := by omega
      have h4 : k < min o bs.length + min (bs.length - o) (min j d.length) := by omega
      have h5 : k - min o bs.length < bs.length - o := by omega
      have h6 : k - min o bs.length < j + 1 := by omega
      have h7 : k - min o bs.length < j := by omega
      simp only [h2, h3, h4, h5, h6, h7, if_true, if_false]
  · subst hk
    have h2 : ¬ o + j < min o bs.length := by omega
    have h3 : o + j < min o bs.length + min (bs.length - o) (min (j + 1) d.length) := by omega
    have h5 : o + j - min o bs.length < bs.length - o := by omega
    have h6 : o + j - min o bs.length < j + 1 := by omega
    have h8 : o + j - min o bs.length = j := by omega
    have h9 : o + j < min o bs.length + min (bs.length - o) (min j d.length) + (bs.length - (o + j)) := by omega
    have h10 : j < bs.length - o := by omega
    have h11 : j < j + 1 := by omega
    simp only [h2, h3, h5, h6, if_true, if_false, h8, h9, h10, h11, List.getElem?_eq_getElem hj]
  · have h0 : ¬ o + j = k := by omega
    have h3 : ¬ k < min o bs.length + min (bs.length - o) (min (j + 1) d.length) := by omega
    have h4 : ¬ k < min o bs.length + min (bs.length - o) (min j d.length) := by omega
    simp only [h0, h3, h4, if_false]
    congr 1
    omega

theorem put_none (bs : Str) (p : Piece) (j : Nat) (hi : ¬ (0 ≤ p.index ∧ p.index < 16)) : put bs p j = bs := by
  unfold put
  rw [if_neg hi]

theorem put_over (bs : Str) (p : Piece) (j : Nat) (ho : bs.length ≤ p.index.toNat * 64) : put bs p j = bs := by
  unfold put
  split
  · rw [List.take_of_length_le ho, List.drop_eq_nil_of_le (by omega), show bs.length - p.index.toNat * 64 = 0 by omega]; simp
  · rfl

theorem put_stop (bs : Str) (p : Piece) (j : Nat) (ho : bs.length ≤ p.index.toNat * 64 + j) : put bs p (j + 1) = put bs p j := by
  unfold put
  split
  · rw [List.drop_eq_nil_of_le (by omega), List.drop_eq_nil_of_le (by omega), List.take_take, List.take_take, show min (bs.length - p.index.toNat * 64) (j + 1) = min (bs.length - p.index.toNat * 64) j by omega]
  · rfl

/-- Until there is no room. -/
theorem put_copy (bs : Str) (p : Piece) (k : Nat) (hi : 0 ≤ p.index ∧ p.index < 16) (hk : k ≤ p.data.length) (ho : p.index.toNat * 64 ≤ bs.length) :
    put bs p k = bs.take (p.index.toNat * 64) ++ (p.data.take k).take (min k (bs.length - p.index.toNat * 64)) ++ bs.drop (p.index.toNat * 64 + min k (bs.length - p.index.toNat * 64)) := by
  unfold put
  rw [if_pos hi]
  rcases Nat.le_total k (bs.length - p.index.toNat * 64) with h | h
  · rw [Nat.min_eq_left h, List.take_of_length_le (l := p.data.take k) (by simp; omega), List.take_of_length_le (l := p.data.take k) (by simp; omega)]
  · rw [Nat.min_eq_right h, List.drop_eq_nil_of_le (by omega), List.drop_eq_nil_of_le (by omega)]

def putAll (bs : Str) (ps : List Piece) : Str := ps.foldl (fun bs p => put bs p (min p.data.length 64)) bs

theorem putAll_len (ps : List Piece) : ∀ bs, (putAll bs ps).length = bs.length := by
  induction ps with
  | nil => intro bs; rfl
  | cons p ps ih => intro bs; unfold putAll at ih ⊢; rw [List.foldl_cons, ih, put_len _ _ _ (by omega)]

theorem putAll_step (bs : Str) (ps : List Piece) (i : Nat) (hi : i < ps.length) : putAll bs (ps.take (i + 1)) = put (putAll bs (ps.take i)) ps[i] (min ps[i].data.length 64) := by
  unfold putAll
  rw [List.take_succ_eq_append_getElem hi, List.foldl_append]
  rfl

/-- The bytes that both functions answer. -/
def bytesOf (n : Int) (ps : List Piece) : Str := putAll (List.replicate (max 0 (min n 1024)).toNat 0) ps

end Go.Vm.Tryz
end

section
set_option linter.unusedVariables false
namespace Go.Vm.Tryz
open Go Go.Vm

/-- The byte of a number at a place, the lowest one is 0. -/
def byteAt (n : Int) (i : Nat) : UInt8 := UInt8.ofNat (n.fdiv (2 ^ (8 * i)) % 256).toNat
/-- A number's lowest bytes, the highest first. -/
def be (n : Int) : Nat → Str
  | 0 => []
  | j + 1 => byteAt n j :: be n j

theorem u8_wrap (x : Int) : IntKind.u8.wrap x = x % 256 := by
  simp [IntKind.wrap, IntKind.bits, IntKind.signed]
theorem u64_wrap (x : Int) : IntKind.u64.wrap x = x % 18446744073709551616 := by
  simp [IntKind.wrap, IntKind.bits, IntKind.signed]

theorem byteAt_val (n : Int) (i : Nat) : ((byteAt n i).toNat : Int) = n.fdiv (2 ^ (8 * i)) % 256 := by
  have h1 : 0 ≤ n.fdiv (2 ^ (8 * i)) % 256 := Int.emod_nonneg _ (by decide)
  have h2 : n.fdiv (2 ^ (8 * i)) % 256 < 256 := Int.emod_lt_of_pos _ (by decide)
  unfold byteAt
  rw [UInt8.toNat_ofNat']
  omega

theorem be_len (n : Int) (w : Nat) : (be n w).length = w := by
  induction w with
  | zero => rfl
  | succ w ih => simp [be, ih]

theorem be_get (n : Int) : ∀ (w i : Nat), i < w → (be n w)[i]? = some (byteAt n (w - 1 - i))
  | 0, i, h => by omega
  | w + 1, 0, _ => by simp [be]
  | w + 1, i + 1, h => by
    simp only [be, List.getElem?_cons_succ]
    rw [be_get n w i (by omega)]
    congr 2
    omega

/-- What is left of a number when its lowest bytes are taken. -/
def rest (n : Int) (j : Nat) : Int := (n % 18446744073709551616) / 2 ^ (8 * j)

theorem rest_nonneg (n : Int) (j : Nat) : 0 ≤ rest n j := Int.ediv_nonneg (Int.emod_nonneg _ (by decide)) (by have := Int.pow_pos (n := 2) (m := 8 * j) (by decide); omega)
theorem rest_step (n : Int) (j : Nat) : (rest n j).tdiv 256 = rest n (j + 1) := by
  rw [Int.tdiv_eq_ediv_of_nonneg (rest_nonneg n j)]
  unfold rest
  rw [Int.ediv_ediv_of_nonneg (by have := Int.pow_pos (n := 2) (m := 8 * j) (by decide); omega)]
  congr 1
  rw [show 8 * (j + 1) = 8 * j + 8 by omega, Int.pow_add]
  rfl
theorem rest_lt (n : Int) (j : Nat) : rest n j < 18446744073709551616 := by
  unfold rest
  have h1 : n % 18446744073709551616 < 18446744073709551616 := Int.emod_lt_of_pos _ (by decide)
  have h2 : 0 ≤ n % 18446744073709551616 := Int.emod_nonneg _ (by decide)
  have h3 := Int.ediv_le_self (2 ^ (8 * j)) h2
  omega
theorem low_byte (n : Int) (k : Nat) (hk : k ≤ 56) : n % 18446744073709551616 / 2 ^ k % 256 = n / 2 ^ k % 256 := by
  have hp : (0 : Int) < 2 ^ k := Int.pow_pos (by decide)
  have h64 : (18446744073709551616 : Int) = 2 ^ k * (256 * 2 ^ (56 - k)) := by
    have e1 : (2 : Int) ^ k * (2 ^ 8 * 2 ^ (56 - k)) = 2 ^ 64 := by
      rw [← Int.pow_add, ← Int.pow_add]
      congr 1
      omega
    have e2 : (2 : Int) ^ 64 = 18446744073709551616 := by decide
    have e3 : (2 : Int) ^ 8 = 256 := by decide
    rw [e3, e2] at e1
    exact e1.symm
  have e : n = n % 18446744073709551616 + 2 ^ k * (256 * 2 ^ (56 - k) * (n / 18446744073709551616)) := by
    rw [← Int.mul_assoc, ← h64]
    exact (Int.emod_add_mul_ediv n _).symm
  conv => rhs; rw [e]
  rw [Int.add_mul_ediv_left _ _ (by omega), Int.mul_assoc, Int.add_mul_emod_self_left]

theorem rest_byte (n : Int) (j : Nat) (hj : j < 8) : (rest n j).tmod 256 = n.fdiv (2 ^ (8 * j)) % 256 := by
  rw [Int.tmod_eq_emod_of_nonneg (rest_nonneg n j)]
  unfold rest
  have hp : (0 : Int) < 2 ^ (8 * j) := Int.pow_pos (by decide)
  rw [Int.fdiv_eq_ediv_of_nonneg _ (by omega)]
  exact low_byte n (8 * j) (by omega)
end Go.Vm.Tryz
end

section
set_option linter.unusedVariables false
namespace Go.Vm.Tryz
open Go Go.Vm

theorem ofInt_toNat (n : Nat) (h : n < 18446744073709551616) : (BitVec.ofInt 64 (n : Int)).toNat = n := by
  rw [BitVec.toNat_ofInt]
  omega

theorem nat_and_top (n : Nat) (h : n < 2 ^ 64) : n &&& 2 ^ 63 = if n < 2 ^ 63 then 0 else 2 ^ 63 := by
  apply Nat.eq_of_testBit_eq
  intro i
  rw [Nat.testBit_and, Nat.testBit_two_pow]
  by_cases hi : 63 = i
  · subst hi
    split
    · rename_i hn
      rw [Nat.testBit_lt_two_pow hn]
      simp
    · rename_i hn
      have : n.testBit 63 = true := by
        rw [Nat.testBit_eq_decide_div_mod_eq]
        simp
        omega
      rw [this, Nat.testBit_two_pow]
      simp
  · split
    · simp [hi]
    · rw [Nat.testBit_two_pow]
      simp [hi]

theorem and_top (n : Nat) (h : n < 18446744073709551616) : (BitVec.ofInt 64 (n : Int) &&& BitVec.ofInt 64 9223372036854775808).toNat = if n < 9223372036854775808 then 0 else 9223372036854775808 := by
  have e : (BitVec.ofInt 64 9223372036854775808).toNat = 2 ^ 63 := by decide
  rw [BitVec.toNat_and, ofInt_toNat n h, e, nat_and_top n h]

theorem xor_all (n : Nat) (h : n < 18446744073709551616) : (BitVec.ofInt 64 18446744073709551615 ^^^ BitVec.ofInt 64 (n : Int)).toNat = 18446744073709551615 - n := by
  have e : BitVec.ofInt 64 18446744073709551615 = BitVec.allOnes 64 := by decide
  rw [e, BitVec.allOnes_xor, BitVec.toNat_not, ofInt_toNat n h]

theorem or_top (n : Nat) (h : n < 9223372036854775808) : (BitVec.ofInt 64 (n : Int) ||| BitVec.ofInt 64 9223372036854775808).toNat = n + 9223372036854775808 := by
  have e : (BitVec.ofInt 64 9223372036854775808).toNat = 2 ^ 63 * 1 := by decide
  rw [BitVec.toNat_or, ofInt_toNat n (by omega), e, Nat.or_comm, ← Nat.two_pow_add_eq_or_of_lt (show n < 2 ^ 63 by omega)]
  omega

theorem andNot_top (n : Nat) (h : n < 18446744073709551616) : (BitVec.ofInt 64 (n : Int) &&& ~~~(BitVec.ofInt 64 9223372036854775808)).toNat = n % 9223372036854775808 := by
  have e : (~~~(BitVec.ofInt 64 9223372036854775808)).toNat = 2 ^ 63 - 1 := by decide
  rw [BitVec.toNat_and, ofInt_toNat n h, e, Nat.and_two_pow_sub_one_eq_mod]

theorem mod64 (n : Nat) (h : n < 18446744073709551616) : ((n : Int) % 18446744073709551616).toNat = n := by omega
theorem and_topN (n : Nat) (h : n < 18446744073709551616) : n &&& 9223372036854775808 = if n < 9223372036854775808 then 0 else 9223372036854775808 := nat_and_top n h
theorem or_topN (n : Nat) (h : n < 9223372036854775808) : n ||| 9223372036854775808 = n + 9223372036854775808 := by
  have e := or_top n h
  rwa [BitVec.toNat_or, ofInt_toNat n (by omega)] at e
theorem xor_allN (n : Nat) (h : n < 18446744073709551616) : 18446744073709551615 ^^^ n = 18446744073709551615 - n := by
  have e := xor_all n h
  rwa [BitVec.toNat_xor, ofInt_toNat n h] at e

/-- A time's bits: a number, and what is wrong. -/
def timeOf (x : Nat) : Int × Int :=
  if nanB x then (0, 202) else if x % 9223372036854775808 = 0 then (9223372036854775808, 0) else if x < 9223372036854775808 then ((x : Int) + 9223372036854775808, 0) else (18446744073709551615 - (x : Int), 0)
/-- What bits would be. -/
def toBack (k : Int) : Nat := if k < 9223372036854775808 then (18446744073709551615 - k).toNat else (k - 9223372036854775808).toNat
def timeGood (k : Int) : Bool := timeOf (toBack k) == (k, 0)
def timeTo (k : Int) : Nat × Int := if timeGood k then (toBack k, 0) else (0, 202)

theorem toBack_lt {k : Int} (h : 0 ≤ k ∧ k ≤ 18446744073709551615) : toBack k < 18446744073709551616 := by
  unfold toBack
  split <;> omega
end Go.Vm.Tryz
end

section
set_option linter.unusedVariables false
set_option linter.unusedSimpArgs false
set_option maxRecDepth 10000
namespace Go.Vm.Tryz
open Go Go.Vm

@[simp] theorem u64_bits : IntKind.u64.bits = 64 := rfl
@[simp] theorem u64_signed : IntKind.u64.signed = false := rfl
theorem u64_max : IntKind.u64.max = 18446744073709551615 := by decide

theorem call49 (x : Nat) (h : List HO) : VC X 49 [.float .f64 x] h = some (.ret (.int .u64 x), h) := (VC_ext (X := X) (e := xBits) rfl _ _).trans rfl
theorem call91 (k : Int) (h : List HO) : VC X 91 [.int .u64 k] h = some (.ret (.float .f64 k.toNat), h) := (VC_ext (X := X) (e := xFromBits) rfl _ _).trans rfl

theorem order_ne (x : Nat) : (FloatKind.f64.format.order x x != some .eq) = nanB x := by
  have e := order_self x
  unfold bne
  rw [e]
  simp

theorem nan113 (x : Nat) (h : List HO) : VC X 113 [.float .f64 x] h = some (.ret (B (nanB x)), h) := by
  rw [v113]
  refine Ans.eq (ans_wp ?_)
  simp [s113, order_ne]

theorem u64_small (n : Int) (h : 0 ≤ n ∧ n ≤ 18446744073709551615) : IntKind.u64.wrap n = n := by
  rw [u64_wrap]; omega

theorem of67 (x : Nat) (hx : x < 18446744073709551616) (h : List HO) : VC X 67 [.float .f64 x] h = some (.ret (.tuple [.int .u64 (timeOf x).1, I (timeOf x).2]), h) := by
  rw [v67]
  refine Ans.eq (ans_wp ?_)
  by_cases h1 : nanB x
  · simp [s67, nan113, h1, timeOf]
  · by_cases h2 : x % 9223372036854775808 = 0
    · simp [s67, nan113, h1, h2, timeOf, order_zero]
    · have h2' : (x % 9223372036854775808 == 0) = false := by simpa using h2
      by_cases h3 : x < 9223372036854775808
      · have hm := mod64 x hx
        have e1 := and_topN x hx
        rw [if_pos h3] at e1
        have e2 := or_topN x h3
        have e3 : IntKind.u64.wrap ((x : Int) + 9223372036854775808) = x + 9223372036854775808 := u64_small _ (by omega)
        simp [s67, nan113, h1, h2, h2', h3, timeOf, order_zero, call49, hm, e1, e2, e3, u64_small]
      · have hm := mod64 x hx
        have e1 := and_topN x hx
        rw [if_neg h3] at e1
        have e2 := xor_allN x hx
        have e3 : ((18446744073709551615 - x : Nat) : Int) = 18446744073709551615 - (x : Int) := by omega
        have e4 : IntKind.u64.wrap (18446744073709551615 - (x : Int)) = 18446744073709551615 - (x : Int) := u64_small _ (by omega)
        simp [s67, nan113, h1, h2, h2', h3, timeOf, order_zero, call49, hm, e1, e2, e3, e4, u64_max, u64_small]
theorem back90 (k : Int) (hk : 0 ≤ k ∧ k ≤ 18446744073709551615) (h : List HO) : VC X 90 [.int .u64 k] h = some (.ret (.float .f64 (toBack k)), h) := by
  rw [v90]
  refine Ans.eq (ans_wp ?_)
  obtain ⟨n, rfl⟩ : ∃ n : Nat, k = n := ⟨k.toNat, by omega⟩
  have hn : n < 18446744073709551616 := by omega
  by_cases h3 : n < 9223372036854775808
  · have hm := mod64 n hn
    have e1 := and_topN n hn
    rw [if_pos h3] at e1
    have e2 := xor_allN n hn
    have e3 : (n : Int) < 9223372036854775808 := by omega
    have e4 : IntKind.u64.wrap ((18446744073709551615 - n : Nat) : Int) = ((18446744073709551615 - n : Nat) : Int) := u64_small _ (by omega)
    have e5 : toBack n = 18446744073709551615 - n := by unfold toBack; rw [if_pos e3]; omega
    simp [s90, call91, hm, e1, e2, e4, e5, u64_max, u64_small]
  · have hm := mod64 n hn
    have e1 := and_topN n hn
    rw [if_neg h3] at e1
    have e2 : n &&& 9223372036854775807 = n % 9223372036854775808 := Nat.and_two_pow_sub_one_eq_mod n 63
    have e3 : ¬ (n : Int) < 9223372036854775808 := by omega
    have e4 : IntKind.u64.wrap ((n : Int) % 9223372036854775808) = (n : Int) % 9223372036854775808 := u64_small _ (by omega)
    have e5 : toBack n = n % 9223372036854775808 := by unfold toBack; rw [if_neg e3]; omega
    simp [s90, call91, hm, e1, e2, e5, u64_small]
    rw [e4]
    omega

theorem good89 (k : Int) (hk : 0 ≤ k ∧ k ≤ 18446744073709551615) (h : List HO) : VC X 89 [.int .u64 k] h = some (.ret (B (timeGood k)), h) := by
  rw [v89]
  refine Ans.eq (ans_wp ?_)
  have e1 := back90 k hk h
  have e2 := of67 (toBack k) (toBack_lt hk) h
  obtain ⟨q, hq⟩ : ∃ q, q = timeGood k := ⟨_, rfl⟩
  rw [← hq]
  unfold timeGood at hq
  rcases ht : timeOf (toBack k) with ⟨a, b⟩
  rw [ht] at e2 hq
  simp [s89, e1, e2]
  repeat' (first | refine wp_cond (fun hc => ?_) (fun hc => ?_) | refine wp_guardT (fun hc => ?_) (fun hc => ?_) | refine wp_guardF (fun hc => ?_) (fun hc => ?_) | refine wp_guardDT (fun hc => ?_) (fun hc => ?_) | refine wp_guardDF (fun hc => ?_) (fun hc => ?_)) <;> (have hc' := hc; (try simp at hc'); simp [hc, hc'])
  all_goals simp_all
  rw [Bool.eq_iff_iff]
  simp

theorem to38 (k : Int) (hk : 0 ≤ k ∧ k ≤ 18446744073709551615) (h : List HO) : VC X 38 [.int .u64 k] h = some (.ret (.tuple [.float .f64 (timeTo k).1, I (timeTo k).2]), h) := by
  rw [v38]
  refine Ans.eq (ans_wp ?_)
  have e1 := back90 k hk h
  have e2 := good89 k hk h
  cases hg : timeGood k
  · rw [hg] at e2
    simp [s38, e1, e2, timeTo, hg]
  · rw [hg] at e2
    simp [s38, e1, e2, timeTo, hg]

theorem of92 (x : Nat) (hx : x < 18446744073709551616) (h : List HO) : VC X 92 [.float .f64 x] h = some (.ret (.tuple [.int .u64 (timeOf x).1, I (timeOf x).2]), h) := by
  rw [v92]
  refine Ans.eq (ans_wp ?_)
  have em : (x : Int).tmod 9223372036854775808 = (x : Int) % 9223372036854775808 := Int.tmod_eq_emod_of_nonneg (by omega)
  have en : nanB x = decide (9218868437227405312 < x % 9223372036854775808) := rfl
  by_cases h1 : 9218868437227405312 < x % 9223372036854775808
  · have h1' : (9218868437227405312 : Int) < (x : Int) % 9223372036854775808 := by omega
    simp [s92, call49, em, h1, h1', timeOf, en]
  · have h1' : ¬ (9218868437227405312 : Int) < (x : Int) % 9223372036854775808 := by omega
    by_cases h2 : x % 9223372036854775808 = 0
    · have h2' : ((x : Int) % 9223372036854775808 == 0) = true := by simp; omega
      simp [s92, call49, em, h1, h1', h2, h2', timeOf, en]
    · have h2' : ((x : Int) % 9223372036854775808 == 0) = false := by simp; omega
      by_cases h3 : x < 9223372036854775808
      · have h3' : (x : Int) < 9223372036854775808 := by omega
        have e3 : IntKind.u64.wrap ((x : Int) + 9223372036854775808) = x + 9223372036854775808 := u64_small _ (by omega)
        simp [s92, call49, em, h1, h1', h2, h2', h3, h3', e3, timeOf, en]
      · have h3' : ¬ (x : Int) < 9223372036854775808 := by omega
        have e4 : IntKind.u64.wrap (18446744073709551615 - (x : Int)) = 18446744073709551615 - (x : Int) := u64_small _ (by omega)
        simp [s92, call49, em, h1, h1', h2, h2', h3, h3', e4, timeOf, en]

theorem to39 (k : Int) (hk : 0 ≤ k ∧ k ≤ 18446744073709551615) (h : List HO) : VC X 39 [.int .u64 k] h = some (.ret (.tuple [.float .f64 (timeTo k).1, I (timeTo k).2]), h) := by
  rw [v39]
  refine Ans.eq (ans_wp ?_)
  have e2 := of92 (toBack k) (toBack_lt hk) h
  obtain ⟨q, hq⟩ : ∃ q, q = timeTo k := ⟨_, rfl⟩
  rw [← hq]
  unfold timeTo timeGood at hq
  rcases ht : timeOf (toBack k) with ⟨a, b⟩
  rw [ht] at e2 hq
  have hb : ((a, b) == (k, (0 : Int))) = decide (a = k ∧ b = 0) := by rw [Bool.eq_iff_iff]; simp
  rw [hb] at hq
  by_cases h3 : k < 9223372036854775808
  · have e4 : IntKind.u64.wrap (18446744073709551615 - k) = 18446744073709551615 - k := u64_small _ (by omega)
    have e5 : (18446744073709551615 - k).toNat = toBack k := by unfold toBack; rw [if_pos h3]
    simp [s39, call91, h3, e4, e5, e2]
    repeat' (first | refine wp_cond (fun hc => ?_) (fun hc => ?_) | refine wp_guardT (fun hc => ?_) (fun hc => ?_) | refine wp_guardF (fun hc => ?_) (fun hc => ?_) | refine wp_guardDT (fun hc => ?_) (fun hc => ?_) | refine wp_guardDF (fun hc => ?_) (fun hc => ?_)) <;> (have hc' := hc; (try simp at hc'); simp [hc, hc'])
    all_goals simp [hq, *]
  · have e4 : IntKind.u64.wrap (k - 9223372036854775808) = k - 9223372036854775808 := u64_small _ (by omega)
    have e5 : (k - 9223372036854775808).toNat = toBack k := by unfold toBack; rw [if_neg h3]
    simp [s39, call91, h3, e4, e5, e2]
    repeat' (first | refine wp_cond (fun hc => ?_) (fun hc => ?_) | refine wp_guardT (fun hc => ?_) (fun hc => ?_) | refine wp_guardF (fun hc => ?_) (fun hc => ?_) | refine wp_guardDT (fun hc => ?_) (fun hc => ?_) | refine wp_guardDF (fun hc => ?_) (fun hc => ?_)) <;> (have hc' := hc; (try simp at hc'); simp [hc, hc'])
    all_goals simp [hq, *]

theorem good112 (k : Int) (hk : 0 ≤ k ∧ k ≤ 18446744073709551615) (h : List HO) : VC X 112 [.int .u64 k] h = some (.ret (B (timeGood k)), h) := by
  rw [v112]
  refine Ans.eq (ans_wp ?_)
  have e2 := to39 k hk h
  cases hg : timeGood k
  · simp [timeTo, hg] at e2
    simp [s112, e2]
  · simp [timeTo, hg] at e2
    simp [s112, e2]
end Go.Vm.Tryz
end

section
set_option linter.unusedSimpArgs false
set_option linter.unusedVariables false
namespace Go.Vm.Tryz
open Go Go.Vm

def N63 : Nat := 9223372036854775808

theorem R_of {n : Int} (h1 : IntKind.i64.min ≤ n) (h2 : n ≤ IntKind.i64.max) : R n := by
  have e1 : IntKind.i64.min = -9223372036854775808 := by decide
  have e2 : IntKind.i64.max = 9223372036854775807 := by decide
  unfold R; omega
def RU (n : Int) : Prop := 0 ≤ n ∧ n ≤ 18446744073709551615
theorem RU_of {n : Int} (h1 : IntKind.u64.min ≤ n) (h2 : n ≤ IntKind.u64.max) : RU n := by
  have e1 : IntKind.u64.min = 0 := by decide
  have e2 : IntKind.u64.max = 18446744073709551615 := by decide
  unfold RU; omega

theorem ofSlice {α : Type} {s : Sh} (f : α → V) (ok : α → Prop) (h1 : ∀ v, HasV s v → ∃ a, v = f a ∧ ok a) {cs : List V} (h : HasCs (.slice s) cs) :
    ∃ l : List α, cs = [Sl.v f (some l)] ∧ l.length < N63 ∧ ∀ a ∈ l, ok a := by
  simp only [HasCs] at h
  obtain ⟨l, rfl, hl, hv⟩ := h
  have key : ∀ l : List V, (∀ v ∈ l, ∃ c, mkS s c v ∧ HasCs s c) → ∃ l' : List α, l = l'.map f ∧ ∀ a ∈ l', ok a := by
    intro l
    induction l with
    | nil => exact fun _ => ⟨[], rfl, fun _ h => by cases h⟩
    | cons v l ih =>
      intro hv
      obtain ⟨a, rfl, ha⟩ := h1 v (hv v (by simp))
      obtain ⟨l', rfl, hl'⟩ := ih fun v h => hv v (by simp [h])
      refine ⟨a :: l', rfl, fun b hb => ?_⟩
      rcases List.mem_cons.1 hb with rfl | hb
      · exact ha
      · exact hl' b hb
  obtain ⟨l', rfl, hok⟩ := key l hv
  exact ⟨l', rfl, by simpa [N63] using hl, hok⟩

theorem ofAgg {l : List Sh} {v : V} (h : HasV (.struct l) v) : ∃ cs, v = .agg cs ∧ HasL l cs := by
  obtain ⟨cs, h1, h2⟩ := h
  simp only [mkS, Sh.isAgg, if_true] at h1
  simp only [HasCs] at h2
  exact ⟨cs, h1, h2⟩

def okStr (s : Str) : Prop := s.length < N63
theorem ofStr {cs : List V} (h : HasCs .str cs) : ∃ s, cs = [S s] ∧ okStr s := by
  simp only [HasCs] at h
  obtain ⟨s, rfl, h⟩ := h
  exact ⟨s, rfl, by simpa [okStr, N63] using h⟩
theorem ofStrV {v : V} (h : HasV .str v) : ∃ s, v = S s ∧ okStr s := by
  obtain ⟨cs, h1, h2⟩ := h
  obtain ⟨s, rfl, h⟩ := ofStr h2
  simp [mkS, Sh.isAgg] at h1
  exact ⟨s, h1.symm, h⟩
theorem ofI {cs : List V} (h : HasCs (.int .i64) cs) : ∃ n, cs = [I n] ∧ R n := by
  simp only [HasCs] at h
  obtain ⟨n, rfl, h1, h2⟩ := h
  exact ⟨n, rfl, R_of h1 h2⟩
theorem ofU {cs : List V} (h : HasCs (.int .u64) cs) : ∃ n, cs = [.int .u64 n] ∧ RU n := by
  simp only [HasCs] at h
  obtain ⟨n, rfl, h1, h2⟩ := h
  exact ⟨n, rfl, RU_of h1 h2⟩
theorem ofB {cs : List V} (h : HasCs .bool cs) : ∃ b, cs = [B b] := by
  simpa only [HasCs] using h

/-- One field, and the others. -/
theorem ofField {s : Sh} {r : List Sh} {cs : List V} (h : HasL (s :: r) cs) : ∃ a b, cs = a ++ b ∧ HasCs s a ∧ HasL r b := by
  simpa only [HasL] using h
theorem ofEnd {cs : List V} (h : HasL [] cs) : cs = [] := by
  simpa only [HasL] using h

def shStamp : Sh := .struct [.int .i64, .int .i64]
def okStamp (s : Stamp) : Prop := R s.time ∧ R s.who
abbrev Stamp.c (s : Stamp) : List V := [I s.time, I s.who]
theorem ofStamp {cs : List V} (h : HasCs shStamp cs) : ∃ s : Stamp, cs = s.c ∧ okStamp s := by
  simp only [shStamp, HasCs] at h
  obtain ⟨_, _, rfl, h1, h⟩ := ofField h
  obtain ⟨_, _, rfl, h2, h⟩ := ofField h
  obtain rfl := ofEnd h
  obtain ⟨a, rfl, ha⟩ := ofI h1
  obtain ⟨b, rfl, hb⟩ := ofI h2
  exact ⟨⟨a, b⟩, rfl, ha, hb⟩

def shPiece : Sh := .struct [.int .i64, shStamp, .str]
def okPiece (p : Piece) : Prop := R p.index ∧ okStamp p.at_ ∧ okStr p.data
theorem ofPiece (v : V) (h : HasV shPiece v) : ∃ p : Piece, v = p.v ∧ okPiece p := by
  obtain ⟨cs, rfl, h0⟩ := ofAgg h
  clear h
  have h := h0
  obtain ⟨_, _, rfl, h1, h⟩ := ofField h
  obtain ⟨_, _, rfl, h2, h⟩ := ofField h
  obtain ⟨_, _, rfl, h3, h⟩ := ofField h
  obtain rfl := ofEnd h
  obtain ⟨a, rfl, ha⟩ := ofI h1
  obtain ⟨b, rfl, hb⟩ := ofStamp h2
  obtain ⟨c, rfl, hc⟩ := ofStr h3
  exact ⟨⟨a, b, c⟩, rfl, ha, hb, hc⟩

def shXattr : Sh := .struct [.str, shStamp, .str, .bool]
def okXattr (x : Xattr) : Prop := okStr x.name ∧ okStamp x.at_ ∧ okStr x.val
theorem ofXattr (v : V) (h : HasV shXattr v) : ∃ x : Xattr, v = x.v ∧ okXattr x := by
  obtain ⟨cs, rfl, h0⟩ := ofAgg h
  clear h
  have h := h0
  obtain ⟨_, _, rfl, h1, h⟩ := ofField h
  obtain ⟨_, _, rfl, h2, h⟩ := ofField h
  obtain ⟨_, _, rfl, h3, h⟩ := ofField h
  obtain ⟨_, _, rfl, h4, h⟩ := ofField h
  obtain rfl := ofEnd h
  obtain ⟨a, rfl, ha⟩ := ofStr h1
  obtain ⟨b, rfl, hb⟩ := ofStamp h2
  obtain ⟨c, rfl, hc⟩ := ofStr h3
  obtain ⟨d, rfl⟩ := ofB h4
  exact ⟨⟨a, b, c, d⟩, rfl, ha, hb, hc⟩

def shInode : Sh := .struct [shStamp, .int .i64, .str, .struct [shStamp, .int .i64, .int .u64], .struct [shStamp, .int .i64], .slice shPiece, .slice shXattr]
structure okInode (n : Inode) : Prop where
  id : okStamp n.id
  kind : R n.kind
  text : okStr n.text
  aAt : okStamp n.aAt
  mode : R n.mode
  time : RU n.time
  sAt : okStamp n.sAt
  size : R n.n
  pieces : n.pieces.l.length < N63 ∧ ∀ p ∈ n.pieces.l, okPiece p
  xattrs : n.xattrs.l.length < N63 ∧ ∀ p ∈ n.xattrs.l, okXattr p
theorem ofInode (v : V) (h : HasV shInode v) : ∃ n : Inode, v = n.v ∧ okInode n := by
  obtain ⟨cs, rfl, h0⟩ := ofAgg h
  clear h
  have h := h0
  obtain ⟨_, _, rfl, h1, h⟩ := ofField h
  obtain ⟨_, _, rfl, h2, h⟩ := ofField h
  obtain ⟨_, _, rfl, h3, h⟩ := ofField h
  obtain ⟨_, _, rfl, h4, h⟩ := ofField h
  obtain ⟨_, _, rfl, h5, h⟩ := ofField h
  obtain ⟨_, _, rfl, h6, h⟩ := ofField h
  obtain ⟨_, _, rfl, h7, h⟩ := ofField h
  obtain rfl := ofEnd h
  simp only [HasCs] at h4 h5
  obtain ⟨_, _, rfl, h41, h⟩ := ofField h4
  obtain ⟨_, _, rfl, h42, h⟩ := ofField h
  obtain ⟨_, _, rfl, h43, h⟩ := ofField h
  obtain rfl := ofEnd h
  obtain ⟨_, _, rfl, h51, h⟩ := ofField h5
  obtain ⟨_, _, rfl, h52, h⟩ := ofField h
  obtain rfl := ofEnd h
  obtain ⟨a, rfl, ha⟩ := ofStamp h1
  obtain ⟨b, rfl, hb⟩ := ofI h2
  obtain ⟨c, rfl, hc⟩ := ofStr h3
  obtain ⟨d, rfl, hd⟩ := ofStamp h41
  obtain ⟨e, rfl, he⟩ := ofI h42
  obtain ⟨f, rfl, hf⟩ := ofU h43
  obtain ⟨g, rfl, hg⟩ := ofStamp h51
  obtain ⟨i, rfl, hi⟩ := ofI h52
  obtain ⟨j, rfl, hj⟩ := ofSlice Piece.v okPiece ofPiece h6
  obtain ⟨k, rfl, hk⟩ := ofSlice Xattr.v okXattr ofXattr h7
  exact ⟨⟨a, b, c, d, e, f, g, i, some j, some k⟩, rfl, ha, hb, hc, hd, he, hf, hg, hi, hj, hk⟩

def shStat : Sh := .struct [shStamp, .int .i64, .int .i64, .int .u64, .int .i64, .int .i64]
structure okStat (s : Stat) : Prop where
  node : okStamp s.node
  kind : R s.kind
  mode : R s.mode
  time : RU s.time
  size : R s.size
  links : R s.links
theorem ofStat {cs : List V} (h : HasCs shStat cs) : ∃ s : Stat, cs = s.c ∧ okStat s := by
  simp only [shStat, HasCs] at h
  obtain ⟨_, _, rfl, h1, h⟩ := ofField h
  obtain ⟨_, _, rfl, h2, h⟩ := ofField h
  obtain ⟨_, _, rfl, h3, h⟩ := ofField h
  obtain ⟨_, _, rfl, h4, h⟩ := ofField h
  obtain ⟨_, _, rfl, h5, h⟩ := ofField h
  obtain ⟨_, _, rfl, h6, h⟩ := ofField h
  obtain rfl := ofEnd h
  obtain ⟨a, rfl, ha⟩ := ofStamp h1
  obtain ⟨b, rfl, hb⟩ := ofI h2
  obtain ⟨c, rfl, hc⟩ := ofI h3
  obtain ⟨d, rfl, hd⟩ := ofU h4
  obtain ⟨e, rfl, he⟩ := ofI h5
  obtain ⟨f, rfl, hf⟩ := ofI h6
  exact ⟨⟨a, b, c, d, e, f⟩, rfl, ha, hb, hc, hd, he, hf⟩

def shAnswer : Sh := .struct [.int .i64, .str, .slice .str, shStat]
structure okAnswer (a : Answer) : Prop where
  err : R a.err
  data : okStr a.data
  names : a.names.l.length < N63 ∧ ∀ s ∈ a.names.l, okStr s
  stat : okStat a.stat
theorem ofAnswer (v : V) (h : HasV shAnswer v) : ∃ a : Answer, v = a.v ∧ okAnswer a := by
  obtain ⟨cs, rfl, h0⟩ := ofAgg h
  clear h
  have h := h0
  obtain ⟨_, _, rfl, h1, h⟩ := ofField h
  obtain ⟨_, _, rfl, h2, h⟩ := ofField h
  obtain ⟨_, _, rfl, h3, h⟩ := ofField h
  obtain ⟨_, _, rfl, h4, h⟩ := ofField h
  obtain rfl := ofEnd h
  obtain ⟨a, rfl, ha⟩ := ofI h1
  obtain ⟨b, rfl, hb⟩ := ofStr h2
  obtain ⟨c, rfl, hc⟩ := ofSlice S okStr (fun v h => ofStrV h) h3
  obtain ⟨d, rfl, hd⟩ := ofStat h4
  exact ⟨⟨a, b, some c, d⟩, by simp, ha, hb, hc, hd⟩

def shItem : Sh := .struct [.str, .int .i64, .int .i64, .int .u64, .str, .slice shXattr, .int .i64]
structure okItem (i : Item) : Prop where
  path : okStr i.path
  kind : R i.kind
  mode : R i.mode
  time : RU i.time
  body : okStr i.body
  xattrs : i.xattrs.l.length < N63 ∧ ∀ p ∈ i.xattrs.l, okXattr p
  same : R i.same
  some_ : ∃ x, i.xattrs = some x
theorem ofItem (v : V) (h : HasV shItem v) : ∃ i : Item, v = i.v ∧ okItem i := by
  obtain ⟨cs, rfl, h0⟩ := ofAgg h
  clear h
  have h := h0
  obtain ⟨_, _, rfl, h1, h⟩ := ofField h
  obtain ⟨_, _, rfl, h2, h⟩ := ofField h
  obtain ⟨_, _, rfl, h3, h⟩ := ofField h
  obtain ⟨_, _, rfl, h4, h⟩ := ofField h
  obtain ⟨_, _, rfl, h5, h⟩ := ofField h
  obtain ⟨_, _, rfl, h6, h⟩ := ofField h
  obtain ⟨_, _, rfl, h7, h⟩ := ofField h
  obtain rfl := ofEnd h
  obtain ⟨a, rfl, ha⟩ := ofStr h1
  obtain ⟨b, rfl, hb⟩ := ofI h2
  obtain ⟨c, rfl, hc⟩ := ofI h3
  obtain ⟨d, rfl, hd⟩ := ofU h4
  obtain ⟨e, rfl, he⟩ := ofStr h5
  obtain ⟨f, rfl, hf⟩ := ofSlice Xattr.v okXattr ofXattr h6
  obtain ⟨g, rfl, hg⟩ := ofI h7
  exact ⟨⟨a, b, c, d, e, some f, g⟩, rfl, ha, hb, hc, hd, he, hf, hg, f, rfl⟩
theorem ofItems (v : V) (h : HasV (.slice shItem) v) : ∃ l : List Item, v = .snap (l.map Item.v) ∧ l.length < N63 ∧ ∀ i ∈ l, okItem i := by
  obtain ⟨cs, h1, h2⟩ := h
  obtain ⟨l, rfl, hl, hi⟩ := ofSlice Item.v okItem ofItem h2
  simp [mkS, Sh.isAgg] at h1
  exact ⟨l, h1.symm, hl, hi⟩
end Go.Vm.Tryz
end
