/- The functions as the VM's code. -/
import Derived.Test.YthbfflleggnoaaaGreatDoorVmEq
set_option linter.unusedVariables false
set_option linter.unusedSimpArgs false
namespace Go.Vm.Tryz
open Go Go.Vm
/-! strings.genSplit -/
abbrev r229_1 : List SOper := [
  ⟨some 8, none, .mov (.c (.nils))⟩]
abbrev r229_2 : List SOper := [
  ⟨some 12, none, .mov (.t 3)⟩,
  ⟨some 13, none, .bin .eql (.t 12) (.c (.int .i64 0))⟩]
abbrev r229_3 : List SOper := [
  ⟨some 8, none, .mov (.c (.nils))⟩]
abbrev c229_4 : SC := .seq (.ops r229_3) (.ret)
abbrev c229_5 : SC := .cond (.t 13) c229_4 (.skip)
abbrev c229_6 : SC := .seq (.ops r229_2) c229_5
abbrev r229_7 : List SOper := [
  ⟨some 14, none, .mov (.t 1)⟩,
  ⟨some 15, none, .bin .eql (.t 14) (.c (.str []))⟩]
abbrev r229_8 : List SOper := [
  ⟨some 16, none, .mov (.t 0)⟩,
  ⟨some 17, none, .mov (.t 3)⟩,
  ⟨some 18, none, .call false (.c (.func 271 [])) [.t 16, .t 17]⟩,
  ⟨some 8, none, .mov (.t 18)⟩]
abbrev c229_9 : SC := .seq (.ops r229_8) (.ret)
abbrev c229_10 : SC := .cond (.t 15) c229_9 (.skip)
abbrev c229_11 : SC := .seq (.ops r229_7) c229_10
abbrev r229_12 : List SOper := [
  ⟨some 19, none, .mov (.t 3)⟩,
  ⟨some 20, none, .bin .lss (.t 19) (.c (.int .i64 0))⟩]
abbrev r229_13 : List SOper := [
  ⟨some 21, none, .mov (.t 0)⟩,
  ⟨some 22, none, .mov (.t 1)⟩,
  ⟨some 23, none, .call false (.c (.func 272 [])) [.t 21, .t 22]⟩,
  ⟨some 24, none, .bin .add (.t 23) (.c (.int .i64 1))⟩,
  ⟨some 3, none, .mov (.t 24)⟩]
abbrev c229_14 : SC := .cond (.t 20) (.ops r229_13) (.skip)
abbrev c229_15 : SC := .seq (.ops r229_12) c229_14
abbrev r229_16 : List SOper := [
  ⟨some 25, none, .mov (.t 3)⟩,
  ⟨some 26, none, .mov (.t 0)⟩,
  ⟨some 27, none, .len 0 (.t 26)⟩,
  ⟨some 28, none, .bin .add (.t 27) (.c (.int .i64 1))⟩,
  ⟨some 29, none, .minmax false [.t 25, .t 28]⟩,
  ⟨some 3, none, .mov (.t 29)⟩]
abbrev r229_17 : List SOper := [
  ⟨some 30, none, .mov (.t 3)⟩,
  ⟨some 31, none, .mkslice none 16 1 (.str []) (.t 30) (.t 30)⟩,
  ⟨some 9, none, .mov (.t 31)⟩]
abbrev r229_18 : List SOper := [
  ⟨some 32, none, .mov (.t 3)⟩,
  ⟨some 33, none, .bin .sub (.t 32) (.c (.int .i64 1))⟩,
  ⟨some 3, none, .mov (.t 33)⟩]
abbrev r229_19 : List SOper := [
  ⟨some 10, none, .mov (.c (.int .i64 0))⟩]
abbrev r229_20 : List SOper := [
  ⟨some 34, none, .mov (.t 10)⟩,
  ⟨some 35, none, .mov (.t 3)⟩,
  ⟨some 36, none, .bin .lss (.t 34) (.t 35)⟩]
abbrev c229_21 : SC := .cond (.t 36) (.skip) (.exit 0)
abbrev c229_22 : SC := .seq (.ops r229_20) c229_21
abbrev r229_23 : List SOper := [
  ⟨some 37, none, .mov (.t 0)⟩,
  ⟨some 38, none, .mov (.t 1)⟩,
  ⟨some 39, none, .call false (.c (.func 273 [])) [.t 37, .t 38]⟩,
  ⟨some 11, none, .mov (.t 39)⟩]
abbrev r229_24 : List SOper := [
  ⟨some 40, none, .mov (.t 11)⟩,
  ⟨some 41, none, .bin .lss (.t 40) (.c (.int .i64 0))⟩]
abbrev c229_25 : SC := .cond (.t 41) (.exit 0) (.skip)
abbrev c229_26 : SC := .seq (.ops r229_24) c229_25
abbrev r229_27 : List SOper := [
  ⟨some 42, none, .mov (.t 9)⟩,
  ⟨some 43, none, .mov (.t 10)⟩,
  ⟨some 44, none, .mov (.t 0)⟩,
  ⟨some 45, none, .mov (.t 11)⟩,
  ⟨some 46, none, .mov (.t 2)⟩,
  ⟨some 47, none, .bin .add (.t 45) (.t 46)⟩,
  ⟨some 48, none, .slice true 1 (.t 44) none (some (.t 47)) none⟩,
  ⟨some 49, none, .iaddr none 1 (.t 42) (.t 43)⟩,
  ⟨none, none, .store 1 (.t 49) (.t 48)⟩]
abbrev r229_28 : List SOper := [
  ⟨some 50, none, .mov (.t 0)⟩,
  ⟨some 51, none, .mov (.t 11)⟩,
  ⟨some 52, none, .mov (.t 1)⟩,
  ⟨some 53, none, .len 0 (.t 52)⟩,
  ⟨some 54, none, .bin .add (.t 51) (.t 53)⟩,
  ⟨some 55, none, .slice true 1 (.t 50) (some (.t 54)) none none⟩,
  ⟨some 0, none, .mov (.t 55)⟩]
abbrev r229_29 : List SOper := [
  ⟨some 56, none, .mov (.t 10)⟩,
  ⟨some 57, none, .bin .add (.t 56) (.c (.int .i64 1))⟩,
  ⟨some 10, none, .mov (.t 57)⟩]
abbrev c229_30 : SC := .seq (.ops r229_28) (.ops r229_29)
abbrev c229_31 : SC := .seq (.ops r229_27) c229_30
abbrev c229_32 : SC := .seq c229_26 c229_31
abbrev c229_33 : SC := .seq (.ops r229_23) c229_32
abbrev c229_34 : SC := .block 1 [0, 1, 2, 3, 9, 10] [] c229_33
abbrev c229_35 : SC := .seq c229_22 c229_34
abbrev L229_1 : SC := .loop [0, 1, 2, 3, 9, 10] [] c229_35
abbrev c229_36 : SC := .block 0 [0, 9, 10] [] L229_1
abbrev r229_37 : List SOper := [
  ⟨some 58, none, .mov (.t 9)⟩,
  ⟨some 59, none, .mov (.t 10)⟩,
  ⟨some 60, none, .mov (.t 0)⟩,
  ⟨some 61, none, .iaddr none 1 (.t 58) (.t 59)⟩,
  ⟨none, none, .store 1 (.t 61) (.t 60)⟩]
abbrev r229_38 : List SOper := [
  ⟨some 62, none, .mov (.t 9)⟩,
  ⟨some 63, none, .mov (.t 10)⟩,
  ⟨some 64, none, .bin .add (.t 63) (.c (.int .i64 1))⟩,
  ⟨some 65, none, .slice false 1 (.t 62) none (some (.t 64)) none⟩,
  ⟨some 8, none, .mov (.t 65)⟩]
abbrev c229_39 : SC := .seq (.ops r229_38) (.ret)
abbrev c229_40 : SC := .seq (.ops r229_37) c229_39
abbrev c229_41 : SC := .seq c229_36 c229_40
abbrev c229_42 : SC := .seq (.ops r229_19) c229_41
abbrev c229_43 : SC := .seq (.ops r229_18) c229_42
abbrev c229_44 : SC := .seq (.ops r229_17) c229_43
abbrev c229_45 : SC := .seq (.ops r229_16) c229_44
abbrev c229_46 : SC := .seq c229_15 c229_45
abbrev c229_47 : SC := .seq c229_11 c229_46
abbrev c229_48 : SC := .seq c229_6 c229_47
abbrev c229_49 : SC := .seq (.ops r229_1) c229_48
def s229 : SF := ⟨[.t 8], c229_49, false, none, none⟩
/-! strings.Contains -/
abbrev r230_1 : List SOper := [
  ⟨some 4, none, .mov (.c (.bool false))⟩]
abbrev r230_2 : List SOper := [
  ⟨some 5, none, .mov (.t 0)⟩,
  ⟨some 6, none, .mov (.t 1)⟩,
  ⟨some 7, none, .call false (.c (.func 273 [])) [.t 5, .t 6]⟩,
  ⟨some 8, none, .bin .geq (.t 7) (.c (.int .i64 0))⟩,
  ⟨some 4, none, .mov (.t 8)⟩]
abbrev c230_3 : SC := .seq (.ops r230_2) (.ret)
abbrev c230_4 : SC := .seq (.ops r230_1) c230_3
def s230 : SF := ⟨[.t 4], c230_4, false, none, none⟩
/-! crannog/view.step$1 -/
abbrev r231_1 : List SOper := [
  ⟨some 3, none, .boxL (.t 0)⟩,
  ⟨some 4, none, .mov (.c (.bool false))⟩]
abbrev r231_2 : List SOper := [
  ⟨some 5, none, .faddr 4 (.t 3)⟩,
  ⟨some 6, none, .load false true 2 (.t 5)⟩,
  ⟨some 7, none, .load false true 2 (.t 1)⟩,
  ⟨some 8, none, .cmpA false [.int .i64, .int .i64] (.t 6) (.t 7)⟩,
  ⟨some 9, none, .mov (.t 8)⟩,
  ⟨some 10, some (9, true), .faddr 6 (.t 3)⟩,
  ⟨some 11, some (9, true), .load false false 1 (.t 10)⟩,
  ⟨some 12, some (9, true), .load false false 1 (.t 2)⟩,
  ⟨some 13, some (9, true), .bin .eql (.t 11) (.t 12)⟩,
  ⟨some 14, none, .pick (.t 9) (.t 13) (.c (.bool false))⟩,
  ⟨some 4, none, .mov (.t 14)⟩]
abbrev c231_3 : SC := .seq (.ops r231_2) (.ret)
abbrev c231_4 : SC := .seq (.ops r231_1) c231_3
def s231 : SF := ⟨[.t 4], c231_4, false, none, none⟩
/-! crannog/vector.Is -/
abbrev r240_1 : List SOper := [
  ⟨some 1, none, .boxL (.t 0)⟩,
  ⟨some 2, none, .mov (.c (.bool false))⟩]
abbrev r240_2 : List SOper := [
  ⟨some 3, none, .faddr 0 (.t 1)⟩,
  ⟨some 4, none, .load false false 1 (.t 3)⟩,
  ⟨some 5, none, .bin .geq (.t 4) (.c (.int .i64 1))⟩,
  ⟨some 6, none, .mov (.t 5)⟩,
  ⟨some 7, some (6, true), .faddr 0 (.t 1)⟩,
  ⟨some 8, some (6, true), .load false false 1 (.t 7)⟩,
  ⟨some 9, some (6, true), .bin .leq (.t 8) (.c (.int .i64 1099511627776))⟩,
  ⟨some 10, none, .pick (.t 6) (.t 9) (.c (.bool false))⟩,
  ⟨some 11, none, .mov (.t 10)⟩,
  ⟨some 12, some (11, true), .faddr 1 (.t 1)⟩,
  ⟨some 13, some (11, true), .load false false 1 (.t 12)⟩,
  ⟨some 14, some (11, true), .bin .geq (.t 13) (.c (.int .i64 0))⟩,
  ⟨some 15, none, .pick (.t 11) (.t 14) (.c (.bool false))⟩,
  ⟨some 16, none, .mov (.t 15)⟩,
  ⟨some 17, some (16, true), .faddr 1 (.t 1)⟩,
  ⟨some 18, some (16, true), .load false false 1 (.t 17)⟩,
  ⟨some 19, some (16, true), .bin .lss (.t 18) (.c (.int .i64 8))⟩,
  ⟨some 20, none, .pick (.t 16) (.t 19) (.c (.bool false))⟩,
  ⟨some 2, none, .mov (.t 20)⟩]
abbrev c240_3 : SC := .seq (.ops r240_2) (.ret)
abbrev c240_4 : SC := .seq (.ops r240_1) c240_3
def s240 : SF := ⟨[.t 2], c240_4, false, none, none⟩
/-! slices.insertionSortCmpFunc[crannog/api.Shown] -/
abbrev r241_1 : List SOper := [
  ⟨some 10, none, .mov (.t 1)⟩,
  ⟨some 11, none, .bin .add (.t 10) (.c (.int .i64 1))⟩,
  ⟨some 8, none, .mov (.t 11)⟩]
abbrev r241_2 : List SOper := [
  ⟨some 12, none, .mov (.t 8)⟩,
  ⟨some 13, none, .mov (.t 2)⟩,
  ⟨some 14, none, .bin .lss (.t 12) (.t 13)⟩]
abbrev c241_3 : SC := .cond (.t 14) (.skip) (.exit 0)
abbrev c241_4 : SC := .seq (.ops r241_2) c241_3
abbrev r241_5 : List SOper := [
  ⟨some 17, none, .mov (.t 8)⟩,
  ⟨some 9, none, .mov (.t 17)⟩]
abbrev r241_6 : List SOper := [
  ⟨some 18, none, .mov (.t 9)⟩,
  ⟨some 19, none, .mov (.t 1)⟩,
  ⟨some 20, none, .bin .gtr (.t 18) (.t 19)⟩,
  ⟨some 21, none, .mov (.t 20)⟩,
  ⟨some 22, some (21, true), .mov (.t 3)⟩,
  ⟨some 23, some (21, true), .mov (.t 0)⟩,
  ⟨some 24, some (21, true), .mov (.t 9)⟩,
  ⟨some 25, some (21, true), .iaddr none 8 (.t 23) (.t 24)⟩,
  ⟨some 26, some (21, true), .load false true 8 (.t 25)⟩,
  ⟨some 27, some (21, true), .mov (.t 0)⟩,
  ⟨some 28, some (21, true), .mov (.t 9)⟩,
  ⟨some 29, some (21, true), .bin .sub (.t 28) (.c (.int .i64 1))⟩,
  ⟨some 30, some (21, true), .iaddr none 8 (.t 27) (.t 29)⟩,
  ⟨some 31, some (21, true), .load false true 8 (.t 30)⟩,
  ⟨some 32, some (21, true), .call false (.t 22) [.t 26, .t 31]⟩,
  ⟨some 33, some (21, true), .bin .lss (.t 32) (.c (.int .i64 0))⟩,
  ⟨some 34, none, .pick (.t 21) (.t 33) (.c (.bool false))⟩]
abbrev c241_7 : SC := .cond (.t 34) (.skip) (.exit 2)
abbrev c241_8 : SC := .seq (.draw 0 [[], [], [0, 1], [2], [3], [3], [3], [5, 6], [7], [3], [3], [10], [9, 11], [12], [4, 8, 13], [14], [15]] r241_6) c241_7
abbrev r241_9 : List SOper := [
  ⟨some 37, none, .mov (.t 0)⟩,
  ⟨some 38, none, .mov (.t 9)⟩,
  ⟨some 39, none, .mov (.t 0)⟩,
  ⟨some 40, none, .mov (.t 9)⟩,
  ⟨some 41, none, .bin .sub (.t 40) (.c (.int .i64 1))⟩,
  ⟨some 42, none, .mov (.t 0)⟩,
  ⟨some 43, none, .mov (.t 9)⟩,
  ⟨some 44, none, .bin .sub (.t 43) (.c (.int .i64 1))⟩,
  ⟨some 45, none, .iaddr none 8 (.t 42) (.t 44)⟩,
  ⟨some 46, none, .load false true 8 (.t 45)⟩,
  ⟨some 47, none, .mov (.t 0)⟩,
  ⟨some 48, none, .mov (.t 9)⟩,
  ⟨some 49, none, .iaddr none 8 (.t 47) (.t 48)⟩,
  ⟨some 50, none, .load false true 8 (.t 49)⟩,
  ⟨some 51, none, .iaddr none 8 (.t 37) (.t 38)⟩,
  ⟨none, none, .store 8 (.t 51) (.t 46)⟩,
  ⟨some 52, none, .iaddr none 8 (.t 39) (.t 41)⟩,
  ⟨none, none, .store 8 (.t 52) (.t 50)⟩]
abbrev c241_10 : SC := .block 3 [0, 1, 2, 3, 8, 9] [] (.draw 0 [[], [], [], [], [3], [], [], [6], [5, 7], [8], [], [], [10, 11], [12], [0, 1, 9, 13], [14], [2, 4, 15], [16]] r241_9)
abbrev r241_11 : List SOper := [
  ⟨some 35, none, .mov (.t 9)⟩,
  ⟨some 36, none, .bin .sub (.t 35) (.c (.int .i64 1))⟩,
  ⟨some 9, none, .mov (.t 36)⟩]
abbrev c241_12 : SC := .seq c241_10 (.ops r241_11)
abbrev c241_13 : SC := .seq c241_8 c241_12
abbrev L241_1 : SC := .loop [0, 1, 2, 3, 8, 9] [] c241_13
abbrev c241_14 : SC := .block 2 [0, 1, 2, 3, 8] [] L241_1
abbrev c241_15 : SC := .seq (.ops r241_5) c241_14
abbrev c241_16 : SC := .block 1 [0, 1, 2, 3, 8] [] c241_15
abbrev r241_17 : List SOper := [
  ⟨some 15, none, .mov (.t 8)⟩,
  ⟨some 16, none, .bin .add (.t 15) (.c (.int .i64 1))⟩,
  ⟨some 8, none, .mov (.t 16)⟩]
abbrev c241_18 : SC := .seq c241_16 (.ops r241_17)
abbrev c241_19 : SC := .seq c241_4 c241_18
abbrev L241_2 : SC := .loop [0, 1, 2, 3, 8] [] c241_19
abbrev c241_20 : SC := .block 0 [] [] L241_2
abbrev c241_21 : SC := .seq (.ops r241_1) c241_20
def s241 : SF := ⟨[], c241_21, false, none, none⟩
/-! math/bits.Len64 -/
abbrev r250_1 : List SOper := [
  ⟨some 2, none, .mov (.c (.int .i64 0))⟩]
abbrev r250_2 : List SOper := [
  ⟨some 3, none, .mov (.t 0)⟩,
  ⟨some 4, none, .bin .geq (.t 3) (.c (.int .u64 4294967296))⟩]
abbrev r250_3 : List SOper := [
  ⟨some 5, none, .mov (.t 0)⟩,
  ⟨some 6, none, .bin .shr (.t 5) (.c (.int .u64 32))⟩,
  ⟨some 0, none, .mov (.t 6)⟩]
abbrev r250_4 : List SOper := [
  ⟨some 2, none, .mov (.c (.int .i64 32))⟩]
abbrev c250_5 : SC := .seq (.ops r250_3) (.ops r250_4)
abbrev c250_6 : SC := .cond (.t 4) c250_5 (.skip)
abbrev c250_7 : SC := .seq (.ops r250_2) c250_6
abbrev r250_8 : List SOper := [
  ⟨some 7, none, .mov (.t 0)⟩,
  ⟨some 8, none, .bin .geq (.t 7) (.c (.int .u64 65536))⟩]
abbrev r250_9 : List SOper := [
  ⟨some 9, none, .mov (.t 0)⟩,
  ⟨some 10, none, .bin .shr (.t 9) (.c (.int .u64 16))⟩,
  ⟨some 0, none, .mov (.t 10)⟩]
abbrev r250_10 : List SOper := [
  ⟨some 11, none, .mov (.t 2)⟩,
  ⟨some 12, none, .bin .add (.t 11) (.c (.int .i64 16))⟩,
  ⟨some 2, none, .mov (.t 12)⟩]
abbrev c250_11 : SC := .seq (.ops r250_9) (.ops r250_10)
abbrev c250_12 : SC := .cond (.t 8) c250_11 (.skip)
abbrev c250_13 : SC := .seq (.ops r250_8) c250_12
abbrev r250_14 : List SOper := [
  ⟨some 13, none, .mov (.t 0)⟩,
  ⟨some 14, none, .bin .geq (.t 13) (.c (.int .u64 256))⟩]
abbrev r250_15 : List SOper := [
  ⟨some 15, none, .mov (.t 0)⟩,
  ⟨some 16, none, .bin .shr (.t 15) (.c (.int .u64 8))⟩,
  ⟨some 0, none, .mov (.t 16)⟩]
abbrev r250_16 : List SOper := [
  ⟨some 17, none, .mov (.t 2)⟩,
  ⟨some 18, none, .bin .add (.t 17) (.c (.int .i64 8))⟩,
  ⟨some 2, none, .mov (.t 18)⟩]
abbrev c250_17 : SC := .seq (.ops r250_15) (.ops r250_16)
abbrev c250_18 : SC := .cond (.t 14) c250_17 (.skip)
abbrev c250_19 : SC := .seq (.ops r250_14) c250_18
abbrev r250_20 : List SOper := [
  ⟨some 19, none, .mov (.t 2)⟩,
  ⟨some 20, none, .mov (.t 0)⟩,
  ⟨some 21, none, .cvI .u8 (.t 20)⟩,
  ⟨some 22, none, .index none (.c (.str [0, 1, 2, 2, 3, 3, 3, 3, 4, 4, 4, 4, 4, 4, 4, 4, 5, 5, 5, 5, 5, 5, 5, 5, 5, 5, 5, 5, 5, 5, 5, 5, 6, 6, 6, 6, 6, 6, 6, 6, 6, 6, 6, 6, 6, 6, 6, 6, 6, 6, 6, 6, 6, 6, 6, 6, 6, 6, 6, 6, 6, 6, 6, 6, 7, 7, 7, 7, 7, 7, 7, 7, 7, 7, 7, 7, 7, 7, 7, 7, 7, 7, 7, 7, 7, 7, 7, 7, 7, 7, 7, 7, 7, 7, 7, 7, 7, 7, 7, 7, 7, 7, 7, 7, 7, 7, 7, 7, 7, 7, 7, 7, 7, 7, 7, 7, 7, 7, 7, 7, 7, 7, 7, 7, 7, 7, 7, 7, 8, 8, 8, 8, 8, 8, 8, 8, 8, 8, 8, 8, 8, 8, 8, 8, 8, 8, 8, 8, 8, 8, 8, 8, 8, 8, 8, 8, 8, 8, 8, 8, 8, 8, 8, 8, 8, 8, 8, 8, 8, 8, 8, 8, 8, 8, 8, 8, 8, 8, 8, 8, 8, 8, 8, 8, 8, 8, 8, 8, 8, 8, 8, 8, 8, 8, 8, 8, 8, 8, 8, 8, 8, 8, 8, 8, 8, 8, 8, 8, 8, 8, 8, 8, 8, 8, 8, 8, 8, 8, 8, 8, 8, 8, 8, 8, 8, 8, 8, 8, 8, 8, 8, 8, 8, 8, 8, 8, 8, 8, 8, 8, 8, 8, 8, 8, 8, 8, 8, 8, 8, 8, 8, 8, 8, 8, 8, 8])) (.t 21)⟩,
  ⟨some 23, none, .cvI .i64 (.t 22)⟩,
  ⟨some 24, none, .bin .add (.t 19) (.t 23)⟩,
  ⟨some 2, none, .mov (.t 24)⟩]
abbrev c250_21 : SC := .seq (.ops r250_20) (.ret)
abbrev c250_22 : SC := .seq c250_19 c250_21
abbrev c250_23 : SC := .seq c250_13 c250_22
abbrev c250_24 : SC := .seq c250_7 c250_23
abbrev c250_25 : SC := .seq (.ops r250_1) c250_24
def s250 : SF := ⟨[.t 2], c250_25, false, none, none⟩
/-! crannog/names.Parent -/
abbrev r251_1 : List SOper := [
  ⟨some 2, none, .mov (.c (.nils))⟩,
  ⟨some 3, none, .mov (.c (.str []))⟩,
  ⟨some 4, none, .mov (.c (.int .i64 0))⟩]
abbrev r251_2 : List SOper := [
  ⟨some 8, none, .mov (.t 0)⟩,
  ⟨some 9, none, .call false (.c (.func 84 [])) [.t 8]⟩,
  ⟨some 7, none, .mov (.t 9)⟩,
  ⟨some 10, none, .extract (.t 7) 0⟩,
  ⟨some 11, none, .extract (.t 7) 1⟩,
  ⟨some 5, none, .mov (.t 10)⟩,
  ⟨some 6, none, .mov (.t 11)⟩]
abbrev r251_3 : List SOper := [
  ⟨some 12, none, .mov (.t 6)⟩,
  ⟨some 13, none, .bin .neq (.t 12) (.c (.int .i64 0))⟩]
abbrev r251_4 : List SOper := [
  ⟨some 14, none, .mov (.t 6)⟩,
  ⟨some 2, none, .mov (.c (.nils))⟩,
  ⟨some 3, none, .mov (.c (.str []))⟩,
  ⟨some 4, none, .mov (.t 14)⟩]
abbrev c251_5 : SC := .seq (.ops r251_4) (.ret)
abbrev c251_6 : SC := .cond (.t 13) c251_5 (.skip)
abbrev c251_7 : SC := .seq (.ops r251_3) c251_6
abbrev r251_8 : List SOper := [
  ⟨some 15, none, .mov (.t 5)⟩,
  ⟨some 16, none, .len 1 (.t 15)⟩,
  ⟨some 17, none, .bin .eql (.t 16) (.c (.int .i64 0))⟩]
abbrev r251_9 : List SOper := [
  ⟨some 2, none, .mov (.c (.nils))⟩,
  ⟨some 3, none, .mov (.c (.str []))⟩,
  ⟨some 4, none, .mov (.c (.int .i64 16))⟩]
abbrev c251_10 : SC := .seq (.ops r251_9) (.ret)
abbrev c251_11 : SC := .cond (.t 17) c251_10 (.skip)
abbrev c251_12 : SC := .seq (.ops r251_8) c251_11
abbrev r251_13 : List SOper := [
  ⟨some 18, none, .mov (.t 5)⟩,
  ⟨some 19, none, .mov (.t 5)⟩,
  ⟨some 20, none, .len 1 (.t 19)⟩,
  ⟨some 21, none, .bin .sub (.t 20) (.c (.int .i64 1))⟩,
  ⟨some 22, none, .mov (.t 5)⟩,
  ⟨some 23, none, .len 1 (.t 22)⟩,
  ⟨some 24, none, .bin .sub (.t 23) (.c (.int .i64 1))⟩,
  ⟨some 25, none, .slice false 1 (.t 18) none (some (.t 21)) (some (.t 24))⟩,
  ⟨some 26, none, .mov (.t 5)⟩,
  ⟨some 27, none, .mov (.t 5)⟩,
  ⟨some 28, none, .len 1 (.t 27)⟩,
  ⟨some 29, none, .bin .sub (.t 28) (.c (.int .i64 1))⟩,
  ⟨some 30, none, .iaddr none 1 (.t 26) (.t 29)⟩,
  ⟨some 31, none, .load false false 1 (.t 30)⟩,
  ⟨some 2, none, .mov (.t 25)⟩,
  ⟨some 3, none, .mov (.t 31)⟩,
  ⟨some 4, none, .mov (.c (.int .i64 0))⟩]
abbrev c251_14 : SC := .seq (.draw 0 [[], [], [1], [2], [], [4], [5], [0, 3, 6], [], [], [9], [10], [8, 11], [12], [7], [13, 14], [15]] r251_13) (.ret)
abbrev c251_15 : SC := .seq c251_12 c251_14
abbrev c251_16 : SC := .seq c251_7 c251_15
abbrev c251_17 : SC := .seq (.ops r251_2) c251_16
abbrev c251_18 : SC := .seq (.ops r251_1) c251_17
def s251 : SF := ⟨[.t 2, .t 3, .t 4], c251_18, false, none, none⟩
/-! crannog/names.Join -/
abbrev r252_1 : List SOper := [
  ⟨some 2, none, .mov (.c (.str []))⟩,
  ⟨some 3, none, .mov (.c (.int .i64 0))⟩]
abbrev r252_2 : List SOper := [
  ⟨some 7, none, .mov (.t 0)⟩,
  ⟨some 8, none, .mov (.t 0)⟩,
  ⟨some 9, none, .len 1 (.t 8)⟩,
  ⟨some 10, none, .minmax false [.t 9, .c (.int .i64 9)]⟩,
  ⟨some 11, none, .slice false 1 (.t 7) none (some (.t 10)) none⟩,
  ⟨some 12, none, .call false (.c (.func 283 [])) [.t 11, .c (.str [47])]⟩,
  ⟨some 13, none, .bin .add (.c (.str [47])) (.t 12)⟩,
  ⟨some 4, none, .mov (.t 13)⟩]
abbrev r252_3 : List SOper := [
  ⟨some 14, none, .mov (.t 0)⟩,
  ⟨some 15, none, .len 1 (.t 14)⟩,
  ⟨some 16, none, .bin .gtr (.t 15) (.c (.int .i64 8))⟩]
abbrev r252_4 : List SOper := [
  ⟨some 2, none, .mov (.c (.str []))⟩,
  ⟨some 3, none, .mov (.c (.int .i64 36))⟩]
abbrev c252_5 : SC := .seq (.ops r252_4) (.ret)
abbrev c252_6 : SC := .cond (.t 16) c252_5 (.skip)
abbrev c252_7 : SC := .seq (.ops r252_3) c252_6
abbrev r252_8 : List SOper := [
  ⟨some 18, none, .mov (.t 4)⟩,
  ⟨some 19, none, .call false (.c (.func 84 [])) [.t 18]⟩,
  ⟨some 17, none, .mov (.t 19)⟩,
  ⟨some 20, none, .extract (.t 17) 0⟩,
  ⟨some 21, none, .extract (.t 17) 1⟩,
  ⟨some 5, none, .mov (.t 20)⟩,
  ⟨some 6, none, .mov (.t 21)⟩]
abbrev r252_9 : List SOper := [
  ⟨some 22, none, .mov (.t 6)⟩,
  ⟨some 23, none, .bin .neq (.t 22) (.c (.int .i64 0))⟩,
  ⟨some 24, none, .mov (.t 23)⟩,
  ⟨some 25, some (24, false), .mov (.t 5)⟩,
  ⟨some 26, some (24, false), .mov (.t 0)⟩,
  ⟨some 27, some (24, false), .call false (.c (.func 34 [])) [.t 25, .t 26]⟩,
  ⟨some 28, some (24, false), .un .not (.t 27)⟩,
  ⟨some 29, none, .pick (.t 24) (.c (.bool true)) (.t 28)⟩]
abbrev r252_10 : List SOper := [
  ⟨some 30, none, .mov (.t 6)⟩,
  ⟨some 31, none, .minmax true [.t 30, .c (.int .i64 22)]⟩,
  ⟨some 2, none, .mov (.c (.str []))⟩,
  ⟨some 3, none, .mov (.t 31)⟩]
abbrev c252_11 : SC := .seq (.ops r252_10) (.ret)
abbrev c252_12 : SC := .cond (.t 29) c252_11 (.skip)
abbrev c252_13 : SC := .seq (.ops r252_9) c252_12
abbrev c252_14 : SC := .seq (.ops r252_8) c252_13
abbrev r252_15 : List SOper := [
  ⟨some 32, none, .mov (.t 4)⟩,
  ⟨some 2, none, .mov (.t 32)⟩,
  ⟨some 3, none, .mov (.c (.int .i64 0))⟩]
abbrev c252_16 : SC := .seq (.ops r252_15) (.ret)
abbrev c252_17 : SC := .seq c252_14 c252_16
abbrev c252_18 : SC := .seq c252_7 c252_17
abbrev c252_19 : SC := .seq (.ops r252_2) c252_18
abbrev c252_20 : SC := .seq (.ops r252_1) c252_19
def s252 : SF := ⟨[.t 2, .t 3], c252_20, false, none, none⟩
/-! crannog/vector.With -/
abbrev r254_1 : List SOper := [
  ⟨some 2, none, .boxL (.t 0)⟩,
  ⟨some 3, none, .boxL (.t 1)⟩,
  ⟨some 4, none, .allocL [.int .i64 0, .int .i64 0, .int .i64 0, .int .i64 0, .int .i64 0, .int .i64 0, .int .i64 0, .int .i64 0]⟩]
abbrev r254_2 : List SOper := [
  ⟨some 5, none, .load false true 2 (.t 3)⟩,
  ⟨some 6, none, .call false (.c (.func 240 [])) [.t 5]⟩]
abbrev r254_3 : List SOper := [
  ⟨some 7, none, .faddr 1 (.t 3)⟩,
  ⟨some 8, none, .load false false 1 (.t 7)⟩,
  ⟨some 9, none, .faddr 1 (.t 3)⟩,
  ⟨some 10, none, .load false false 1 (.t 9)⟩,
  ⟨some 11, none, .iaddr (some 8) 1 (.t 2) (.t 10)⟩,
  ⟨some 12, none, .load false false 1 (.t 11)⟩,
  ⟨some 13, none, .faddr 0 (.t 3)⟩,
  ⟨some 14, none, .load false false 1 (.t 13)⟩,
  ⟨some 15, none, .minmax true [.t 12, .t 14]⟩,
  ⟨some 16, none, .iaddr (some 8) 1 (.t 2) (.t 8)⟩,
  ⟨none, none, .store 1 (.t 16) (.t 15)⟩]
abbrev c254_4 : SC := .cond (.t 6) (.draw 0 [[], [0], [], [2], [3], [4], [], [6], [5, 7], [1, 8], [9]] r254_3) (.skip)
abbrev c254_5 : SC := .seq (.ops r254_2) c254_4
abbrev r254_6 : List SOper := [
  ⟨some 17, none, .load false true 8 (.t 2)⟩,
  ⟨none, none, .store 8 (.t 4) (.t 17)⟩]
abbrev c254_7 : SC := .seq (.ops r254_6) (.ret)
abbrev c254_8 : SC := .seq c254_5 c254_7
abbrev c254_9 : SC := .seq (.ops r254_1) c254_8
def s254 : SF := ⟨[.c 4 true 8], c254_9, false, none, none⟩
/-! slices.IndexFunc[[]crannog/api.Link,crannog/api.Link] -/
abbrev r258_1 : List SOper := [
  ⟨some 4, none, .mov (.c (.int .i64 0))⟩]
abbrev r258_2 : List SOper := [
  ⟨some 6, none, .mov (.t 0)⟩,
  ⟨some 7, none, .len 1 (.t 6)⟩,
  ⟨some 8, none, .mov (.c (.int .i64 0))⟩]
abbrev r258_3 : List SOper := [
  ⟨some 9, none, .bin .lss (.t 8) (.t 7)⟩]
abbrev c258_4 : SC := .cond (.t 9) (.skip) (.exit 0)
abbrev r258_5 : List SOper := [
  ⟨some 10, none, .mov (.t 8)⟩,
  ⟨some 5, none, .mov (.t 10)⟩]
abbrev r258_6 : List SOper := [
  ⟨some 11, none, .mov (.t 1)⟩,
  ⟨some 12, none, .mov (.t 0)⟩,
  ⟨some 13, none, .mov (.t 5)⟩,
  ⟨some 14, none, .iaddr none 25 (.t 12) (.t 13)⟩,
  ⟨some 15, none, .load false true 25 (.t 14)⟩,
  ⟨some 16, none, .call false (.t 11) [.t 15]⟩]
abbrev r258_7 : List SOper := [
  ⟨some 17, none, .mov (.t 5)⟩,
  ⟨some 4, none, .mov (.t 17)⟩]
abbrev c258_8 : SC := .seq (.ops r258_7) (.ret)
abbrev c258_9 : SC := .cond (.t 16) c258_8 (.skip)
abbrev c258_10 : SC := .seq (.ops r258_6) c258_9
abbrev c258_11 : SC := .seq (.ops r258_5) c258_10
abbrev c258_12 : SC := .block 1 [0, 1, 7, 8] [] c258_11
abbrev r258_13 : List SOper := [
  ⟨some 18, none, .bin .add (.t 8) (.c (.int .i64 1))⟩,
  ⟨some 8, none, .mov (.t 18)⟩]
abbrev c258_14 : SC := .seq c258_12 (.ops r258_13)
abbrev c258_15 : SC := .seq c258_4 c258_14
abbrev c258_16 : SC := .seq (.ops r258_3) c258_15
abbrev L258_1 : SC := .loop [0, 1, 7, 8] [] c258_16
abbrev c258_17 : SC := .block 0 [] [] L258_1
abbrev c258_18 : SC := .seq (.ops r258_2) c258_17
abbrev r258_19 : List SOper := [
  ⟨some 4, none, .mov (.c (.int .i64 (-1)))⟩]
abbrev c258_20 : SC := .seq (.ops r258_19) (.ret)
abbrev c258_21 : SC := .seq c258_18 c258_20
abbrev c258_22 : SC := .seq (.ops r258_1) c258_21
def s258 : SF := ⟨[.t 4], c258_22, false, none, none⟩
/-! slices.SortFunc[[]crannog/api.Link,crannog/api.Link] -/
abbrev r260_1 : List SOper := [
  ⟨some 5, none, .mov (.t 0)⟩,
  ⟨some 6, none, .len 1 (.t 5)⟩,
  ⟨some 4, none, .mov (.t 6)⟩]
abbrev r260_2 : List SOper := [
  ⟨some 7, none, .mov (.t 0)⟩,
  ⟨some 8, none, .mov (.t 4)⟩,
  ⟨some 9, none, .mov (.t 4)⟩,
  ⟨some 10, none, .cvI .u64 (.t 9)⟩,
  ⟨some 11, none, .call false (.c (.func 189 [])) [.t 10]⟩,
  ⟨some 12, none, .mov (.t 1)⟩,
  ⟨some 13, none, .call false (.c (.func 284 [])) [.t 7, .c (.int .i64 0), .t 8, .t 11, .t 12]⟩]
abbrev c260_3 : SC := .seq (.ops r260_1) (.ops r260_2)
def s260 : SF := ⟨[], c260_3, false, none, none⟩
/-! slices.Sort[[]string,string] -/
abbrev r262_1 : List SOper := [
  ⟨some 3, none, .mov (.t 0)⟩,
  ⟨some 4, none, .len 1 (.t 3)⟩,
  ⟨some 2, none, .mov (.t 4)⟩]
abbrev r262_2 : List SOper := [
  ⟨some 5, none, .mov (.t 0)⟩,
  ⟨some 6, none, .mov (.t 2)⟩,
  ⟨some 7, none, .mov (.t 2)⟩,
  ⟨some 8, none, .cvI .u64 (.t 7)⟩,
  ⟨some 9, none, .call false (.c (.func 189 [])) [.t 8]⟩,
  ⟨some 10, none, .call false (.c (.func 285 [])) [.t 5, .c (.int .i64 0), .t 6, .t 9]⟩]
abbrev c262_3 : SC := .seq (.ops r262_1) (.ops r262_2)
def s262 : SF := ⟨[], c262_3, false, none, none⟩
/-! crannog/view.Links -/
abbrev r263_1 : List SOper := [
  ⟨some 3, none, .boxL (.t 1)⟩,
  ⟨some 4, none, .mov (.c (.int .i64 0))⟩]
abbrev r263_2 : List SOper := [
  ⟨some 5, none, .mov (.c (.int .i64 0))⟩]
abbrev r263_3 : List SOper := [
  ⟨some 8, none, .mov (.t 0)⟩,
  ⟨some 9, none, .len 1 (.t 8)⟩,
  ⟨some 10, none, .mov (.c (.int .i64 0))⟩]
abbrev r263_4 : List SOper := [
  ⟨some 11, none, .bin .lss (.t 10) (.t 9)⟩]
abbrev c263_5 : SC := .cond (.t 11) (.skip) (.exit 0)
abbrev r263_6 : List SOper := [
  ⟨some 12, none, .iaddr none 8 (.t 8) (.t 10)⟩,
  ⟨some 13, none, .load false true 8 (.t 12)⟩,
  ⟨some 7, none, .allocL [.int .i64 0, .int .i64 0, .int .i64 0, .int .i64 0, .int .i64 0, .int .i64 0, .str [], .bool false]⟩,
  ⟨none, none, .store 8 (.t 7) (.t 13)⟩]
abbrev r263_7 : List SOper := [
  ⟨some 14, none, .faddr 2 (.t 7)⟩,
  ⟨some 15, none, .load false true 2 (.t 14)⟩,
  ⟨some 16, none, .load false true 2 (.t 3)⟩,
  ⟨some 17, none, .cmpA false [.int .i64, .int .i64] (.t 15) (.t 16)⟩]
abbrev r263_8 : List SOper := [
  ⟨some 18, none, .mov (.t 5)⟩,
  ⟨some 19, none, .bin .add (.t 18) (.c (.int .i64 1))⟩,
  ⟨some 5, none, .mov (.t 19)⟩]
abbrev c263_9 : SC := .cond (.t 17) (.ops r263_8) (.skip)
abbrev c263_10 : SC := .seq (.ops r263_7) c263_9
abbrev c263_11 : SC := .seq (.ops r263_6) c263_10
abbrev c263_12 : SC := .block 1 [3, 5, 8, 9, 10] [3] c263_11
abbrev r263_13 : List SOper := [
  ⟨some 20, none, .bin .add (.t 10) (.c (.int .i64 1))⟩,
  ⟨some 10, none, .mov (.t 20)⟩]
abbrev c263_14 : SC := .seq c263_12 (.ops r263_13)
abbrev c263_15 : SC := .seq c263_5 c263_14
abbrev c263_16 : SC := .seq (.ops r263_4) c263_15
abbrev L263_1 : SC := .loop [3, 5, 8, 9, 10] [3] c263_16
abbrev c263_17 : SC := .block 0 [5] [] L263_1
abbrev c263_18 : SC := .seq (.ops r263_3) c263_17
abbrev r263_19 : List SOper := [
  ⟨some 21, none, .mov (.t 5)⟩,
  ⟨some 4, none, .mov (.t 21)⟩]
abbrev c263_20 : SC := .seq (.ops r263_19) (.ret)
abbrev c263_21 : SC := .seq c263_18 c263_20
abbrev c263_22 : SC := .seq (.ops r263_2) c263_21
abbrev c263_23 : SC := .seq (.ops r263_1) c263_22
def s263 : SF := ⟨[.t 4], c263_23, false, none, none⟩
/-! slices.insertionSortCmpFunc[crannog/api.Inode] -/
abbrev r264_1 : List SOper := [
  ⟨some 10, none, .mov (.t 1)⟩,
  ⟨some 11, none, .bin .add (.t 10) (.c (.int .i64 1))⟩,
  ⟨some 8, none, .mov (.t 11)⟩]
abbrev r264_2 : List SOper := [
  ⟨some 12, none, .mov (.t 8)⟩,
  ⟨some 13, none, .mov (.t 2)⟩,
  ⟨some 14, none, .bin .lss (.t 12) (.t 13)⟩]
abbrev c264_3 : SC := .cond (.t 14) (.skip) (.exit 0)
abbrev c264_4 : SC := .seq (.ops r264_2) c264_3
abbrev r264_5 : List SOper := [
  ⟨some 17, none, .mov (.t 8)⟩,
  ⟨some 9, none, .mov (.t 17)⟩]
abbrev r264_6 : List SOper := [
  ⟨some 18, none, .mov (.t 9)⟩,
  ⟨some 19, none, .mov (.t 1)⟩,
  ⟨some 20, none, .bin .gtr (.t 18) (.t 19)⟩,
  ⟨some 21, none, .mov (.t 20)⟩,
  ⟨some 22, some (21, true), .mov (.t 3)⟩,
  ⟨some 23, some (21, true), .mov (.t 0)⟩,
  ⟨some 24, some (21, true), .mov (.t 9)⟩,
  ⟨some 25, some (21, true), .iaddr none 13 (.t 23) (.t 24)⟩,
  ⟨some 26, some (21, true), .load false true 13 (.t 25)⟩,
  ⟨some 27, some (21, true), .mov (.t 0)⟩,
  ⟨some 28, some (21, true), .mov (.t 9)⟩,
  ⟨some 29, some (21, true), .bin .sub (.t 28) (.c (.int .i64 1))⟩,
  ⟨some 30, some (21, true), .iaddr none 13 (.t 27) (.t 29)⟩,
  ⟨some 31, some (21, true), .load false true 13 (.t 30)⟩,
  ⟨some 32, some (21, true), .call false (.t 22) [.t 26, .t 31]⟩,
  ⟨some 33, some (21, true), .bin .lss (.t 32) (.c (.int .i64 0))⟩,
  ⟨some 34, none, .pick (.t 21) (.t 33) (.c (.bool false))⟩]
abbrev c264_7 : SC := .cond (.t 34) (.skip) (.exit 2)
abbrev c264_8 : SC := .seq (.draw 0 [[], [], [0, 1], [2], [3], [3], [3], [5, 6], [7], [3], [3], [10], [9, 11], [12], [4, 8, 13], [14], [15]] r264_6) c264_7
abbrev r264_9 : List SOper := [
  ⟨some 37, none, .mov (.t 0)⟩,
  ⟨some 38, none, .mov (.t 9)⟩,
  ⟨some 39, none, .mov (.t 0)⟩,
  ⟨some 40, none, .mov (.t 9)⟩,
  ⟨some 41, none, .bin .sub (.t 40) (.c (.int .i64 1))⟩,
  ⟨some 42, none, .mov (.t 0)⟩,
  ⟨some 43, none, .mov (.t 9)⟩,
  ⟨some 44, none, .bin .sub (.t 43) (.c (.int .i64 1))⟩,
  ⟨some 45, none, .iaddr none 13 (.t 42) (.t 44)⟩,
  ⟨some 46, none, .load false true 13 (.t 45)⟩,
  ⟨some 47, none, .mov (.t 0)⟩,
  ⟨some 48, none, .mov (.t 9)⟩,
  ⟨some 49, none, .iaddr none 13 (.t 47) (.t 48)⟩,
  ⟨some 50, none, .load false true 13 (.t 49)⟩,
  ⟨some 51, none, .iaddr none 13 (.t 37) (.t 38)⟩,
  ⟨none, none, .store 13 (.t 51) (.t 46)⟩,
  ⟨some 52, none, .iaddr none 13 (.t 39) (.t 41)⟩,
  ⟨none, none, .store 13 (.t 52) (.t 50)⟩]
abbrev c264_10 : SC := .block 3 [0, 1, 2, 3, 8, 9] [] (.draw 0 [[], [], [], [], [3], [], [], [6], [5, 7], [8], [], [], [10, 11], [12], [0, 1, 9, 13], [14], [2, 4, 15], [16]] r264_9)
abbrev r264_11 : List SOper := [
  ⟨some 35, none, .mov (.t 9)⟩,
  ⟨some 36, none, .bin .sub (.t 35) (.c (.int .i64 1))⟩,
  ⟨some 9, none, .mov (.t 36)⟩]
abbrev c264_12 : SC := .seq c264_10 (.ops r264_11)
abbrev c264_13 : SC := .seq c264_8 c264_12
abbrev L264_1 : SC := .loop [0, 1, 2, 3, 8, 9] [] c264_13
abbrev c264_14 : SC := .block 2 [0, 1, 2, 3, 8] [] L264_1
abbrev c264_15 : SC := .seq (.ops r264_5) c264_14
abbrev c264_16 : SC := .block 1 [0, 1, 2, 3, 8] [] c264_15
abbrev r264_17 : List SOper := [
  ⟨some 15, none, .mov (.t 8)⟩,
  ⟨some 16, none, .bin .add (.t 15) (.c (.int .i64 1))⟩,
  ⟨some 8, none, .mov (.t 16)⟩]
abbrev c264_18 : SC := .seq c264_16 (.ops r264_17)
abbrev c264_19 : SC := .seq c264_4 c264_18
abbrev L264_2 : SC := .loop [0, 1, 2, 3, 8] [] c264_19
abbrev c264_20 : SC := .block 0 [] [] L264_2
abbrev c264_21 : SC := .seq (.ops r264_1) c264_20
def s264 : SF := ⟨[], c264_21, false, none, none⟩
/-! slices.insertionSortCmpFunc[crannog/api.Link] -/
abbrev r267_1 : List SOper := [
  ⟨some 10, none, .mov (.t 1)⟩,
  ⟨some 11, none, .bin .add (.t 10) (.c (.int .i64 1))⟩,
  ⟨some 8, none, .mov (.t 11)⟩]
abbrev r267_2 : List SOper := [
  ⟨some 12, none, .mov (.t 8)⟩,
  ⟨some 13, none, .mov (.t 2)⟩,
  ⟨some 14, none, .bin .lss (.t 12) (.t 13)⟩]
abbrev c267_3 : SC := .cond (.t 14) (.skip) (.exit 0)
abbrev c267_4 : SC := .seq (.ops r267_2) c267_3
abbrev r267_5 : List SOper := [
  ⟨some 17, none, .mov (.t 8)⟩,
  ⟨some 9, none, .mov (.t 17)⟩]
abbrev r267_6 : List SOper := [
  ⟨some 18, none, .mov (.t 9)⟩,
  ⟨some 19, none, .mov (.t 1)⟩,
  ⟨some 20, none, .bin .gtr (.t 18) (.t 19)⟩,
  ⟨some 21, none, .mov (.t 20)⟩,
  ⟨some 22, some (21, true), .mov (.t 3)⟩,
  ⟨some 23, some (21, true), .mov (.t 0)⟩,
  ⟨some 24, some (21, true), .mov (.t 9)⟩,
  ⟨some 25, some (21, true), .iaddr none 25 (.t 23) (.t 24)⟩,
  ⟨some 26, some (21, true), .load false true 25 (.t 25)⟩,
  ⟨some 27, some (21, true), .mov (.t 0)⟩,
  ⟨some 28, some (21, true), .mov (.t 9)⟩,
  ⟨some 29, some (21, true), .bin .sub (.t 28) (.c (.int .i64 1))⟩,
  ⟨some 30, some (21, true), .iaddr none 25 (.t 27) (.t 29)⟩,
  ⟨some 31, some (21, true), .load false true 25 (.t 30)⟩,
  ⟨some 32, some (21, true), .call false (.t 22) [.t 26, .t 31]⟩,
  ⟨some 33, some (21, true), .bin .lss (.t 32) (.c (.int .i64 0))⟩,
  ⟨some 34, none, .pick (.t 21) (.t 33) (.c (.bool false))⟩]
abbrev c267_7 : SC := .cond (.t 34) (.skip) (.exit 2)
abbrev c267_8 : SC := .seq (.draw 0 [[], [], [0, 1], [2], [3], [3], [3], [5, 6], [7], [3], [3], [10], [9, 11], [12], [4, 8, 13], [14], [15]] r267_6) c267_7
abbrev r267_9 : List SOper := [
  ⟨some 37, none, .mov (.t 0)⟩,
  ⟨some 38, none, .mov (.t 9)⟩,
  ⟨some 39, none, .mov (.t 0)⟩,
  ⟨some 40, none, .mov (.t 9)⟩,
  ⟨some 41, none, .bin .sub (.t 40) (.c (.int .i64 1))⟩,
  ⟨some 42, none, .mov (.t 0)⟩,
  ⟨some 43, none, .mov (.t 9)⟩,
  ⟨some 44, none, .bin .sub (.t 43) (.c (.int .i64 1))⟩,
  ⟨some 45, none, .iaddr none 25 (.t 42) (.t 44)⟩,
  ⟨some 46, none, .load false true 25 (.t 45)⟩,
  ⟨some 47, none, .mov (.t 0)⟩,
  ⟨some 48, none, .mov (.t 9)⟩,
  ⟨some 49, none, .iaddr none 25 (.t 47) (.t 48)⟩,
  ⟨some 50, none, .load false true 25 (.t 49)⟩,
  ⟨some 51, none, .iaddr none 25 (.t 37) (.t 38)⟩,
  ⟨none, none, .store 25 (.t 51) (.t 46)⟩,
  ⟨some 52, none, .iaddr none 25 (.t 39) (.t 41)⟩,
  ⟨none, none, .store 25 (.t 52) (.t 50)⟩]
abbrev c267_10 : SC := .block 3 [0, 1, 2, 3, 8, 9] [] (.draw 0 [[], [], [], [], [3], [], [], [6], [5, 7], [8], [], [], [10, 11], [12], [0, 1, 9, 13], [14], [2, 4, 15], [16]] r267_9)
abbrev r267_11 : List SOper := [
  ⟨some 35, none, .mov (.t 9)⟩,
  ⟨some 36, none, .bin .sub (.t 35) (.c (.int .i64 1))⟩,
  ⟨some 9, none, .mov (.t 36)⟩]
abbrev c267_12 : SC := .seq c267_10 (.ops r267_11)
abbrev c267_13 : SC := .seq c267_8 c267_12
abbrev L267_1 : SC := .loop [0, 1, 2, 3, 8, 9] [] c267_13
abbrev c267_14 : SC := .block 2 [0, 1, 2, 3, 8] [] L267_1
abbrev c267_15 : SC := .seq (.ops r267_5) c267_14
abbrev c267_16 : SC := .block 1 [0, 1, 2, 3, 8] [] c267_15
abbrev r267_17 : List SOper := [
  ⟨some 15, none, .mov (.t 8)⟩,
  ⟨some 16, none, .bin .add (.t 15) (.c (.int .i64 1))⟩,
  ⟨some 8, none, .mov (.t 16)⟩]
abbrev c267_18 : SC := .seq c267_16 (.ops r267_17)
abbrev c267_19 : SC := .seq c267_4 c267_18
abbrev L267_2 : SC := .loop [0, 1, 2, 3, 8] [] c267_19
abbrev c267_20 : SC := .block 0 [] [] L267_2
abbrev c267_21 : SC := .seq (.ops r267_1) c267_20
def s267 : SF := ⟨[], c267_21, false, none, none⟩
/-! slices.stableCmpFunc[crannog/api.Piece] -/
abbrev r269_1 : List SOper := [
  ⟨some 6, none, .mov (.c (.int .i64 20))⟩]
abbrev r269_2 : List SOper := [
  ⟨some 10, none, .mov (.t 6)⟩,
  ⟨some 7, none, .mov (.c (.int .i64 0))⟩,
  ⟨some 8, none, .mov (.t 10)⟩]
abbrev r269_3 : List SOper := [
  ⟨some 11, none, .mov (.t 8)⟩,
  ⟨some 12, none, .mov (.t 1)⟩,
  ⟨some 13, none, .bin .leq (.t 11) (.t 12)⟩]
abbrev c269_4 : SC := .cond (.t 13) (.skip) (.exit 0)
abbrev c269_5 : SC := .seq (.ops r269_3) c269_4
abbrev r269_6 : List SOper := [
  ⟨some 14, none, .mov (.t 0)⟩,
  ⟨some 15, none, .mov (.t 7)⟩,
  ⟨some 16, none, .mov (.t 8)⟩,
  ⟨some 17, none, .mov (.t 2)⟩,
  ⟨some 18, none, .call false (.c (.func 288 [])) [.t 14, .t 15, .t 16, .t 17]⟩]
abbrev r269_7 : List SOper := [
  ⟨some 19, none, .mov (.t 8)⟩,
  ⟨some 7, none, .mov (.t 19)⟩]
abbrev r269_8 : List SOper := [
  ⟨some 20, none, .mov (.t 8)⟩,
  ⟨some 21, none, .mov (.t 6)⟩,
  ⟨some 22, none, .bin .add (.t 20) (.t 21)⟩,
  ⟨some 8, none, .mov (.t 22)⟩]
abbrev c269_9 : SC := .seq (.ops r269_7) (.ops r269_8)
abbrev c269_10 : SC := .seq (.ops r269_6) c269_9
abbrev c269_11 : SC := .block 1 [0, 1, 2, 6, 7, 8] [] c269_10
abbrev c269_12 : SC := .seq c269_5 c269_11
abbrev L269_1 : SC := .loop [0, 1, 2, 6, 7, 8] [] c269_12
abbrev c269_13 : SC := .block 0 [0, 1, 2, 6, 7] [] L269_1
abbrev r269_14 : List SOper := [
  ⟨some 23, none, .mov (.t 0)⟩,
  ⟨some 24, none, .mov (.t 7)⟩,
  ⟨some 25, none, .mov (.t 1)⟩,
  ⟨some 26, none, .mov (.t 2)⟩,
  ⟨some 27, none, .call false (.c (.func 288 [])) [.t 23, .t 24, .t 25, .t 26]⟩]
abbrev r269_15 : List SOper := [
  ⟨some 28, none, .mov (.t 6)⟩,
  ⟨some 29, none, .mov (.t 1)⟩,
  ⟨some 30, none, .bin .lss (.t 28) (.t 29)⟩]
abbrev c269_16 : SC := .cond (.t 30) (.skip) (.exit 2)
abbrev c269_17 : SC := .seq (.ops r269_15) c269_16
abbrev r269_18 : List SOper := [
  ⟨some 31, none, .mov (.t 6)⟩,
  ⟨some 32, none, .bin .mul (.c (.int .i64 2)) (.t 31)⟩,
  ⟨some 7, none, .mov (.c (.int .i64 0))⟩,
  ⟨some 8, none, .mov (.t 32)⟩]
abbrev r269_19 : List SOper := [
  ⟨some 33, none, .mov (.t 8)⟩,
  ⟨some 34, none, .mov (.t 1)⟩,
  ⟨some 35, none, .bin .leq (.t 33) (.t 34)⟩]
abbrev c269_20 : SC := .cond (.t 35) (.skip) (.exit 4)
abbrev c269_21 : SC := .seq (.ops r269_19) c269_20
abbrev r269_22 : List SOper := [
  ⟨some 36, none, .mov (.t 0)⟩,
  ⟨some 37, none, .mov (.t 7)⟩,
  ⟨some 38, none, .mov (.t 7)⟩,
  ⟨some 39, none, .mov (.t 6)⟩,
  ⟨some 40, none, .bin .add (.t 38) (.t 39)⟩,
  ⟨some 41, none, .mov (.t 8)⟩,
  ⟨some 42, none, .mov (.t 2)⟩,
  ⟨some 43, none, .call false (.c (.func 289 [])) [.t 36, .t 37, .t 40, .t 41, .t 42]⟩]
abbrev r269_23 : List SOper := [
  ⟨some 44, none, .mov (.t 8)⟩,
  ⟨some 7, none, .mov (.t 44)⟩]
abbrev r269_24 : List SOper := [
  ⟨some 45, none, .mov (.t 8)⟩,
  ⟨some 46, none, .mov (.t 6)⟩,
  ⟨some 47, none, .bin .mul (.c (.int .i64 2)) (.t 46)⟩,
  ⟨some 48, none, .bin .add (.t 45) (.t 47)⟩,
  ⟨some 8, none, .mov (.t 48)⟩]
abbrev c269_25 : SC := .seq (.ops r269_23) (.ops r269_24)
abbrev c269_26 : SC := .seq (.ops r269_22) c269_25
abbrev c269_27 : SC := .block 5 [0, 1, 2, 6, 7, 8] [] c269_26
abbrev c269_28 : SC := .seq c269_21 c269_27
abbrev L269_2 : SC := .loop [0, 1, 2, 6, 7, 8] [] c269_28
abbrev c269_29 : SC := .block 4 [0, 1, 2, 6, 7] [] L269_2
abbrev r269_30 : List SOper := [
  ⟨some 49, none, .mov (.t 7)⟩,
  ⟨some 50, none, .mov (.t 6)⟩,
  ⟨some 51, none, .bin .add (.t 49) (.t 50)⟩,
  ⟨some 9, none, .mov (.t 51)⟩]
abbrev r269_31 : List SOper := [
  ⟨some 52, none, .mov (.t 9)⟩,
  ⟨some 53, none, .mov (.t 1)⟩,
  ⟨some 54, none, .bin .lss (.t 52) (.t 53)⟩]
abbrev r269_32 : List SOper := [
  ⟨some 55, none, .mov (.t 0)⟩,
  ⟨some 56, none, .mov (.t 7)⟩,
  ⟨some 57, none, .mov (.t 9)⟩,
  ⟨some 58, none, .mov (.t 1)⟩,
  ⟨some 59, none, .mov (.t 2)⟩,
  ⟨some 60, none, .call false (.c (.func 289 [])) [.t 55, .t 56, .t 57, .t 58, .t 59]⟩]
abbrev c269_33 : SC := .cond (.t 54) (.ops r269_32) (.skip)
abbrev c269_34 : SC := .seq (.ops r269_31) c269_33
abbrev c269_35 : SC := .seq (.ops r269_30) c269_34
abbrev r269_36 : List SOper := [
  ⟨some 61, none, .mov (.t 6)⟩,
  ⟨some 62, none, .bin .mul (.t 61) (.c (.int .i64 2))⟩,
  ⟨some 6, none, .mov (.t 62)⟩]
abbrev c269_37 : SC := .seq c269_35 (.ops r269_36)
abbrev c269_38 : SC := .seq c269_29 c269_37
abbrev c269_39 : SC := .seq (.ops r269_18) c269_38
abbrev c269_40 : SC := .block 3 [0, 1, 2, 6] [] c269_39
abbrev c269_41 : SC := .seq c269_17 c269_40
abbrev L269_3 : SC := .loop [0, 1, 2, 6] [] c269_41
abbrev c269_42 : SC := .block 2 [] [] L269_3
abbrev c269_43 : SC := .seq (.ops r269_14) c269_42
abbrev c269_44 : SC := .seq c269_13 c269_43
abbrev c269_45 : SC := .seq (.ops r269_2) c269_44
abbrev c269_46 : SC := .seq (.ops r269_1) c269_45
def s269 : SF := ⟨[], c269_46, false, none, none⟩
/-! slices.stableCmpFunc[crannog/api.Xattr] -/
abbrev r270_1 : List SOper := [
  ⟨some 6, none, .mov (.c (.int .i64 20))⟩]
abbrev r270_2 : List SOper := [
  ⟨some 10, none, .mov (.t 6)⟩,
  ⟨some 7, none, .mov (.c (.int .i64 0))⟩,
  ⟨some 8, none, .mov (.t 10)⟩]
abbrev r270_3 : List SOper := [
  ⟨some 11, none, .mov (.t 8)⟩,
  ⟨some 12, none, .mov (.t 1)⟩,
  ⟨some 13, none, .bin .leq (.t 11) (.t 12)⟩]
abbrev c270_4 : SC := .cond (.t 13) (.skip) (.exit 0)
abbrev c270_5 : SC := .seq (.ops r270_3) c270_4
abbrev r270_6 : List SOper := [
  ⟨some 14, none, .mov (.t 0)⟩,
  ⟨some 15, none, .mov (.t 7)⟩,
  ⟨some 16, none, .mov (.t 8)⟩,
  ⟨some 17, none, .mov (.t 2)⟩,
  ⟨some 18, none, .call false (.c (.func 290 [])) [.t 14, .t 15, .t 16, .t 17]⟩]
abbrev r270_7 : List SOper := [
  ⟨some 19, none, .mov (.t 8)⟩,
  ⟨some 7, none, .mov (.t 19)⟩]
abbrev r270_8 : List SOper := [
  ⟨some 20, none, .mov (.t 8)⟩,
  ⟨some 21, none, .mov (.t 6)⟩,
  ⟨some 22, none, .bin .add (.t 20) (.t 21)⟩,
  ⟨some 8, none, .mov (.t 22)⟩]
abbrev c270_9 : SC := .seq (.ops r270_7) (.ops r270_8)
abbrev c270_10 : SC := .seq (.ops r270_6) c270_9
abbrev c270_11 : SC := .block 1 [0, 1, 2, 6, 7, 8] [] c270_10
abbrev c270_12 : SC := .seq c270_5 c270_11
abbrev L270_1 : SC := .loop [0, 1, 2, 6, 7, 8] [] c270_12
abbrev c270_13 : SC := .block 0 [0, 1, 2, 6, 7] [] L270_1
abbrev r270_14 : List SOper := [
  ⟨some 23, none, .mov (.t 0)⟩,
  ⟨some 24, none, .mov (.t 7)⟩,
  ⟨some 25, none, .mov (.t 1)⟩,
  ⟨some 26, none, .mov (.t 2)⟩,
  ⟨some 27, none, .call false (.c (.func 290 [])) [.t 23, .t 24, .t 25, .t 26]⟩]
abbrev r270_15 : List SOper := [
  ⟨some 28, none, .mov (.t 6)⟩,
  ⟨some 29, none, .mov (.t 1)⟩,
  ⟨some 30, none, .bin .lss (.t 28) (.t 29)⟩]
abbrev c270_16 : SC := .cond (.t 30) (.skip) (.exit 2)
abbrev c270_17 : SC := .seq (.ops r270_15) c270_16
abbrev r270_18 : List SOper := [
  ⟨some 31, none, .mov (.t 6)⟩,
  ⟨some 32, none, .bin .mul (.c (.int .i64 2)) (.t 31)⟩,
  ⟨some 7, none, .mov (.c (.int .i64 0))⟩,
  ⟨some 8, none, .mov (.t 32)⟩]
abbrev r270_19 : List SOper := [
  ⟨some 33, none, .mov (.t 8)⟩,
  ⟨some 34, none, .mov (.t 1)⟩,
  ⟨some 35, none, .bin .leq (.t 33) (.t 34)⟩]
abbrev c270_20 : SC := .cond (.t 35) (.skip) (.exit 4)
abbrev c270_21 : SC := .seq (.ops r270_19) c270_20
abbrev r270_22 : List SOper := [
  ⟨some 36, none, .mov (.t 0)⟩,
  ⟨some 37, none, .mov (.t 7)⟩,
  ⟨some 38, none, .mov (.t 7)⟩,
  ⟨some 39, none, .mov (.t 6)⟩,
  ⟨some 40, none, .bin .add (.t 38) (.t 39)⟩,
  ⟨some 41, none, .mov (.t 8)⟩,
  ⟨some 42, none, .mov (.t 2)⟩,
  ⟨some 43, none, .call false (.c (.func 291 [])) [.t 36, .t 37, .t 40, .t 41, .t 42]⟩]
abbrev r270_23 : List SOper := [
  ⟨some 44, none, .mov (.t 8)⟩,
  ⟨some 7, none, .mov (.t 44)⟩]
abbrev r270_24 : List SOper := [
  ⟨some 45, none, .mov (.t 8)⟩,
  ⟨some 46, none, .mov (.t 6)⟩,
  ⟨some 47, none, .bin .mul (.c (.int .i64 2)) (.t 46)⟩,
  ⟨some 48, none, .bin .add (.t 45) (.t 47)⟩,
  ⟨some 8, none, .mov (.t 48)⟩]
abbrev c270_25 : SC := .seq (.ops r270_23) (.ops r270_24)
abbrev c270_26 : SC := .seq (.ops r270_22) c270_25
abbrev c270_27 : SC := .block 5 [0, 1, 2, 6, 7, 8] [] c270_26
abbrev c270_28 : SC := .seq c270_21 c270_27
abbrev L270_2 : SC := .loop [0, 1, 2, 6, 7, 8] [] c270_28
abbrev c270_29 : SC := .block 4 [0, 1, 2, 6, 7] [] L270_2
abbrev r270_30 : List SOper := [
  ⟨some 49, none, .mov (.t 7)⟩,
  ⟨some 50, none, .mov (.t 6)⟩,
  ⟨some 51, none, .bin .add (.t 49) (.t 50)⟩,
  ⟨some 9, none, .mov (.t 51)⟩]
abbrev r270_31 : List SOper := [
  ⟨some 52, none, .mov (.t 9)⟩,
  ⟨some 53, none, .mov (.t 1)⟩,
  ⟨some 54, none, .bin .lss (.t 52) (.t 53)⟩]
abbrev r270_32 : List SOper := [
  ⟨some 55, none, .mov (.t 0)⟩,
  ⟨some 56, none, .mov (.t 7)⟩,
  ⟨some 57, none, .mov (.t 9)⟩,
  ⟨some 58, none, .mov (.t 1)⟩,
  ⟨some 59, none, .mov (.t 2)⟩,
  ⟨some 60, none, .call false (.c (.func 291 [])) [.t 55, .t 56, .t 57, .t 58, .t 59]⟩]
abbrev c270_33 : SC := .cond (.t 54) (.ops r270_32) (.skip)
abbrev c270_34 : SC := .seq (.ops r270_31) c270_33
abbrev c270_35 : SC := .seq (.ops r270_30) c270_34
abbrev r270_36 : List SOper := [
  ⟨some 61, none, .mov (.t 6)⟩,
  ⟨some 62, none, .bin .mul (.t 61) (.c (.int .i64 2))⟩,
  ⟨some 6, none, .mov (.t 62)⟩]
abbrev c270_37 : SC := .seq c270_35 (.ops r270_36)
abbrev c270_38 : SC := .seq c270_29 c270_37
abbrev c270_39 : SC := .seq (.ops r270_18) c270_38
abbrev c270_40 : SC := .block 3 [0, 1, 2, 6] [] c270_39
abbrev c270_41 : SC := .seq c270_17 c270_40
abbrev L270_3 : SC := .loop [0, 1, 2, 6] [] c270_41
abbrev c270_42 : SC := .block 2 [] [] L270_3
abbrev c270_43 : SC := .seq (.ops r270_14) c270_42
abbrev c270_44 : SC := .seq c270_13 c270_43
abbrev c270_45 : SC := .seq (.ops r270_2) c270_44
abbrev c270_46 : SC := .seq (.ops r270_1) c270_45
def s270 : SF := ⟨[], c270_46, false, none, none⟩
/-! strings.Count -/
abbrev r272_1 : List SOper := [
  ⟨some 4, none, .mov (.c (.int .i64 0))⟩]
abbrev r272_2 : List SOper := [
  ⟨some 7, none, .mov (.t 1)⟩,
  ⟨some 8, none, .len 0 (.t 7)⟩,
  ⟨some 9, none, .bin .eql (.t 8) (.c (.int .i64 0))⟩]
abbrev r272_3 : List SOper := [
  ⟨some 10, none, .mov (.t 0)⟩,
  ⟨some 11, none, .call false (.c (.func 292 [])) [.t 10]⟩,
  ⟨some 12, none, .bin .add (.t 11) (.c (.int .i64 1))⟩,
  ⟨some 4, none, .mov (.t 12)⟩]
abbrev c272_4 : SC := .seq (.ops r272_3) (.ret)
abbrev c272_5 : SC := .cond (.t 9) c272_4 (.skip)
abbrev c272_6 : SC := .seq (.ops r272_2) c272_5
abbrev r272_7 : List SOper := [
  ⟨some 13, none, .mov (.t 1)⟩,
  ⟨some 14, none, .len 0 (.t 13)⟩,
  ⟨some 15, none, .bin .eql (.t 14) (.c (.int .i64 1))⟩]
abbrev r272_8 : List SOper := [
  ⟨some 16, none, .mov (.t 0)⟩,
  ⟨some 17, none, .mov (.t 1)⟩,
  ⟨some 18, none, .index none (.t 17) (.c (.int .i64 0))⟩,
  ⟨some 19, none, .call false (.c (.func 294 [])) [.t 16, .t 18]⟩,
  ⟨some 4, none, .mov (.t 19)⟩]
abbrev c272_9 : SC := .seq (.ops r272_8) (.ret)
abbrev c272_10 : SC := .cond (.t 15) c272_9 (.skip)
abbrev c272_11 : SC := .seq (.ops r272_7) c272_10
abbrev r272_12 : List SOper := [
  ⟨some 5, none, .mov (.c (.int .i64 0))⟩]
abbrev r272_13 : List SOper := [
  ⟨some 20, none, .mov (.t 0)⟩,
  ⟨some 21, none, .mov (.t 1)⟩,
  ⟨some 22, none, .call false (.c (.func 273 [])) [.t 20, .t 21]⟩,
  ⟨some 6, none, .mov (.t 22)⟩]
abbrev r272_14 : List SOper := [
  ⟨some 23, none, .mov (.t 6)⟩,
  ⟨some 24, none, .bin .eql (.t 23) (.c (.int .i64 (-1)))⟩]
abbrev r272_15 : List SOper := [
  ⟨some 25, none, .mov (.t 5)⟩,
  ⟨some 4, none, .mov (.t 25)⟩]
abbrev c272_16 : SC := .seq (.ops r272_15) (.ret)
abbrev c272_17 : SC := .cond (.t 24) c272_16 (.skip)
abbrev c272_18 : SC := .seq (.ops r272_14) c272_17
abbrev r272_19 : List SOper := [
  ⟨some 26, none, .mov (.t 5)⟩,
  ⟨some 27, none, .bin .add (.t 26) (.c (.int .i64 1))⟩,
  ⟨some 5, none, .mov (.t 27)⟩]
abbrev r272_20 : List SOper := [
  ⟨some 28, none, .mov (.t 0)⟩,
  ⟨some 29, none, .mov (.t 6)⟩,
  ⟨some 30, none, .mov (.t 1)⟩,
  ⟨some 31, none, .len 0 (.t 30)⟩,
  ⟨some 32, none, .bin .add (.t 29) (.t 31)⟩,
  ⟨some 33, none, .slice true 1 (.t 28) (some (.t 32)) none none⟩,
  ⟨some 0, none, .mov (.t 33)⟩]
abbrev c272_21 : SC := .seq (.ops r272_19) (.ops r272_20)
abbrev c272_22 : SC := .seq c272_18 c272_21
abbrev c272_23 : SC := .seq (.ops r272_13) c272_22
abbrev c272_24 : SC := .block 1 [0, 1, 5] [] c272_23
abbrev L272_1 : SC := .loop [0, 1, 5] [] c272_24
abbrev c272_25 : SC := .block 0 [4] [] L272_1
abbrev c272_26 : SC := .seq (.ops r272_12) c272_25
abbrev c272_27 : SC := .seq c272_11 c272_26
abbrev c272_28 : SC := .seq c272_6 c272_27
abbrev c272_29 : SC := .seq (.ops r272_1) c272_28
def s272 : SF := ⟨[.t 4], c272_29, false, none, none⟩
/-! strings.Index -/
abbrev r273_1 : List SOper := [
  ⟨some 4, none, .mov (.c (.int .i64 0))⟩]
abbrev r273_2 : List SOper := [
  ⟨some 5, none, .mov (.t 0)⟩,
  ⟨some 6, none, .mov (.t 1)⟩,
  ⟨some 7, none, .call false (.c (.func 295 [])) [.t 5, .t 6]⟩,
  ⟨some 4, none, .mov (.t 7)⟩]
abbrev c273_3 : SC := .seq (.ops r273_2) (.ret)
abbrev c273_4 : SC := .seq (.ops r273_1) c273_3
def s273 : SF := ⟨[.t 4], c273_4, false, none, none⟩
/-! strings.Join -/
abbrev r283_1 : List SOper := [
  ⟨some 4, none, .mov (.c (.str []))⟩]
abbrev r283_2 : List SOper := [
  ⟨some 11, none, .mov (.t 0)⟩,
  ⟨some 12, none, .len 1 (.t 11)⟩]
abbrev r283_3 : List SOper := [
  ⟨some 14, none, .bin .eql (.t 12) (.c (.int .i64 0))⟩,
  ⟨some 13, none, .mov (.t 14)⟩]
abbrev r283_4 : List SOper := [
  ⟨some 4, none, .mov (.c (.str []))⟩]
abbrev c283_5 : SC := .seq (.ops r283_4) (.ret)
abbrev r283_6 : List SOper := [
  ⟨some 16, none, .bin .eql (.t 12) (.c (.int .i64 1))⟩,
  ⟨some 15, none, .mov (.t 16)⟩]
abbrev r283_7 : List SOper := [
  ⟨some 17, none, .mov (.t 0)⟩,
  ⟨some 18, none, .iaddr none 1 (.t 17) (.c (.int .i64 0))⟩,
  ⟨some 19, none, .load false false 1 (.t 18)⟩,
  ⟨some 4, none, .mov (.t 19)⟩]
abbrev c283_8 : SC := .seq (.ops r283_7) (.ret)
abbrev c283_9 : SC := .cond (.t 15) c283_8 (.skip)
abbrev c283_10 : SC := .seq (.ops r283_6) c283_9
abbrev c283_11 : SC := .cond (.t 13) c283_5 c283_10
abbrev c283_12 : SC := .seq (.ops r283_3) c283_11
abbrev c283_13 : SC := .block 0 [0, 1] [] c283_12
abbrev c283_14 : SC := .seq (.ops r283_2) c283_13
abbrev r283_15 : List SOper := [
  ⟨some 5, none, .mov (.c (.int .i64 0))⟩]
abbrev r283_16 : List SOper := [
  ⟨some 20, none, .mov (.t 1)⟩,
  ⟨some 21, none, .len 0 (.t 20)⟩,
  ⟨some 22, none, .bin .gtr (.t 21) (.c (.int .i64 0))⟩]
abbrev r283_17 : List SOper := [
  ⟨some 23, none, .mov (.t 1)⟩,
  ⟨some 24, none, .len 0 (.t 23)⟩,
  ⟨some 25, none, .mov (.t 0)⟩,
  ⟨some 26, none, .len 1 (.t 25)⟩,
  ⟨some 27, none, .bin .sub (.t 26) (.c (.int .i64 1))⟩,
  ⟨some 28, none, .bin .quo (.c (.int .i64 9223372036854775807)) (.t 27)⟩,
  ⟨some 29, none, .bin .geq (.t 24) (.t 28)⟩]
abbrev r283_18 : List SOper := [
  ⟨some 30, none, .mkif 9 (.c (.str [115, 116, 114, 105, 110, 103, 115, 58, 32, 74, 111, 105, 110, 32, 111, 117, 116, 112, 117, 116, 32, 108, 101, 110, 103, 116, 104, 32, 111, 118, 101, 114, 102, 108, 111, 119]))⟩,
  ⟨none, none, .panic (.t 30)⟩]
abbrev c283_19 : SC := .cond (.t 29) (.ops r283_18) (.skip)
abbrev c283_20 : SC := .seq (.ops r283_17) c283_19
abbrev r283_21 : List SOper := [
  ⟨some 31, none, .mov (.t 5)⟩,
  ⟨some 32, none, .mov (.t 1)⟩,
  ⟨some 33, none, .len 0 (.t 32)⟩,
  ⟨some 34, none, .mov (.t 0)⟩,
  ⟨some 35, none, .len 1 (.t 34)⟩,
  ⟨some 36, none, .bin .sub (.t 35) (.c (.int .i64 1))⟩,
  ⟨some 37, none, .bin .mul (.t 33) (.t 36)⟩,
  ⟨some 38, none, .bin .add (.t 31) (.t 37)⟩,
  ⟨some 5, none, .mov (.t 38)⟩]
abbrev c283_22 : SC := .seq c283_20 (.ops r283_21)
abbrev c283_23 : SC := .cond (.t 22) c283_22 (.skip)
abbrev c283_24 : SC := .seq (.ops r283_16) c283_23
abbrev r283_25 : List SOper := [
  ⟨some 39, none, .mov (.t 0)⟩,
  ⟨some 40, none, .len 1 (.t 39)⟩,
  ⟨some 41, none, .mov (.c (.int .i64 0))⟩]
abbrev r283_26 : List SOper := [
  ⟨some 42, none, .bin .lss (.t 41) (.t 40)⟩]
abbrev c283_27 : SC := .cond (.t 42) (.skip) (.exit 1)
abbrev r283_28 : List SOper := [
  ⟨some 43, none, .iaddr none 1 (.t 39) (.t 41)⟩,
  ⟨some 44, none, .load false false 1 (.t 43)⟩,
  ⟨some 7, none, .mov (.t 44)⟩]
abbrev r283_29 : List SOper := [
  ⟨some 45, none, .mov (.t 7)⟩,
  ⟨some 46, none, .len 0 (.t 45)⟩,
  ⟨some 47, none, .mov (.t 5)⟩,
  ⟨some 48, none, .bin .sub (.c (.int .i64 9223372036854775807)) (.t 47)⟩,
  ⟨some 49, none, .bin .gtr (.t 46) (.t 48)⟩]
abbrev r283_30 : List SOper := [
  ⟨some 50, none, .mkif 9 (.c (.str [115, 116, 114, 105, 110, 103, 115, 58, 32, 74, 111, 105, 110, 32, 111, 117, 116, 112, 117, 116, 32, 108, 101, 110, 103, 116, 104, 32, 111, 118, 101, 114, 102, 108, 111, 119]))⟩,
  ⟨none, none, .panic (.t 50)⟩]
abbrev c283_31 : SC := .cond (.t 49) (.ops r283_30) (.skip)
abbrev c283_32 : SC := .seq (.ops r283_29) c283_31
abbrev r283_33 : List SOper := [
  ⟨some 51, none, .mov (.t 5)⟩,
  ⟨some 52, none, .mov (.t 7)⟩,
  ⟨some 53, none, .len 0 (.t 52)⟩,
  ⟨some 54, none, .bin .add (.t 51) (.t 53)⟩,
  ⟨some 5, none, .mov (.t 54)⟩]
abbrev c283_34 : SC := .seq c283_32 (.ops r283_33)
abbrev c283_35 : SC := .seq (.ops r283_28) c283_34
abbrev c283_36 : SC := .block 2 [0, 1, 5, 39, 40, 41] [] c283_35
abbrev r283_37 : List SOper := [
  ⟨some 55, none, .bin .add (.t 41) (.c (.int .i64 1))⟩,
  ⟨some 41, none, .mov (.t 55)⟩]
abbrev c283_38 : SC := .seq c283_36 (.ops r283_37)
abbrev c283_39 : SC := .seq c283_27 c283_38
abbrev c283_40 : SC := .seq (.ops r283_26) c283_39
abbrev L283_1 : SC := .loop [0, 1, 5, 39, 40, 41] [] c283_40
abbrev c283_41 : SC := .block 1 [0, 1, 5] [] L283_1
abbrev c283_42 : SC := .seq (.ops r283_25) c283_41
abbrev r283_43 : List SOper := [
  ⟨some 8, none, .allocH none [.nilp, .nils]⟩]
abbrev r283_44 : List SOper := [
  ⟨some 56, none, .mov (.t 5)⟩,
  ⟨some 57, none, .call false (.c (.func 298 [])) [.t 8, .t 56]⟩]
abbrev r283_45 : List SOper := [
  ⟨some 58, none, .mov (.t 0)⟩,
  ⟨some 59, none, .iaddr none 1 (.t 58) (.c (.int .i64 0))⟩,
  ⟨some 60, none, .load false false 1 (.t 59)⟩,
  ⟨some 61, none, .call false (.c (.func 299 [])) [.t 8, .t 60]⟩]
abbrev r283_46 : List SOper := [
  ⟨some 62, none, .mov (.t 0)⟩,
  ⟨some 63, none, .slice false 1 (.t 62) (some (.c (.int .i64 1))) none none⟩,
  ⟨some 64, none, .len 1 (.t 63)⟩,
  ⟨some 65, none, .mov (.c (.int .i64 0))⟩]
abbrev r283_47 : List SOper := [
  ⟨some 66, none, .bin .lss (.t 65) (.t 64)⟩]
abbrev c283_48 : SC := .cond (.t 66) (.skip) (.exit 3)
abbrev r283_49 : List SOper := [
  ⟨some 67, none, .iaddr none 1 (.t 63) (.t 65)⟩,
  ⟨some 68, none, .load false false 1 (.t 67)⟩,
  ⟨some 10, none, .mov (.t 68)⟩]
abbrev r283_50 : List SOper := [
  ⟨some 69, none, .mov (.t 1)⟩,
  ⟨some 70, none, .call false (.c (.func 299 [])) [.t 8, .t 69]⟩]
abbrev r283_51 : List SOper := [
  ⟨some 71, none, .mov (.t 10)⟩,
  ⟨some 72, none, .call false (.c (.func 299 [])) [.t 8, .t 71]⟩]
abbrev c283_52 : SC := .seq (.ops r283_50) (.ops r283_51)
abbrev c283_53 : SC := .seq (.ops r283_49) c283_52
abbrev c283_54 : SC := .block 4 [1, 8, 63, 64, 65] [] c283_53
abbrev r283_55 : List SOper := [
  ⟨some 73, none, .bin .add (.t 65) (.c (.int .i64 1))⟩,
  ⟨some 65, none, .mov (.t 73)⟩]
abbrev c283_56 : SC := .seq c283_54 (.ops r283_55)
abbrev c283_57 : SC := .seq c283_48 c283_56
abbrev c283_58 : SC := .seq (.ops r283_47) c283_57
abbrev L283_2 : SC := .loop [1, 8, 63, 64, 65] [] c283_58
abbrev c283_59 : SC := .block 3 [8] [] L283_2
abbrev c283_60 : SC := .seq (.ops r283_46) c283_59
abbrev r283_61 : List SOper := [
  ⟨some 74, none, .call false (.c (.func 300 [])) [.t 8]⟩,
  ⟨some 4, none, .mov (.t 74)⟩]
abbrev c283_62 : SC := .seq (.ops r283_61) (.ret)
abbrev c283_63 : SC := .seq c283_60 c283_62
abbrev c283_64 : SC := .seq (.ops r283_45) c283_63
abbrev c283_65 : SC := .seq (.ops r283_44) c283_64
abbrev c283_66 : SC := .seq (.ops r283_43) c283_65
abbrev c283_67 : SC := .seq c283_42 c283_66
abbrev c283_68 : SC := .seq c283_24 c283_67
abbrev c283_69 : SC := .seq (.ops r283_15) c283_68
abbrev c283_70 : SC := .seq c283_14 c283_69
abbrev c283_71 : SC := .seq (.ops r283_1) c283_70
def s283 : SF := ⟨[.t 4], c283_71, false, none, none⟩
/-! slices.pdqsortCmpFunc[crannog/api.Link] -/
abbrev r284_1 : List SOper := [
  ⟨some 10, none, .mov (.c (.bool true))⟩]
abbrev r284_2 : List SOper := [
  ⟨some 11, none, .mov (.c (.bool true))⟩]
abbrev r284_3 : List SOper := [
  ⟨some 21, none, .mov (.t 2)⟩,
  ⟨some 22, none, .mov (.t 1)⟩,
  ⟨some 23, none, .bin .sub (.t 21) (.t 22)⟩,
  ⟨some 12, none, .mov (.t 23)⟩]
abbrev r284_4 : List SOper := [
  ⟨some 24, none, .mov (.t 12)⟩,
  ⟨some 25, none, .bin .leq (.t 24) (.c (.int .i64 12))⟩]
abbrev r284_5 : List SOper := [
  ⟨some 26, none, .mov (.t 0)⟩,
  ⟨some 27, none, .mov (.t 1)⟩,
  ⟨some 28, none, .mov (.t 2)⟩,
  ⟨some 29, none, .mov (.t 4)⟩,
  ⟨some 30, none, .call false (.c (.func 267 [])) [.t 26, .t 27, .t 28, .t 29]⟩]
abbrev c284_6 : SC := .seq (.ops r284_5) (.ret)
abbrev c284_7 : SC := .cond (.t 25) c284_6 (.skip)
abbrev c284_8 : SC := .seq (.ops r284_4) c284_7
abbrev r284_9 : List SOper := [
  ⟨some 31, none, .mov (.t 3)⟩,
  ⟨some 32, none, .bin .eql (.t 31) (.c (.int .i64 0))⟩]
abbrev r284_10 : List SOper := [
  ⟨some 33, none, .mov (.t 0)⟩,
  ⟨some 34, none, .mov (.t 1)⟩,
  ⟨some 35, none, .mov (.t 2)⟩,
  ⟨some 36, none, .mov (.t 4)⟩,
  ⟨some 37, none, .call false (.c (.func 301 [])) [.t 33, .t 34, .t 35, .t 36]⟩]
abbrev c284_11 : SC := .seq (.ops r284_10) (.ret)
abbrev c284_12 : SC := .cond (.t 32) c284_11 (.skip)
abbrev c284_13 : SC := .seq (.ops r284_9) c284_12
abbrev r284_14 : List SOper := [
  ⟨some 38, none, .mov (.t 10)⟩,
  ⟨some 39, none, .un .not (.t 38)⟩]
abbrev r284_15 : List SOper := [
  ⟨some 40, none, .mov (.t 0)⟩,
  ⟨some 41, none, .mov (.t 1)⟩,
  ⟨some 42, none, .mov (.t 2)⟩,
  ⟨some 43, none, .mov (.t 4)⟩,
  ⟨some 44, none, .call false (.c (.func 302 [])) [.t 40, .t 41, .t 42, .t 43]⟩]
abbrev r284_16 : List SOper := [
  ⟨some 45, none, .mov (.t 3)⟩,
  ⟨some 46, none, .bin .sub (.t 45) (.c (.int .i64 1))⟩,
  ⟨some 3, none, .mov (.t 46)⟩]
abbrev c284_17 : SC := .seq (.ops r284_15) (.ops r284_16)
abbrev c284_18 : SC := .cond (.t 39) c284_17 (.skip)
abbrev c284_19 : SC := .seq (.ops r284_14) c284_18
abbrev r284_20 : List SOper := [
  ⟨some 48, none, .mov (.t 0)⟩,
  ⟨some 49, none, .mov (.t 1)⟩,
  ⟨some 50, none, .mov (.t 2)⟩,
  ⟨some 51, none, .mov (.t 4)⟩,
  ⟨some 52, none, .call false (.c (.func 303 [])) [.t 48, .t 49, .t 50, .t 51]⟩,
  ⟨some 47, none, .mov (.t 52)⟩,
  ⟨some 53, none, .extract (.t 47) 0⟩,
  ⟨some 54, none, .extract (.t 47) 1⟩,
  ⟨some 13, none, .mov (.t 53)⟩,
  ⟨some 14, none, .mov (.t 54)⟩]
abbrev r284_21 : List SOper := [
  ⟨some 55, none, .mov (.t 14)⟩,
  ⟨some 56, none, .bin .eql (.t 55) (.c (.int .i64 2))⟩]
abbrev r284_22 : List SOper := [
  ⟨some 57, none, .mov (.t 0)⟩,
  ⟨some 58, none, .mov (.t 1)⟩,
  ⟨some 59, none, .mov (.t 2)⟩,
  ⟨some 60, none, .mov (.t 4)⟩,
  ⟨some 61, none, .call false (.c (.func 304 [])) [.t 57, .t 58, .t 59, .t 60]⟩]
abbrev r284_23 : List SOper := [
  ⟨some 62, none, .mov (.t 2)⟩,
  ⟨some 63, none, .bin .sub (.t 62) (.c (.int .i64 1))⟩,
  ⟨some 64, none, .mov (.t 13)⟩,
  ⟨some 65, none, .mov (.t 1)⟩,
  ⟨some 66, none, .bin .sub (.t 64) (.t 65)⟩,
  ⟨some 67, none, .bin .sub (.t 63) (.t 66)⟩,
  ⟨some 13, none, .mov (.t 67)⟩]
abbrev r284_24 : List SOper := [
  ⟨some 14, none, .mov (.c (.int .i64 1))⟩]
abbrev c284_25 : SC := .seq (.ops r284_23) (.ops r284_24)
abbrev c284_26 : SC := .seq (.ops r284_22) c284_25
abbrev c284_27 : SC := .cond (.t 56) c284_26 (.skip)
abbrev c284_28 : SC := .seq (.ops r284_21) c284_27
abbrev r284_29 : List SOper := [
  ⟨some 68, none, .mov (.t 10)⟩,
  ⟨some 69, none, .mov (.t 68)⟩,
  ⟨some 70, some (69, true), .mov (.t 11)⟩,
  ⟨some 71, none, .pick (.t 69) (.t 70) (.c (.bool false))⟩,
  ⟨some 72, none, .mov (.t 71)⟩,
  ⟨some 73, some (72, true), .mov (.t 14)⟩,
  ⟨some 74, some (72, true), .bin .eql (.t 73) (.c (.int .i64 1))⟩,
  ⟨some 75, none, .pick (.t 72) (.t 74) (.c (.bool false))⟩]
abbrev r284_30 : List SOper := [
  ⟨some 76, none, .mov (.t 0)⟩,
  ⟨some 77, none, .mov (.t 1)⟩,
  ⟨some 78, none, .mov (.t 2)⟩,
  ⟨some 79, none, .mov (.t 4)⟩,
  ⟨some 80, none, .call false (.c (.func 305 [])) [.t 76, .t 77, .t 78, .t 79]⟩]
abbrev c284_31 : SC := .cond (.t 80) (.ret) (.skip)
abbrev c284_32 : SC := .seq (.ops r284_30) c284_31
abbrev c284_33 : SC := .cond (.t 75) c284_32 (.skip)
abbrev c284_34 : SC := .seq (.ops r284_29) c284_33
abbrev r284_35 : List SOper := [
  ⟨some 81, none, .mov (.t 1)⟩,
  ⟨some 82, none, .bin .gtr (.t 81) (.c (.int .i64 0))⟩,
  ⟨some 83, none, .mov (.t 82)⟩,
  ⟨some 84, some (83, true), .mov (.t 4)⟩,
  ⟨some 85, some (83, true), .mov (.t 0)⟩,
  ⟨some 86, some (83, true), .mov (.t 1)⟩,
  ⟨some 87, some (83, true), .bin .sub (.t 86) (.c (.int .i64 1))⟩,
  ⟨some 88, some (83, true), .iaddr none 25 (.t 85) (.t 87)⟩,
  ⟨some 89, some (83, true), .load false true 25 (.t 88)⟩,
  ⟨some 90, some (83, true), .mov (.t 0)⟩,
  ⟨some 91, some (83, true), .mov (.t 13)⟩,
  ⟨some 92, some (83, true), .iaddr none 25 (.t 90) (.t 91)⟩,
  ⟨some 93, some (83, true), .load false true 25 (.t 92)⟩,
  ⟨some 94, some (83, true), .call false (.t 84) [.t 89, .t 93]⟩,
  ⟨some 95, some (83, true), .bin .lss (.t 94) (.c (.int .i64 0))⟩,
  ⟨some 96, some (83, true), .un .not (.t 95)⟩,
  ⟨some 97, none, .pick (.t 83) (.t 96) (.c (.bool false))⟩]
abbrev r284_36 : List SOper := [
  ⟨some 98, none, .mov (.t 0)⟩,
  ⟨some 99, none, .mov (.t 1)⟩,
  ⟨some 100, none, .mov (.t 2)⟩,
  ⟨some 101, none, .mov (.t 13)⟩,
  ⟨some 102, none, .mov (.t 4)⟩,
  ⟨some 103, none, .call false (.c (.func 306 [])) [.t 98, .t 99, .t 100, .t 101, .t 102]⟩,
  ⟨some 15, none, .mov (.t 103)⟩]
abbrev r284_37 : List SOper := [
  ⟨some 104, none, .mov (.t 15)⟩,
  ⟨some 1, none, .mov (.t 104)⟩]
abbrev c284_38 : SC := .seq (.ops r284_37) (.exit 1)
abbrev c284_39 : SC := .seq (.ops r284_36) c284_38
abbrev c284_40 : SC := .cond (.t 97) c284_39 (.skip)
abbrev c284_41 : SC := .seq (.draw 0 [[], [0], [1], [2], [2], [2], [5], [4, 6], [7], [2], [2], [9, 10], [11], [3, 8, 12], [13], [14], [15]] r284_35) c284_40
abbrev r284_42 : List SOper := [
  ⟨some 106, none, .mov (.t 0)⟩,
  ⟨some 107, none, .mov (.t 1)⟩,
  ⟨some 108, none, .mov (.t 2)⟩,
  ⟨some 109, none, .mov (.t 13)⟩,
  ⟨some 110, none, .mov (.t 4)⟩,
  ⟨some 111, none, .call false (.c (.func 307 [])) [.t 106, .t 107, .t 108, .t 109, .t 110]⟩,
  ⟨some 105, none, .mov (.t 111)⟩,
  ⟨some 112, none, .extract (.t 105) 0⟩,
  ⟨some 113, none, .extract (.t 105) 1⟩,
  ⟨some 16, none, .mov (.t 112)⟩,
  ⟨some 17, none, .mov (.t 113)⟩]
abbrev r284_43 : List SOper := [
  ⟨some 114, none, .mov (.t 17)⟩,
  ⟨some 11, none, .mov (.t 114)⟩]
abbrev r284_44 : List SOper := [
  ⟨some 115, none, .mov (.t 16)⟩,
  ⟨some 116, none, .mov (.t 1)⟩,
  ⟨some 117, none, .bin .sub (.t 115) (.t 116)⟩,
  ⟨some 118, none, .mov (.t 2)⟩,
  ⟨some 119, none, .mov (.t 16)⟩,
  ⟨some 120, none, .bin .sub (.t 118) (.t 119)⟩,
  ⟨some 18, none, .mov (.t 117)⟩,
  ⟨some 19, none, .mov (.t 120)⟩]
abbrev r284_45 : List SOper := [
  ⟨some 121, none, .mov (.t 12)⟩,
  ⟨some 122, none, .bin .quo (.t 121) (.c (.int .i64 8))⟩,
  ⟨some 20, none, .mov (.t 122)⟩]
abbrev r284_46 : List SOper := [
  ⟨some 123, none, .mov (.t 18)⟩,
  ⟨some 124, none, .mov (.t 19)⟩,
  ⟨some 125, none, .bin .lss (.t 123) (.t 124)⟩]
abbrev r284_47 : List SOper := [
  ⟨some 126, none, .mov (.t 18)⟩,
  ⟨some 127, none, .mov (.t 20)⟩,
  ⟨some 128, none, .bin .geq (.t 126) (.t 127)⟩,
  ⟨some 10, none, .mov (.t 128)⟩]
abbrev r284_48 : List SOper := [
  ⟨some 129, none, .mov (.t 0)⟩,
  ⟨some 130, none, .mov (.t 1)⟩,
  ⟨some 131, none, .mov (.t 16)⟩,
  ⟨some 132, none, .mov (.t 3)⟩,
  ⟨some 133, none, .mov (.t 4)⟩,
  ⟨some 134, none, .call false (.c (.func 284 [])) [.t 129, .t 130, .t 131, .t 132, .t 133]⟩]
abbrev r284_49 : List SOper := [
  ⟨some 135, none, .mov (.t 16)⟩,
  ⟨some 136, none, .bin .add (.t 135) (.c (.int .i64 1))⟩,
  ⟨some 1, none, .mov (.t 136)⟩]
abbrev c284_50 : SC := .seq (.ops r284_48) (.ops r284_49)
abbrev c284_51 : SC := .seq (.ops r284_47) c284_50
abbrev r284_52 : List SOper := [
  ⟨some 137, none, .mov (.t 19)⟩,
  ⟨some 138, none, .mov (.t 20)⟩,
  ⟨some 139, none, .bin .geq (.t 137) (.t 138)⟩,
  ⟨some 10, none, .mov (.t 139)⟩]
abbrev r284_53 : List SOper := [
  ⟨some 140, none, .mov (.t 0)⟩,
  ⟨some 141, none, .mov (.t 16)⟩,
  ⟨some 142, none, .bin .add (.t 141) (.c (.int .i64 1))⟩,
  ⟨some 143, none, .mov (.t 2)⟩,
  ⟨some 144, none, .mov (.t 3)⟩,
  ⟨some 145, none, .mov (.t 4)⟩,
  ⟨some 146, none, .call false (.c (.func 284 [])) [.t 140, .t 142, .t 143, .t 144, .t 145]⟩]
abbrev r284_54 : List SOper := [
  ⟨some 147, none, .mov (.t 16)⟩,
  ⟨some 2, none, .mov (.t 147)⟩]
abbrev c284_55 : SC := .seq (.ops r284_53) (.ops r284_54)
abbrev c284_56 : SC := .seq (.ops r284_52) c284_55
abbrev c284_57 : SC := .cond (.t 125) c284_51 c284_56
abbrev c284_58 : SC := .seq (.ops r284_46) c284_57
abbrev c284_59 : SC := .seq (.ops r284_45) c284_58
abbrev c284_60 : SC := .seq (.ops r284_44) c284_59
abbrev c284_61 : SC := .seq (.ops r284_43) c284_60
abbrev c284_62 : SC := .seq (.ops r284_42) c284_61
abbrev c284_63 : SC := .seq c284_41 c284_62
abbrev c284_64 : SC := .seq c284_34 c284_63
abbrev c284_65 : SC := .seq c284_28 c284_64
abbrev c284_66 : SC := .seq (.ops r284_20) c284_65
abbrev c284_67 : SC := .seq c284_19 c284_66
abbrev c284_68 : SC := .seq c284_13 c284_67
abbrev c284_69 : SC := .seq c284_8 c284_68
abbrev c284_70 : SC := .seq (.ops r284_3) c284_69
abbrev c284_71 : SC := .block 1 [0, 1, 2, 3, 4, 10, 11] [] c284_70
abbrev L284_1 : SC := .loop [0, 1, 2, 3, 4, 10, 11] [] c284_71
abbrev c284_72 : SC := .block 0 [] [] L284_1
abbrev c284_73 : SC := .seq (.ops r284_2) c284_72
abbrev c284_74 : SC := .seq (.ops r284_1) c284_73
def s284 : SF := ⟨[], c284_74, false, none, none⟩
/-! slices.pdqsortOrdered[string] -/
abbrev r285_1 : List SOper := [
  ⟨some 8, none, .mov (.c (.bool true))⟩]
abbrev r285_2 : List SOper := [
  ⟨some 9, none, .mov (.c (.bool true))⟩]
abbrev r285_3 : List SOper := [
  ⟨some 19, none, .mov (.t 2)⟩,
  ⟨some 20, none, .mov (.t 1)⟩,
  ⟨some 21, none, .bin .sub (.t 19) (.t 20)⟩,
  ⟨some 10, none, .mov (.t 21)⟩]
abbrev r285_4 : List SOper := [
  ⟨some 22, none, .mov (.t 10)⟩,
  ⟨some 23, none, .bin .leq (.t 22) (.c (.int .i64 12))⟩]
abbrev r285_5 : List SOper := [
  ⟨some 24, none, .mov (.t 0)⟩,
  ⟨some 25, none, .mov (.t 1)⟩,
  ⟨some 26, none, .mov (.t 2)⟩,
  ⟨some 27, none, .call false (.c (.func 308 [])) [.t 24, .t 25, .t 26]⟩]
abbrev c285_6 : SC := .seq (.ops r285_5) (.ret)
abbrev c285_7 : SC := .cond (.t 23) c285_6 (.skip)
abbrev c285_8 : SC := .seq (.ops r285_4) c285_7
abbrev r285_9 : List SOper := [
  ⟨some 28, none, .mov (.t 3)⟩,
  ⟨some 29, none, .bin .eql (.t 28) (.c (.int .i64 0))⟩]
abbrev r285_10 : List SOper := [
  ⟨some 30, none, .mov (.t 0)⟩,
  ⟨some 31, none, .mov (.t 1)⟩,
  ⟨some 32, none, .mov (.t 2)⟩,
  ⟨some 33, none, .call false (.c (.func 309 [])) [.t 30, .t 31, .t 32]⟩]
abbrev c285_11 : SC := .seq (.ops r285_10) (.ret)
abbrev c285_12 : SC := .cond (.t 29) c285_11 (.skip)
abbrev c285_13 : SC := .seq (.ops r285_9) c285_12
abbrev r285_14 : List SOper := [
  ⟨some 34, none, .mov (.t 8)⟩,
  ⟨some 35, none, .un .not (.t 34)⟩]
abbrev r285_15 : List SOper := [
  ⟨some 36, none, .mov (.t 0)⟩,
  ⟨some 37, none, .mov (.t 1)⟩,
  ⟨some 38, none, .mov (.t 2)⟩,
  ⟨some 39, none, .call false (.c (.func 310 [])) [.t 36, .t 37, .t 38]⟩]
abbrev r285_16 : List SOper := [
  ⟨some 40, none, .mov (.t 3)⟩,
  ⟨some 41, none, .bin .sub (.t 40) (.c (.int .i64 1))⟩,
  ⟨some 3, none, .mov (.t 41)⟩]
abbrev c285_17 : SC := .seq (.ops r285_15) (.ops r285_16)
abbrev c285_18 : SC := .cond (.t 35) c285_17 (.skip)
abbrev c285_19 : SC := .seq (.ops r285_14) c285_18
abbrev r285_20 : List SOper := [
  ⟨some 43, none, .mov (.t 0)⟩,
  ⟨some 44, none, .mov (.t 1)⟩,
  ⟨some 45, none, .mov (.t 2)⟩,
  ⟨some 46, none, .call false (.c (.func 311 [])) [.t 43, .t 44, .t 45]⟩,
  ⟨some 42, none, .mov (.t 46)⟩,
  ⟨some 47, none, .extract (.t 42) 0⟩,
  ⟨some 48, none, .extract (.t 42) 1⟩,
  ⟨some 11, none, .mov (.t 47)⟩,
  ⟨some 12, none, .mov (.t 48)⟩]
abbrev r285_21 : List SOper := [
  ⟨some 49, none, .mov (.t 12)⟩,
  ⟨some 50, none, .bin .eql (.t 49) (.c (.int .i64 2))⟩]
abbrev r285_22 : List SOper := [
  ⟨some 51, none, .mov (.t 0)⟩,
  ⟨some 52, none, .mov (.t 1)⟩,
  ⟨some 53, none, .mov (.t 2)⟩,
  ⟨some 54, none, .call false (.c (.func 312 [])) [.t 51, .t 52, .t 53]⟩]
abbrev r285_23 : List SOper := [
  ⟨some 55, none, .mov (.t 2)⟩,
  ⟨some 56, none, .bin .sub (.t 55) (.c (.int .i64 1))⟩,
  ⟨some 57, none, .mov (.t 11)⟩,
  ⟨some 58, none, .mov (.t 1)⟩,
  ⟨some 59, none, .bin .sub (.t 57) (.t 58)⟩,
  ⟨some 60, none, .bin .sub (.t 56) (.t 59)⟩,
  ⟨some 11, none, .mov (.t 60)⟩]
abbrev r285_24 : List SOper := [
  ⟨some 12, none, .mov (.c (.int .i64 1))⟩]
abbrev c285_25 : SC := .seq (.ops r285_23) (.ops r285_24)
abbrev c285_26 : SC := .seq (.ops r285_22) c285_25
abbrev c285_27 : SC := .cond (.t 50) c285_26 (.skip)
abbrev c285_28 : SC := .seq (.ops r285_21) c285_27
abbrev r285_29 : List SOper := [
  ⟨some 61, none, .mov (.t 8)⟩,
  ⟨some 62, none, .mov (.t 61)⟩,
  ⟨some 63, some (62, true), .mov (.t 9)⟩,
  ⟨some 64, none, .pick (.t 62) (.t 63) (.c (.bool false))⟩,
  ⟨some 65, none, .mov (.t 64)⟩,
  ⟨some 66, some (65, true), .mov (.t 12)⟩,
  ⟨some 67, some (65, true), .bin .eql (.t 66) (.c (.int .i64 1))⟩,
  ⟨some 68, none, .pick (.t 65) (.t 67) (.c (.bool false))⟩]
abbrev r285_30 : List SOper := [
  ⟨some 69, none, .mov (.t 0)⟩,
  ⟨some 70, none, .mov (.t 1)⟩,
  ⟨some 71, none, .mov (.t 2)⟩,
  ⟨some 72, none, .call false (.c (.func 313 [])) [.t 69, .t 70, .t 71]⟩]
abbrev c285_31 : SC := .cond (.t 72) (.ret) (.skip)
abbrev c285_32 : SC := .seq (.ops r285_30) c285_31
abbrev c285_33 : SC := .cond (.t 68) c285_32 (.skip)
abbrev c285_34 : SC := .seq (.ops r285_29) c285_33
abbrev r285_35 : List SOper := [
  ⟨some 73, none, .mov (.t 1)⟩,
  ⟨some 74, none, .bin .gtr (.t 73) (.c (.int .i64 0))⟩,
  ⟨some 75, none, .mov (.t 74)⟩,
  ⟨some 76, some (75, true), .mov (.t 0)⟩,
  ⟨some 77, some (75, true), .mov (.t 1)⟩,
  ⟨some 78, some (75, true), .bin .sub (.t 77) (.c (.int .i64 1))⟩,
  ⟨some 79, some (75, true), .iaddr none 1 (.t 76) (.t 78)⟩,
  ⟨some 80, some (75, true), .load false false 1 (.t 79)⟩,
  ⟨some 81, some (75, true), .mov (.t 0)⟩,
  ⟨some 82, some (75, true), .mov (.t 11)⟩,
  ⟨some 83, some (75, true), .iaddr none 1 (.t 81) (.t 82)⟩,
  ⟨some 84, some (75, true), .load false false 1 (.t 83)⟩,
  ⟨some 85, some (75, true), .call false (.c (.func 314 [])) [.t 80, .t 84]⟩,
  ⟨some 86, some (75, true), .un .not (.t 85)⟩,
  ⟨some 87, none, .pick (.t 75) (.t 86) (.c (.bool false))⟩]
abbrev r285_36 : List SOper := [
  ⟨some 88, none, .mov (.t 0)⟩,
  ⟨some 89, none, .mov (.t 1)⟩,
  ⟨some 90, none, .mov (.t 2)⟩,
  ⟨some 91, none, .mov (.t 11)⟩,
  ⟨some 92, none, .call false (.c (.func 315 [])) [.t 88, .t 89, .t 90, .t 91]⟩,
  ⟨some 13, none, .mov (.t 92)⟩]
abbrev r285_37 : List SOper := [
  ⟨some 93, none, .mov (.t 13)⟩,
  ⟨some 1, none, .mov (.t 93)⟩]
abbrev c285_38 : SC := .seq (.ops r285_37) (.exit 1)
abbrev c285_39 : SC := .seq (.ops r285_36) c285_38
abbrev c285_40 : SC := .cond (.t 87) c285_39 (.skip)
abbrev c285_41 : SC := .seq (.draw 0 [[], [0], [1], [2], [2], [4], [3, 5], [6], [2], [2], [8, 9], [10], [7, 11], [12], [13]] r285_35) c285_40
abbrev r285_42 : List SOper := [
  ⟨some 95, none, .mov (.t 0)⟩,
  ⟨some 96, none, .mov (.t 1)⟩,
  ⟨some 97, none, .mov (.t 2)⟩,
  ⟨some 98, none, .mov (.t 11)⟩,
  ⟨some 99, none, .call false (.c (.func 316 [])) [.t 95, .t 96, .t 97, .t 98]⟩,
  ⟨some 94, none, .mov (.t 99)⟩,
  ⟨some 100, none, .extract (.t 94) 0⟩,
  ⟨some 101, none, .extract (.t 94) 1⟩,
  ⟨some 14, none, .mov (.t 100)⟩,
  ⟨some 15, none, .mov (.t 101)⟩]
abbrev r285_43 : List SOper := [
  ⟨some 102, none, .mov (.t 15)⟩,
  ⟨some 9, none, .mov (.t 102)⟩]
abbrev r285_44 : List SOper := [
  ⟨some 103, none, .mov (.t 14)⟩,
  ⟨some 104, none, .mov (.t 1)⟩,
  ⟨some 105, none, .bin .sub (.t 103) (.t 104)⟩,
  ⟨some 106, none, .mov (.t 2)⟩,
  ⟨some 107, none, .mov (.t 14)⟩,
  ⟨some 108, none, .bin .sub (.t 106) (.t 107)⟩,
  ⟨some 16, none, .mov (.t 105)⟩,
  ⟨some 17, none, .mov (.t 108)⟩]
abbrev r285_45 : List SOper := [
  ⟨some 109, none, .mov (.t 10)⟩,
  ⟨some 110, none, .bin .quo (.t 109) (.c (.int .i64 8))⟩,
  ⟨some 18, none, .mov (.t 110)⟩]
abbrev r285_46 : List SOper := [
  ⟨some 111, none, .mov (.t 16)⟩,
  ⟨some 112, none, .mov (.t 17)⟩,
  ⟨some 113, none, .bin .lss (.t 111) (.t 112)⟩]
abbrev r285_47 : List SOper := [
  ⟨some 114, none, .mov (.t 16)⟩,
  ⟨some 115, none, .mov (.t 18)⟩,
  ⟨some 116, none, .bin .geq (.t 114) (.t 115)⟩,
  ⟨some 8, none, .mov (.t 116)⟩]
abbrev r285_48 : List SOper := [
  ⟨some 117, none, .mov (.t 0)⟩,
  ⟨some 118, none, .mov (.t 1)⟩,
  ⟨some 119, none, .mov (.t 14)⟩,
  ⟨some 120, none, .mov (.t 3)⟩,
  ⟨some 121, none, .call false (.c (.func 285 [])) [.t 117, .t 118, .t 119, .t 120]⟩]
abbrev r285_49 : List SOper := [
  ⟨some 122, none, .mov (.t 14)⟩,
  ⟨some 123, none, .bin .add (.t 122) (.c (.int .i64 1))⟩,
  ⟨some 1, none, .mov (.t 123)⟩]
abbrev c285_50 : SC := .seq (.ops r285_48) (.ops r285_49)
abbrev c285_51 : SC := .seq (.ops r285_47) c285_50
abbrev r285_52 : List SOper := [
  ⟨some 124, none, .mov (.t 17)⟩,
  ⟨some 125, none, .mov (.t 18)⟩,
  ⟨some 126, none, .bin .geq (.t 124) (.t 125)⟩,
  ⟨some 8, none, .mov (.t 126)⟩]
abbrev r285_53 : List SOper := [
  ⟨some 127, none, .mov (.t 0)⟩,
  ⟨some 128, none, .mov (.t 14)⟩,
  ⟨some 129, none, .bin .add (.t 128) (.c (.int .i64 1))⟩,
  ⟨some 130, none, .mov (.t 2)⟩,
  ⟨some 131, none, .mov (.t 3)⟩,
  ⟨some 132, none, .call false (.c (.func 285 [])) [.t 127, .t 129, .t 130, .t 131]⟩]
abbrev r285_54 : List SOper := [
  ⟨some 133, none, .mov (.t 14)⟩,
  ⟨some 2, none, .mov (.t 133)⟩]
abbrev c285_55 : SC := .seq (.ops r285_53) (.ops r285_54)
abbrev c285_56 : SC := .seq (.ops r285_52) c285_55
abbrev c285_57 : SC := .cond (.t 113) c285_51 c285_56
abbrev c285_58 : SC := .seq (.ops r285_46) c285_57
abbrev c285_59 : SC := .seq (.ops r285_45) c285_58
abbrev c285_60 : SC := .seq (.ops r285_44) c285_59
abbrev c285_61 : SC := .seq (.ops r285_43) c285_60
abbrev c285_62 : SC := .seq (.ops r285_42) c285_61
abbrev c285_63 : SC := .seq c285_41 c285_62
abbrev c285_64 : SC := .seq c285_34 c285_63
abbrev c285_65 : SC := .seq c285_28 c285_64
abbrev c285_66 : SC := .seq (.ops r285_20) c285_65
abbrev c285_67 : SC := .seq c285_19 c285_66
abbrev c285_68 : SC := .seq c285_13 c285_67
abbrev c285_69 : SC := .seq c285_8 c285_68
abbrev c285_70 : SC := .seq (.ops r285_3) c285_69
abbrev c285_71 : SC := .block 1 [0, 1, 2, 3, 8, 9] [] c285_70
abbrev L285_1 : SC := .loop [0, 1, 2, 3, 8, 9] [] c285_71
abbrev c285_72 : SC := .block 0 [] [] L285_1
abbrev c285_73 : SC := .seq (.ops r285_2) c285_72
abbrev c285_74 : SC := .seq (.ops r285_1) c285_73
def s285 : SF := ⟨[], c285_74, false, none, none⟩
/-! slices.insertionSortCmpFunc[crannog/api.Piece] -/
abbrev r288_1 : List SOper := [
  ⟨some 10, none, .mov (.t 1)⟩,
  ⟨some 11, none, .bin .add (.t 10) (.c (.int .i64 1))⟩,
  ⟨some 8, none, .mov (.t 11)⟩]
abbrev r288_2 : List SOper := [
  ⟨some 12, none, .mov (.t 8)⟩,
  ⟨some 13, none, .mov (.t 2)⟩,
  ⟨some 14, none, .bin .lss (.t 12) (.t 13)⟩]
abbrev c288_3 : SC := .cond (.t 14) (.skip) (.exit 0)
abbrev c288_4 : SC := .seq (.ops r288_2) c288_3
abbrev r288_5 : List SOper := [
  ⟨some 17, none, .mov (.t 8)⟩,
  ⟨some 9, none, .mov (.t 17)⟩]
abbrev r288_6 : List SOper := [
  ⟨some 18, none, .mov (.t 9)⟩,
  ⟨some 19, none, .mov (.t 1)⟩,
  ⟨some 20, none, .bin .gtr (.t 18) (.t 19)⟩,
  ⟨some 21, none, .mov (.t 20)⟩,
  ⟨some 22, some (21, true), .mov (.t 3)⟩,
  ⟨some 23, some (21, true), .mov (.t 0)⟩,
  ⟨some 24, some (21, true), .mov (.t 9)⟩,
  ⟨some 25, some (21, true), .iaddr none 4 (.t 23) (.t 24)⟩,
  ⟨some 26, some (21, true), .load false true 4 (.t 25)⟩,
  ⟨some 27, some (21, true), .mov (.t 0)⟩,
  ⟨some 28, some (21, true), .mov (.t 9)⟩,
  ⟨some 29, some (21, true), .bin .sub (.t 28) (.c (.int .i64 1))⟩,
  ⟨some 30, some (21, true), .iaddr none 4 (.t 27) (.t 29)⟩,
  ⟨some 31, some (21, true), .load false true 4 (.t 30)⟩,
  ⟨some 32, some (21, true), .call false (.t 22) [.t 26, .t 31]⟩,
  ⟨some 33, some (21, true), .bin .lss (.t 32) (.c (.int .i64 0))⟩,
  ⟨some 34, none, .pick (.t 21) (.t 33) (.c (.bool false))⟩]
abbrev c288_7 : SC := .cond (.t 34) (.skip) (.exit 2)
abbrev c288_8 : SC := .seq (.draw 0 [[], [], [0, 1], [2], [3], [3], [3], [5, 6], [7], [3], [3], [10], [9, 11], [12], [4, 8, 13], [14], [15]] r288_6) c288_7
abbrev r288_9 : List SOper := [
  ⟨some 37, none, .mov (.t 0)⟩,
  ⟨some 38, none, .mov (.t 9)⟩,
  ⟨some 39, none, .mov (.t 0)⟩,
  ⟨some 40, none, .mov (.t 9)⟩,
  ⟨some 41, none, .bin .sub (.t 40) (.c (.int .i64 1))⟩,
  ⟨some 42, none, .mov (.t 0)⟩,
  ⟨some 43, none, .mov (.t 9)⟩,
  ⟨some 44, none, .bin .sub (.t 43) (.c (.int .i64 1))⟩,
  ⟨some 45, none, .iaddr none 4 (.t 42) (.t 44)⟩,
  ⟨some 46, none, .load false true 4 (.t 45)⟩,
  ⟨some 47, none, .mov (.t 0)⟩,
  ⟨some 48, none, .mov (.t 9)⟩,
  ⟨some 49, none, .iaddr none 4 (.t 47) (.t 48)⟩,
  ⟨some 50, none, .load false true 4 (.t 49)⟩,
  ⟨some 51, none, .iaddr none 4 (.t 37) (.t 38)⟩,
  ⟨none, none, .store 4 (.t 51) (.t 46)⟩,
  ⟨some 52, none, .iaddr none 4 (.t 39) (.t 41)⟩,
  ⟨none, none, .store 4 (.t 52) (.t 50)⟩]
abbrev c288_10 : SC := .block 3 [0, 1, 2, 3, 8, 9] [] (.draw 0 [[], [], [], [], [3], [], [], [6], [5, 7], [8], [], [], [10, 11], [12], [0, 1, 9, 13], [14], [2, 4, 15], [16]] r288_9)
abbrev r288_11 : List SOper := [
  ⟨some 35, none, .mov (.t 9)⟩,
  ⟨some 36, none, .bin .sub (.t 35) (.c (.int .i64 1))⟩,
  ⟨some 9, none, .mov (.t 36)⟩]
abbrev c288_12 : SC := .seq c288_10 (.ops r288_11)
abbrev c288_13 : SC := .seq c288_8 c288_12
abbrev L288_1 : SC := .loop [0, 1, 2, 3, 8, 9] [] c288_13
abbrev c288_14 : SC := .block 2 [0, 1, 2, 3, 8] [] L288_1
abbrev c288_15 : SC := .seq (.ops r288_5) c288_14
abbrev c288_16 : SC := .block 1 [0, 1, 2, 3, 8] [] c288_15
abbrev r288_17 : List SOper := [
  ⟨some 15, none, .mov (.t 8)⟩,
  ⟨some 16, none, .bin .add (.t 15) (.c (.int .i64 1))⟩,
  ⟨some 8, none, .mov (.t 16)⟩]
abbrev c288_18 : SC := .seq c288_16 (.ops r288_17)
abbrev c288_19 : SC := .seq c288_4 c288_18
abbrev L288_2 : SC := .loop [0, 1, 2, 3, 8] [] c288_19
abbrev c288_20 : SC := .block 0 [] [] L288_2
abbrev c288_21 : SC := .seq (.ops r288_1) c288_20
def s288 : SF := ⟨[], c288_21, false, none, none⟩
/-! slices.insertionSortCmpFunc[crannog/api.Xattr] -/
abbrev r290_1 : List SOper := [
  ⟨some 10, none, .mov (.t 1)⟩,
  ⟨some 11, none, .bin .add (.t 10) (.c (.int .i64 1))⟩,
  ⟨some 8, none, .mov (.t 11)⟩]
abbrev r290_2 : List SOper := [
  ⟨some 12, none, .mov (.t 8)⟩,
  ⟨some 13, none, .mov (.t 2)⟩,
  ⟨some 14, none, .bin .lss (.t 12) (.t 13)⟩]
abbrev c290_3 : SC := .cond (.t 14) (.skip) (.exit 0)
abbrev c290_4 : SC := .seq (.ops r290_2) c290_3
abbrev r290_5 : List SOper := [
  ⟨some 17, none, .mov (.t 8)⟩,
  ⟨some 9, none, .mov (.t 17)⟩]
abbrev r290_6 : List SOper := [
  ⟨some 18, none, .mov (.t 9)⟩,
  ⟨some 19, none, .mov (.t 1)⟩,
  ⟨some 20, none, .bin .gtr (.t 18) (.t 19)⟩,
  ⟨some 21, none, .mov (.t 20)⟩,
  ⟨some 22, some (21, true), .mov (.t 3)⟩,
  ⟨some 23, some (21, true), .mov (.t 0)⟩,
  ⟨some 24, some (21, true), .mov (.t 9)⟩,
  ⟨some 25, some (21, true), .iaddr none 5 (.t 23) (.t 24)⟩,
  ⟨some 26, some (21, true), .load false true 5 (.t 25)⟩,
  ⟨some 27, some (21, true), .mov (.t 0)⟩,
  ⟨some 28, some (21, true), .mov (.t 9)⟩,
  ⟨some 29, some (21, true), .bin .sub (.t 28) (.c (.int .i64 1))⟩,
  ⟨some 30, some (21, true), .iaddr none 5 (.t 27) (.t 29)⟩,
  ⟨some 31, some (21, true), .load false true 5 (.t 30)⟩,
  ⟨some 32, some (21, true), .call false (.t 22) [.t 26, .t 31]⟩,
  ⟨some 33, some (21, true), .bin .lss (.t 32) (.c (.int .i64 0))⟩,
  ⟨some 34, none, .pick (.t 21) (.t 33) (.c (.bool false))⟩]
abbrev c290_7 : SC := .cond (.t 34) (.skip) (.exit 2)
abbrev c290_8 : SC := .seq (.draw 0 [[], [], [0, 1], [2], [3], [3], [3], [5, 6], [7], [3], [3], [10], [9, 11], [12], [4, 8, 13], [14], [15]] r290_6) c290_7
abbrev r290_9 : List SOper := [
  ⟨some 37, none, .mov (.t 0)⟩,
  ⟨some 38, none, .mov (.t 9)⟩,
  ⟨some 39, none, .mov (.t 0)⟩,
  ⟨some 40, none, .mov (.t 9)⟩,
  ⟨some 41, none, .bin .sub (.t 40) (.c (.int .i64 1))⟩,
  ⟨some 42, none, .mov (.t 0)⟩,
  ⟨some 43, none, .mov (.t 9)⟩,
  ⟨some 44, none, .bin .sub (.t 43) (.c (.int .i64 1))⟩,
  ⟨some 45, none, .iaddr none 5 (.t 42) (.t 44)⟩,
  ⟨some 46, none, .load false true 5 (.t 45)⟩,
  ⟨some 47, none, .mov (.t 0)⟩,
  ⟨some 48, none, .mov (.t 9)⟩,
  ⟨some 49, none, .iaddr none 5 (.t 47) (.t 48)⟩,
  ⟨some 50, none, .load false true 5 (.t 49)⟩,
  ⟨some 51, none, .iaddr none 5 (.t 37) (.t 38)⟩,
  ⟨none, none, .store 5 (.t 51) (.t 46)⟩,
  ⟨some 52, none, .iaddr none 5 (.t 39) (.t 41)⟩,
  ⟨none, none, .store 5 (.t 52) (.t 50)⟩]
abbrev c290_10 : SC := .block 3 [0, 1, 2, 3, 8, 9] [] (.draw 0 [[], [], [], [], [3], [], [], [6], [5, 7], [8], [], [], [10, 11], [12], [0, 1, 9, 13], [14], [2, 4, 15], [16]] r290_9)
abbrev r290_11 : List SOper := [
  ⟨some 35, none, .mov (.t 9)⟩,
  ⟨some 36, none, .bin .sub (.t 35) (.c (.int .i64 1))⟩,
  ⟨some 9, none, .mov (.t 36)⟩]
abbrev c290_12 : SC := .seq c290_10 (.ops r290_11)
abbrev c290_13 : SC := .seq c290_8 c290_12
abbrev L290_1 : SC := .loop [0, 1, 2, 3, 8, 9] [] c290_13
abbrev c290_14 : SC := .block 2 [0, 1, 2, 3, 8] [] L290_1
abbrev c290_15 : SC := .seq (.ops r290_5) c290_14
abbrev c290_16 : SC := .block 1 [0, 1, 2, 3, 8] [] c290_15
abbrev r290_17 : List SOper := [
  ⟨some 15, none, .mov (.t 8)⟩,
  ⟨some 16, none, .bin .add (.t 15) (.c (.int .i64 1))⟩,
  ⟨some 8, none, .mov (.t 16)⟩]
abbrev c290_18 : SC := .seq c290_16 (.ops r290_17)
abbrev c290_19 : SC := .seq c290_4 c290_18
abbrev L290_2 : SC := .loop [0, 1, 2, 3, 8] [] c290_19
abbrev c290_20 : SC := .block 0 [] [] L290_2
abbrev c290_21 : SC := .seq (.ops r290_1) c290_20
def s290 : SF := ⟨[], c290_21, false, none, none⟩
/-! internal/stringslite.Index -/
abbrev r295_1 : List SOper := [
  ⟨some 4, none, .mov (.c (.int .i64 0))⟩]
abbrev r295_2 : List SOper := [
  ⟨some 14, none, .mov (.t 1)⟩,
  ⟨some 15, none, .len 0 (.t 14)⟩,
  ⟨some 5, none, .mov (.t 15)⟩]
abbrev r295_3 : List SOper := [
  ⟨some 17, none, .mov (.t 5)⟩,
  ⟨some 18, none, .bin .eql (.t 17) (.c (.int .i64 0))⟩,
  ⟨some 19, none, .mov (.t 18)⟩,
  ⟨some 20, some (19, false), .mov (.t 1)⟩,
  ⟨some 21, some (19, false), .mov (.t 0)⟩,
  ⟨some 22, some (19, false), .bin .eql (.t 20) (.t 21)⟩,
  ⟨some 23, none, .pick (.t 19) (.c (.bool true)) (.t 22)⟩,
  ⟨some 16, none, .mov (.t 23)⟩]
abbrev r295_4 : List SOper := [
  ⟨some 4, none, .mov (.c (.int .i64 0))⟩]
abbrev c295_5 : SC := .seq (.ops r295_4) (.ret)
abbrev r295_6 : List SOper := [
  ⟨some 25, none, .mov (.t 5)⟩,
  ⟨some 26, none, .bin .eql (.t 25) (.c (.int .i64 1))⟩,
  ⟨some 24, none, .mov (.t 26)⟩]
abbrev r295_7 : List SOper := [
  ⟨some 27, none, .mov (.t 0)⟩,
  ⟨some 28, none, .mov (.t 1)⟩,
  ⟨some 29, none, .index none (.t 28) (.c (.int .i64 0))⟩,
  ⟨some 30, none, .call false (.c (.func 322 [])) [.t 27, .t 29]⟩,
  ⟨some 4, none, .mov (.t 30)⟩]
abbrev c295_8 : SC := .seq (.ops r295_7) (.ret)
abbrev r295_9 : List SOper := [
  ⟨some 32, none, .mov (.t 5)⟩,
  ⟨some 33, none, .mov (.t 0)⟩,
  ⟨some 34, none, .len 0 (.t 33)⟩,
  ⟨some 35, none, .bin .geq (.t 32) (.t 34)⟩,
  ⟨some 31, none, .mov (.t 35)⟩]
abbrev r295_10 : List SOper := [
  ⟨some 4, none, .mov (.c (.int .i64 (-1)))⟩]
abbrev c295_11 : SC := .seq (.ops r295_10) (.ret)
abbrev r295_12 : List SOper := [
  ⟨some 37, none, .mov (.t 5)⟩,
  ⟨some 38, none, .no⟩,
  ⟨some 39, none, .bin .leq (.t 37) (.t 38)⟩,
  ⟨some 40, none, .mov (.t 39)⟩,
  ⟨some 41, some (40, true), .mov (.t 0)⟩,
  ⟨some 42, some (40, true), .len 0 (.t 41)⟩,
  ⟨some 43, some (40, true), .bin .leq (.t 42) (.c (.int .i64 64))⟩,
  ⟨some 44, none, .pick (.t 40) (.t 43) (.c (.bool false))⟩,
  ⟨some 36, none, .mov (.t 44)⟩]
abbrev r295_13 : List SOper := [
  ⟨some 45, none, .mov (.t 0)⟩,
  ⟨some 46, none, .mov (.t 1)⟩,
  ⟨some 47, none, .call false (.c (.func 323 [])) [.t 45, .t 46]⟩,
  ⟨some 4, none, .mov (.t 47)⟩]
abbrev c295_14 : SC := .seq (.ops r295_13) (.ret)
abbrev c295_15 : SC := .cond (.t 36) c295_14 (.skip)
abbrev c295_16 : SC := .seq (.ops r295_12) c295_15
abbrev c295_17 : SC := .cond (.t 31) c295_11 c295_16
abbrev c295_18 : SC := .seq (.ops r295_9) c295_17
abbrev c295_19 : SC := .cond (.t 24) c295_8 c295_18
abbrev c295_20 : SC := .seq (.ops r295_6) c295_19
abbrev c295_21 : SC := .cond (.t 16) c295_5 c295_20
abbrev c295_22 : SC := .seq (.ops r295_3) c295_21
abbrev c295_23 : SC := .block 0 [0, 1, 5] [] c295_22
abbrev r295_24 : List SOper := [
  ⟨some 48, none, .mov (.t 1)⟩,
  ⟨some 49, none, .index none (.t 48) (.c (.int .i64 0))⟩,
  ⟨some 6, none, .mov (.t 49)⟩]
abbrev r295_25 : List SOper := [
  ⟨some 50, none, .mov (.t 1)⟩,
  ⟨some 51, none, .index none (.t 50) (.c (.int .i64 1))⟩,
  ⟨some 7, none, .mov (.t 51)⟩]
abbrev r295_26 : List SOper := [
  ⟨some 8, none, .mov (.c (.int .i64 0))⟩]
abbrev r295_27 : List SOper := [
  ⟨some 52, none, .mov (.t 0)⟩,
  ⟨some 53, none, .len 0 (.t 52)⟩,
  ⟨some 54, none, .mov (.t 5)⟩,
  ⟨some 55, none, .bin .sub (.t 53) (.t 54)⟩,
  ⟨some 56, none, .bin .add (.t 55) (.c (.int .i64 1))⟩,
  ⟨some 9, none, .mov (.t 56)⟩]
abbrev r295_28 : List SOper := [
  ⟨some 10, none, .mov (.c (.int .i64 0))⟩]
abbrev r295_29 : List SOper := [
  ⟨some 57, none, .mov (.t 8)⟩,
  ⟨some 58, none, .mov (.t 9)⟩,
  ⟨some 59, none, .bin .lss (.t 57) (.t 58)⟩]
abbrev c295_30 : SC := .cond (.t 59) (.skip) (.exit 1)
abbrev c295_31 : SC := .seq (.ops r295_29) c295_30
abbrev r295_32 : List SOper := [
  ⟨some 60, none, .mov (.t 0)⟩,
  ⟨some 61, none, .mov (.t 8)⟩,
  ⟨some 62, none, .index none (.t 60) (.t 61)⟩,
  ⟨some 63, none, .mov (.t 6)⟩,
  ⟨some 64, none, .bin .neq (.t 62) (.t 63)⟩]
abbrev r295_33 : List SOper := [
  ⟨some 65, none, .mov (.t 0)⟩,
  ⟨some 66, none, .mov (.t 8)⟩,
  ⟨some 67, none, .bin .add (.t 66) (.c (.int .i64 1))⟩,
  ⟨some 68, none, .mov (.t 9)⟩,
  ⟨some 69, none, .slice true 1 (.t 65) (some (.t 67)) (some (.t 68)) none⟩,
  ⟨some 70, none, .mov (.t 6)⟩,
  ⟨some 71, none, .call false (.c (.func 322 [])) [.t 69, .t 70]⟩,
  ⟨some 11, none, .mov (.t 71)⟩]
abbrev r295_34 : List SOper := [
  ⟨some 72, none, .mov (.t 11)⟩,
  ⟨some 73, none, .bin .lss (.t 72) (.c (.int .i64 0))⟩]
abbrev r295_35 : List SOper := [
  ⟨some 4, none, .mov (.c (.int .i64 (-1)))⟩]
abbrev c295_36 : SC := .seq (.ops r295_35) (.ret)
abbrev c295_37 : SC := .cond (.t 73) c295_36 (.skip)
abbrev c295_38 : SC := .seq (.ops r295_34) c295_37
abbrev r295_39 : List SOper := [
  ⟨some 74, none, .mov (.t 8)⟩,
  ⟨some 75, none, .mov (.t 11)⟩,
  ⟨some 76, none, .bin .add (.t 75) (.c (.int .i64 1))⟩,
  ⟨some 77, none, .bin .add (.t 74) (.t 76)⟩,
  ⟨some 8, none, .mov (.t 77)⟩]
abbrev c295_40 : SC := .seq c295_38 (.ops r295_39)
abbrev c295_41 : SC := .seq (.ops r295_33) c295_40
abbrev c295_42 : SC := .cond (.t 64) c295_41 (.skip)
abbrev c295_43 : SC := .seq (.ops r295_32) c295_42
abbrev r295_44 : List SOper := [
  ⟨some 78, none, .mov (.t 0)⟩,
  ⟨some 79, none, .mov (.t 8)⟩,
  ⟨some 80, none, .bin .add (.t 79) (.c (.int .i64 1))⟩,
  ⟨some 81, none, .index none (.t 78) (.t 80)⟩,
  ⟨some 82, none, .mov (.t 7)⟩,
  ⟨some 83, none, .bin .eql (.t 81) (.t 82)⟩,
  ⟨some 84, none, .mov (.t 83)⟩,
  ⟨some 85, some (84, true), .mov (.t 0)⟩,
  ⟨some 86, some (84, true), .mov (.t 8)⟩,
  ⟨some 87, some (84, true), .mov (.t 8)⟩,
  ⟨some 88, some (84, true), .mov (.t 5)⟩,
  ⟨some 89, some (84, true), .bin .add (.t 87) (.t 88)⟩,
  ⟨some 90, some (84, true), .slice true 1 (.t 85) (some (.t 86)) (some (.t 89)) none⟩,
  ⟨some 91, some (84, true), .mov (.t 1)⟩,
  ⟨some 92, some (84, true), .bin .eql (.t 90) (.t 91)⟩,
  ⟨some 93, none, .pick (.t 84) (.t 92) (.c (.bool false))⟩]
abbrev r295_45 : List SOper := [
  ⟨some 94, none, .mov (.t 8)⟩,
  ⟨some 4, none, .mov (.t 94)⟩]
abbrev c295_46 : SC := .seq (.ops r295_45) (.ret)
abbrev c295_47 : SC := .cond (.t 93) c295_46 (.skip)
abbrev c295_48 : SC := .seq (.ops r295_44) c295_47
abbrev r295_49 : List SOper := [
  ⟨some 95, none, .mov (.t 8)⟩,
  ⟨some 96, none, .bin .add (.t 95) (.c (.int .i64 1))⟩,
  ⟨some 8, none, .mov (.t 96)⟩]
abbrev r295_50 : List SOper := [
  ⟨some 97, none, .mov (.t 10)⟩,
  ⟨some 98, none, .bin .add (.t 97) (.c (.int .i64 1))⟩,
  ⟨some 10, none, .mov (.t 98)⟩]
abbrev r295_51 : List SOper := [
  ⟨some 99, none, .mov (.t 5)⟩,
  ⟨some 100, none, .no⟩,
  ⟨some 101, none, .bin .leq (.t 99) (.t 100)⟩,
  ⟨some 102, none, .mov (.t 101)⟩,
  ⟨some 103, some (102, true), .mov (.t 10)⟩,
  ⟨some 104, some (102, true), .mov (.t 8)⟩,
  ⟨some 105, some (102, true), .call false (.c (.func 324 [])) [.t 104]⟩,
  ⟨some 106, some (102, true), .bin .gtr (.t 103) (.t 105)⟩,
  ⟨some 107, none, .pick (.t 102) (.t 106) (.c (.bool false))⟩]
abbrev r295_52 : List SOper := [
  ⟨some 108, none, .mov (.t 0)⟩,
  ⟨some 109, none, .mov (.t 8)⟩,
  ⟨some 110, none, .slice true 1 (.t 108) (some (.t 109)) none none⟩,
  ⟨some 111, none, .mov (.t 1)⟩,
  ⟨some 112, none, .call false (.c (.func 323 [])) [.t 110, .t 111]⟩,
  ⟨some 12, none, .mov (.t 112)⟩]
abbrev r295_53 : List SOper := [
  ⟨some 113, none, .mov (.t 12)⟩,
  ⟨some 114, none, .bin .geq (.t 113) (.c (.int .i64 0))⟩]
abbrev r295_54 : List SOper := [
  ⟨some 115, none, .mov (.t 12)⟩,
  ⟨some 116, none, .mov (.t 8)⟩,
  ⟨some 117, none, .bin .add (.t 115) (.t 116)⟩,
  ⟨some 4, none, .mov (.t 117)⟩]
abbrev c295_55 : SC := .seq (.ops r295_54) (.ret)
abbrev c295_56 : SC := .cond (.t 114) c295_55 (.skip)
abbrev c295_57 : SC := .seq (.ops r295_53) c295_56
abbrev r295_58 : List SOper := [
  ⟨some 4, none, .mov (.c (.int .i64 (-1)))⟩]
abbrev c295_59 : SC := .seq (.ops r295_58) (.ret)
abbrev c295_60 : SC := .seq c295_57 c295_59
abbrev c295_61 : SC := .seq (.ops r295_52) c295_60
abbrev r295_62 : List SOper := [
  ⟨some 118, none, .mov (.t 5)⟩,
  ⟨some 119, none, .no⟩,
  ⟨some 120, none, .bin .gtr (.t 118) (.t 119)⟩,
  ⟨some 121, none, .mov (.t 120)⟩,
  ⟨some 122, some (121, true), .mov (.t 10)⟩,
  ⟨some 123, some (121, true), .mov (.t 8)⟩,
  ⟨some 124, some (121, true), .bin .shr (.t 123) (.c (.int .u64 4))⟩,
  ⟨some 125, some (121, true), .bin .add (.c (.int .i64 4)) (.t 124)⟩,
  ⟨some 126, some (121, true), .bin .geq (.t 122) (.t 125)⟩,
  ⟨some 127, none, .pick (.t 121) (.t 126) (.c (.bool false))⟩,
  ⟨some 128, none, .mov (.t 127)⟩,
  ⟨some 129, some (128, true), .mov (.t 8)⟩,
  ⟨some 130, some (128, true), .mov (.t 9)⟩,
  ⟨some 131, some (128, true), .bin .lss (.t 129) (.t 130)⟩,
  ⟨some 132, none, .pick (.t 128) (.t 131) (.c (.bool false))⟩]
abbrev r295_63 : List SOper := [
  ⟨some 133, none, .mov (.t 0)⟩,
  ⟨some 134, none, .mov (.t 8)⟩,
  ⟨some 135, none, .slice true 1 (.t 133) (some (.t 134)) none none⟩,
  ⟨some 136, none, .mov (.t 1)⟩,
  ⟨some 137, none, .call false (.c (.func 325 [])) [.t 135, .t 136]⟩,
  ⟨some 13, none, .mov (.t 137)⟩]
abbrev r295_64 : List SOper := [
  ⟨some 138, none, .mov (.t 13)⟩,
  ⟨some 139, none, .bin .lss (.t 138) (.c (.int .i64 0))⟩]
abbrev r295_65 : List SOper := [
  ⟨some 4, none, .mov (.c (.int .i64 (-1)))⟩]
abbrev c295_66 : SC := .seq (.ops r295_65) (.ret)
abbrev c295_67 : SC := .cond (.t 139) c295_66 (.skip)
abbrev c295_68 : SC := .seq (.ops r295_64) c295_67
abbrev r295_69 : List SOper := [
  ⟨some 140, none, .mov (.t 8)⟩,
  ⟨some 141, none, .mov (.t 13)⟩,
  ⟨some 142, none, .bin .add (.t 140) (.t 141)⟩,
  ⟨some 4, none, .mov (.t 142)⟩]
abbrev c295_70 : SC := .seq (.ops r295_69) (.ret)
abbrev c295_71 : SC := .seq c295_68 c295_70
abbrev c295_72 : SC := .seq (.ops r295_63) c295_71
abbrev c295_73 : SC := .cond (.t 132) c295_72 (.skip)
abbrev c295_74 : SC := .seq (.ops r295_62) c295_73
abbrev c295_75 : SC := .cond (.t 107) c295_61 c295_74
abbrev c295_76 : SC := .seq (.ops r295_51) c295_75
abbrev c295_77 : SC := .seq (.ops r295_50) c295_76
abbrev c295_78 : SC := .seq (.ops r295_49) c295_77
abbrev c295_79 : SC := .seq c295_48 c295_78
abbrev c295_80 : SC := .seq c295_43 c295_79
abbrev c295_81 : SC := .block 2 [0, 1, 5, 6, 7, 8, 9, 10] [] c295_80
abbrev c295_82 : SC := .seq c295_31 c295_81
abbrev L295_1 : SC := .loop [0, 1, 5, 6, 7, 8, 9, 10] [] c295_82
abbrev c295_83 : SC := .block 1 [] [] L295_1
abbrev r295_84 : List SOper := [
  ⟨some 4, none, .mov (.c (.int .i64 (-1)))⟩]
abbrev c295_85 : SC := .seq (.ops r295_84) (.ret)
abbrev c295_86 : SC := .seq c295_83 c295_85
abbrev c295_87 : SC := .seq (.ops r295_28) c295_86
abbrev c295_88 : SC := .seq (.ops r295_27) c295_87
abbrev c295_89 : SC := .seq (.ops r295_26) c295_88
abbrev c295_90 : SC := .seq (.ops r295_25) c295_89
abbrev c295_91 : SC := .seq (.ops r295_24) c295_90
abbrev c295_92 : SC := .seq c295_23 c295_91
abbrev c295_93 : SC := .seq (.ops r295_2) c295_92
abbrev c295_94 : SC := .seq (.ops r295_1) c295_93
def s295 : SF := ⟨[.t 4], c295_94, false, none, none⟩
/-! slices.insertionSortOrdered[string] -/
abbrev r308_1 : List SOper := [
  ⟨some 8, none, .mov (.t 1)⟩,
  ⟨some 9, none, .bin .add (.t 8) (.c (.int .i64 1))⟩,
  ⟨some 6, none, .mov (.t 9)⟩]
abbrev r308_2 : List SOper := [
  ⟨some 10, none, .mov (.t 6)⟩,
  ⟨some 11, none, .mov (.t 2)⟩,
  ⟨some 12, none, .bin .lss (.t 10) (.t 11)⟩]
abbrev c308_3 : SC := .cond (.t 12) (.skip) (.exit 0)
abbrev c308_4 : SC := .seq (.ops r308_2) c308_3
abbrev r308_5 : List SOper := [
  ⟨some 15, none, .mov (.t 6)⟩,
  ⟨some 7, none, .mov (.t 15)⟩]
abbrev r308_6 : List SOper := [
  ⟨some 16, none, .mov (.t 7)⟩,
  ⟨some 17, none, .mov (.t 1)⟩,
  ⟨some 18, none, .bin .gtr (.t 16) (.t 17)⟩,
  ⟨some 19, none, .mov (.t 18)⟩,
  ⟨some 20, some (19, true), .mov (.t 0)⟩,
  ⟨some 21, some (19, true), .mov (.t 7)⟩,
  ⟨some 22, some (19, true), .iaddr none 1 (.t 20) (.t 21)⟩,
  ⟨some 23, some (19, true), .load false false 1 (.t 22)⟩,
  ⟨some 24, some (19, true), .mov (.t 0)⟩,
  ⟨some 25, some (19, true), .mov (.t 7)⟩,
  ⟨some 26, some (19, true), .bin .sub (.t 25) (.c (.int .i64 1))⟩,
  ⟨some 27, some (19, true), .iaddr none 1 (.t 24) (.t 26)⟩,
  ⟨some 28, some (19, true), .load false false 1 (.t 27)⟩,
  ⟨some 29, some (19, true), .call false (.c (.func 314 [])) [.t 23, .t 28]⟩,
  ⟨some 30, none, .pick (.t 19) (.t 29) (.c (.bool false))⟩]
abbrev c308_7 : SC := .cond (.t 30) (.skip) (.exit 2)
abbrev c308_8 : SC := .seq (.draw 0 [[], [], [0, 1], [2], [3], [3], [4, 5], [6], [3], [3], [9], [8, 10], [11], [7, 12], [13]] r308_6) c308_7
abbrev r308_9 : List SOper := [
  ⟨some 33, none, .mov (.t 0)⟩,
  ⟨some 34, none, .mov (.t 7)⟩,
  ⟨some 35, none, .mov (.t 0)⟩,
  ⟨some 36, none, .mov (.t 7)⟩,
  ⟨some 37, none, .bin .sub (.t 36) (.c (.int .i64 1))⟩,
  ⟨some 38, none, .mov (.t 0)⟩,
  ⟨some 39, none, .mov (.t 7)⟩,
  ⟨some 40, none, .bin .sub (.t 39) (.c (.int .i64 1))⟩,
  ⟨some 41, none, .iaddr none 1 (.t 38) (.t 40)⟩,
  ⟨some 42, none, .load false false 1 (.t 41)⟩,
  ⟨some 43, none, .mov (.t 0)⟩,
  ⟨some 44, none, .mov (.t 7)⟩,
  ⟨some 45, none, .iaddr none 1 (.t 43) (.t 44)⟩,
  ⟨some 46, none, .load false false 1 (.t 45)⟩,
  ⟨some 47, none, .iaddr none 1 (.t 33) (.t 34)⟩,
  ⟨none, none, .store 1 (.t 47) (.t 42)⟩,
  ⟨some 48, none, .iaddr none 1 (.t 35) (.t 37)⟩,
  ⟨none, none, .store 1 (.t 48) (.t 46)⟩]
abbrev c308_10 : SC := .block 3 [0, 1, 2, 6, 7] [] (.draw 0 [[], [], [], [], [3], [], [], [6], [5, 7], [8], [], [], [10, 11], [12], [0, 1, 9, 13], [14], [2, 4, 15], [16]] r308_9)
abbrev r308_11 : List SOper := [
  ⟨some 31, none, .mov (.t 7)⟩,
  ⟨some 32, none, .bin .sub (.t 31) (.c (.int .i64 1))⟩,
  ⟨some 7, none, .mov (.t 32)⟩]
abbrev c308_12 : SC := .seq c308_10 (.ops r308_11)
abbrev c308_13 : SC := .seq c308_8 c308_12
abbrev L308_1 : SC := .loop [0, 1, 2, 6, 7] [] c308_13
abbrev c308_14 : SC := .block 2 [0, 1, 2, 6] [] L308_1
abbrev c308_15 : SC := .seq (.ops r308_5) c308_14
abbrev c308_16 : SC := .block 1 [0, 1, 2, 6] [] c308_15
abbrev r308_17 : List SOper := [
  ⟨some 13, none, .mov (.t 6)⟩,
  ⟨some 14, none, .bin .add (.t 13) (.c (.int .i64 1))⟩,
  ⟨some 6, none, .mov (.t 14)⟩]
abbrev c308_18 : SC := .seq c308_16 (.ops r308_17)
abbrev c308_19 : SC := .seq c308_4 c308_18
abbrev L308_2 : SC := .loop [0, 1, 2, 6] [] c308_19
abbrev c308_20 : SC := .block 0 [] [] L308_2
abbrev c308_21 : SC := .seq (.ops r308_1) c308_20
def s308 : SF := ⟨[], c308_21, false, none, none⟩
/-! cmp.Less[string] -/
abbrev r314_1 : List SOper := [
  ⟨some 4, none, .mov (.c (.bool false))⟩]
abbrev r314_2 : List SOper := [
  ⟨some 5, none, .mov (.t 0)⟩,
  ⟨some 6, none, .call false (.c (.func 227 [])) [.t 5]⟩,
  ⟨some 7, none, .mov (.t 6)⟩,
  ⟨some 8, some (7, true), .mov (.t 1)⟩,
  ⟨some 9, some (7, true), .call false (.c (.func 227 [])) [.t 8]⟩,
  ⟨some 10, some (7, true), .un .not (.t 9)⟩,
  ⟨some 11, none, .pick (.t 7) (.t 10) (.c (.bool false))⟩,
  ⟨some 12, none, .mov (.t 11)⟩,
  ⟨some 13, some (12, false), .mov (.t 0)⟩,
  ⟨some 14, some (12, false), .mov (.t 1)⟩,
  ⟨some 15, some (12, false), .bin .lss (.t 13) (.t 14)⟩,
  ⟨some 16, none, .pick (.t 12) (.c (.bool true)) (.t 15)⟩,
  ⟨some 4, none, .mov (.t 16)⟩]
abbrev c314_3 : SC := .seq (.ops r314_2) (.ret)
abbrev c314_4 : SC := .seq (.ops r314_1) c314_3
def s314 : SF := ⟨[.t 4], c314_4, false, none, none⟩
/-! internal/stringslite.IndexByte -/
abbrev r322_1 : List SOper := [
  ⟨some 4, none, .mov (.c (.int .i64 0))⟩]
abbrev r322_2 : List SOper := [
  ⟨some 5, none, .mov (.t 0)⟩,
  ⟨some 6, none, .mov (.t 1)⟩,
  ⟨some 7, none, .call false (.c (.func 337 [])) [.t 5, .t 6]⟩,
  ⟨some 4, none, .mov (.t 7)⟩]
abbrev c322_3 : SC := .seq (.ops r322_2) (.ret)
abbrev c322_4 : SC := .seq (.ops r322_1) c322_3
def s322 : SF := ⟨[.t 4], c322_4, false, none, none⟩
end Go.Vm.Tryz
