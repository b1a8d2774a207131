/- The code of some functions of the given program, as the abstract machine takes it. -/
import Derived.Test.YtabhplelhjcdiaaRxSl2
import Derived.Test.YtabhplelhjcdiaaRxDefer
namespace Go.Rx
noncomputable section
/-- rootstock/rootstocklaw05.RegsMatches -/
def R6_0 : List GI := [
  ⟨some 2, none, .box 48 6 (.t 0)⟩,
  ⟨some 4, none, .mov (.k (.bool false))⟩]
def R6_1 : List GI := [
  ⟨some 11, none, .loadn 6 (.t 2)⟩,
  ⟨some 12, none, .call 21 [(.t 11)]⟩,
  ⟨some 5, none, .mov (.t 12)⟩]
def R6_2 : List GI := [
  ⟨some 13, none, .mov (.t 5)⟩,
  ⟨some 14, none, .bin .neq (.t 13) (.k (.int .i64 0))⟩,
  ⟨some 15, none, .mov (.t 14)⟩,
  ⟨some 16, some (15, false), .mov (.t 1)⟩,
  ⟨some 17, some (15, false), .lent (.t 16)⟩,
  ⟨some 18, some (15, false), .bin .gtr (.t 17) (.k (.int .i64 65536))⟩,
  ⟨some 19, none, .pick (.t 15) (.k (.bool true)) (.t 18)⟩]
def R6_3 : List GI := [
  ⟨some 20, none, .mov (.t 5)⟩,
  ⟨some 21, none, .bin .eql (.t 20) (.k (.int .i64 0))⟩]
def R6_4 : List GI := [
  ⟨some 5, none, .mov (.k (.int .i64 3))⟩]
def R6_5 : List GI := [
  ⟨some 23, none, .loadn 6 (.t 2)⟩,
  ⟨some 24, none, .mov (.t 1)⟩,
  ⟨some 25, none, .call 22 [(.t 23), (.t 24)]⟩,
  ⟨some 22, none, .mov (.t 25)⟩,
  ⟨some 26, none, .ext 0 (.t 22)⟩,
  ⟨some 27, none, .ext 1 (.t 22)⟩,
  ⟨some 6, none, .mov (.t 26)⟩,
  ⟨some 7, none, .mov (.t 27)⟩]
def R6_6 : List GI := [
  ⟨some 28, none, .mov (.t 6)⟩,
  ⟨some 29, none, .un .not (.t 28)⟩,
  ⟨some 30, none, .mov (.t 29)⟩,
  ⟨some 31, some (30, true), .mov (.t 7)⟩,
  ⟨some 32, some (30, true), .mov (.t 5)⟩,
  ⟨some 33, some (30, true), .bin .eql (.t 31) (.t 32)⟩,
  ⟨some 34, none, .pick (.t 30) (.t 33) (.k (.bool false))⟩,
  ⟨some 35, none, .mov (.t 34)⟩,
  ⟨some 36, some (35, true), .call 23 []⟩,
  ⟨some 37, none, .pick (.t 35) (.t 36) (.k (.bool false))⟩,
  ⟨some 4, none, .mov (.t 37)⟩]
def R6_7 : List GI := [
  ⟨some 38, none, .mov (.t 1)⟩,
  ⟨some 39, none, .lent (.t 38)⟩,
  ⟨some 40, none, .bin .gtr (.t 39) (.k (.int .i64 120))⟩,
  ⟨some 41, none, .mov (.t 40)⟩,
  ⟨some 42, some (41, false), .loadn 6 (.t 2)⟩,
  ⟨some 43, some (41, false), .call 24 [(.t 42), (.k (.int .i64 120))]⟩,
  ⟨some 44, none, .pick (.t 41) (.k (.bool true)) (.t 43)⟩,
  ⟨some 45, none, .mov (.t 44)⟩,
  ⟨some 46, some (45, false), .loadn 6 (.t 2)⟩,
  ⟨some 47, some (45, false), .call 25 [(.t 46), (.k (.int .i64 3))]⟩,
  ⟨some 48, none, .pick (.t 45) (.k (.bool true)) (.t 47)⟩]
def R6_8 : List GI := [
  ⟨some 4, none, .mov (.k (.bool true))⟩]
def R6_9 : List GI := [
  ⟨some 49, none, .loadn 6 (.t 2)⟩,
  ⟨some 50, none, .call 26 [(.t 49)]⟩,
  ⟨some 8, none, .alloc 48 [(.int .i64 0), (.int .u64 0), (.int .u64 0), (.int .u64 0), (.int .u64 0), (.slice none 0 0)]⟩,
  ⟨none, none, .store 6 (.t 8) (.t 50)⟩]
def R6_10 : List GI := [
  ⟨some 52, none, .loadn 6 (.t 8)⟩,
  ⟨some 53, none, .mov (.t 1)⟩,
  ⟨some 54, none, .call 22 [(.t 52), (.t 53)]⟩,
  ⟨some 51, none, .mov (.t 54)⟩,
  ⟨some 55, none, .ext 0 (.t 51)⟩,
  ⟨some 56, none, .ext 1 (.t 51)⟩,
  ⟨some 9, none, .mov (.t 55)⟩,
  ⟨some 10, none, .mov (.t 56)⟩]
def R6_11 : List GI := [
  ⟨some 57, none, .mov (.t 9)⟩,
  ⟨some 58, none, .loadn 6 (.t 2)⟩,
  ⟨some 59, none, .mov (.t 1)⟩,
  ⟨some 60, none, .call 27 [(.t 58), (.t 59)]⟩,
  ⟨some 61, none, .eqc 0 false (.t 57) (.t 60)⟩,
  ⟨some 62, none, .mov (.t 61)⟩,
  ⟨some 63, some (62, true), .mov (.t 10)⟩,
  ⟨some 64, some (62, true), .bin .eql (.t 63) (.k (.int .i64 0))⟩,
  ⟨some 65, none, .pick (.t 62) (.t 64) (.k (.bool false))⟩,
  ⟨some 66, none, .mov (.t 65)⟩,
  ⟨some 67, some (66, true), .loadn 6 (.t 8)⟩,
  ⟨some 68, some (66, true), .loadn 6 (.t 2)⟩,
  ⟨some 69, some (66, true), .call 28 [(.t 67), (.t 68)]⟩,
  ⟨some 70, none, .pick (.t 66) (.t 69) (.k (.bool false))⟩,
  ⟨some 71, none, .mov (.t 70)⟩,
  ⟨some 72, some (71, true), .call 23 []⟩,
  ⟨some 73, none, .pick (.t 71) (.t 72) (.k (.bool false))⟩,
  ⟨some 4, none, .mov (.t 73)⟩]
def A6 : AF := ⟨(.seq (.reg R6_0) (.seq (.reg R6_1) (.seq (.seq (.reg R6_2) (.cond (.t 19) (.seq (.seq (.reg R6_3) (.cond (.t 21) (.reg R6_4) .skip)) (.seq (.reg R6_5) (.seq (.reg R6_6) .ret))) .skip)) (.seq (.seq (.reg R6_7) (.cond (.t 48) (.seq (.reg R6_8) .ret) .skip)) (.seq (.reg R6_9) (.seq (.reg R6_10) (.seq (.reg R6_11) .ret))))))), [(4, none)]⟩

/-- rootstock/rootstocklaw05.RegsTold -/
def R7_0 : List GI := [
  ⟨some 2, none, .box 48 6 (.t 0)⟩,
  ⟨some 4, none, .mov (.k (.bool false))⟩]
def R7_1 : List GI := [
  ⟨some 14, none, .loadn 6 (.t 2)⟩,
  ⟨some 15, none, .mov (.t 1)⟩,
  ⟨some 16, none, .call 29 [(.t 14), (.t 15)]⟩,
  ⟨some 17, none, .un .not (.t 16)⟩]
def R7_2 : List GI := [
  ⟨some 4, none, .mov (.k (.bool true))⟩]
def R7_3 : List GI := [
  ⟨some 19, none, .loadn 6 (.t 2)⟩,
  ⟨some 20, none, .call 30 [(.t 19)]⟩,
  ⟨some 18, none, .mov (.t 20)⟩,
  ⟨some 21, none, .ext 0 (.t 18)⟩,
  ⟨some 22, none, .ext 1 (.t 18)⟩,
  ⟨some 5, none, .mov (.t 21)⟩,
  ⟨some 6, none, .mov (.t 22)⟩]
def R7_4 : List GI := [
  ⟨some 23, none, .mov (.t 6)⟩,
  ⟨some 24, none, .bin .neq (.t 23) (.k (.int .i64 0))⟩]
def R7_5 : List GI := [
  ⟨some 25, none, .call 23 []⟩,
  ⟨some 4, none, .mov (.t 25)⟩]
def R7_6 : List GI := [
  ⟨some 27, none, .mov (.t 5)⟩,
  ⟨some 28, none, .call 31 [(.t 27)]⟩,
  ⟨some 26, none, .mov (.t 28)⟩,
  ⟨some 29, none, .ext 0 (.t 26)⟩,
  ⟨some 30, none, .ext 1 (.t 26)⟩,
  ⟨some 31, none, .ext 2 (.t 26)⟩,
  ⟨some 7, none, .alloc 48 [(.int .i64 0), (.int .u64 0), (.int .u64 0), (.int .u64 0), (.int .u64 0), (.slice none 0 0)]⟩,
  ⟨none, none, .store 6 (.t 7) (.t 29)⟩,
  ⟨some 8, none, .mov (.t 30)⟩,
  ⟨some 9, none, .mov (.t 31)⟩]
def R7_7 : List GI := [
  ⟨some 32, none, .mov (.t 9)⟩,
  ⟨some 33, none, .bin .eql (.t 32) (.k (.int .i64 51))⟩]
def R7_8 : List GI := [
  ⟨some 34, none, .call 23 []⟩,
  ⟨some 4, none, .mov (.t 34)⟩]
def R7_9 : List GI := [
  ⟨some 36, none, .loadn 6 (.t 2)⟩,
  ⟨some 37, none, .mov (.t 1)⟩,
  ⟨some 38, none, .call 22 [(.t 36), (.t 37)]⟩,
  ⟨some 35, none, .mov (.t 38)⟩,
  ⟨some 39, none, .ext 0 (.t 35)⟩,
  ⟨some 40, none, .ext 1 (.t 35)⟩,
  ⟨some 10, none, .mov (.t 39)⟩,
  ⟨some 11, none, .mov (.t 40)⟩]
def R7_10 : List GI := [
  ⟨some 42, none, .loadn 6 (.t 7)⟩,
  ⟨some 43, none, .mov (.t 1)⟩,
  ⟨some 44, none, .call 22 [(.t 42), (.t 43)]⟩,
  ⟨some 41, none, .mov (.t 44)⟩,
  ⟨some 45, none, .ext 0 (.t 41)⟩,
  ⟨some 46, none, .ext 1 (.t 41)⟩,
  ⟨some 12, none, .mov (.t 45)⟩,
  ⟨some 13, none, .mov (.t 46)⟩]
def R7_11 : List GI := [
  ⟨some 47, none, .mov (.t 9)⟩,
  ⟨some 48, none, .bin .eql (.t 47) (.k (.int .i64 0))⟩,
  ⟨some 49, none, .mov (.t 48)⟩,
  ⟨some 50, some (49, true), .mov (.t 11)⟩,
  ⟨some 51, some (49, true), .bin .eql (.t 50) (.k (.int .i64 0))⟩,
  ⟨some 52, none, .pick (.t 49) (.t 51) (.k (.bool false))⟩,
  ⟨some 53, none, .mov (.t 52)⟩,
  ⟨some 54, some (53, true), .mov (.t 13)⟩,
  ⟨some 55, some (53, true), .bin .eql (.t 54) (.k (.int .i64 0))⟩,
  ⟨some 56, none, .pick (.t 53) (.t 55) (.k (.bool false))⟩,
  ⟨some 57, none, .mov (.t 56)⟩,
  ⟨some 58, some (57, true), .mov (.t 10)⟩,
  ⟨some 59, some (57, true), .mov (.t 12)⟩,
  ⟨some 60, some (57, true), .eqc 0 false (.t 58) (.t 59)⟩,
  ⟨some 61, none, .pick (.t 57) (.t 60) (.k (.bool false))⟩,
  ⟨some 62, none, .mov (.t 61)⟩,
  ⟨some 63, some (62, true), .call 23 []⟩,
  ⟨some 64, none, .pick (.t 62) (.t 63) (.k (.bool false))⟩,
  ⟨some 4, none, .mov (.t 64)⟩]
def A7 : AF := ⟨(.seq (.reg R7_0) (.seq (.seq (.reg R7_1) (.cond (.t 17) (.seq (.reg R7_2) .ret) .skip)) (.seq (.reg R7_3) (.seq (.seq (.reg R7_4) (.cond (.t 24) (.seq (.reg R7_5) .ret) .skip)) (.seq (.reg R7_6) (.seq (.seq (.reg R7_7) (.cond (.t 33) (.seq (.reg R7_8) .ret) .skip)) (.seq (.reg R7_9) (.seq (.reg R7_10) (.seq (.reg R7_11) .ret))))))))), [(4, none)]⟩

/-- rootstock/rootstocklaw05.RegsParts -/
def R8_0 : List GI := [
  ⟨some 3, none, .box 48 6 (.t 0)⟩,
  ⟨some 4, none, .box 48 6 (.t 1)⟩,
  ⟨some 6, none, .mov (.k (.bool false))⟩]
def R8_1 : List GI := [
  ⟨some 21, none, .mov (.t 2)⟩,
  ⟨some 22, none, .lent (.t 21)⟩,
  ⟨some 23, none, .bin .gtr (.t 22) (.k (.int .i64 60))⟩,
  ⟨some 24, none, .mov (.t 23)⟩,
  ⟨some 25, some (24, false), .loadn 6 (.t 3)⟩,
  ⟨some 26, some (24, false), .call 24 [(.t 25), (.k (.int .i64 60))]⟩,
  ⟨some 27, none, .pick (.t 24) (.k (.bool true)) (.t 26)⟩,
  ⟨some 28, none, .mov (.t 27)⟩,
  ⟨some 29, some (28, false), .loadn 6 (.t 4)⟩,
  ⟨some 30, some (28, false), .call 24 [(.t 29), (.k (.int .i64 60))]⟩,
  ⟨some 31, none, .pick (.t 28) (.k (.bool true)) (.t 30)⟩,
  ⟨some 32, none, .mov (.t 31)⟩,
  ⟨some 33, some (32, false), .loadn 6 (.t 3)⟩,
  ⟨some 34, some (32, false), .call 25 [(.t 33), (.k (.int .i64 3))]⟩,
  ⟨some 35, none, .pick (.t 32) (.k (.bool true)) (.t 34)⟩,
  ⟨some 36, none, .mov (.t 35)⟩,
  ⟨some 37, some (36, false), .loadn 6 (.t 4)⟩,
  ⟨some 38, some (36, false), .call 25 [(.t 37), (.k (.int .i64 3))]⟩,
  ⟨some 39, none, .pick (.t 36) (.k (.bool true)) (.t 38)⟩]
def R8_2 : List GI := [
  ⟨some 6, none, .mov (.k (.bool true))⟩]
def R8_3 : List GI := [
  ⟨some 41, none, .loadn 6 (.t 3)⟩,
  ⟨some 42, none, .loadn 6 (.t 4)⟩,
  ⟨some 43, none, .bslice 48 2 (rl [(1, (.int .i64 0)), (4, (.int .u64 0)), (1, (.slice none 0 0)), (1, (.int .i64 0)), (4, (.int .u64 0)), (1, (.slice none 0 0))]) [(0, 6, (.t 41)), (6, 6, (.t 42))]⟩,
  ⟨some 44, none, .build [(.int .i64 0), (.int .u64 0), (.int .u64 0), (.int .u64 0), (.int .u64 0), (.slice none 0 0)] [(0, 1, (.k (.int .i64 3))), (5, 1, (.t 43))]⟩,
  ⟨some 45, none, .mov (.t 2)⟩,
  ⟨some 46, none, .call 22 [(.t 44), (.t 45)]⟩,
  ⟨some 40, none, .mov (.t 46)⟩,
  ⟨some 47, none, .ext 0 (.t 40)⟩,
  ⟨some 48, none, .ext 1 (.t 40)⟩,
  ⟨some 7, none, .mov (.t 47)⟩,
  ⟨some 8, none, .mov (.t 48)⟩]
def R8_4 : List GI := [
  ⟨some 50, none, .loadn 6 (.t 3)⟩,
  ⟨some 51, none, .loadn 6 (.t 4)⟩,
  ⟨some 52, none, .bslice 48 2 (rl [(1, (.int .i64 0)), (4, (.int .u64 0)), (1, (.slice none 0 0)), (1, (.int .i64 0)), (4, (.int .u64 0)), (1, (.slice none 0 0))]) [(0, 6, (.t 50)), (6, 6, (.t 51))]⟩,
  ⟨some 53, none, .build [(.int .i64 0), (.int .u64 0), (.int .u64 0), (.int .u64 0), (.int .u64 0), (.slice none 0 0)] [(0, 1, (.k (.int .i64 4))), (5, 1, (.t 52))]⟩,
  ⟨some 54, none, .mov (.t 2)⟩,
  ⟨some 55, none, .call 22 [(.t 53), (.t 54)]⟩,
  ⟨some 49, none, .mov (.t 55)⟩,
  ⟨some 56, none, .ext 0 (.t 49)⟩,
  ⟨some 57, none, .ext 1 (.t 49)⟩,
  ⟨some 9, none, .mov (.t 56)⟩,
  ⟨some 10, none, .mov (.t 57)⟩]
def R8_5 : List GI := [
  ⟨some 59, none, .loadn 6 (.t 3)⟩,
  ⟨some 60, none, .mov (.t 2)⟩,
  ⟨some 61, none, .call 22 [(.t 59), (.t 60)]⟩,
  ⟨some 58, none, .mov (.t 61)⟩,
  ⟨some 62, none, .ext 0 (.t 58)⟩,
  ⟨some 63, none, .ext 1 (.t 58)⟩,
  ⟨some 11, none, .mov (.t 62)⟩,
  ⟨some 12, none, .mov (.t 63)⟩]
def R8_6 : List GI := [
  ⟨some 65, none, .loadn 6 (.t 4)⟩,
  ⟨some 66, none, .mov (.t 2)⟩,
  ⟨some 67, none, .call 22 [(.t 65), (.t 66)]⟩,
  ⟨some 64, none, .mov (.t 67)⟩,
  ⟨some 68, none, .ext 0 (.t 64)⟩,
  ⟨some 69, none, .ext 1 (.t 64)⟩,
  ⟨some 13, none, .mov (.t 68)⟩,
  ⟨some 14, none, .mov (.t 69)⟩]
def R8_7 : List GI := [
  ⟨some 70, none, .mov (.t 8)⟩,
  ⟨some 71, none, .bin .neq (.t 70) (.k (.int .i64 0))⟩,
  ⟨some 72, none, .mov (.t 71)⟩,
  ⟨some 73, some (72, false), .mov (.t 10)⟩,
  ⟨some 74, some (72, false), .bin .neq (.t 73) (.k (.int .i64 0))⟩,
  ⟨some 75, none, .pick (.t 72) (.k (.bool true)) (.t 74)⟩]
def R8_8 : List GI := [
  ⟨some 76, none, .mov (.t 8)⟩,
  ⟨some 77, none, .mov (.t 10)⟩,
  ⟨some 78, none, .bin .eql (.t 76) (.t 77)⟩,
  ⟨some 79, none, .mov (.t 78)⟩,
  ⟨some 80, some (79, true), .call 23 []⟩,
  ⟨some 81, none, .pick (.t 79) (.t 80) (.k (.bool false))⟩,
  ⟨some 6, none, .mov (.t 81)⟩]
def R8_9 : List GI := [
  ⟨some 82, none, .mov (.t 12)⟩,
  ⟨some 83, none, .bin .neq (.t 82) (.k (.int .i64 0))⟩,
  ⟨some 84, none, .mov (.t 83)⟩,
  ⟨some 85, some (84, false), .mov (.t 14)⟩,
  ⟨some 86, some (84, false), .bin .neq (.t 85) (.k (.int .i64 0))⟩,
  ⟨some 87, none, .pick (.t 84) (.k (.bool true)) (.t 86)⟩,
  ⟨some 88, none, .mov (.t 87)⟩,
  ⟨some 89, some (88, false), .mov (.t 9)⟩,
  ⟨some 90, some (88, false), .mov (.t 11)⟩,
  ⟨some 91, some (88, false), .mov (.t 90)⟩,
  ⟨some 92, some (91, false), .mov (.t 13)⟩,
  ⟨some 93, some (88, false), .pick (.t 91) (.k (.bool true)) (.t 92)⟩,
  ⟨some 94, some (88, false), .eqc 0 true (.t 89) (.t 93)⟩,
  ⟨some 95, none, .pick (.t 88) (.k (.bool true)) (.t 94)⟩]
def R8_10 : List GI := [
  ⟨some 6, none, .mov (.k (.bool false))⟩]
def R8_11 : List GI := [
  ⟨some 15, none, .mov (.k (.bool false))⟩]
def R8_12 : List GI := [
  ⟨some 16, none, .mov (.k (.int .i64 0))⟩]
def R8_13 : List GI := [
  ⟨some 96, none, .mov (.t 16)⟩,
  ⟨some 97, none, .mov (.t 2)⟩,
  ⟨some 98, none, .lent (.t 97)⟩,
  ⟨some 99, none, .bin .leq (.t 96) (.t 98)⟩]
def R8_14 : List GI := [
  ⟨some 103, none, .loadn 6 (.t 3)⟩,
  ⟨some 104, none, .mov (.t 2)⟩,
  ⟨some 105, none, .mov (.t 16)⟩,
  ⟨some 106, none, .sls (.t 104) none (some (.t 105))⟩,
  ⟨some 107, none, .call 22 [(.t 103), (.t 106)]⟩,
  ⟨some 102, none, .mov (.t 107)⟩,
  ⟨some 108, none, .ext 0 (.t 102)⟩,
  ⟨some 109, none, .ext 1 (.t 102)⟩,
  ⟨some 17, none, .mov (.t 108)⟩,
  ⟨some 18, none, .mov (.t 109)⟩]
def R8_15 : List GI := [
  ⟨some 111, none, .loadn 6 (.t 4)⟩,
  ⟨some 112, none, .mov (.t 2)⟩,
  ⟨some 113, none, .mov (.t 16)⟩,
  ⟨some 114, none, .sls (.t 112) (some (.t 113)) none⟩,
  ⟨some 115, none, .call 22 [(.t 111), (.t 114)]⟩,
  ⟨some 110, none, .mov (.t 115)⟩,
  ⟨some 116, none, .ext 0 (.t 110)⟩,
  ⟨some 117, none, .ext 1 (.t 110)⟩,
  ⟨some 19, none, .mov (.t 116)⟩,
  ⟨some 20, none, .mov (.t 117)⟩]
def R8_16 : List GI := [
  ⟨some 118, none, .mov (.t 15)⟩,
  ⟨some 119, none, .mov (.t 118)⟩,
  ⟨some 120, some (119, false), .mov (.t 17)⟩,
  ⟨some 121, some (119, false), .mov (.t 120)⟩,
  ⟨some 122, some (121, true), .mov (.t 19)⟩,
  ⟨some 123, some (119, false), .pick (.t 121) (.t 122) (.k (.bool false))⟩,
  ⟨some 124, none, .pick (.t 119) (.k (.bool true)) (.t 123)⟩,
  ⟨some 15, none, .mov (.t 124)⟩]
def R8_17 : List GI := [
  ⟨some 100, none, .mov (.t 16)⟩,
  ⟨some 101, none, .bin .add (.t 100) (.k (.int .i64 1))⟩,
  ⟨some 16, none, .mov (.t 101)⟩]
def B8_0 : AC := (.seq (.seq (.reg R8_13) (.cond (.t 99) .skip (.exit 0))) (.seq (.block 1 (.seq (.regd R8_14 []) (.seq (.regd R8_15 []) (.reg R8_16)))) (.reg R8_17)))
def R8_18 : List GI := [
  ⟨some 125, none, .mov (.t 15)⟩,
  ⟨some 126, none, .mov (.t 7)⟩,
  ⟨some 127, none, .eqc 0 false (.t 125) (.t 126)⟩,
  ⟨some 128, none, .mov (.t 127)⟩,
  ⟨some 129, some (128, true), .call 23 []⟩,
  ⟨some 130, none, .pick (.t 128) (.t 129) (.k (.bool false))⟩,
  ⟨some 6, none, .mov (.t 130)⟩]
def A8 : AF := ⟨(.seq (.reg R8_0) (.seq (.seq (.reg R8_1) (.cond (.t 39) (.seq (.reg R8_2) .ret) .skip)) (.seq (.reg R8_3) (.seq (.reg R8_4) (.seq (.reg R8_5) (.seq (.reg R8_6) (.seq (.seq (.reg R8_7) (.cond (.t 75) (.seq (.reg R8_8) .ret) .skip)) (.seq (.seq (.reg R8_9) (.cond (.t 95) (.seq (.reg R8_10) .ret) .skip)) (.seq (.reg R8_11) (.seq (.seq (.reg R8_12) (.block 0 (.loop B8_0))) (.seq (.reg R8_18) .ret))))))))))), [(6, none)]⟩

/-- rootstock/rootstocklaw05.RegsAgain -/
def R9_0 : List GI := [
  ⟨some 2, none, .box 48 6 (.t 0)⟩,
  ⟨some 4, none, .mov (.k (.bool false))⟩]
def R9_1 : List GI := [
  ⟨some 20, none, .mov (.t 1)⟩,
  ⟨some 21, none, .lent (.t 20)⟩,
  ⟨some 22, none, .bin .gtr (.t 21) (.k (.int .i64 80))⟩,
  ⟨some 23, none, .mov (.t 22)⟩,
  ⟨some 24, some (23, false), .loadn 6 (.t 2)⟩,
  ⟨some 25, some (23, false), .call 24 [(.t 24), (.k (.int .i64 80))]⟩,
  ⟨some 26, none, .pick (.t 23) (.k (.bool true)) (.t 25)⟩,
  ⟨some 27, none, .mov (.t 26)⟩,
  ⟨some 28, some (27, false), .loadn 6 (.t 2)⟩,
  ⟨some 29, some (27, false), .call 25 [(.t 28), (.k (.int .i64 3))]⟩,
  ⟨some 30, none, .pick (.t 27) (.k (.bool true)) (.t 29)⟩]
def R9_2 : List GI := [
  ⟨some 4, none, .mov (.k (.bool true))⟩]
def R9_3 : List GI := [
  ⟨some 31, none, .loadn 6 (.t 2)⟩,
  ⟨some 32, none, .bslice 48 1 [(.int .i64 0), (.int .u64 0), (.int .u64 0), (.int .u64 0), (.int .u64 0), (.slice none 0 0)] [(0, 6, (.t 31))]⟩,
  ⟨some 5, none, .mov (.t 32)⟩]
def R9_4 : List GI := [
  ⟨some 33, none, .mov (.t 5)⟩,
  ⟨some 34, none, .build [(.int .i64 0), (.int .u64 0), (.int .u64 0), (.int .u64 0), (.int .u64 0), (.slice none 0 0)] [(0, 1, (.k (.int .i64 5))), (5, 1, (.t 33))]⟩,
  ⟨some 6, none, .alloc 48 [(.int .i64 0), (.int .u64 0), (.int .u64 0), (.int .u64 0), (.int .u64 0), (.slice none 0 0)]⟩,
  ⟨none, none, .store 6 (.t 6) (.t 34)⟩]
def R9_5 : List GI := [
  ⟨some 35, none, .mov (.t 5)⟩,
  ⟨some 36, none, .build [(.int .i64 0), (.int .u64 0), (.int .u64 0), (.int .u64 0), (.int .u64 0), (.slice none 0 0)] [(0, 1, (.k (.int .i64 6))), (5, 1, (.t 35))]⟩,
  ⟨some 7, none, .alloc 48 [(.int .i64 0), (.int .u64 0), (.int .u64 0), (.int .u64 0), (.int .u64 0), (.slice none 0 0)]⟩,
  ⟨none, none, .store 6 (.t 7) (.t 36)⟩]
def R9_6 : List GI := [
  ⟨some 38, none, .loadn 6 (.t 7)⟩,
  ⟨some 39, none, .mov (.t 1)⟩,
  ⟨some 40, none, .call 22 [(.t 38), (.t 39)]⟩,
  ⟨some 37, none, .mov (.t 40)⟩,
  ⟨some 41, none, .ext 0 (.t 37)⟩,
  ⟨some 42, none, .ext 1 (.t 37)⟩,
  ⟨some 8, none, .mov (.t 41)⟩,
  ⟨some 9, none, .mov (.t 42)⟩]
def R9_7 : List GI := [
  ⟨some 44, none, .loadn 6 (.t 2)⟩,
  ⟨some 45, none, .loadn 6 (.t 6)⟩,
  ⟨some 46, none, .bslice 48 2 (rl [(1, (.int .i64 0)), (4, (.int .u64 0)), (1, (.slice none 0 0)), (1, (.int .i64 0)), (4, (.int .u64 0)), (1, (.slice none 0 0))]) [(0, 6, (.t 44)), (6, 6, (.t 45))]⟩,
  ⟨some 47, none, .build [(.int .i64 0), (.int .u64 0), (.int .u64 0), (.int .u64 0), (.int .u64 0), (.slice none 0 0)] [(0, 1, (.k (.int .i64 3))), (5, 1, (.t 46))]⟩,
  ⟨some 48, none, .mov (.t 1)⟩,
  ⟨some 49, none, .call 22 [(.t 47), (.t 48)]⟩,
  ⟨some 43, none, .mov (.t 49)⟩,
  ⟨some 50, none, .ext 0 (.t 43)⟩,
  ⟨some 51, none, .ext 1 (.t 43)⟩,
  ⟨some 10, none, .mov (.t 50)⟩,
  ⟨some 11, none, .mov (.t 51)⟩]
def R9_8 : List GI := [
  ⟨some 53, none, .mov (.t 5)⟩,
  ⟨some 54, none, .build [(.int .i64 0), (.int .u64 0), (.int .u64 0), (.int .u64 0), (.int .u64 0), (.slice none 0 0)] [(0, 1, (.k (.int .i64 7))), (5, 1, (.t 53))]⟩,
  ⟨some 55, none, .mov (.t 1)⟩,
  ⟨some 56, none, .call 22 [(.t 54), (.t 55)]⟩,
  ⟨some 52, none, .mov (.t 56)⟩,
  ⟨some 57, none, .ext 0 (.t 52)⟩,
  ⟨some 58, none, .ext 1 (.t 52)⟩,
  ⟨some 12, none, .mov (.t 57)⟩,
  ⟨some 13, none, .mov (.t 58)⟩]
def R9_9 : List GI := [
  ⟨some 60, none, .loadn 6 (.t 2)⟩,
  ⟨some 61, none, .build [(.int .i64 0), (.int .u64 0), (.int .u64 0), (.int .u64 0), (.int .u64 0), (.slice none 0 0)] [(0, 1, (.k (.int .i64 1)))]⟩,
  ⟨some 62, none, .bslice 48 2 (rl [(1, (.int .i64 0)), (4, (.int .u64 0)), (1, (.slice none 0 0)), (1, (.int .i64 0)), (4, (.int .u64 0)), (1, (.slice none 0 0))]) [(0, 6, (.t 60)), (6, 6, (.t 61))]⟩,
  ⟨some 63, none, .build [(.int .i64 0), (.int .u64 0), (.int .u64 0), (.int .u64 0), (.int .u64 0), (.slice none 0 0)] [(0, 1, (.k (.int .i64 4))), (5, 1, (.t 62))]⟩,
  ⟨some 64, none, .mov (.t 1)⟩,
  ⟨some 65, none, .call 22 [(.t 63), (.t 64)]⟩,
  ⟨some 59, none, .mov (.t 65)⟩,
  ⟨some 66, none, .ext 0 (.t 59)⟩,
  ⟨some 67, none, .ext 1 (.t 59)⟩,
  ⟨some 14, none, .mov (.t 66)⟩,
  ⟨some 15, none, .mov (.t 67)⟩]
def R9_10 : List GI := [
  ⟨some 69, none, .loadn 6 (.t 6)⟩,
  ⟨some 70, none, .mov (.t 1)⟩,
  ⟨some 71, none, .call 22 [(.t 69), (.t 70)]⟩,
  ⟨some 68, none, .mov (.t 71)⟩,
  ⟨some 72, none, .ext 0 (.t 68)⟩,
  ⟨some 73, none, .ext 1 (.t 68)⟩,
  ⟨some 16, none, .mov (.t 72)⟩,
  ⟨some 17, none, .mov (.t 73)⟩]
def R9_11 : List GI := [
  ⟨some 75, none, .loadn 6 (.t 7)⟩,
  ⟨some 76, none, .bslice 48 1 [(.int .i64 0), (.int .u64 0), (.int .u64 0), (.int .u64 0), (.int .u64 0), (.slice none 0 0)] [(0, 6, (.t 75))]⟩,
  ⟨some 77, none, .build [(.int .i64 0), (.int .u64 0), (.int .u64 0), (.int .u64 0), (.int .u64 0), (.slice none 0 0)] [(0, 1, (.k (.int .i64 7))), (5, 1, (.t 76))]⟩,
  ⟨some 78, none, .mov (.t 1)⟩,
  ⟨some 79, none, .call 22 [(.t 77), (.t 78)]⟩,
  ⟨some 74, none, .mov (.t 79)⟩,
  ⟨some 80, none, .ext 0 (.t 74)⟩,
  ⟨some 81, none, .ext 1 (.t 74)⟩,
  ⟨some 18, none, .mov (.t 80)⟩,
  ⟨some 19, none, .mov (.t 81)⟩]
def R9_12 : List GI := [
  ⟨some 82, none, .mov (.t 11)⟩,
  ⟨some 83, none, .bin .neq (.t 82) (.k (.int .i64 0))⟩,
  ⟨some 84, none, .mov (.t 83)⟩,
  ⟨some 85, some (84, false), .mov (.t 19)⟩,
  ⟨some 86, some (84, false), .bin .neq (.t 85) (.k (.int .i64 0))⟩,
  ⟨some 87, none, .pick (.t 84) (.k (.bool true)) (.t 86)⟩]
def R9_13 : List GI := [
  ⟨some 88, none, .call 23 []⟩,
  ⟨some 4, none, .mov (.t 88)⟩]
def R9_14 : List GI := [
  ⟨some 89, none, .mov (.t 9)⟩,
  ⟨some 90, none, .bin .eql (.t 89) (.k (.int .i64 0))⟩,
  ⟨some 91, none, .mov (.t 90)⟩,
  ⟨some 92, some (91, true), .mov (.t 13)⟩,
  ⟨some 93, some (91, true), .bin .eql (.t 92) (.k (.int .i64 0))⟩,
  ⟨some 94, none, .pick (.t 91) (.t 93) (.k (.bool false))⟩,
  ⟨some 95, none, .mov (.t 94)⟩,
  ⟨some 96, some (95, true), .mov (.t 15)⟩,
  ⟨some 97, some (95, true), .bin .eql (.t 96) (.k (.int .i64 0))⟩,
  ⟨some 98, none, .pick (.t 95) (.t 97) (.k (.bool false))⟩,
  ⟨some 99, none, .mov (.t 98)⟩,
  ⟨some 100, some (99, true), .mov (.t 17)⟩,
  ⟨some 101, some (99, true), .bin .eql (.t 100) (.k (.int .i64 0))⟩,
  ⟨some 102, none, .pick (.t 99) (.t 101) (.k (.bool false))⟩,
  ⟨some 103, none, .mov (.t 102)⟩,
  ⟨some 104, some (103, true), .mov (.t 8)⟩,
  ⟨some 105, some (103, true), .mov (.t 10)⟩,
  ⟨some 106, some (103, true), .eqc 0 false (.t 104) (.t 105)⟩,
  ⟨some 107, none, .pick (.t 103) (.t 106) (.k (.bool false))⟩,
  ⟨some 108, none, .mov (.t 107)⟩,
  ⟨some 109, some (108, true), .mov (.t 12)⟩,
  ⟨some 110, some (108, true), .mov (.t 14)⟩,
  ⟨some 111, some (108, true), .eqc 0 false (.t 109) (.t 110)⟩,
  ⟨some 112, none, .pick (.t 108) (.t 111) (.k (.bool false))⟩,
  ⟨some 113, none, .mov (.t 112)⟩,
  ⟨some 114, some (113, true), .mov (.t 16)⟩,
  ⟨some 115, some (113, true), .mov (.t 18)⟩,
  ⟨some 116, some (113, true), .eqc 0 false (.t 114) (.t 115)⟩,
  ⟨some 117, none, .pick (.t 113) (.t 116) (.k (.bool false))⟩,
  ⟨some 118, none, .mov (.t 117)⟩,
  ⟨some 119, some (118, true), .call 23 []⟩,
  ⟨some 120, none, .pick (.t 118) (.t 119) (.k (.bool false))⟩,
  ⟨some 4, none, .mov (.t 120)⟩]
def A9 : AF := ⟨(.seq (.reg R9_0) (.seq (.seq (.reg R9_1) (.cond (.t 30) (.seq (.reg R9_2) .ret) .skip)) (.seq (.reg R9_3) (.seq (.reg R9_4) (.seq (.reg R9_5) (.seq (.reg R9_6) (.seq (.reg R9_7) (.seq (.reg R9_8) (.seq (.reg R9_9) (.seq (.reg R9_10) (.seq (.reg R9_11) (.seq (.seq (.reg R9_12) (.cond (.t 87) (.seq (.reg R9_13) .ret) .skip)) (.seq (.reg R9_14) .ret))))))))))))), [(4, none)]⟩

/-- rootstock/rootstockref05.Check -/
def R21_0 : List GI := [
  ⟨some 1, none, .box 48 6 (.t 0)⟩,
  ⟨some 2, none, .mov (.k (.int .i64 0))⟩]
def R21_1 : List GI := [
  ⟨some 3, none, .loadn 6 (.t 1)⟩,
  ⟨some 4, none, .call 48 [(.t 3)]⟩,
  ⟨some 5, none, .bin .gtr (.t 4) (.k (.int .i64 512))⟩]
def R21_2 : List GI := [
  ⟨some 2, none, .mov (.k (.int .i64 3))⟩]
def R21_3 : List GI := [
  ⟨some 6, none, .loadn 6 (.t 1)⟩,
  ⟨some 7, none, .call 49 [(.t 6)]⟩,
  ⟨some 8, none, .bin .gtr (.t 7) (.k (.int .i64 16))⟩]
def R21_4 : List GI := [
  ⟨some 2, none, .mov (.k (.int .i64 51))⟩]
def R21_5 : List GI := [
  ⟨some 9, none, .loadn 6 (.t 1)⟩,
  ⟨some 10, none, .call 50 [(.t 9)]⟩,
  ⟨some 11, none, .un .not (.t 10)⟩]
def R21_6 : List GI := [
  ⟨some 2, none, .mov (.k (.int .i64 2))⟩]
def R21_7 : List GI := [
  ⟨some 2, none, .mov (.k (.int .i64 0))⟩]
def A21 : AF := ⟨(.seq (.reg R21_0) (.seq (.seq (.reg R21_1) (.cond (.t 5) (.seq (.reg R21_2) .ret) .skip)) (.seq (.seq (.reg R21_3) (.cond (.t 8) (.seq (.reg R21_4) .ret) .skip)) (.seq (.seq (.reg R21_5) (.cond (.t 11) (.seq (.reg R21_6) .ret) .skip)) (.seq (.reg R21_7) .ret))))), [(2, none)]⟩

/-- rootstock/regs.Matches -/
def R22_0 : List GI := [
  ⟨some 2, none, .box 48 6 (.t 0)⟩,
  ⟨some 4, none, .mov (.k (.bool false))⟩,
  ⟨some 5, none, .mov (.k (.int .i64 0))⟩]
def R22_1 : List GI := [
  ⟨some 8, none, .loadn 6 (.t 2)⟩,
  ⟨some 9, none, .call 51 [(.t 8)]⟩,
  ⟨some 6, none, .mov (.t 9)⟩]
def R22_2 : List GI := [
  ⟨some 10, none, .mov (.t 6)⟩,
  ⟨some 11, none, .bin .neq (.t 10) (.k (.int .i64 0))⟩]
def R22_3 : List GI := [
  ⟨some 12, none, .mov (.t 6)⟩,
  ⟨some 4, none, .mov (.k (.bool false))⟩,
  ⟨some 5, none, .mov (.t 12)⟩]
def R22_4 : List GI := [
  ⟨some 13, none, .mov (.t 1)⟩,
  ⟨some 14, none, .lent (.t 13)⟩,
  ⟨some 15, none, .bin .gtr (.t 14) (.k (.int .i64 65536))⟩]
def R22_5 : List GI := [
  ⟨some 4, none, .mov (.k (.bool false))⟩,
  ⟨some 5, none, .mov (.k (.int .i64 3))⟩]
def R22_6 : List GI := [
  ⟨some 16, none, .loadn 6 (.t 2)⟩,
  ⟨some 17, none, .mov (.t 1)⟩,
  ⟨some 18, none, .bslice 3 1 [(.int .i64 0)] [(0, 1, (.k (.int .i64 0)))]⟩,
  ⟨some 19, none, .call 52 [(.t 16), (.t 17), (.t 18)]⟩,
  ⟨some 7, none, .mov (.t 19)⟩]
def R22_7 : List GI := [
  ⟨some 20, none, .mov (.t 7)⟩,
  ⟨some 21, none, .lens (.t 20)⟩,
  ⟨some 22, none, .bin .gtr (.t 21) (.k (.int .i64 0))⟩,
  ⟨some 23, none, .mov (.t 22)⟩,
  ⟨some 24, some (23, true), .mov (.t 7)⟩,
  ⟨some 25, some (23, true), .mov (.t 7)⟩,
  ⟨some 26, some (23, true), .lens (.t 25)⟩,
  ⟨some 27, some (23, true), .bin .sub (.t 26) (.k (.int .i64 1))⟩,
  ⟨some 28, some (23, true), .ixs 1 (.t 24) (.t 27)⟩,
  ⟨some 29, some (23, true), .load (.t 28)⟩,
  ⟨some 30, some (23, true), .mov (.t 1)⟩,
  ⟨some 31, some (23, true), .lent (.t 30)⟩,
  ⟨some 32, some (23, true), .bin .eql (.t 29) (.t 31)⟩,
  ⟨some 33, none, .pick (.t 23) (.t 32) (.k (.bool false))⟩,
  ⟨some 4, none, .mov (.t 33)⟩,
  ⟨some 5, none, .mov (.k (.int .i64 0))⟩]
def A22 : AF := ⟨(.seq (.reg R22_0) (.seq (.seq (.reg R22_1) (.seq (.reg R22_2) (.cond (.t 11) (.seq (.reg R22_3) .ret) .skip))) (.seq (.seq (.reg R22_4) (.cond (.t 15) (.seq (.reg R22_5) .ret) .skip)) (.seq (.reg R22_6) (.seq (.reg R22_7) .ret))))), [(4, none), (5, none)]⟩

/-- rootstock/rootstocklaw05.alive -/
def R23_0 : List GI := [
  ⟨some 0, none, .mov (.k (.bool false))⟩]
def R23_1 : List GI := [
  ⟨some 15, none, .call 31 [(.k (.string ⟨#[97, 98, 42]⟩))]⟩,
  ⟨some 14, none, .mov (.t 15)⟩,
  ⟨some 16, none, .ext 0 (.t 14)⟩,
  ⟨some 17, none, .ext 1 (.t 14)⟩,
  ⟨some 18, none, .ext 2 (.t 14)⟩,
  ⟨some 1, none, .alloc 48 [(.int .i64 0), (.int .u64 0), (.int .u64 0), (.int .u64 0), (.int .u64 0), (.slice none 0 0)]⟩,
  ⟨none, none, .store 6 (.t 1) (.t 16)⟩,
  ⟨some 2, none, .mov (.t 17)⟩,
  ⟨some 3, none, .mov (.t 18)⟩]
def R23_2 : List GI := [
  ⟨some 19, none, .call 53 [(.k (.int .u8 97))]⟩,
  ⟨some 20, none, .call 53 [(.k (.int .u8 98))]⟩,
  ⟨some 21, none, .bslice 48 1 [(.int .i64 0), (.int .u64 0), (.int .u64 0), (.int .u64 0), (.int .u64 0), (.slice none 0 0)] [(0, 6, (.t 20))]⟩,
  ⟨some 22, none, .build [(.int .i64 0), (.int .u64 0), (.int .u64 0), (.int .u64 0), (.int .u64 0), (.slice none 0 0)] [(0, 1, (.k (.int .i64 5))), (5, 1, (.t 21))]⟩,
  ⟨some 23, none, .bslice 48 2 (rl [(1, (.int .i64 0)), (4, (.int .u64 0)), (1, (.slice none 0 0)), (1, (.int .i64 0)), (4, (.int .u64 0)), (1, (.slice none 0 0))]) [(0, 6, (.t 19)), (6, 6, (.t 22))]⟩,
  ⟨some 24, none, .build [(.int .i64 0), (.int .u64 0), (.int .u64 0), (.int .u64 0), (.int .u64 0), (.slice none 0 0)] [(0, 1, (.k (.int .i64 3))), (5, 1, (.t 23))]⟩,
  ⟨some 4, none, .alloc 48 [(.int .i64 0), (.int .u64 0), (.int .u64 0), (.int .u64 0), (.int .u64 0), (.slice none 0 0)]⟩,
  ⟨none, none, .store 6 (.t 4) (.t 24)⟩]
def R23_3 : List GI := [
  ⟨some 26, none, .loadn 6 (.t 4)⟩,
  ⟨some 27, none, .call 30 [(.t 26)]⟩,
  ⟨some 25, none, .mov (.t 27)⟩,
  ⟨some 28, none, .ext 0 (.t 25)⟩,
  ⟨some 29, none, .ext 1 (.t 25)⟩,
  ⟨some 5, none, .mov (.t 28)⟩,
  ⟨some 6, none, .mov (.t 29)⟩]
def R23_4 : List GI := [
  ⟨some 31, none, .loadn 6 (.t 4)⟩,
  ⟨some 32, none, .call 22 [(.t 31), (.k (.string ⟨#[97, 98, 98]⟩))]⟩,
  ⟨some 30, none, .mov (.t 32)⟩,
  ⟨some 33, none, .ext 0 (.t 30)⟩,
  ⟨some 34, none, .ext 1 (.t 30)⟩,
  ⟨some 7, none, .mov (.t 33)⟩,
  ⟨some 8, none, .mov (.t 34)⟩]
def R23_5 : List GI := [
  ⟨some 36, none, .loadn 6 (.t 4)⟩,
  ⟨some 37, none, .call 22 [(.t 36), (.k (.string ⟨#[98, 97]⟩))]⟩,
  ⟨some 35, none, .mov (.t 37)⟩,
  ⟨some 38, none, .ext 0 (.t 35)⟩,
  ⟨some 39, none, .ext 1 (.t 35)⟩,
  ⟨some 9, none, .mov (.t 38)⟩,
  ⟨some 10, none, .mov (.t 39)⟩]
def R23_6 : List GI := [
  ⟨some 41, none, .call 31 [(.k (.string ⟨#[97, 41]⟩))]⟩,
  ⟨some 40, none, .mov (.t 41)⟩,
  ⟨some 42, none, .ext 0 (.t 40)⟩,
  ⟨some 43, none, .ext 1 (.t 40)⟩,
  ⟨some 44, none, .ext 2 (.t 40)⟩,
  ⟨some 11, none, .alloc 48 [(.int .i64 0), (.int .u64 0), (.int .u64 0), (.int .u64 0), (.int .u64 0), (.slice none 0 0)]⟩,
  ⟨none, none, .store 6 (.t 11) (.t 42)⟩,
  ⟨some 12, none, .mov (.t 43)⟩,
  ⟨some 13, none, .mov (.t 44)⟩]
def R23_7 : List GI := [
  ⟨some 45, none, .mov (.t 3)⟩,
  ⟨some 46, none, .bin .eql (.t 45) (.k (.int .i64 0))⟩,
  ⟨some 47, none, .mov (.t 46)⟩,
  ⟨some 48, some (47, true), .loadn 6 (.t 1)⟩,
  ⟨some 49, some (47, true), .loadn 6 (.t 4)⟩,
  ⟨some 50, some (47, true), .call 54 [(.t 48), (.t 49)]⟩,
  ⟨some 51, none, .pick (.t 47) (.t 50) (.k (.bool false))⟩,
  ⟨some 52, none, .mov (.t 51)⟩,
  ⟨some 53, some (52, true), .mov (.t 5)⟩,
  ⟨some 54, some (52, true), .bin .eql (.t 53) (.k (.string ⟨#[97, 98, 42]⟩))⟩,
  ⟨some 55, none, .pick (.t 52) (.t 54) (.k (.bool false))⟩,
  ⟨some 56, none, .mov (.t 55)⟩,
  ⟨some 57, some (56, true), .mov (.t 6)⟩,
  ⟨some 58, some (56, true), .bin .eql (.t 57) (.k (.int .i64 0))⟩,
  ⟨some 59, none, .pick (.t 56) (.t 58) (.k (.bool false))⟩,
  ⟨some 60, none, .mov (.t 59)⟩,
  ⟨some 61, some (60, true), .mov (.t 7)⟩,
  ⟨some 62, none, .pick (.t 60) (.t 61) (.k (.bool false))⟩,
  ⟨some 63, none, .mov (.t 62)⟩,
  ⟨some 64, some (63, true), .mov (.t 8)⟩,
  ⟨some 65, some (63, true), .bin .eql (.t 64) (.k (.int .i64 0))⟩,
  ⟨some 66, none, .pick (.t 63) (.t 65) (.k (.bool false))⟩,
  ⟨some 67, none, .mov (.t 66)⟩,
  ⟨some 68, some (67, true), .mov (.t 9)⟩,
  ⟨some 69, some (67, true), .un .not (.t 68)⟩,
  ⟨some 70, none, .pick (.t 67) (.t 69) (.k (.bool false))⟩,
  ⟨some 71, none, .mov (.t 70)⟩,
  ⟨some 72, some (71, true), .mov (.t 10)⟩,
  ⟨some 73, some (71, true), .bin .eql (.t 72) (.k (.int .i64 0))⟩,
  ⟨some 74, none, .pick (.t 71) (.t 73) (.k (.bool false))⟩,
  ⟨some 75, none, .mov (.t 74)⟩,
  ⟨some 76, some (75, true), .mov (.t 12)⟩,
  ⟨some 77, some (75, true), .bin .eql (.t 76) (.k (.int .i64 1))⟩,
  ⟨some 78, none, .pick (.t 75) (.t 77) (.k (.bool false))⟩,
  ⟨some 79, none, .mov (.t 78)⟩,
  ⟨some 80, some (79, true), .mov (.t 13)⟩,
  ⟨some 81, some (79, true), .bin .eql (.t 80) (.k (.int .i64 50))⟩,
  ⟨some 82, none, .pick (.t 79) (.t 81) (.k (.bool false))⟩,
  ⟨some 83, none, .mov (.t 82)⟩,
  ⟨some 84, some (83, true), .loadn 6 (.t 4)⟩,
  ⟨some 85, some (83, true), .call 55 [(.t 84)]⟩,
  ⟨some 86, some (83, true), .bin .eql (.t 85) (.k (.int .i64 4))⟩,
  ⟨some 87, none, .pick (.t 83) (.t 86) (.k (.bool false))⟩,
  ⟨some 0, none, .mov (.t 87)⟩]
def A23 : AF := ⟨(.seq (.reg R23_0) (.seq (.reg R23_1) (.seq (.reg R23_2) (.seq (.reg R23_3) (.seq (.reg R23_4) (.seq (.reg R23_5) (.seq (.reg R23_6) (.seq (.reg R23_7) .ret)))))))), [(0, none)]⟩

/-- rootstock/rootstocklaw01.RegBig -/
def R24_0 : List GI := [
  ⟨some 2, none, .box 48 6 (.t 0)⟩,
  ⟨some 4, none, .mov (.k (.bool false))⟩]
def R24_1 : List GI := [
  ⟨some 9, none, .loadn 6 (.t 2)⟩,
  ⟨some 10, none, .bslice 48 1 [(.int .i64 0), (.int .u64 0), (.int .u64 0), (.int .u64 0), (.int .u64 0), (.slice none 0 0)] [(0, 6, (.t 9))]⟩,
  ⟨some 5, none, .mov (.t 10)⟩]
def R24_2 : List GI := [
  ⟨some 6, none, .mov (.k (.int .i64 0))⟩]
def R24_3 : List GI := [
  ⟨some 11, none, .mov (.t 5)⟩,
  ⟨some 12, none, .lens (.t 11)⟩,
  ⟨some 13, none, .bin .gtr (.t 12) (.k (.int .i64 0))⟩]
def R24_4 : List GI := [
  ⟨some 16, none, .mov (.t 5)⟩,
  ⟨some 17, none, .mov (.t 5)⟩,
  ⟨some 18, none, .lens (.t 17)⟩,
  ⟨some 19, none, .bin .sub (.t 18) (.k (.int .i64 1))⟩,
  ⟨some 20, none, .ixs 6 (.t 16) (.t 19)⟩,
  ⟨some 21, none, .loadn 6 (.t 20)⟩,
  ⟨some 7, none, .alloc 48 [(.int .i64 0), (.int .u64 0), (.int .u64 0), (.int .u64 0), (.int .u64 0), (.slice none 0 0)]⟩,
  ⟨none, none, .store 6 (.t 7) (.t 21)⟩]
def R24_5 : List GI := [
  ⟨some 22, none, .mov (.t 5)⟩,
  ⟨some 23, none, .mov (.t 5)⟩,
  ⟨some 24, none, .lens (.t 23)⟩,
  ⟨some 25, none, .bin .sub (.t 24) (.k (.int .i64 1))⟩,
  ⟨some 26, none, .slc 48 6 (.t 22) none (some (.t 25)) none⟩,
  ⟨some 5, none, .mov (.t 26)⟩]
def R24_6 : List GI := [
  ⟨some 27, none, .mov (.t 6)⟩,
  ⟨some 28, none, .mov (.t 1)⟩,
  ⟨some 29, none, .bin .geq (.t 27) (.t 28)⟩,
  ⟨some 30, none, .mov (.t 29)⟩,
  ⟨some 31, some (30, false), .fadr 5 (.t 7)⟩,
  ⟨some 32, some (30, false), .load (.t 31)⟩,
  ⟨some 33, some (30, false), .lens (.t 32)⟩,
  ⟨some 34, some (30, false), .mov (.t 1)⟩,
  ⟨some 35, some (30, false), .bin .gtr (.t 33) (.t 34)⟩,
  ⟨some 36, none, .pick (.t 30) (.k (.bool true)) (.t 35)⟩]
def R24_7 : List GI := [
  ⟨some 4, none, .mov (.k (.bool true))⟩]
def R24_8 : List GI := [
  ⟨some 8, none, .mov (.k (.int .i64 0))⟩]
def R24_9 : List GI := [
  ⟨some 37, none, .mov (.t 8)⟩,
  ⟨some 38, none, .fadr 5 (.t 7)⟩,
  ⟨some 39, none, .load (.t 38)⟩,
  ⟨some 40, none, .lens (.t 39)⟩,
  ⟨some 41, none, .bin .lss (.t 37) (.t 40)⟩,
  ⟨some 42, none, .mov (.t 41)⟩,
  ⟨some 43, some (42, true), .mov (.t 5)⟩,
  ⟨some 44, some (42, true), .lens (.t 43)⟩,
  ⟨some 45, some (42, true), .mov (.t 1)⟩,
  ⟨some 46, some (42, true), .bin .leq (.t 44) (.t 45)⟩,
  ⟨some 47, none, .pick (.t 42) (.t 46) (.k (.bool false))⟩]
def R24_10 : List GI := [
  ⟨some 50, none, .mov (.t 5)⟩,
  ⟨some 51, none, .fadr 5 (.t 7)⟩,
  ⟨some 52, none, .load (.t 51)⟩,
  ⟨some 53, none, .mov (.t 8)⟩,
  ⟨some 54, none, .ixs 6 (.t 52) (.t 53)⟩,
  ⟨some 55, none, .loadn 6 (.t 54)⟩,
  ⟨some 56, none, .bslice 48 1 [(.int .i64 0), (.int .u64 0), (.int .u64 0), (.int .u64 0), (.int .u64 0), (.slice none 0 0)] [(0, 6, (.t 55))]⟩,
  ⟨some 57, none, .app 48 6 64 (.t 50) (.t 56)⟩,
  ⟨some 5, none, .mov (.t 57)⟩]
def R24_11 : List GI := [
  ⟨some 48, none, .mov (.t 8)⟩,
  ⟨some 49, none, .bin .add (.t 48) (.k (.int .i64 1))⟩,
  ⟨some 8, none, .mov (.t 49)⟩]
def B24_1 : AC := (.seq (.seq (.reg R24_9) (.cond (.t 47) .skip (.exit 2))) (.seq (.block 3 (.reg R24_10)) (.reg R24_11)))
def R24_12 : List GI := [
  ⟨some 14, none, .mov (.t 6)⟩,
  ⟨some 15, none, .bin .add (.t 14) (.k (.int .i64 1))⟩,
  ⟨some 6, none, .mov (.t 15)⟩]
def B24_0 : AC := (.seq (.seq (.reg R24_3) (.cond (.t 13) .skip (.exit 0))) (.seq (.block 1 (.seq (.reg R24_4) (.seq (.reg R24_5) (.seq (.seq (.reg R24_6) (.cond (.t 36) (.seq (.reg R24_7) .ret) .skip)) (.seq (.reg R24_8) (.block 2 (.loop B24_1))))))) (.reg R24_12)))
def R24_13 : List GI := [
  ⟨some 4, none, .mov (.k (.bool false))⟩]
def A24 : AF := ⟨(.seq (.reg R24_0) (.seq (.reg R24_1) (.seq (.seq (.reg R24_2) (.block 0 (.loop B24_0))) (.seq (.reg R24_13) .ret)))), [(4, none)]⟩

/-- rootstock/rootstocklaw01.RegNested -/
def R25_0 : List GI := [
  ⟨some 2, none, .box 48 6 (.t 0)⟩,
  ⟨some 4, none, .mov (.k (.bool false))⟩]
def R25_1 : List GI := [
  ⟨some 6, none, .fadr 0 (.t 2)⟩,
  ⟨some 7, none, .load (.t 6)⟩,
  ⟨some 8, none, .bin .eql (.t 7) (.k (.int .i64 5))⟩,
  ⟨some 9, none, .mov (.t 8)⟩,
  ⟨some 10, some (9, false), .fadr 0 (.t 2)⟩,
  ⟨some 11, some (9, false), .load (.t 10)⟩,
  ⟨some 12, some (9, false), .bin .eql (.t 11) (.k (.int .i64 6))⟩,
  ⟨some 13, none, .pick (.t 9) (.k (.bool true)) (.t 12)⟩]
def R25_2 : List GI := [
  ⟨some 14, none, .mov (.t 1)⟩,
  ⟨some 15, none, .bin .sub (.t 14) (.k (.int .i64 1))⟩,
  ⟨some 1, none, .mov (.t 15)⟩]
def R25_3 : List GI := [
  ⟨some 16, none, .mov (.t 1)⟩,
  ⟨some 17, none, .bin .lss (.t 16) (.k (.int .i64 0))⟩]
def R25_4 : List GI := [
  ⟨some 4, none, .mov (.k (.bool true))⟩]
def R25_5 : List GI := [
  ⟨some 5, none, .mov (.k (.int .i64 0))⟩]
def R25_6 : List GI := [
  ⟨some 18, none, .mov (.t 5)⟩,
  ⟨some 19, none, .fadr 5 (.t 2)⟩,
  ⟨some 20, none, .load (.t 19)⟩,
  ⟨some 21, none, .lens (.t 20)⟩,
  ⟨some 22, none, .bin .lss (.t 18) (.t 21)⟩]
def R25_7 : List GI := [
  ⟨some 25, none, .fadr 5 (.t 2)⟩,
  ⟨some 26, none, .load (.t 25)⟩,
  ⟨some 27, none, .mov (.t 5)⟩,
  ⟨some 28, none, .ixs 6 (.t 26) (.t 27)⟩,
  ⟨some 29, none, .loadn 6 (.t 28)⟩,
  ⟨some 30, none, .mov (.t 1)⟩,
  ⟨some 31, none, .call 25 [(.t 29), (.t 30)]⟩]
def R25_8 : List GI := [
  ⟨some 4, none, .mov (.k (.bool true))⟩]
def R25_9 : List GI := [
  ⟨some 23, none, .mov (.t 5)⟩,
  ⟨some 24, none, .bin .add (.t 23) (.k (.int .i64 1))⟩,
  ⟨some 5, none, .mov (.t 24)⟩]
def B25_0 : AC := (.seq (.seq (.reg R25_6) (.cond (.t 22) .skip (.exit 0))) (.seq (.block 1 (.seq (.reg R25_7) (.cond (.t 31) (.seq (.reg R25_8) .ret) .skip))) (.reg R25_9)))
def R25_10 : List GI := [
  ⟨some 4, none, .mov (.k (.bool false))⟩]
def A25 : AF := ⟨(.seq (.reg R25_0) (.seq (.seq (.reg R25_1) (.cond (.t 13) (.reg R25_2) .skip)) (.seq (.seq (.reg R25_3) (.cond (.t 17) (.seq (.reg R25_4) .ret) .skip)) (.seq (.seq (.reg R25_5) (.block 0 (.loop B25_0))) (.seq (.reg R25_10) .ret))))), [(4, none)]⟩

/-- rootstock/rootstocklaw01.TwinReg -/
def R26_0 : List GI := [
  ⟨some 1, none, .box 48 6 (.t 0)⟩,
  ⟨some 2, none, .alloc 48 [(.int .i64 0), (.int .u64 0), (.int .u64 0), (.int .u64 0), (.int .u64 0), (.slice none 0 0)]⟩]
def R26_1 : List GI := [
  ⟨some 3, none, .mov (.k (.slice none 0 0))⟩]
def R26_2 : List GI := [
  ⟨some 4, none, .mov (.k (.int .i64 0))⟩]
def R26_3 : List GI := [
  ⟨some 6, none, .mov (.t 4)⟩,
  ⟨some 7, none, .fadr 5 (.t 1)⟩,
  ⟨some 8, none, .load (.t 7)⟩,
  ⟨some 9, none, .lens (.t 8)⟩,
  ⟨some 10, none, .bin .lss (.t 6) (.t 9)⟩]
def R26_4 : List GI := [
  ⟨some 13, none, .mov (.t 3)⟩,
  ⟨some 14, none, .fadr 5 (.t 1)⟩,
  ⟨some 15, none, .load (.t 14)⟩,
  ⟨some 16, none, .mov (.t 4)⟩,
  ⟨some 17, none, .ixs 6 (.t 15) (.t 16)⟩,
  ⟨some 18, none, .loadn 6 (.t 17)⟩,
  ⟨some 19, none, .call 26 [(.t 18)]⟩,
  ⟨some 20, none, .bslice 48 1 [(.int .i64 0), (.int .u64 0), (.int .u64 0), (.int .u64 0), (.int .u64 0), (.slice none 0 0)] [(0, 6, (.t 19))]⟩,
  ⟨some 21, none, .app 48 6 64 (.t 13) (.t 20)⟩,
  ⟨some 3, none, .mov (.t 21)⟩]
def R26_5 : List GI := [
  ⟨some 11, none, .mov (.t 4)⟩,
  ⟨some 12, none, .bin .add (.t 11) (.k (.int .i64 1))⟩,
  ⟨some 4, none, .mov (.t 12)⟩]
def B26_0 : AC := (.seq (.seq (.reg R26_3) (.cond (.t 10) .skip (.exit 0))) (.seq (.block 1 (.reg R26_4)) (.reg R26_5)))
def R26_6 : List GI := [
  ⟨some 5, none, .mov (.k (.int .i64 0))⟩]
def R26_7 : List GI := [
  ⟨some 22, none, .mov (.t 5)⟩,
  ⟨some 23, none, .bin .lss (.t 22) (.k (.int .i64 3))⟩]
def R26_8 : List GI := [
  ⟨some 26, none, .mov (.t 3)⟩,
  ⟨some 27, none, .mov (.t 5)⟩,
  ⟨some 28, none, .bin .sub (.k (.int .i64 (-7000))) (.t 27)⟩,
  ⟨some 29, none, .build [(.int .i64 0), (.int .u64 0), (.int .u64 0), (.int .u64 0), (.int .u64 0), (.slice none 0 0)] [(0, 1, (.t 28))]⟩,
  ⟨some 30, none, .bslice 48 1 [(.int .i64 0), (.int .u64 0), (.int .u64 0), (.int .u64 0), (.int .u64 0), (.slice none 0 0)] [(0, 6, (.t 29))]⟩,
  ⟨some 31, none, .app 48 6 64 (.t 26) (.t 30)⟩,
  ⟨some 3, none, .mov (.t 31)⟩]
def R26_9 : List GI := [
  ⟨some 24, none, .mov (.t 5)⟩,
  ⟨some 25, none, .bin .add (.t 24) (.k (.int .i64 1))⟩,
  ⟨some 5, none, .mov (.t 25)⟩]
def B26_1 : AC := (.seq (.seq (.reg R26_7) (.cond (.t 23) .skip (.exit 2))) (.seq (.block 3 (.reg R26_8)) (.reg R26_9)))
def R26_10 : List GI := [
  ⟨some 32, none, .mov (.t 3)⟩,
  ⟨some 33, none, .fadr 5 (.t 1)⟩,
  ⟨some 34, none, .load (.t 33)⟩,
  ⟨some 35, none, .lens (.t 34)⟩,
  ⟨some 36, none, .slc 48 6 (.t 32) none (some (.t 35)) none⟩,
  ⟨some 37, none, .fadr 5 (.t 1)⟩,
  ⟨none, none, .store 1 (.t 37) (.t 36)⟩]
def R26_11 : List GI := [
  ⟨some 38, none, .loadn 6 (.t 1)⟩,
  ⟨none, none, .store 6 (.t 2) (.t 38)⟩]
def A26 : AF := ⟨(.seq (.reg R26_0) (.seq (.reg R26_1) (.seq (.seq (.reg R26_2) (.block 0 (.loop B26_0))) (.seq (.seq (.reg R26_6) (.block 2 (.loop B26_1))) (.seq (.reg R26_10) (.seq (.reg R26_11) .ret)))))), [(2, some (some 6))]⟩

/-- rootstock/rootstockref05.Whole -/
def R27_0 : List GI := [
  ⟨some 2, none, .box 48 6 (.t 0)⟩,
  ⟨some 4, none, .mov (.k (.bool false))⟩]
def R27_1 : List GI := [
  ⟨some 6, none, .mov (.t 1)⟩,
  ⟨some 7, none, .lent (.t 6)⟩,
  ⟨some 8, none, .bin .add (.t 7) (.k (.int .i64 1))⟩,
  ⟨some 9, none, .mks 4 1 1 [(.bool false)] (.t 8) (.t 8)⟩,
  ⟨some 5, none, .mov (.t 9)⟩]
def R27_2 : List GI := [
  ⟨some 10, none, .mov (.t 5)⟩,
  ⟨some 11, none, .ixs 1 (.t 10) (.k (.int .i64 0))⟩,
  ⟨none, none, .store 1 (.t 11) (.k (.bool true))⟩]
def R27_3 : List GI := [
  ⟨some 12, none, .loadn 6 (.t 2)⟩,
  ⟨some 13, none, .mov (.t 1)⟩,
  ⟨some 14, none, .mov (.t 5)⟩,
  ⟨some 15, none, .call 56 [(.t 12), (.t 13), (.t 14)]⟩,
  ⟨some 16, none, .mov (.t 1)⟩,
  ⟨some 17, none, .lent (.t 16)⟩,
  ⟨some 18, none, .ixs 1 (.t 15) (.t 17)⟩,
  ⟨some 19, none, .load (.t 18)⟩,
  ⟨some 4, none, .mov (.t 19)⟩]
def A27 : AF := ⟨(.seq (.reg R27_0) (.seq (.reg R27_1) (.seq (.reg R27_2) (.seq (.reg R27_3) .ret)))), [(4, none)]⟩

/-- rootstock/rootstocklaw01.LeftReg -/
def R28_0 : List GI := [
  ⟨some 2, none, .box 48 6 (.t 0)⟩,
  ⟨some 3, none, .box 48 6 (.t 1)⟩,
  ⟨some 4, none, .mov (.k (.bool false))⟩]
def R28_1 : List GI := [
  ⟨some 9, none, .fadr 0 (.t 2)⟩,
  ⟨some 10, none, .load (.t 9)⟩,
  ⟨some 11, none, .fadr 0 (.t 3)⟩,
  ⟨some 12, none, .load (.t 11)⟩,
  ⟨some 13, none, .bin .neq (.t 10) (.t 12)⟩,
  ⟨some 14, none, .mov (.t 13)⟩,
  ⟨some 15, some (14, false), .fadr 1 (.t 2)⟩,
  ⟨some 16, some (14, false), .loadn 4 (.t 15)⟩,
  ⟨some 17, some (14, false), .fadr 1 (.t 3)⟩,
  ⟨some 18, some (14, false), .loadn 4 (.t 17)⟩,
  ⟨some 19, some (14, false), .eqa [1, 1, 1, 1] true (.t 16) (.t 18)⟩,
  ⟨some 20, none, .pick (.t 14) (.k (.bool true)) (.t 19)⟩,
  ⟨some 21, none, .mov (.t 20)⟩,
  ⟨some 22, some (21, false), .fadr 5 (.t 2)⟩,
  ⟨some 23, some (21, false), .load (.t 22)⟩,
  ⟨some 24, some (21, false), .lens (.t 23)⟩,
  ⟨some 25, some (21, false), .fadr 5 (.t 3)⟩,
  ⟨some 26, some (21, false), .load (.t 25)⟩,
  ⟨some 27, some (21, false), .lens (.t 26)⟩,
  ⟨some 28, some (21, false), .bin .neq (.t 24) (.t 27)⟩,
  ⟨some 29, none, .pick (.t 21) (.k (.bool true)) (.t 28)⟩,
  ⟨some 30, none, .mov (.t 29)⟩,
  ⟨some 31, some (30, false), .fadr 5 (.t 2)⟩,
  ⟨some 32, some (30, false), .load (.t 31)⟩,
  ⟨some 33, some (30, false), .caps (.t 32)⟩,
  ⟨some 34, some (30, false), .fadr 5 (.t 3)⟩,
  ⟨some 35, some (30, false), .load (.t 34)⟩,
  ⟨some 36, some (30, false), .lens (.t 35)⟩,
  ⟨some 37, some (30, false), .bin .add (.t 36) (.k (.int .i64 3))⟩,
  ⟨some 38, some (30, false), .bin .lss (.t 33) (.t 37)⟩,
  ⟨some 39, none, .pick (.t 30) (.k (.bool true)) (.t 38)⟩]
def R28_2 : List GI := [
  ⟨some 4, none, .mov (.k (.bool false))⟩]
def R28_3 : List GI := [
  ⟨some 40, none, .fadr 5 (.t 2)⟩,
  ⟨some 41, none, .load (.t 40)⟩,
  ⟨some 42, none, .fadr 5 (.t 3)⟩,
  ⟨some 43, none, .load (.t 42)⟩,
  ⟨some 44, none, .lens (.t 43)⟩,
  ⟨some 45, none, .bin .add (.t 44) (.k (.int .i64 3))⟩,
  ⟨some 46, none, .slc 48 6 (.t 41) none (some (.t 45)) none⟩,
  ⟨some 5, none, .mov (.t 46)⟩]
def R28_4 : List GI := [
  ⟨some 6, none, .mov (.k (.int .i64 0))⟩]
def R28_5 : List GI := [
  ⟨some 47, none, .mov (.t 6)⟩,
  ⟨some 48, none, .bin .lss (.t 47) (.k (.int .i64 3))⟩]
def R28_6 : List GI := [
  ⟨some 51, none, .mov (.t 5)⟩,
  ⟨some 52, none, .fadr 5 (.t 3)⟩,
  ⟨some 53, none, .load (.t 52)⟩,
  ⟨some 54, none, .lens (.t 53)⟩,
  ⟨some 55, none, .mov (.t 6)⟩,
  ⟨some 56, none, .bin .add (.t 54) (.t 55)⟩,
  ⟨some 57, none, .ixs 6 (.t 51) (.t 56)⟩,
  ⟨some 58, none, .loadn 6 (.t 57)⟩,
  ⟨some 7, none, .alloc 48 [(.int .i64 0), (.int .u64 0), (.int .u64 0), (.int .u64 0), (.int .u64 0), (.slice none 0 0)]⟩,
  ⟨none, none, .store 6 (.t 7) (.t 58)⟩]
def R28_7 : List GI := [
  ⟨some 59, none, .fadr 0 (.t 7)⟩,
  ⟨some 60, none, .load (.t 59)⟩,
  ⟨some 61, none, .mov (.t 6)⟩,
  ⟨some 62, none, .bin .sub (.k (.int .i64 (-7000))) (.t 61)⟩,
  ⟨some 63, none, .bin .neq (.t 60) (.t 62)⟩,
  ⟨some 64, none, .mov (.t 63)⟩,
  ⟨some 65, some (64, false), .fadr 5 (.t 7)⟩,
  ⟨some 66, some (64, false), .load (.t 65)⟩,
  ⟨some 67, some (64, false), .lens (.t 66)⟩,
  ⟨some 68, some (64, false), .bin .gtr (.t 67) (.k (.int .i64 0))⟩,
  ⟨some 69, none, .pick (.t 64) (.k (.bool true)) (.t 68)⟩]
def R28_8 : List GI := [
  ⟨some 4, none, .mov (.k (.bool false))⟩]
def R28_9 : List GI := [
  ⟨some 49, none, .mov (.t 6)⟩,
  ⟨some 50, none, .bin .add (.t 49) (.k (.int .i64 1))⟩,
  ⟨some 6, none, .mov (.t 50)⟩]
def B28_0 : AC := (.seq (.seq (.reg R28_5) (.cond (.t 48) .skip (.exit 0))) (.seq (.block 1 (.seq (.reg R28_6) (.seq (.reg R28_7) (.cond (.t 69) (.seq (.reg R28_8) .ret) .skip)))) (.reg R28_9)))
def R28_10 : List GI := [
  ⟨some 8, none, .mov (.k (.int .i64 0))⟩]
def R28_11 : List GI := [
  ⟨some 70, none, .mov (.t 8)⟩,
  ⟨some 71, none, .fadr 5 (.t 3)⟩,
  ⟨some 72, none, .load (.t 71)⟩,
  ⟨some 73, none, .lens (.t 72)⟩,
  ⟨some 74, none, .bin .lss (.t 70) (.t 73)⟩]
def R28_12 : List GI := [
  ⟨some 77, none, .fadr 5 (.t 2)⟩,
  ⟨some 78, none, .load (.t 77)⟩,
  ⟨some 79, none, .mov (.t 8)⟩,
  ⟨some 80, none, .ixs 6 (.t 78) (.t 79)⟩,
  ⟨some 81, none, .loadn 6 (.t 80)⟩,
  ⟨some 82, none, .fadr 5 (.t 3)⟩,
  ⟨some 83, none, .load (.t 82)⟩,
  ⟨some 84, none, .mov (.t 8)⟩,
  ⟨some 85, none, .ixs 6 (.t 83) (.t 84)⟩,
  ⟨some 86, none, .loadn 6 (.t 85)⟩,
  ⟨some 87, none, .call 28 [(.t 81), (.t 86)]⟩,
  ⟨some 88, none, .un .not (.t 87)⟩]
def R28_13 : List GI := [
  ⟨some 4, none, .mov (.k (.bool false))⟩]
def R28_14 : List GI := [
  ⟨some 75, none, .mov (.t 8)⟩,
  ⟨some 76, none, .bin .add (.t 75) (.k (.int .i64 1))⟩,
  ⟨some 8, none, .mov (.t 76)⟩]
def B28_1 : AC := (.seq (.seq (.reg R28_11) (.cond (.t 74) .skip (.exit 2))) (.seq (.block 3 (.seq (.regd R28_12 []) (.cond (.t 88) (.seq (.reg R28_13) .ret) .skip))) (.reg R28_14)))
def R28_15 : List GI := [
  ⟨some 4, none, .mov (.k (.bool true))⟩]
def A28 : AF := ⟨(.seq (.reg R28_0) (.seq (.seq (.reg R28_1) (.cond (.t 39) (.seq (.reg R28_2) .ret) .skip)) (.seq (.reg R28_3) (.seq (.seq (.reg R28_4) (.block 0 (.loop B28_0))) (.seq (.seq (.reg R28_10) (.block 2 (.loop B28_1))) (.seq (.reg R28_15) .ret)))))), [(4, none)]⟩

/-- rootstock/rootstocklaw05.small -/
def R29_0 : List GI := [
  ⟨some 2, none, .box 48 6 (.t 0)⟩,
  ⟨some 4, none, .mov (.k (.bool false))⟩]
def R29_1 : List GI := [
  ⟨some 5, none, .mov (.t 1)⟩,
  ⟨some 6, none, .lent (.t 5)⟩,
  ⟨some 7, none, .bin .leq (.t 6) (.k (.int .i64 120))⟩,
  ⟨some 8, none, .mov (.t 7)⟩,
  ⟨some 9, some (8, true), .loadn 6 (.t 2)⟩,
  ⟨some 10, some (8, true), .call 24 [(.t 9), (.k (.int .i64 120))]⟩,
  ⟨some 11, some (8, true), .un .not (.t 10)⟩,
  ⟨some 12, none, .pick (.t 8) (.t 11) (.k (.bool false))⟩,
  ⟨some 13, none, .mov (.t 12)⟩,
  ⟨some 14, some (13, true), .loadn 6 (.t 2)⟩,
  ⟨some 15, some (13, true), .call 25 [(.t 14), (.k (.int .i64 3))]⟩,
  ⟨some 16, some (13, true), .un .not (.t 15)⟩,
  ⟨some 17, none, .pick (.t 13) (.t 16) (.k (.bool false))⟩,
  ⟨some 4, none, .mov (.t 17)⟩]
def A29 : AF := ⟨(.seq (.reg R29_0) (.seq (.reg R29_1) .ret)), [(4, none)]⟩

/-- rootstock/rootstockref05.Size -/
def R48_0 : List GI := [
  ⟨some 1, none, .box 48 6 (.t 0)⟩,
  ⟨some 2, none, .mov (.k (.int .i64 0))⟩]
def R48_1 : List GI := [
  ⟨some 3, none, .mov (.k (.int .i64 0))⟩]
def R48_2 : List GI := [
  ⟨some 7, none, .loadn 6 (.t 1)⟩,
  ⟨some 8, none, .bslice 48 1 [(.int .i64 0), (.int .u64 0), (.int .u64 0), (.int .u64 0), (.int .u64 0), (.slice none 0 0)] [(0, 6, (.t 7))]⟩,
  ⟨some 4, none, .mov (.t 8)⟩]
def R48_3 : List GI := [
  ⟨some 9, none, .mov (.t 4)⟩,
  ⟨some 10, none, .lens (.t 9)⟩,
  ⟨some 11, none, .bin .gtr (.t 10) (.k (.int .i64 0))⟩,
  ⟨some 12, none, .mov (.t 11)⟩,
  ⟨some 13, some (12, true), .mov (.t 3)⟩,
  ⟨some 14, some (12, true), .bin .leq (.t 13) (.k (.int .i64 512))⟩,
  ⟨some 15, none, .pick (.t 12) (.t 14) (.k (.bool false))⟩]
def R48_4 : List GI := [
  ⟨some 16, none, .mov (.t 4)⟩,
  ⟨some 17, none, .ixs 6 (.t 16) (.k (.int .i64 0))⟩,
  ⟨some 18, none, .loadn 6 (.t 17)⟩,
  ⟨some 5, none, .alloc 48 [(.int .i64 0), (.int .u64 0), (.int .u64 0), (.int .u64 0), (.int .u64 0), (.slice none 0 0)]⟩,
  ⟨none, none, .store 6 (.t 5) (.t 18)⟩]
def R48_5 : List GI := [
  ⟨some 19, none, .mov (.t 4)⟩,
  ⟨some 20, none, .slc 48 6 (.t 19) (some (.k (.int .i64 1))) none none⟩,
  ⟨some 4, none, .mov (.t 20)⟩]
def R48_6 : List GI := [
  ⟨some 21, none, .mov (.t 3)⟩,
  ⟨some 22, none, .bin .add (.t 21) (.k (.int .i64 1))⟩,
  ⟨some 3, none, .mov (.t 22)⟩]
def R48_7 : List GI := [
  ⟨some 6, none, .mov (.k (.int .i64 0))⟩]
def R48_8 : List GI := [
  ⟨some 23, none, .mov (.t 6)⟩,
  ⟨some 24, none, .fadr 5 (.t 5)⟩,
  ⟨some 25, none, .load (.t 24)⟩,
  ⟨some 26, none, .lens (.t 25)⟩,
  ⟨some 27, none, .bin .lss (.t 23) (.t 26)⟩,
  ⟨some 28, none, .mov (.t 27)⟩,
  ⟨some 29, some (28, true), .mov (.t 4)⟩,
  ⟨some 30, some (28, true), .lens (.t 29)⟩,
  ⟨some 31, some (28, true), .bin .leq (.t 30) (.k (.int .i64 512))⟩,
  ⟨some 32, none, .pick (.t 28) (.t 31) (.k (.bool false))⟩]
def R48_9 : List GI := [
  ⟨some 35, none, .mov (.t 4)⟩,
  ⟨some 36, none, .fadr 5 (.t 5)⟩,
  ⟨some 37, none, .load (.t 36)⟩,
  ⟨some 38, none, .mov (.t 6)⟩,
  ⟨some 39, none, .ixs 6 (.t 37) (.t 38)⟩,
  ⟨some 40, none, .loadn 6 (.t 39)⟩,
  ⟨some 41, none, .bslice 48 1 [(.int .i64 0), (.int .u64 0), (.int .u64 0), (.int .u64 0), (.int .u64 0), (.slice none 0 0)] [(0, 6, (.t 40))]⟩,
  ⟨some 42, none, .app 48 6 64 (.t 35) (.t 41)⟩,
  ⟨some 4, none, .mov (.t 42)⟩]
def R48_10 : List GI := [
  ⟨some 33, none, .mov (.t 6)⟩,
  ⟨some 34, none, .bin .add (.t 33) (.k (.int .i64 1))⟩,
  ⟨some 6, none, .mov (.t 34)⟩]
def B48_1 : AC := (.seq (.seq (.reg R48_8) (.cond (.t 32) .skip (.exit 2))) (.seq (.block 3 (.reg R48_9)) (.reg R48_10)))
def B48_0 : AC := (.seq (.seq (.reg R48_3) (.cond (.t 15) .skip (.exit 0))) (.block 1 (.seq (.reg R48_4) (.seq (.reg R48_5) (.seq (.reg R48_6) (.seq (.reg R48_7) (.block 2 (.loop B48_1))))))))
def R48_11 : List GI := [
  ⟨some 43, none, .mov (.t 3)⟩,
  ⟨some 2, none, .mov (.t 43)⟩]
def A48 : AF := ⟨(.seq (.reg R48_0) (.seq (.reg R48_1) (.seq (.reg R48_2) (.seq (.block 0 (.loop B48_0)) (.seq (.reg R48_11) .ret))))), [(2, none)]⟩

/-- rootstock/rootstockref05.deep -/
def R49_0 : List GI := [
  ⟨some 1, none, .box 48 6 (.t 0)⟩,
  ⟨some 2, none, .mov (.k (.int .i64 0))⟩]
def R49_1 : List GI := [
  ⟨some 3, none, .mov (.k (.int .i64 0))⟩]
def R49_2 : List GI := [
  ⟨some 4, none, .mov (.k (.int .i64 0))⟩]
def R49_3 : List GI := [
  ⟨some 6, none, .mov (.t 4)⟩,
  ⟨some 7, none, .fadr 5 (.t 1)⟩,
  ⟨some 8, none, .load (.t 7)⟩,
  ⟨some 9, none, .lens (.t 8)⟩,
  ⟨some 10, none, .bin .lss (.t 6) (.t 9)⟩]
def R49_4 : List GI := [
  ⟨some 13, none, .fadr 5 (.t 1)⟩,
  ⟨some 14, none, .load (.t 13)⟩,
  ⟨some 15, none, .mov (.t 4)⟩,
  ⟨some 16, none, .ixs 6 (.t 14) (.t 15)⟩,
  ⟨some 17, none, .loadn 6 (.t 16)⟩,
  ⟨some 18, none, .call 49 [(.t 17)]⟩,
  ⟨some 5, none, .mov (.t 18)⟩]
def R49_5 : List GI := [
  ⟨some 19, none, .mov (.t 5)⟩,
  ⟨some 20, none, .mov (.t 3)⟩,
  ⟨some 21, none, .bin .gtr (.t 19) (.t 20)⟩]
def R49_6 : List GI := [
  ⟨some 22, none, .mov (.t 5)⟩,
  ⟨some 3, none, .mov (.t 22)⟩]
def R49_7 : List GI := [
  ⟨some 11, none, .mov (.t 4)⟩,
  ⟨some 12, none, .bin .add (.t 11) (.k (.int .i64 1))⟩,
  ⟨some 4, none, .mov (.t 12)⟩]
def B49_0 : AC := (.seq (.seq (.reg R49_3) (.cond (.t 10) .skip (.exit 0))) (.seq (.block 1 (.seq (.reg R49_4) (.seq (.reg R49_5) (.cond (.t 21) (.reg R49_6) .skip)))) (.reg R49_7)))
def R49_8 : List GI := [
  ⟨some 23, none, .mov (.t 3)⟩,
  ⟨some 24, none, .bin .add (.t 23) (.k (.int .i64 1))⟩,
  ⟨some 2, none, .mov (.t 24)⟩]
def A49 : AF := ⟨(.seq (.reg R49_0) (.seq (.reg R49_1) (.seq (.seq (.reg R49_2) (.block 0 (.loop B49_0))) (.seq (.reg R49_8) .ret)))), [(2, none)]⟩

/-- rootstock/rootstockref05.may -/
def R50_0 : List GI := [
  ⟨some 1, none, .box 48 6 (.t 0)⟩,
  ⟨some 2, none, .mov (.k (.bool false))⟩]
def R50_1 : List GI := [
  ⟨some 5, none, .fadr 5 (.t 1)⟩,
  ⟨some 6, none, .load (.t 5)⟩,
  ⟨some 7, none, .lens (.t 6)⟩,
  ⟨some 3, none, .mov (.t 7)⟩]
def R50_2 : List GI := [
  ⟨some 8, none, .fadr 0 (.t 1)⟩,
  ⟨some 9, none, .load (.t 8)⟩,
  ⟨some 10, none, .bin .neq (.t 9) (.k (.int .i64 2))⟩,
  ⟨some 11, none, .mov (.t 10)⟩,
  ⟨some 12, some (11, true), .fadr 1 (.t 1)⟩,
  ⟨some 13, some (11, true), .loadn 4 (.t 12)⟩,
  ⟨some 14, some (11, true), .build [(.int .u64 0), (.int .u64 0), (.int .u64 0), (.int .u64 0)] []⟩,
  ⟨some 15, some (11, true), .eqa [1, 1, 1, 1] true (.t 13) (.t 14)⟩,
  ⟨some 16, none, .pick (.t 11) (.t 15) (.k (.bool false))⟩]
def R50_3 : List GI := [
  ⟨some 2, none, .mov (.k (.bool false))⟩]
def R50_4 : List GI := [
  ⟨some 17, none, .fadr 0 (.t 1)⟩,
  ⟨some 18, none, .load (.t 17)⟩]
def R50_5 : List GI := [
  ⟨some 20, none, .bin .eql (.t 18) (.k (.int .i64 0))⟩,
  ⟨some 19, none, .mov (.t 20)⟩]
def R50_6 : List GI := [
  ⟨some 21, none, .bin .eql (.t 18) (.k (.int .i64 1))⟩,
  ⟨some 19, none, .mov (.t 21)⟩]
def R50_7 : List GI := [
  ⟨some 22, none, .bin .eql (.t 18) (.k (.int .i64 2))⟩,
  ⟨some 19, none, .mov (.t 22)⟩]
def R50_8 : List GI := [
  ⟨some 23, none, .mov (.t 3)⟩,
  ⟨some 24, none, .bin .eql (.t 23) (.k (.int .i64 0))⟩,
  ⟨some 2, none, .mov (.t 24)⟩]
def R50_9 : List GI := [
  ⟨some 26, none, .bin .eql (.t 18) (.k (.int .i64 3))⟩,
  ⟨some 25, none, .mov (.t 26)⟩]
def R50_10 : List GI := [
  ⟨some 27, none, .bin .eql (.t 18) (.k (.int .i64 4))⟩,
  ⟨some 25, none, .mov (.t 27)⟩]
def R50_11 : List GI := [
  ⟨some 28, none, .mov (.t 3)⟩,
  ⟨some 29, none, .bin .lss (.t 28) (.k (.int .i64 1))⟩]
def R50_12 : List GI := [
  ⟨some 2, none, .mov (.k (.bool false))⟩]
def R50_13 : List GI := [
  ⟨some 31, none, .bin .eql (.t 18) (.k (.int .i64 5))⟩,
  ⟨some 30, none, .mov (.t 31)⟩]
def R50_14 : List GI := [
  ⟨some 32, none, .bin .eql (.t 18) (.k (.int .i64 6))⟩,
  ⟨some 30, none, .mov (.t 32)⟩]
def R50_15 : List GI := [
  ⟨some 33, none, .bin .eql (.t 18) (.k (.int .i64 7))⟩,
  ⟨some 30, none, .mov (.t 33)⟩]
def R50_16 : List GI := [
  ⟨some 34, none, .mov (.t 3)⟩,
  ⟨some 35, none, .bin .neq (.t 34) (.k (.int .i64 1))⟩]
def R50_17 : List GI := [
  ⟨some 2, none, .mov (.k (.bool false))⟩]
def R50_18 : List GI := [
  ⟨some 2, none, .mov (.k (.bool false))⟩]
def R50_19 : List GI := [
  ⟨some 4, none, .mov (.k (.int .i64 0))⟩]
def R50_20 : List GI := [
  ⟨some 36, none, .mov (.t 4)⟩,
  ⟨some 37, none, .mov (.t 3)⟩,
  ⟨some 38, none, .bin .lss (.t 36) (.t 37)⟩]
def R50_21 : List GI := [
  ⟨some 41, none, .fadr 5 (.t 1)⟩,
  ⟨some 42, none, .load (.t 41)⟩,
  ⟨some 43, none, .mov (.t 4)⟩,
  ⟨some 44, none, .ixs 6 (.t 42) (.t 43)⟩,
  ⟨some 45, none, .loadn 6 (.t 44)⟩,
  ⟨some 46, none, .call 50 [(.t 45)]⟩,
  ⟨some 47, none, .un .not (.t 46)⟩]
def R50_22 : List GI := [
  ⟨some 2, none, .mov (.k (.bool false))⟩]
def R50_23 : List GI := [
  ⟨some 39, none, .mov (.t 4)⟩,
  ⟨some 40, none, .bin .add (.t 39) (.k (.int .i64 1))⟩,
  ⟨some 4, none, .mov (.t 40)⟩]
def B50_0 : AC := (.seq (.seq (.reg R50_20) (.cond (.t 38) .skip (.exit 1))) (.seq (.block 2 (.seq (.reg R50_21) (.cond (.t 47) (.seq (.reg R50_22) .ret) .skip))) (.reg R50_23)))
def R50_24 : List GI := [
  ⟨some 2, none, .mov (.k (.bool true))⟩]
def A50 : AF := ⟨(.seq (.reg R50_0) (.seq (.reg R50_1) (.seq (.seq (.reg R50_2) (.cond (.t 16) (.seq (.reg R50_3) .ret) .skip)) (.seq (.seq (.reg R50_4) (.block 0 (.seq (.seq (.reg R50_5) (.cond (.t 19) .skip (.seq (.reg R50_6) (.cond (.t 19) .skip (.reg R50_7))))) (.cond (.t 19) (.seq (.reg R50_8) .ret) (.seq (.seq (.reg R50_9) (.cond (.t 25) .skip (.reg R50_10))) (.cond (.t 25) (.seq (.reg R50_11) (.cond (.t 29) (.seq (.reg R50_12) .ret) .skip)) (.seq (.seq (.reg R50_13) (.cond (.t 30) .skip (.seq (.reg R50_14) (.cond (.t 30) .skip (.reg R50_15))))) (.cond (.t 30) (.seq (.reg R50_16) (.cond (.t 35) (.seq (.reg R50_17) .ret) .skip)) (.seq (.reg R50_18) .ret))))))))) (.seq (.seq (.reg R50_19) (.block 1 (.loop B50_0))) (.seq (.reg R50_24) .ret)))))), [(2, none)]⟩

/-- rootstock/regs.Check -/
def R51_0 : List GI := [
  ⟨some 1, none, .box 48 6 (.t 0)⟩,
  ⟨some 2, none, .mov (.k (.int .i64 0))⟩]
def R51_1 : List GI := [
  ⟨some 4, none, .loadn 6 (.t 1)⟩,
  ⟨some 5, none, .call 55 [(.t 4)]⟩,
  ⟨some 6, none, .bin .gtr (.t 5) (.k (.int .i64 512))⟩,
  ⟨some 3, none, .mov (.t 6)⟩]
def R51_2 : List GI := [
  ⟨some 2, none, .mov (.k (.int .i64 3))⟩]
def R51_3 : List GI := [
  ⟨some 8, none, .loadn 6 (.t 1)⟩,
  ⟨some 9, none, .call 60 [(.t 8)]⟩,
  ⟨some 10, none, .bin .gtr (.t 9) (.k (.int .i64 16))⟩,
  ⟨some 7, none, .mov (.t 10)⟩]
def R51_4 : List GI := [
  ⟨some 2, none, .mov (.k (.int .i64 51))⟩]
def R51_5 : List GI := [
  ⟨some 12, none, .loadn 6 (.t 1)⟩,
  ⟨some 13, none, .call 74 [(.t 12)]⟩,
  ⟨some 14, none, .un .not (.t 13)⟩,
  ⟨some 11, none, .mov (.t 14)⟩]
def R51_6 : List GI := [
  ⟨some 2, none, .mov (.k (.int .i64 2))⟩]
def R51_7 : List GI := [
  ⟨some 2, none, .mov (.k (.int .i64 0))⟩]
def A51 : AF := ⟨(.seq (.reg R51_0) (.seq (.block 0 (.seq (.reg R51_1) (.cond (.t 3) (.seq (.reg R51_2) .ret) (.seq (.reg R51_3) (.cond (.t 7) (.seq (.reg R51_4) .ret) (.seq (.reg R51_5) (.cond (.t 11) (.seq (.reg R51_6) .ret) .skip))))))) (.seq (.reg R51_7) .ret))), [(2, none)]⟩

/-- rootstock/regs.ends -/
def R52_0 : List GI := [
  ⟨some 3, none, .box 48 6 (.t 0)⟩,
  ⟨some 6, none, .mov (.k (.slice none 0 0))⟩]
def R52_1 : List GI := [
  ⟨some 7, none, .mov (.k (.slice none 0 0))⟩]
def R52_2 : List GI := [
  ⟨some 14, none, .fadr 0 (.t 3)⟩,
  ⟨some 15, none, .load (.t 14)⟩]
def R52_3 : List GI := [
  ⟨some 17, none, .bin .eql (.t 15) (.k (.int .i64 1))⟩,
  ⟨some 16, none, .mov (.t 17)⟩]
def R52_4 : List GI := [
  ⟨some 18, none, .mov (.t 2)⟩,
  ⟨some 6, none, .mov (.t 18)⟩]
def R52_5 : List GI := [
  ⟨some 20, none, .bin .eql (.t 15) (.k (.int .i64 2))⟩,
  ⟨some 19, none, .mov (.t 20)⟩]
def R52_6 : List GI := [
  ⟨some 21, none, .mov (.t 2)⟩,
  ⟨some 22, none, .lens (.t 21)⟩,
  ⟨some 23, none, .mov (.k (.int .i64 0))⟩]
def R52_7 : List GI := [
  ⟨some 24, none, .bin .lss (.t 23) (.t 22)⟩]
def R52_8 : List GI := [
  ⟨some 25, none, .ixs 1 (.t 21) (.t 23)⟩,
  ⟨some 26, none, .load (.t 25)⟩,
  ⟨some 9, none, .mov (.t 26)⟩]
def R52_9 : List GI := [
  ⟨some 27, none, .mov (.t 9)⟩,
  ⟨some 28, none, .mov (.t 1)⟩,
  ⟨some 29, none, .lent (.t 28)⟩,
  ⟨some 30, none, .bin .lss (.t 27) (.t 29)⟩,
  ⟨some 31, none, .mov (.t 30)⟩,
  ⟨some 32, some (31, true), .fadr 1 (.t 3)⟩,
  ⟨some 33, some (31, true), .loadn 4 (.t 32)⟩,
  ⟨some 34, some (31, true), .mov (.t 1)⟩,
  ⟨some 35, some (31, true), .mov (.t 9)⟩,
  ⟨some 36, some (31, true), .ixt (.t 34) (.t 35)⟩,
  ⟨some 37, some (31, true), .call 75 [(.t 33), (.t 36)]⟩,
  ⟨some 38, none, .pick (.t 31) (.t 37) (.k (.bool false))⟩]
def R52_10 : List GI := [
  ⟨some 39, none, .mov (.t 7)⟩,
  ⟨some 40, none, .mov (.t 9)⟩,
  ⟨some 41, none, .bin .add (.t 40) (.k (.int .i64 1))⟩,
  ⟨some 42, none, .bslice 3 1 [(.int .i64 0)] [(0, 1, (.t 41))]⟩,
  ⟨some 43, none, .app 3 1 8 (.t 39) (.t 42)⟩,
  ⟨some 7, none, .mov (.t 43)⟩]
def R52_11 : List GI := [
  ⟨some 44, none, .bin .add (.t 23) (.k (.int .i64 1))⟩,
  ⟨some 23, none, .mov (.t 44)⟩]
def B52_0 : AC := (.seq (.reg R52_7) (.seq (.cond (.t 24) .skip (.exit 1)) (.seq (.block 2 (.seq (.reg R52_8) (.seq (.regd R52_9 []) (.cond (.t 38) (.reg R52_10) .skip)))) (.reg R52_11))))
def R52_12 : List GI := [
  ⟨some 46, none, .bin .eql (.t 15) (.k (.int .i64 3))⟩,
  ⟨some 45, none, .mov (.t 46)⟩]
def R52_13 : List GI := [
  ⟨some 47, none, .mov (.t 2)⟩,
  ⟨some 7, none, .mov (.t 47)⟩]
def R52_14 : List GI := [
  ⟨some 48, none, .fadr 5 (.t 3)⟩,
  ⟨some 49, none, .load (.t 48)⟩,
  ⟨some 50, none, .lens (.t 49)⟩,
  ⟨some 51, none, .mov (.k (.int .i64 0))⟩]
def R52_15 : List GI := [
  ⟨some 52, none, .bin .lss (.t 51) (.t 50)⟩]
def R52_16 : List GI := [
  ⟨some 53, none, .ixs 6 (.t 49) (.t 51)⟩,
  ⟨some 54, none, .loadn 6 (.t 53)⟩,
  ⟨some 11, none, .alloc 48 [(.int .i64 0), (.int .u64 0), (.int .u64 0), (.int .u64 0), (.int .u64 0), (.slice none 0 0)]⟩,
  ⟨none, none, .store 6 (.t 11) (.t 54)⟩]
def R52_17 : List GI := [
  ⟨some 55, none, .loadn 6 (.t 11)⟩,
  ⟨some 56, none, .mov (.t 1)⟩,
  ⟨some 57, none, .mov (.t 7)⟩,
  ⟨some 58, none, .call 52 [(.t 55), (.t 56), (.t 57)]⟩,
  ⟨some 7, none, .mov (.t 58)⟩]
def R52_18 : List GI := [
  ⟨some 59, none, .bin .add (.t 51) (.k (.int .i64 1))⟩,
  ⟨some 51, none, .mov (.t 59)⟩]
def B52_1 : AC := (.seq (.reg R52_15) (.seq (.cond (.t 52) .skip (.exit 3)) (.seq (.block 4 (.seq (.reg R52_16) (.reg R52_17))) (.reg R52_18))))
def R52_19 : List GI := [
  ⟨some 61, none, .bin .eql (.t 15) (.k (.int .i64 4))⟩,
  ⟨some 60, none, .mov (.t 61)⟩]
def R52_20 : List GI := [
  ⟨some 62, none, .fadr 5 (.t 3)⟩,
  ⟨some 63, none, .load (.t 62)⟩,
  ⟨some 64, none, .lens (.t 63)⟩,
  ⟨some 65, none, .mov (.k (.int .i64 0))⟩]
def R52_21 : List GI := [
  ⟨some 66, none, .bin .lss (.t 65) (.t 64)⟩]
def R52_22 : List GI := [
  ⟨some 67, none, .ixs 6 (.t 63) (.t 65)⟩,
  ⟨some 68, none, .loadn 6 (.t 67)⟩,
  ⟨some 13, none, .alloc 48 [(.int .i64 0), (.int .u64 0), (.int .u64 0), (.int .u64 0), (.int .u64 0), (.slice none 0 0)]⟩,
  ⟨none, none, .store 6 (.t 13) (.t 68)⟩]
def R52_23 : List GI := [
  ⟨some 69, none, .mov (.t 7)⟩,
  ⟨some 70, none, .loadn 6 (.t 13)⟩,
  ⟨some 71, none, .mov (.t 1)⟩,
  ⟨some 72, none, .mov (.t 2)⟩,
  ⟨some 73, none, .call 52 [(.t 70), (.t 71), (.t 72)]⟩,
  ⟨some 74, none, .call 76 [(.t 69), (.t 73)]⟩,
  ⟨some 7, none, .mov (.t 74)⟩]
def R52_24 : List GI := [
  ⟨some 75, none, .bin .add (.t 65) (.k (.int .i64 1))⟩,
  ⟨some 65, none, .mov (.t 75)⟩]
def B52_2 : AC := (.seq (.reg R52_21) (.seq (.cond (.t 66) .skip (.exit 5)) (.seq (.block 6 (.seq (.reg R52_22) (.reg R52_23))) (.reg R52_24))))
def R52_25 : List GI := [
  ⟨some 77, none, .bin .eql (.t 15) (.k (.int .i64 7))⟩,
  ⟨some 76, none, .mov (.t 77)⟩]
def R52_26 : List GI := [
  ⟨some 78, none, .mov (.t 2)⟩,
  ⟨some 79, none, .fadr 5 (.t 3)⟩,
  ⟨some 80, none, .load (.t 79)⟩,
  ⟨some 81, none, .ixs 6 (.t 80) (.k (.int .i64 0))⟩,
  ⟨some 82, none, .loadn 6 (.t 81)⟩,
  ⟨some 83, none, .mov (.t 1)⟩,
  ⟨some 84, none, .mov (.t 2)⟩,
  ⟨some 85, none, .call 52 [(.t 82), (.t 83), (.t 84)]⟩,
  ⟨some 86, none, .call 76 [(.t 78), (.t 85)]⟩,
  ⟨some 6, none, .mov (.t 86)⟩]
def R52_27 : List GI := [
  ⟨some 88, none, .bin .eql (.t 15) (.k (.int .i64 6))⟩,
  ⟨some 87, none, .mov (.t 88)⟩]
def R52_28 : List GI := [
  ⟨some 89, none, .fadr 5 (.t 3)⟩,
  ⟨some 90, none, .load (.t 89)⟩,
  ⟨some 91, none, .ixs 6 (.t 90) (.k (.int .i64 0))⟩,
  ⟨some 92, none, .loadn 6 (.t 91)⟩,
  ⟨some 93, none, .mov (.t 1)⟩,
  ⟨some 94, none, .fadr 5 (.t 3)⟩,
  ⟨some 95, none, .load (.t 94)⟩,
  ⟨some 96, none, .ixs 6 (.t 95) (.k (.int .i64 0))⟩,
  ⟨some 97, none, .loadn 6 (.t 96)⟩,
  ⟨some 98, none, .mov (.t 1)⟩,
  ⟨some 99, none, .mov (.t 2)⟩,
  ⟨some 100, none, .call 52 [(.t 97), (.t 98), (.t 99)]⟩,
  ⟨some 101, none, .call 77 [(.t 92), (.t 93), (.t 100)]⟩,
  ⟨some 6, none, .mov (.t 101)⟩]
def R52_29 : List GI := [
  ⟨some 103, none, .bin .eql (.t 15) (.k (.int .i64 5))⟩,
  ⟨some 102, none, .mov (.t 103)⟩]
def R52_30 : List GI := [
  ⟨some 104, none, .fadr 5 (.t 3)⟩,
  ⟨some 105, none, .load (.t 104)⟩,
  ⟨some 106, none, .ixs 6 (.t 105) (.k (.int .i64 0))⟩,
  ⟨some 107, none, .loadn 6 (.t 106)⟩,
  ⟨some 108, none, .mov (.t 1)⟩,
  ⟨some 109, none, .mov (.t 2)⟩,
  ⟨some 110, none, .call 77 [(.t 107), (.t 108), (.t 109)]⟩,
  ⟨some 6, none, .mov (.t 110)⟩]
def R52_31 : List GI := [
  ⟨some 111, none, .mov (.t 7)⟩,
  ⟨some 6, none, .mov (.t 111)⟩]
def A52 : AF := ⟨(.seq (.reg R52_0) (.seq (.reg R52_1) (.seq (.seq (.reg R52_2) (.block 0 (.seq (.reg R52_3) (.cond (.t 16) (.seq (.reg R52_4) .ret) (.seq (.reg R52_5) (.cond (.t 19) (.seq (.reg R52_6) (.block 1 (.loop B52_0))) (.seq (.reg R52_12) (.cond (.t 45) (.seq (.reg R52_13) (.seq (.reg R52_14) (.block 3 (.loop B52_1)))) (.seq (.reg R52_19) (.cond (.t 60) (.seq (.reg R52_20) (.block 5 (.loop B52_2))) (.seq (.reg R52_25) (.cond (.t 76) (.seq (.reg R52_26) .ret) (.seq (.reg R52_27) (.cond (.t 87) (.seq (.regd R52_28 [(1, 11), (3, 11)]) .ret) (.seq (.reg R52_29) (.cond (.t 102) (.seq (.reg R52_30) .ret) .skip)))))))))))))))) (.seq (.reg R52_31) .ret)))), [(6, none)]⟩

/-- rootstock/rootstocklaw05.set -/
def R53_0 : List GI := [
  ⟨some 2, none, .alloc 48 [(.int .i64 0), (.int .u64 0), (.int .u64 0), (.int .u64 0), (.int .u64 0), (.slice none 0 0)]⟩]
def R53_1 : List GI := [
  ⟨some 3, none, .alloc 45 [(.int .u64 0), (.int .u64 0), (.int .u64 0), (.int .u64 0)]⟩]
def R53_2 : List GI := [
  ⟨some 4, none, .mov (.t 0)⟩,
  ⟨some 5, none, .bin .quo (.t 4) (.k (.int .u8 64))⟩,
  ⟨some 6, none, .mov (.t 0)⟩,
  ⟨some 7, none, .bin .rem (.t 6) (.k (.int .u8 64))⟩,
  ⟨some 8, none, .bin .shl (.k (.int .u64 1)) (.t 7)⟩,
  ⟨some 9, none, .ixa 4 1 (.t 3) (.t 5)⟩,
  ⟨none, none, .store 1 (.t 9) (.t 8)⟩]
def R53_3 : List GI := [
  ⟨some 10, none, .loadn 4 (.t 3)⟩,
  ⟨some 11, none, .build [(.int .i64 0), (.int .u64 0), (.int .u64 0), (.int .u64 0), (.int .u64 0), (.slice none 0 0)] [(0, 1, (.k (.int .i64 2))), (1, 4, (.t 10))]⟩,
  ⟨none, none, .store 6 (.t 2) (.t 11)⟩]
def A53 : AF := ⟨(.seq (.reg R53_0) (.seq (.reg R53_1) (.seq (.reg R53_2) (.seq (.reg R53_3) .ret)))), [(2, some (some 6))]⟩

/-- rootstock/rootstocklaw01.SameReg -/
def R54_0 : List GI := [
  ⟨some 2, none, .box 48 6 (.t 0)⟩,
  ⟨some 3, none, .box 48 6 (.t 1)⟩,
  ⟨some 4, none, .mov (.k (.bool false))⟩]
def R54_1 : List GI := [
  ⟨some 6, none, .fadr 0 (.t 2)⟩,
  ⟨some 7, none, .load (.t 6)⟩,
  ⟨some 8, none, .fadr 0 (.t 3)⟩,
  ⟨some 9, none, .load (.t 8)⟩,
  ⟨some 10, none, .bin .neq (.t 7) (.t 9)⟩,
  ⟨some 11, none, .mov (.t 10)⟩,
  ⟨some 12, some (11, false), .fadr 1 (.t 2)⟩,
  ⟨some 13, some (11, false), .loadn 4 (.t 12)⟩,
  ⟨some 14, some (11, false), .fadr 1 (.t 3)⟩,
  ⟨some 15, some (11, false), .loadn 4 (.t 14)⟩,
  ⟨some 16, some (11, false), .eqa [1, 1, 1, 1] true (.t 13) (.t 15)⟩,
  ⟨some 17, none, .pick (.t 11) (.k (.bool true)) (.t 16)⟩,
  ⟨some 18, none, .mov (.t 17)⟩,
  ⟨some 19, some (18, false), .fadr 5 (.t 2)⟩,
  ⟨some 20, some (18, false), .load (.t 19)⟩,
  ⟨some 21, some (18, false), .lens (.t 20)⟩,
  ⟨some 22, some (18, false), .fadr 5 (.t 3)⟩,
  ⟨some 23, some (18, false), .load (.t 22)⟩,
  ⟨some 24, some (18, false), .lens (.t 23)⟩,
  ⟨some 25, some (18, false), .bin .neq (.t 21) (.t 24)⟩,
  ⟨some 26, none, .pick (.t 18) (.k (.bool true)) (.t 25)⟩]
def R54_2 : List GI := [
  ⟨some 4, none, .mov (.k (.bool false))⟩]
def R54_3 : List GI := [
  ⟨some 5, none, .mov (.k (.int .i64 0))⟩]
def R54_4 : List GI := [
  ⟨some 27, none, .mov (.t 5)⟩,
  ⟨some 28, none, .fadr 5 (.t 2)⟩,
  ⟨some 29, none, .load (.t 28)⟩,
  ⟨some 30, none, .lens (.t 29)⟩,
  ⟨some 31, none, .bin .lss (.t 27) (.t 30)⟩]
def R54_5 : List GI := [
  ⟨some 34, none, .fadr 5 (.t 2)⟩,
  ⟨some 35, none, .load (.t 34)⟩,
  ⟨some 36, none, .mov (.t 5)⟩,
  ⟨some 37, none, .ixs 6 (.t 35) (.t 36)⟩,
  ⟨some 38, none, .loadn 6 (.t 37)⟩,
  ⟨some 39, none, .fadr 5 (.t 3)⟩,
  ⟨some 40, none, .load (.t 39)⟩,
  ⟨some 41, none, .mov (.t 5)⟩,
  ⟨some 42, none, .ixs 6 (.t 40) (.t 41)⟩,
  ⟨some 43, none, .loadn 6 (.t 42)⟩,
  ⟨some 44, none, .call 54 [(.t 38), (.t 43)]⟩,
  ⟨some 45, none, .un .not (.t 44)⟩]
def R54_6 : List GI := [
  ⟨some 4, none, .mov (.k (.bool false))⟩]
def R54_7 : List GI := [
  ⟨some 32, none, .mov (.t 5)⟩,
  ⟨some 33, none, .bin .add (.t 32) (.k (.int .i64 1))⟩,
  ⟨some 5, none, .mov (.t 33)⟩]
def B54_0 : AC := (.seq (.seq (.reg R54_4) (.cond (.t 31) .skip (.exit 0))) (.seq (.block 1 (.seq (.regd R54_5 []) (.cond (.t 45) (.seq (.reg R54_6) .ret) .skip))) (.reg R54_7)))
def R54_8 : List GI := [
  ⟨some 4, none, .mov (.k (.bool true))⟩]
def A54 : AF := ⟨(.seq (.reg R54_0) (.seq (.seq (.reg R54_1) (.cond (.t 26) (.seq (.reg R54_2) .ret) .skip)) (.seq (.seq (.reg R54_3) (.block 0 (.loop B54_0))) (.seq (.reg R54_8) .ret)))), [(4, none)]⟩

/-- rootstock/regs.Size -/
def R55_0 : List GI := [
  ⟨some 1, none, .box 48 6 (.t 0)⟩,
  ⟨some 2, none, .mov (.k (.int .i64 0))⟩]
def R55_1 : List GI := [
  ⟨some 3, none, .mov (.k (.int .i64 0))⟩]
def R55_2 : List GI := [
  ⟨some 6, none, .loadn 6 (.t 1)⟩,
  ⟨some 7, none, .bslice 48 1 [(.int .i64 0), (.int .u64 0), (.int .u64 0), (.int .u64 0), (.int .u64 0), (.slice none 0 0)] [(0, 6, (.t 6))]⟩,
  ⟨some 4, none, .mov (.t 7)⟩]
def R55_3 : List GI := [
  ⟨some 8, none, .mov (.t 4)⟩,
  ⟨some 9, none, .lens (.t 8)⟩,
  ⟨some 10, none, .bin .gtr (.t 9) (.k (.int .i64 0))⟩,
  ⟨some 11, none, .mov (.t 10)⟩,
  ⟨some 12, some (11, true), .mov (.t 3)⟩,
  ⟨some 13, some (11, true), .bin .leq (.t 12) (.k (.int .i64 512))⟩,
  ⟨some 14, none, .pick (.t 11) (.t 13) (.k (.bool false))⟩]
def R55_4 : List GI := [
  ⟨some 17, none, .mov (.t 4)⟩,
  ⟨some 18, none, .mov (.t 4)⟩,
  ⟨some 19, none, .lens (.t 18)⟩,
  ⟨some 20, none, .bin .sub (.t 19) (.k (.int .i64 1))⟩,
  ⟨some 21, none, .ixs 6 (.t 17) (.t 20)⟩,
  ⟨some 22, none, .loadn 6 (.t 21)⟩,
  ⟨some 5, none, .alloc 48 [(.int .i64 0), (.int .u64 0), (.int .u64 0), (.int .u64 0), (.int .u64 0), (.slice none 0 0)]⟩,
  ⟨none, none, .store 6 (.t 5) (.t 22)⟩]
def R55_5 : List GI := [
  ⟨some 23, none, .mov (.t 4)⟩,
  ⟨some 24, none, .mov (.t 4)⟩,
  ⟨some 25, none, .lens (.t 24)⟩,
  ⟨some 26, none, .bin .sub (.t 25) (.k (.int .i64 1))⟩,
  ⟨some 27, none, .slc 48 6 (.t 23) none (some (.t 26)) none⟩,
  ⟨some 28, none, .fadr 5 (.t 5)⟩,
  ⟨some 29, none, .load (.t 28)⟩,
  ⟨some 30, none, .fadr 5 (.t 5)⟩,
  ⟨some 31, none, .load (.t 30)⟩,
  ⟨some 32, none, .lens (.t 31)⟩,
  ⟨some 33, none, .minmax false [(.t 32), (.k (.int .i64 513))]⟩,
  ⟨some 34, none, .slc 48 6 (.t 29) none (some (.t 33)) none⟩,
  ⟨some 35, none, .app 48 6 64 (.t 27) (.t 34)⟩,
  ⟨some 4, none, .mov (.t 35)⟩]
def R55_6 : List GI := [
  ⟨some 15, none, .mov (.t 3)⟩,
  ⟨some 16, none, .bin .add (.t 15) (.k (.int .i64 1))⟩,
  ⟨some 3, none, .mov (.t 16)⟩]
def B55_0 : AC := (.seq (.seq (.reg R55_3) (.cond (.t 14) .skip (.exit 0))) (.seq (.block 1 (.seq (.reg R55_4) (.regd R55_5 []))) (.reg R55_6)))
def R55_7 : List GI := [
  ⟨some 36, none, .mov (.t 3)⟩,
  ⟨some 2, none, .mov (.t 36)⟩]
def A55 : AF := ⟨(.seq (.reg R55_0) (.seq (.reg R55_1) (.seq (.seq (.reg R55_2) (.block 0 (.loop B55_0))) (.seq (.reg R55_7) .ret)))), [(2, none)]⟩

/-- rootstock/rootstockref05.Ends -/
def R56_0 : List GI := [
  ⟨some 3, none, .box 48 6 (.t 0)⟩,
  ⟨some 6, none, .mov (.k (.slice none 0 0))⟩]
def R56_1 : List GI := [
  ⟨some 12, none, .mov (.t 1)⟩,
  ⟨some 13, none, .lent (.t 12)⟩,
  ⟨some 14, none, .bin .add (.t 13) (.k (.int .i64 1))⟩,
  ⟨some 15, none, .mks 4 1 1 [(.bool false)] (.t 14) (.t 14)⟩,
  ⟨some 7, none, .mov (.t 15)⟩]
def R56_2 : List GI := [
  ⟨some 16, none, .fadr 0 (.t 3)⟩,
  ⟨some 17, none, .load (.t 16)⟩]
def R56_3 : List GI := [
  ⟨some 19, none, .bin .eql (.t 17) (.k (.int .i64 1))⟩,
  ⟨some 18, none, .mov (.t 19)⟩]
def R56_4 : List GI := [
  ⟨some 20, none, .mov (.t 7)⟩,
  ⟨some 21, none, .mov (.t 2)⟩,
  ⟨some 22, none, .cpy 1 (.t 20) (.t 21)⟩]
def R56_5 : List GI := [
  ⟨some 24, none, .bin .eql (.t 17) (.k (.int .i64 2))⟩,
  ⟨some 23, none, .mov (.t 24)⟩]
def R56_6 : List GI := [
  ⟨some 25, none, .fadr 1 (.t 3)⟩,
  ⟨some 26, none, .loadn 4 (.t 25)⟩,
  ⟨some 27, none, .call 78 [(.t 26)]⟩,
  ⟨some 8, none, .alloc 120 (rl [(256, (.bool false))])⟩,
  ⟨none, none, .store 256 (.t 8) (.t 27)⟩]
def R56_7 : List GI := [
  ⟨some 9, none, .mov (.k (.int .i64 0))⟩]
def R56_8 : List GI := [
  ⟨some 28, none, .mov (.t 9)⟩,
  ⟨some 29, none, .mov (.t 1)⟩,
  ⟨some 30, none, .lent (.t 29)⟩,
  ⟨some 31, none, .bin .lss (.t 28) (.t 30)⟩]
def R56_9 : List GI := [
  ⟨some 34, none, .mov (.t 7)⟩,
  ⟨some 35, none, .mov (.t 9)⟩,
  ⟨some 36, none, .bin .add (.t 35) (.k (.int .i64 1))⟩,
  ⟨some 37, none, .mov (.t 2)⟩,
  ⟨some 38, none, .mov (.t 9)⟩,
  ⟨some 39, none, .ixs 1 (.t 37) (.t 38)⟩,
  ⟨some 40, none, .load (.t 39)⟩,
  ⟨some 41, none, .mov (.t 40)⟩,
  ⟨some 42, some (41, true), .mov (.t 1)⟩,
  ⟨some 43, some (41, true), .mov (.t 9)⟩,
  ⟨some 44, some (41, true), .ixt (.t 42) (.t 43)⟩,
  ⟨some 45, some (41, true), .ixa 256 1 (.t 8) (.t 44)⟩,
  ⟨some 46, some (41, true), .load (.t 45)⟩,
  ⟨some 47, none, .pick (.t 41) (.t 46) (.k (.bool false))⟩,
  ⟨some 48, none, .ixs 1 (.t 34) (.t 36)⟩,
  ⟨none, none, .store 1 (.t 48) (.t 47)⟩]
def R56_10 : List GI := [
  ⟨some 32, none, .mov (.t 9)⟩,
  ⟨some 33, none, .bin .add (.t 32) (.k (.int .i64 1))⟩,
  ⟨some 9, none, .mov (.t 33)⟩]
def B56_0 : AC := (.seq (.seq (.reg R56_8) (.cond (.t 31) .skip (.exit 1))) (.seq (.block 2 (.reg R56_9)) (.reg R56_10)))
def R56_11 : List GI := [
  ⟨some 50, none, .bin .eql (.t 17) (.k (.int .i64 3))⟩,
  ⟨some 49, none, .mov (.t 50)⟩]
def R56_12 : List GI := [
  ⟨some 51, none, .mov (.t 7)⟩,
  ⟨some 52, none, .mov (.t 2)⟩,
  ⟨some 53, none, .cpy 1 (.t 51) (.t 52)⟩]
def R56_13 : List GI := [
  ⟨some 10, none, .mov (.k (.int .i64 0))⟩]
def R56_14 : List GI := [
  ⟨some 54, none, .mov (.t 10)⟩,
  ⟨some 55, none, .fadr 5 (.t 3)⟩,
  ⟨some 56, none, .load (.t 55)⟩,
  ⟨some 57, none, .lens (.t 56)⟩,
  ⟨some 58, none, .bin .lss (.t 54) (.t 57)⟩]
def R56_15 : List GI := [
  ⟨some 61, none, .fadr 5 (.t 3)⟩,
  ⟨some 62, none, .load (.t 61)⟩,
  ⟨some 63, none, .mov (.t 10)⟩,
  ⟨some 64, none, .ixs 6 (.t 62) (.t 63)⟩,
  ⟨some 65, none, .loadn 6 (.t 64)⟩,
  ⟨some 66, none, .mov (.t 1)⟩,
  ⟨some 67, none, .mov (.t 7)⟩,
  ⟨some 68, none, .call 56 [(.t 65), (.t 66), (.t 67)]⟩,
  ⟨some 7, none, .mov (.t 68)⟩]
def R56_16 : List GI := [
  ⟨some 59, none, .mov (.t 10)⟩,
  ⟨some 60, none, .bin .add (.t 59) (.k (.int .i64 1))⟩,
  ⟨some 10, none, .mov (.t 60)⟩]
def B56_1 : AC := (.seq (.seq (.reg R56_14) (.cond (.t 58) .skip (.exit 3))) (.seq (.block 4 (.reg R56_15)) (.reg R56_16)))
def R56_17 : List GI := [
  ⟨some 70, none, .bin .eql (.t 17) (.k (.int .i64 4))⟩,
  ⟨some 69, none, .mov (.t 70)⟩]
def R56_18 : List GI := [
  ⟨some 11, none, .mov (.k (.int .i64 0))⟩]
def R56_19 : List GI := [
  ⟨some 71, none, .mov (.t 11)⟩,
  ⟨some 72, none, .fadr 5 (.t 3)⟩,
  ⟨some 73, none, .load (.t 72)⟩,
  ⟨some 74, none, .lens (.t 73)⟩,
  ⟨some 75, none, .bin .lss (.t 71) (.t 74)⟩]
def R56_20 : List GI := [
  ⟨some 78, none, .mov (.t 7)⟩,
  ⟨some 79, none, .fadr 5 (.t 3)⟩,
  ⟨some 80, none, .load (.t 79)⟩,
  ⟨some 81, none, .mov (.t 11)⟩,
  ⟨some 82, none, .ixs 6 (.t 80) (.t 81)⟩,
  ⟨some 83, none, .loadn 6 (.t 82)⟩,
  ⟨some 84, none, .mov (.t 1)⟩,
  ⟨some 85, none, .mov (.t 2)⟩,
  ⟨some 86, none, .call 56 [(.t 83), (.t 84), (.t 85)]⟩,
  ⟨some 87, none, .call 79 [(.t 78), (.t 86)]⟩,
  ⟨some 7, none, .mov (.t 87)⟩]
def R56_21 : List GI := [
  ⟨some 76, none, .mov (.t 11)⟩,
  ⟨some 77, none, .bin .add (.t 76) (.k (.int .i64 1))⟩,
  ⟨some 11, none, .mov (.t 77)⟩]
def B56_2 : AC := (.seq (.seq (.reg R56_19) (.cond (.t 75) .skip (.exit 5))) (.seq (.block 6 (.reg R56_20)) (.reg R56_21)))
def R56_22 : List GI := [
  ⟨some 89, none, .bin .eql (.t 17) (.k (.int .i64 7))⟩,
  ⟨some 88, none, .mov (.t 89)⟩]
def R56_23 : List GI := [
  ⟨some 90, none, .mov (.t 2)⟩,
  ⟨some 91, none, .fadr 5 (.t 3)⟩,
  ⟨some 92, none, .load (.t 91)⟩,
  ⟨some 93, none, .ixs 6 (.t 92) (.k (.int .i64 0))⟩,
  ⟨some 94, none, .loadn 6 (.t 93)⟩,
  ⟨some 95, none, .mov (.t 1)⟩,
  ⟨some 96, none, .mov (.t 2)⟩,
  ⟨some 97, none, .call 56 [(.t 94), (.t 95), (.t 96)]⟩,
  ⟨some 98, none, .call 79 [(.t 90), (.t 97)]⟩,
  ⟨some 6, none, .mov (.t 98)⟩]
def R56_24 : List GI := [
  ⟨some 100, none, .bin .eql (.t 17) (.k (.int .i64 6))⟩,
  ⟨some 99, none, .mov (.t 100)⟩]
def R56_25 : List GI := [
  ⟨some 101, none, .fadr 5 (.t 3)⟩,
  ⟨some 102, none, .load (.t 101)⟩,
  ⟨some 103, none, .ixs 6 (.t 102) (.k (.int .i64 0))⟩,
  ⟨some 104, none, .loadn 6 (.t 103)⟩,
  ⟨some 105, none, .mov (.t 1)⟩,
  ⟨some 106, none, .fadr 5 (.t 3)⟩,
  ⟨some 107, none, .load (.t 106)⟩,
  ⟨some 108, none, .ixs 6 (.t 107) (.k (.int .i64 0))⟩,
  ⟨some 109, none, .loadn 6 (.t 108)⟩,
  ⟨some 110, none, .mov (.t 1)⟩,
  ⟨some 111, none, .mov (.t 2)⟩,
  ⟨some 112, none, .call 56 [(.t 109), (.t 110), (.t 111)]⟩,
  ⟨some 113, none, .call 80 [(.t 104), (.t 105), (.t 112)]⟩,
  ⟨some 6, none, .mov (.t 113)⟩]
def R56_26 : List GI := [
  ⟨some 115, none, .bin .eql (.t 17) (.k (.int .i64 5))⟩,
  ⟨some 114, none, .mov (.t 115)⟩]
def R56_27 : List GI := [
  ⟨some 116, none, .fadr 5 (.t 3)⟩,
  ⟨some 117, none, .load (.t 116)⟩,
  ⟨some 118, none, .ixs 6 (.t 117) (.k (.int .i64 0))⟩,
  ⟨some 119, none, .loadn 6 (.t 118)⟩,
  ⟨some 120, none, .mov (.t 1)⟩,
  ⟨some 121, none, .mov (.t 2)⟩,
  ⟨some 122, none, .call 80 [(.t 119), (.t 120), (.t 121)]⟩,
  ⟨some 6, none, .mov (.t 122)⟩]
def R56_28 : List GI := [
  ⟨some 123, none, .mov (.t 7)⟩,
  ⟨some 6, none, .mov (.t 123)⟩]
def A56 : AF := ⟨(.seq (.reg R56_0) (.seq (.reg R56_1) (.seq (.seq (.reg R56_2) (.block 0 (.seq (.reg R56_3) (.cond (.t 18) (.reg R56_4) (.seq (.reg R56_5) (.cond (.t 23) (.seq (.reg R56_6) (.seq (.reg R56_7) (.block 1 (.loop B56_0)))) (.seq (.reg R56_11) (.cond (.t 49) (.seq (.reg R56_12) (.seq (.reg R56_13) (.block 3 (.loop B56_1)))) (.seq (.reg R56_17) (.cond (.t 69) (.seq (.reg R56_18) (.block 5 (.loop B56_2))) (.seq (.reg R56_22) (.cond (.t 88) (.seq (.reg R56_23) .ret) (.seq (.reg R56_24) (.cond (.t 99) (.seq (.regd R56_25 [(1, 11), (3, 11)]) .ret) (.seq (.reg R56_26) (.cond (.t 114) (.seq (.reg R56_27) .ret) .skip)))))))))))))))) (.seq (.reg R56_28) .ret)))), [(6, none)]⟩

/-- (*rootstock/regs.reader).choice -/
def R59_0 : List GI := [
  ⟨some 2, none, .alloc 48 [(.int .i64 0), (.int .u64 0), (.int .u64 0), (.int .u64 0), (.int .u64 0), (.slice none 0 0)]⟩]
def R59_1 : List GI := [
  ⟨some 6, none, .mov (.t 0)⟩,
  ⟨some 7, none, .call 82 [(.t 6)]⟩,
  ⟨some 8, none, .bslice 48 1 [(.int .i64 0), (.int .u64 0), (.int .u64 0), (.int .u64 0), (.int .u64 0), (.slice none 0 0)] [(0, 6, (.t 7))]⟩,
  ⟨some 3, none, .mov (.t 8)⟩]
def R59_2 : List GI := [
  ⟨some 10, none, .mov (.t 0)⟩,
  ⟨some 11, none, .call 83 [(.t 10)]⟩,
  ⟨some 9, none, .mov (.t 11)⟩,
  ⟨some 12, none, .ext 0 (.t 9)⟩,
  ⟨some 13, none, .ext 1 (.t 9)⟩,
  ⟨some 4, none, .mov (.t 12)⟩,
  ⟨some 5, none, .mov (.t 13)⟩]
def R59_3 : List GI := [
  ⟨some 14, none, .mov (.t 5)⟩,
  ⟨some 15, none, .mov (.t 14)⟩,
  ⟨some 16, some (15, true), .mov (.t 4)⟩,
  ⟨some 17, some (15, true), .bin .eql (.t 16) (.k (.int .u8 124))⟩,
  ⟨some 18, none, .pick (.t 15) (.t 17) (.k (.bool false))⟩]
def R59_4 : List GI := [
  ⟨some 24, none, .mov (.t 0)⟩,
  ⟨some 25, none, .nilchk (.t 24)⟩,
  ⟨some 26, none, .fadr 1 (.t 25)⟩,
  ⟨some 27, none, .load (.t 26)⟩,
  ⟨some 28, none, .bin .add (.t 27) (.k (.int .i64 1))⟩,
  ⟨some 29, none, .nilchk (.t 24)⟩,
  ⟨some 30, none, .fadr 1 (.t 29)⟩,
  ⟨none, none, .store 1 (.t 30) (.t 28)⟩]
def R59_5 : List GI := [
  ⟨some 31, none, .mov (.t 3)⟩,
  ⟨some 32, none, .mov (.t 0)⟩,
  ⟨some 33, none, .call 82 [(.t 32)]⟩,
  ⟨some 34, none, .bslice 48 1 [(.int .i64 0), (.int .u64 0), (.int .u64 0), (.int .u64 0), (.int .u64 0), (.slice none 0 0)] [(0, 6, (.t 33))]⟩,
  ⟨some 35, none, .app 48 6 64 (.t 31) (.t 34)⟩,
  ⟨some 3, none, .mov (.t 35)⟩]
def R59_6 : List GI := [
  ⟨some 20, none, .mov (.t 0)⟩,
  ⟨some 21, none, .call 83 [(.t 20)]⟩,
  ⟨some 19, none, .mov (.t 21)⟩,
  ⟨some 22, none, .ext 0 (.t 19)⟩,
  ⟨some 23, none, .ext 1 (.t 19)⟩,
  ⟨some 4, none, .mov (.t 22)⟩,
  ⟨some 5, none, .mov (.t 23)⟩]
def B59_0 : AC := (.seq (.seq (.reg R59_3) (.cond (.t 18) .skip (.exit 0))) (.seq (.block 1 (.seq (.reg R59_4) (.reg R59_5))) (.reg R59_6)))
def R59_7 : List GI := [
  ⟨some 36, none, .mov (.t 3)⟩,
  ⟨some 37, none, .lens (.t 36)⟩,
  ⟨some 38, none, .bin .eql (.t 37) (.k (.int .i64 1))⟩]
def R59_8 : List GI := [
  ⟨some 39, none, .mov (.t 3)⟩,
  ⟨some 40, none, .ixs 6 (.t 39) (.k (.int .i64 0))⟩,
  ⟨some 41, none, .loadn 6 (.t 40)⟩,
  ⟨none, none, .store 6 (.t 2) (.t 41)⟩]
def R59_9 : List GI := [
  ⟨some 42, none, .mov (.t 3)⟩,
  ⟨some 43, none, .build [(.int .i64 0), (.int .u64 0), (.int .u64 0), (.int .u64 0), (.int .u64 0), (.slice none 0 0)] [(0, 1, (.k (.int .i64 4))), (5, 1, (.t 42))]⟩,
  ⟨none, none, .store 6 (.t 2) (.t 43)⟩]
def A59 : AF := ⟨(.seq (.reg R59_0) (.seq (.reg R59_1) (.seq (.seq (.reg R59_2) (.block 0 (.loop B59_0))) (.seq (.seq (.reg R59_7) (.cond (.t 38) (.seq (.reg R59_8) .ret) .skip)) (.seq (.reg R59_9) .ret))))), [(2, some (some 6))]⟩

/-- rootstock/regs.may -/
def R74_0 : List GI := [
  ⟨some 1, none, .box 48 6 (.t 0)⟩,
  ⟨some 2, none, .mov (.k (.bool false))⟩]
def R74_1 : List GI := [
  ⟨some 3, none, .mov (.k (.bool false))⟩]
def R74_2 : List GI := [
  ⟨some 7, none, .fadr 5 (.t 1)⟩,
  ⟨some 8, none, .load (.t 7)⟩,
  ⟨some 9, none, .lens (.t 8)⟩,
  ⟨some 4, none, .mov (.t 9)⟩]
def R74_3 : List GI := [
  ⟨some 10, none, .fadr 0 (.t 1)⟩,
  ⟨some 11, none, .load (.t 10)⟩]
def R74_4 : List GI := [
  ⟨some 13, none, .bin .eql (.t 11) (.k (.int .i64 0))⟩,
  ⟨some 12, none, .mov (.t 13)⟩]
def R74_5 : List GI := [
  ⟨some 14, none, .bin .eql (.t 11) (.k (.int .i64 1))⟩,
  ⟨some 12, none, .mov (.t 14)⟩]
def R74_6 : List GI := [
  ⟨some 15, none, .bin .eql (.t 11) (.k (.int .i64 2))⟩,
  ⟨some 12, none, .mov (.t 15)⟩]
def R74_7 : List GI := [
  ⟨some 16, none, .mov (.t 4)⟩,
  ⟨some 17, none, .bin .eql (.t 16) (.k (.int .i64 0))⟩,
  ⟨some 3, none, .mov (.t 17)⟩]
def R74_8 : List GI := [
  ⟨some 19, none, .bin .eql (.t 11) (.k (.int .i64 3))⟩,
  ⟨some 18, none, .mov (.t 19)⟩]
def R74_9 : List GI := [
  ⟨some 20, none, .bin .eql (.t 11) (.k (.int .i64 4))⟩,
  ⟨some 18, none, .mov (.t 20)⟩]
def R74_10 : List GI := [
  ⟨some 21, none, .mov (.t 4)⟩,
  ⟨some 22, none, .bin .geq (.t 21) (.k (.int .i64 1))⟩,
  ⟨some 3, none, .mov (.t 22)⟩]
def R74_11 : List GI := [
  ⟨some 24, none, .bin .eql (.t 11) (.k (.int .i64 5))⟩,
  ⟨some 23, none, .mov (.t 24)⟩]
def R74_12 : List GI := [
  ⟨some 25, none, .bin .eql (.t 11) (.k (.int .i64 6))⟩,
  ⟨some 23, none, .mov (.t 25)⟩]
def R74_13 : List GI := [
  ⟨some 26, none, .bin .eql (.t 11) (.k (.int .i64 7))⟩,
  ⟨some 23, none, .mov (.t 26)⟩]
def R74_14 : List GI := [
  ⟨some 27, none, .mov (.t 4)⟩,
  ⟨some 28, none, .bin .eql (.t 27) (.k (.int .i64 1))⟩,
  ⟨some 3, none, .mov (.t 28)⟩]
def R74_15 : List GI := [
  ⟨some 29, none, .mov (.t 3)⟩,
  ⟨some 30, none, .un .not (.t 29)⟩,
  ⟨some 31, none, .mov (.t 30)⟩,
  ⟨some 32, some (31, false), .fadr 0 (.t 1)⟩,
  ⟨some 33, some (31, false), .load (.t 32)⟩,
  ⟨some 34, some (31, false), .bin .neq (.t 33) (.k (.int .i64 2))⟩,
  ⟨some 35, some (31, false), .mov (.t 34)⟩,
  ⟨some 36, some (35, true), .fadr 1 (.t 1)⟩,
  ⟨some 37, some (35, true), .loadn 4 (.t 36)⟩,
  ⟨some 38, some (35, true), .build [(.int .u64 0), (.int .u64 0), (.int .u64 0), (.int .u64 0)] []⟩,
  ⟨some 39, some (35, true), .eqa [1, 1, 1, 1] true (.t 37) (.t 38)⟩,
  ⟨some 40, some (31, false), .pick (.t 35) (.t 39) (.k (.bool false))⟩,
  ⟨some 41, none, .pick (.t 31) (.k (.bool true)) (.t 40)⟩]
def R74_16 : List GI := [
  ⟨some 2, none, .mov (.k (.bool false))⟩]
def R74_17 : List GI := [
  ⟨some 42, none, .fadr 5 (.t 1)⟩,
  ⟨some 43, none, .load (.t 42)⟩,
  ⟨some 44, none, .lens (.t 43)⟩,
  ⟨some 45, none, .mov (.k (.int .i64 0))⟩]
def R74_18 : List GI := [
  ⟨some 46, none, .bin .lss (.t 45) (.t 44)⟩]
def R74_19 : List GI := [
  ⟨some 47, none, .ixs 6 (.t 43) (.t 45)⟩,
  ⟨some 48, none, .loadn 6 (.t 47)⟩,
  ⟨some 6, none, .alloc 48 [(.int .i64 0), (.int .u64 0), (.int .u64 0), (.int .u64 0), (.int .u64 0), (.slice none 0 0)]⟩,
  ⟨none, none, .store 6 (.t 6) (.t 48)⟩]
def R74_20 : List GI := [
  ⟨some 49, none, .loadn 6 (.t 6)⟩,
  ⟨some 50, none, .call 74 [(.t 49)]⟩,
  ⟨some 51, none, .un .not (.t 50)⟩]
def R74_21 : List GI := [
  ⟨some 2, none, .mov (.k (.bool false))⟩]
def R74_22 : List GI := [
  ⟨some 52, none, .bin .add (.t 45) (.k (.int .i64 1))⟩,
  ⟨some 45, none, .mov (.t 52)⟩]
def B74_0 : AC := (.seq (.reg R74_18) (.seq (.cond (.t 46) .skip (.exit 1)) (.seq (.block 2 (.seq (.reg R74_19) (.seq (.reg R74_20) (.cond (.t 51) (.seq (.reg R74_21) .ret) .skip)))) (.reg R74_22))))
def R74_23 : List GI := [
  ⟨some 2, none, .mov (.k (.bool true))⟩]
def A74 : AF := ⟨(.seq (.reg R74_0) (.seq (.reg R74_1) (.seq (.seq (.reg R74_2) (.seq (.reg R74_3) (.block 0 (.seq (.seq (.reg R74_4) (.cond (.t 12) .skip (.seq (.reg R74_5) (.cond (.t 12) .skip (.reg R74_6))))) (.cond (.t 12) (.reg R74_7) (.seq (.seq (.reg R74_8) (.cond (.t 18) .skip (.reg R74_9))) (.cond (.t 18) (.reg R74_10) (.seq (.seq (.reg R74_11) (.cond (.t 23) .skip (.seq (.reg R74_12) (.cond (.t 23) .skip (.reg R74_13))))) (.cond (.t 23) (.reg R74_14) .skip))))))))) (.seq (.seq (.reg R74_15) (.cond (.t 41) (.seq (.reg R74_16) .ret) .skip)) (.seq (.seq (.reg R74_17) (.block 1 (.loop B74_0))) (.seq (.reg R74_23) .ret)))))), [(2, none)]⟩

/-- rootstock/sets.Has -/
def R75_0 : List GI := [
  ⟨some 2, none, .box 45 4 (.t 0)⟩,
  ⟨some 4, none, .mov (.k (.bool false))⟩]
def R75_1 : List GI := [
  ⟨some 5, none, .mov (.t 1)⟩,
  ⟨some 6, none, .bin .quo (.t 5) (.k (.int .u8 64))⟩,
  ⟨some 7, none, .ixa 4 1 (.t 2) (.t 6)⟩,
  ⟨some 8, none, .load (.t 7)⟩,
  ⟨some 9, none, .mov (.t 1)⟩,
  ⟨some 10, none, .bin .rem (.t 9) (.k (.int .u8 64))⟩,
  ⟨some 11, none, .bin .shr (.t 8) (.t 10)⟩,
  ⟨some 12, none, .bin .and (.t 11) (.k (.int .u64 1))⟩,
  ⟨some 13, none, .bin .eql (.t 12) (.k (.int .u64 1))⟩,
  ⟨some 4, none, .mov (.t 13)⟩]
def A75 : AF := ⟨(.seq (.reg R75_0) (.seq (.reg R75_1) .ret)), [(4, none)]⟩

/-- rootstock/regs.both -/
def R76_0 : List GI := [
  ⟨some 4, none, .mov (.k (.slice none 0 0))⟩]
def R76_1 : List GI := [
  ⟨some 6, none, .mov (.t 0)⟩,
  ⟨some 7, none, .lens (.t 6)⟩,
  ⟨some 8, none, .mov (.t 1)⟩,
  ⟨some 9, none, .lens (.t 8)⟩,
  ⟨some 10, none, .bin .add (.t 7) (.t 9)⟩,
  ⟨some 11, none, .mks 3 1 8 [(.int .i64 0)] (.k (.int .i64 0)) (.t 10)⟩,
  ⟨some 5, none, .mov (.t 11)⟩]
def R76_2 : List GI := [
  ⟨some 12, none, .mov (.t 0)⟩,
  ⟨some 13, none, .lens (.t 12)⟩,
  ⟨some 14, none, .bin .gtr (.t 13) (.k (.int .i64 0))⟩,
  ⟨some 15, none, .mov (.t 14)⟩,
  ⟨some 16, some (15, false), .mov (.t 1)⟩,
  ⟨some 17, some (15, false), .lens (.t 16)⟩,
  ⟨some 18, some (15, false), .bin .gtr (.t 17) (.k (.int .i64 0))⟩,
  ⟨some 19, none, .pick (.t 15) (.k (.bool true)) (.t 18)⟩]
def R76_3 : List GI := [
  ⟨some 31, none, .mov (.t 1)⟩,
  ⟨some 32, none, .lens (.t 31)⟩,
  ⟨some 33, none, .bin .eql (.t 32) (.k (.int .i64 0))⟩,
  ⟨some 34, none, .mov (.t 33)⟩,
  ⟨some 35, some (34, false), .mov (.t 0)⟩,
  ⟨some 36, some (34, false), .lens (.t 35)⟩,
  ⟨some 37, some (34, false), .bin .gtr (.t 36) (.k (.int .i64 0))⟩,
  ⟨some 38, some (34, false), .mov (.t 37)⟩,
  ⟨some 39, some (38, true), .mov (.t 0)⟩,
  ⟨some 40, some (38, true), .ixs 1 (.t 39) (.k (.int .i64 0))⟩,
  ⟨some 41, some (38, true), .load (.t 40)⟩,
  ⟨some 42, some (38, true), .mov (.t 1)⟩,
  ⟨some 43, some (38, true), .ixs 1 (.t 42) (.k (.int .i64 0))⟩,
  ⟨some 44, some (38, true), .load (.t 43)⟩,
  ⟨some 45, some (38, true), .bin .lss (.t 41) (.t 44)⟩,
  ⟨some 46, some (34, false), .pick (.t 38) (.t 45) (.k (.bool false))⟩,
  ⟨some 47, none, .pick (.t 34) (.k (.bool true)) (.t 46)⟩,
  ⟨some 30, none, .mov (.t 47)⟩]
def R76_4 : List GI := [
  ⟨some 48, none, .mov (.t 5)⟩,
  ⟨some 49, none, .mov (.t 0)⟩,
  ⟨some 50, none, .ixs 1 (.t 49) (.k (.int .i64 0))⟩,
  ⟨some 51, none, .load (.t 50)⟩,
  ⟨some 52, none, .bslice 3 1 [(.int .i64 0)] [(0, 1, (.t 51))]⟩,
  ⟨some 53, none, .app 3 1 8 (.t 48) (.t 52)⟩,
  ⟨some 54, none, .mov (.t 0)⟩,
  ⟨some 55, none, .slc 3 1 (.t 54) (some (.k (.int .i64 1))) none none⟩,
  ⟨some 5, none, .mov (.t 53)⟩,
  ⟨some 0, none, .mov (.t 55)⟩]
def R76_5 : List GI := [
  ⟨some 57, none, .mov (.t 0)⟩,
  ⟨some 58, none, .lens (.t 57)⟩,
  ⟨some 59, none, .bin .eql (.t 58) (.k (.int .i64 0))⟩,
  ⟨some 60, none, .mov (.t 59)⟩,
  ⟨some 61, some (60, false), .mov (.t 1)⟩,
  ⟨some 62, some (60, false), .ixs 1 (.t 61) (.k (.int .i64 0))⟩,
  ⟨some 63, some (60, false), .load (.t 62)⟩,
  ⟨some 64, some (60, false), .mov (.t 0)⟩,
  ⟨some 65, some (60, false), .ixs 1 (.t 64) (.k (.int .i64 0))⟩,
  ⟨some 66, some (60, false), .load (.t 65)⟩,
  ⟨some 67, some (60, false), .bin .lss (.t 63) (.t 66)⟩,
  ⟨some 68, none, .pick (.t 60) (.k (.bool true)) (.t 67)⟩,
  ⟨some 56, none, .mov (.t 68)⟩]
def R76_6 : List GI := [
  ⟨some 69, none, .mov (.t 5)⟩,
  ⟨some 70, none, .mov (.t 1)⟩,
  ⟨some 71, none, .ixs 1 (.t 70) (.k (.int .i64 0))⟩,
  ⟨some 72, none, .load (.t 71)⟩,
  ⟨some 73, none, .bslice 3 1 [(.int .i64 0)] [(0, 1, (.t 72))]⟩,
  ⟨some 74, none, .app 3 1 8 (.t 69) (.t 73)⟩,
  ⟨some 75, none, .mov (.t 1)⟩,
  ⟨some 76, none, .slc 3 1 (.t 75) (some (.k (.int .i64 1))) none none⟩,
  ⟨some 5, none, .mov (.t 74)⟩,
  ⟨some 1, none, .mov (.t 76)⟩]
def R76_7 : List GI := [
  ⟨some 20, none, .mov (.t 5)⟩,
  ⟨some 21, none, .mov (.t 0)⟩,
  ⟨some 22, none, .ixs 1 (.t 21) (.k (.int .i64 0))⟩,
  ⟨some 23, none, .load (.t 22)⟩,
  ⟨some 24, none, .bslice 3 1 [(.int .i64 0)] [(0, 1, (.t 23))]⟩,
  ⟨some 25, none, .app 3 1 8 (.t 20) (.t 24)⟩,
  ⟨some 26, none, .mov (.t 0)⟩,
  ⟨some 27, none, .slc 3 1 (.t 26) (some (.k (.int .i64 1))) none none⟩,
  ⟨some 28, none, .mov (.t 1)⟩,
  ⟨some 29, none, .slc 3 1 (.t 28) (some (.k (.int .i64 1))) none none⟩,
  ⟨some 5, none, .mov (.t 25)⟩,
  ⟨some 0, none, .mov (.t 27)⟩,
  ⟨some 1, none, .mov (.t 29)⟩]
def B76_0 : AC := (.seq (.seq (.reg R76_2) (.cond (.t 19) .skip (.exit 0))) (.block 1 (.block 2 (.seq (.regd R76_3 []) (.cond (.t 30) (.regd R76_4 [(7, 5)]) (.seq (.regd R76_5 []) (.cond (.t 56) (.regd R76_6 [(7, 5)]) (.regd R76_7 [(7, 5), (9, 5)]))))))))
def R76_8 : List GI := [
  ⟨some 77, none, .mov (.t 5)⟩,
  ⟨some 4, none, .mov (.t 77)⟩]
def A76 : AF := ⟨(.seq (.reg R76_0) (.seq (.reg R76_1) (.seq (.block 0 (.loop B76_0)) (.seq (.reg R76_8) .ret)))), [(4, none)]⟩

/-- rootstock/regs.again -/
def R77_0 : List GI := [
  ⟨some 3, none, .box 48 6 (.t 0)⟩,
  ⟨some 6, none, .mov (.k (.slice none 0 0))⟩]
def R77_1 : List GI := [
  ⟨some 9, none, .mov (.t 2)⟩,
  ⟨some 10, none, .call 91 [(.t 9)]⟩,
  ⟨some 7, none, .mov (.t 10)⟩]
def R77_2 : List GI := [
  ⟨some 11, none, .mov (.t 2)⟩,
  ⟨some 8, none, .mov (.t 11)⟩]
def R77_3 : List GI := [
  ⟨some 12, none, .mov (.t 8)⟩,
  ⟨some 13, none, .lens (.t 12)⟩,
  ⟨some 14, none, .bin .gtr (.t 13) (.k (.int .i64 0))⟩]
def R77_4 : List GI := [
  ⟨some 15, none, .loadn 6 (.t 3)⟩,
  ⟨some 16, none, .mov (.t 1)⟩,
  ⟨some 17, none, .mov (.t 8)⟩,
  ⟨some 18, none, .call 52 [(.t 15), (.t 16), (.t 17)]⟩,
  ⟨some 19, none, .mov (.t 7)⟩,
  ⟨some 20, none, .call 92 [(.t 18), (.t 19)]⟩,
  ⟨some 8, none, .mov (.t 20)⟩]
def R77_5 : List GI := [
  ⟨some 21, none, .mov (.t 8)⟩,
  ⟨some 22, none, .lens (.t 21)⟩,
  ⟨some 23, none, .bin .gtr (.t 22) (.k (.int .i64 0))⟩,
  ⟨some 24, none, .mov (.t 23)⟩,
  ⟨some 25, some (24, true), .mov (.t 7)⟩,
  ⟨some 26, some (24, true), .mov (.t 7)⟩,
  ⟨some 27, some (24, true), .lens (.t 26)⟩,
  ⟨some 28, some (24, true), .bin .sub (.t 27) (.k (.int .i64 1))⟩,
  ⟨some 29, some (24, true), .ixs 1 (.t 25) (.t 28)⟩,
  ⟨some 30, some (24, true), .load (.t 29)⟩,
  ⟨some 31, some (24, true), .mov (.t 8)⟩,
  ⟨some 32, some (24, true), .ixs 1 (.t 31) (.k (.int .i64 0))⟩,
  ⟨some 33, some (24, true), .load (.t 32)⟩,
  ⟨some 34, some (24, true), .bin .lss (.t 30) (.t 33)⟩,
  ⟨some 35, none, .pick (.t 24) (.t 34) (.k (.bool false))⟩]
def R77_6 : List GI := [
  ⟨some 36, none, .mov (.t 7)⟩,
  ⟨some 37, none, .mov (.t 8)⟩,
  ⟨some 38, none, .app 3 1 8 (.t 36) (.t 37)⟩,
  ⟨some 7, none, .mov (.t 38)⟩]
def R77_7 : List GI := [
  ⟨some 39, none, .mov (.t 7)⟩,
  ⟨some 40, none, .mov (.t 8)⟩,
  ⟨some 41, none, .call 76 [(.t 39), (.t 40)]⟩,
  ⟨some 7, none, .mov (.t 41)⟩]
def B77_0 : AC := (.seq (.seq (.reg R77_3) (.cond (.t 14) .skip (.exit 0))) (.block 1 (.seq (.reg R77_4) (.seq (.regd R77_5 []) (.cond (.t 35) (.reg R77_6) (.reg R77_7))))))
def R77_8 : List GI := [
  ⟨some 42, none, .mov (.t 7)⟩,
  ⟨some 6, none, .mov (.t 42)⟩]
def A77 : AF := ⟨(.seq (.reg R77_0) (.seq (.reg R77_1) (.seq (.seq (.reg R77_2) (.block 0 (.loop B77_0))) (.seq (.reg R77_8) .ret)))), [(6, none)]⟩

/-- rootstock/rootstockref04.Flags -/
def R78_0 : List GI := [
  ⟨some 1, none, .box 45 4 (.t 0)⟩,
  ⟨some 2, none, .alloc 120 (rl [(256, (.bool false))])⟩]
def R78_1 : List GI := [
  ⟨some 3, none, .alloc 120 (rl [(256, (.bool false))])⟩]
def R78_2 : List GI := [
  ⟨some 4, none, .mov (.k (.int .i64 0))⟩]
def R78_3 : List GI := [
  ⟨some 7, none, .mov (.t 4)⟩,
  ⟨some 8, none, .bin .lss (.t 7) (.k (.int .i64 256))⟩]
def R78_4 : List GI := [
  ⟨some 11, none, .mov (.t 4)⟩,
  ⟨some 12, none, .bin .quo (.t 11) (.k (.int .i64 64))⟩,
  ⟨some 13, none, .ixa 4 1 (.t 1) (.t 12)⟩,
  ⟨some 14, none, .load (.t 13)⟩,
  ⟨some 5, none, .mov (.t 14)⟩]
def R78_5 : List GI := [
  ⟨some 6, none, .mov (.k (.int .i64 0))⟩]
def R78_6 : List GI := [
  ⟨some 15, none, .mov (.t 6)⟩,
  ⟨some 16, none, .mov (.t 4)⟩,
  ⟨some 17, none, .bin .rem (.t 16) (.k (.int .i64 64))⟩,
  ⟨some 18, none, .bin .lss (.t 15) (.t 17)⟩]
def R78_7 : List GI := [
  ⟨some 21, none, .mov (.t 5)⟩,
  ⟨some 22, none, .bin .quo (.t 21) (.k (.int .u64 2))⟩,
  ⟨some 5, none, .mov (.t 22)⟩]
def R78_8 : List GI := [
  ⟨some 19, none, .mov (.t 6)⟩,
  ⟨some 20, none, .bin .add (.t 19) (.k (.int .i64 1))⟩,
  ⟨some 6, none, .mov (.t 20)⟩]
def B78_1 : AC := (.seq (.seq (.reg R78_6) (.cond (.t 18) .skip (.exit 2))) (.seq (.block 3 (.reg R78_7)) (.reg R78_8)))
def R78_9 : List GI := [
  ⟨some 23, none, .mov (.t 4)⟩,
  ⟨some 24, none, .mov (.t 5)⟩,
  ⟨some 25, none, .bin .rem (.t 24) (.k (.int .u64 2))⟩,
  ⟨some 26, none, .bin .eql (.t 25) (.k (.int .u64 1))⟩,
  ⟨some 27, none, .ixa 256 1 (.t 3) (.t 23)⟩,
  ⟨none, none, .store 1 (.t 27) (.t 26)⟩]
def R78_10 : List GI := [
  ⟨some 9, none, .mov (.t 4)⟩,
  ⟨some 10, none, .bin .add (.t 9) (.k (.int .i64 1))⟩,
  ⟨some 4, none, .mov (.t 10)⟩]
def B78_0 : AC := (.seq (.seq (.reg R78_3) (.cond (.t 8) .skip (.exit 0))) (.seq (.block 1 (.seq (.reg R78_4) (.seq (.seq (.reg R78_5) (.block 2 (.loop B78_1))) (.reg R78_9)))) (.reg R78_10)))
def R78_11 : List GI := [
  ⟨some 28, none, .loadn 256 (.t 3)⟩,
  ⟨none, none, .store 256 (.t 2) (.t 28)⟩]
def A78 : AF := ⟨(.seq (.reg R78_0) (.seq (.reg R78_1) (.seq (.seq (.reg R78_2) (.block 0 (.loop B78_0))) (.seq (.reg R78_11) .ret)))), [(2, some (some 256))]⟩

/-- rootstock/rootstockref05.either -/
def R79_0 : List GI := [
  ⟨some 4, none, .mov (.k (.slice none 0 0))⟩]
def R79_1 : List GI := [
  ⟨some 7, none, .mov (.t 0)⟩,
  ⟨some 8, none, .lens (.t 7)⟩,
  ⟨some 9, none, .mks 4 1 1 [(.bool false)] (.t 8) (.t 8)⟩,
  ⟨some 5, none, .mov (.t 9)⟩]
def R79_2 : List GI := [
  ⟨some 6, none, .mov (.k (.int .i64 0))⟩]
def R79_3 : List GI := [
  ⟨some 10, none, .mov (.t 6)⟩,
  ⟨some 11, none, .mov (.t 0)⟩,
  ⟨some 12, none, .lens (.t 11)⟩,
  ⟨some 13, none, .bin .lss (.t 10) (.t 12)⟩]
def R79_4 : List GI := [
  ⟨some 16, none, .mov (.t 5)⟩,
  ⟨some 17, none, .mov (.t 6)⟩,
  ⟨some 18, none, .mov (.t 0)⟩,
  ⟨some 19, none, .mov (.t 6)⟩,
  ⟨some 20, none, .ixs 1 (.t 18) (.t 19)⟩,
  ⟨some 21, none, .load (.t 20)⟩,
  ⟨some 22, none, .mov (.t 21)⟩,
  ⟨some 23, some (22, false), .mov (.t 1)⟩,
  ⟨some 24, some (22, false), .mov (.t 6)⟩,
  ⟨some 25, some (22, false), .ixs 1 (.t 23) (.t 24)⟩,
  ⟨some 26, some (22, false), .load (.t 25)⟩,
  ⟨some 27, none, .pick (.t 22) (.k (.bool true)) (.t 26)⟩,
  ⟨some 28, none, .ixs 1 (.t 16) (.t 17)⟩,
  ⟨none, none, .store 1 (.t 28) (.t 27)⟩]
def R79_5 : List GI := [
  ⟨some 14, none, .mov (.t 6)⟩,
  ⟨some 15, none, .bin .add (.t 14) (.k (.int .i64 1))⟩,
  ⟨some 6, none, .mov (.t 15)⟩]
def B79_0 : AC := (.seq (.seq (.reg R79_3) (.cond (.t 13) .skip (.exit 0))) (.seq (.block 1 (.reg R79_4)) (.reg R79_5)))
def R79_6 : List GI := [
  ⟨some 29, none, .mov (.t 5)⟩,
  ⟨some 4, none, .mov (.t 29)⟩]
def A79 : AF := ⟨(.seq (.reg R79_0) (.seq (.reg R79_1) (.seq (.seq (.reg R79_2) (.block 0 (.loop B79_0))) (.seq (.reg R79_6) .ret)))), [(4, none)]⟩

/-- rootstock/rootstockref05.again -/
def R80_0 : List GI := [
  ⟨some 3, none, .box 48 6 (.t 0)⟩,
  ⟨some 6, none, .mov (.k (.slice none 0 0))⟩]
def R80_1 : List GI := [
  ⟨some 11, none, .mov (.t 2)⟩,
  ⟨some 7, none, .mov (.t 11)⟩]
def R80_2 : List GI := [
  ⟨some 12, none, .mov (.t 7)⟩,
  ⟨some 13, none, .loadn 6 (.t 3)⟩,
  ⟨some 14, none, .mov (.t 1)⟩,
  ⟨some 15, none, .mov (.t 7)⟩,
  ⟨some 16, none, .call 56 [(.t 13), (.t 14), (.t 15)]⟩,
  ⟨some 17, none, .call 79 [(.t 12), (.t 16)]⟩,
  ⟨some 8, none, .mov (.t 17)⟩]
def R80_3 : List GI := [
  ⟨some 9, none, .mov (.k (.bool true))⟩]
def R80_4 : List GI := [
  ⟨some 10, none, .mov (.k (.int .i64 0))⟩]
def R80_5 : List GI := [
  ⟨some 18, none, .mov (.t 10)⟩,
  ⟨some 19, none, .mov (.t 7)⟩,
  ⟨some 20, none, .lens (.t 19)⟩,
  ⟨some 21, none, .bin .lss (.t 18) (.t 20)⟩]
def R80_6 : List GI := [
  ⟨some 24, none, .mov (.t 9)⟩,
  ⟨some 25, none, .mov (.t 24)⟩,
  ⟨some 26, some (25, true), .mov (.t 7)⟩,
  ⟨some 27, some (25, true), .mov (.t 10)⟩,
  ⟨some 28, some (25, true), .ixs 1 (.t 26) (.t 27)⟩,
  ⟨some 29, some (25, true), .load (.t 28)⟩,
  ⟨some 30, some (25, true), .mov (.t 8)⟩,
  ⟨some 31, some (25, true), .mov (.t 10)⟩,
  ⟨some 32, some (25, true), .ixs 1 (.t 30) (.t 31)⟩,
  ⟨some 33, some (25, true), .load (.t 32)⟩,
  ⟨some 34, some (25, true), .eqc 0 false (.t 29) (.t 33)⟩,
  ⟨some 35, none, .pick (.t 25) (.t 34) (.k (.bool false))⟩,
  ⟨some 9, none, .mov (.t 35)⟩]
def R80_7 : List GI := [
  ⟨some 22, none, .mov (.t 10)⟩,
  ⟨some 23, none, .bin .add (.t 22) (.k (.int .i64 1))⟩,
  ⟨some 10, none, .mov (.t 23)⟩]
def B80_1 : AC := (.seq (.seq (.reg R80_5) (.cond (.t 21) .skip (.exit 2))) (.seq (.block 3 (.regd R80_6 [])) (.reg R80_7)))
def R80_8 : List GI := [
  ⟨some 36, none, .mov (.t 9)⟩]
def R80_9 : List GI := [
  ⟨some 37, none, .mov (.t 7)⟩,
  ⟨some 6, none, .mov (.t 37)⟩]
def R80_10 : List GI := [
  ⟨some 38, none, .mov (.t 8)⟩,
  ⟨some 7, none, .mov (.t 38)⟩]
def B80_0 : AC := (.block 1 (.seq (.reg R80_2) (.seq (.reg R80_3) (.seq (.seq (.reg R80_4) (.block 2 (.loop B80_1))) (.seq (.seq (.reg R80_8) (.cond (.t 36) (.seq (.reg R80_9) .ret) .skip)) (.reg R80_10))))))
def A80 : AF := ⟨(.seq (.reg R80_0) (.seq (.reg R80_1) (.block 0 (.loop B80_0)))), [(6, none)]⟩

end
end Go.Rx

namespace Go.Rx
noncomputable section
/-- rootstock/regs.depth -/
def R60_0 : List GI := [
  ⟨some 1, none, .box 48 6 (.t 0)⟩,
  ⟨some 2, none, .mov (.k (.int .i64 0))⟩]
def R60_1 : List GI := [
  ⟨some 3, none, .mov (.k (.int .i64 0))⟩]
def R60_2 : List GI := [
  ⟨some 6, none, .fadr 5 (.t 1)⟩,
  ⟨some 7, none, .load (.t 6)⟩,
  ⟨some 8, none, .lens (.t 7)⟩,
  ⟨some 9, none, .mov (.k (.int .i64 0))⟩]
def R60_3 : List GI := [
  ⟨some 10, none, .bin .lss (.t 9) (.t 8)⟩]
def R60_4 : List GI := [
  ⟨some 11, none, .ixs 6 (.t 7) (.t 9)⟩,
  ⟨some 12, none, .loadn 6 (.t 11)⟩,
  ⟨some 5, none, .alloc 48 [(.int .i64 0), (.int .u64 0), (.int .u64 0), (.int .u64 0), (.int .u64 0), (.slice none 0 0)]⟩,
  ⟨none, none, .store 6 (.t 5) (.t 12)⟩]
def R60_5 : List GI := [
  ⟨some 13, none, .mov (.t 3)⟩,
  ⟨some 14, none, .loadn 6 (.t 5)⟩,
  ⟨some 15, none, .call 60 [(.t 14)]⟩,
  ⟨some 16, none, .minmax true [(.t 13), (.t 15)]⟩,
  ⟨some 3, none, .mov (.t 16)⟩]
def R60_6 : List GI := [
  ⟨some 17, none, .bin .add (.t 9) (.k (.int .i64 1))⟩,
  ⟨some 9, none, .mov (.t 17)⟩]
def B60_0 : AC := (.seq (.reg R60_3) (.seq (.cond (.t 10) .skip (.exit 0)) (.seq (.block 1 (.seq (.reg R60_4) (.reg R60_5))) (.reg R60_6))))
def R60_7 : List GI := [
  ⟨some 18, none, .mov (.t 3)⟩,
  ⟨some 19, none, .bin .add (.t 18) (.k (.int .i64 1))⟩,
  ⟨some 2, none, .mov (.t 19)⟩]
def A60 : AF := ⟨(.seq (.reg R60_0) (.seq (.reg R60_1) (.seq (.seq (.reg R60_2) (.block 0 (.loop B60_0))) (.seq (.reg R60_7) .ret)))), [(2, none)]⟩

/-- slices.Clone[[]int,int] -/
def R91_0 : List GI := [
  ⟨some 2, none, .mov (.k (.slice none 0 0))⟩]
def R91_1 : List GI := [
  ⟨some 3, none, .mov (.t 0)⟩,
  ⟨some 4, none, .eqc 3 false (.t 3) (.k (.slice none 0 0))⟩]
def R91_2 : List GI := [
  ⟨some 2, none, .mov (.k (.slice none 0 0))⟩]
def R91_3 : List GI := [
  ⟨some 5, none, .bslice 3 0 [] []⟩,
  ⟨some 6, none, .mov (.t 0)⟩,
  ⟨some 7, none, .app 3 1 8 (.t 5) (.t 6)⟩,
  ⟨some 2, none, .mov (.t 7)⟩]
def A91 : AF := ⟨(.seq (.reg R91_0) (.seq (.seq (.reg R91_1) (.cond (.t 4) (.seq (.reg R91_2) .ret) .skip)) (.seq (.reg R91_3) .ret))), [(2, none)]⟩

/-- rootstock/regs.fresh -/
def R92_0 : List GI := [
  ⟨some 4, none, .mov (.k (.slice none 0 0))⟩]
def R92_1 : List GI := [
  ⟨some 5, none, .mov (.k (.slice none 0 0))⟩]
def R92_2 : List GI := [
  ⟨some 10, none, .mov (.t 0)⟩,
  ⟨some 11, none, .lens (.t 10)⟩,
  ⟨some 12, none, .mov (.k (.int .i64 0))⟩]
def R92_3 : List GI := [
  ⟨some 13, none, .bin .lss (.t 12) (.t 11)⟩]
def R92_4 : List GI := [
  ⟨some 14, none, .ixs 1 (.t 10) (.t 12)⟩,
  ⟨some 15, none, .load (.t 14)⟩,
  ⟨some 7, none, .mov (.t 15)⟩]
def R92_5 : List GI := [
  ⟨some 17, none, .mov (.t 1)⟩,
  ⟨some 18, none, .mov (.t 7)⟩,
  ⟨some 19, none, .call 102 [(.t 17), (.t 18)]⟩,
  ⟨some 16, none, .mov (.t 19)⟩,
  ⟨some 20, none, .ext 0 (.t 16)⟩,
  ⟨some 21, none, .ext 1 (.t 16)⟩,
  ⟨some 8, none, .mov (.t 20)⟩,
  ⟨some 9, none, .mov (.t 21)⟩]
def R92_6 : List GI := [
  ⟨some 22, none, .mov (.t 9)⟩,
  ⟨some 23, none, .un .not (.t 22)⟩]
def R92_7 : List GI := [
  ⟨some 24, none, .mov (.t 5)⟩,
  ⟨some 25, none, .mov (.t 7)⟩,
  ⟨some 26, none, .bslice 3 1 [(.int .i64 0)] [(0, 1, (.t 25))]⟩,
  ⟨some 27, none, .app 3 1 8 (.t 24) (.t 26)⟩,
  ⟨some 5, none, .mov (.t 27)⟩]
def R92_8 : List GI := [
  ⟨some 28, none, .bin .add (.t 12) (.k (.int .i64 1))⟩,
  ⟨some 12, none, .mov (.t 28)⟩]
def B92_0 : AC := (.seq (.reg R92_3) (.seq (.cond (.t 13) .skip (.exit 0)) (.seq (.block 1 (.seq (.reg R92_4) (.seq (.reg R92_5) (.seq (.reg R92_6) (.cond (.t 23) (.reg R92_7) .skip))))) (.reg R92_8))))
def R92_9 : List GI := [
  ⟨some 29, none, .mov (.t 5)⟩,
  ⟨some 4, none, .mov (.t 29)⟩]
def A92 : AF := ⟨(.seq (.reg R92_0) (.seq (.reg R92_1) (.seq (.seq (.reg R92_2) (.block 0 (.loop B92_0))) (.seq (.reg R92_9) .ret)))), [(4, none)]⟩

/-- slices.BinarySearch[[]int,int] -/
def R102_0 : List GI := [
  ⟨some 4, none, .mov (.k (.int .i64 0))⟩,
  ⟨some 5, none, .mov (.k (.bool false))⟩]
def R102_1 : List GI := [
  ⟨some 10, none, .mov (.t 0)⟩,
  ⟨some 11, none, .lens (.t 10)⟩,
  ⟨some 6, none, .mov (.t 11)⟩]
def R102_2 : List GI := [
  ⟨some 12, none, .mov (.t 6)⟩,
  ⟨some 7, none, .mov (.k (.int .i64 0))⟩,
  ⟨some 8, none, .mov (.t 12)⟩]
def R102_3 : List GI := [
  ⟨some 13, none, .mov (.t 7)⟩,
  ⟨some 14, none, .mov (.t 8)⟩,
  ⟨some 15, none, .bin .lss (.t 13) (.t 14)⟩]
def R102_4 : List GI := [
  ⟨some 16, none, .mov (.t 7)⟩,
  ⟨some 17, none, .mov (.t 8)⟩,
  ⟨some 18, none, .bin .add (.t 16) (.t 17)⟩,
  ⟨some 19, none, .conv .u64 (.t 18)⟩,
  ⟨some 20, none, .bin .shr (.t 19) (.k (.int .u64 1))⟩,
  ⟨some 21, none, .conv .i64 (.t 20)⟩,
  ⟨some 9, none, .mov (.t 21)⟩]
def R102_5 : List GI := [
  ⟨some 22, none, .mov (.t 0)⟩,
  ⟨some 23, none, .mov (.t 9)⟩,
  ⟨some 24, none, .ixs 1 (.t 22) (.t 23)⟩,
  ⟨some 25, none, .load (.t 24)⟩,
  ⟨some 26, none, .mov (.t 1)⟩,
  ⟨some 27, none, .call 113 [(.t 25), (.t 26)]⟩]
def R102_6 : List GI := [
  ⟨some 28, none, .mov (.t 9)⟩,
  ⟨some 29, none, .bin .add (.t 28) (.k (.int .i64 1))⟩,
  ⟨some 7, none, .mov (.t 29)⟩]
def R102_7 : List GI := [
  ⟨some 30, none, .mov (.t 9)⟩,
  ⟨some 8, none, .mov (.t 30)⟩]
def B102_0 : AC := (.seq (.seq (.reg R102_3) (.cond (.t 15) .skip (.exit 0))) (.block 1 (.seq (.reg R102_4) (.seq (.reg R102_5) (.cond (.t 27) (.reg R102_6) (.reg R102_7))))))
def R102_8 : List GI := [
  ⟨some 31, none, .mov (.t 7)⟩,
  ⟨some 32, none, .mov (.t 7)⟩,
  ⟨some 33, none, .mov (.t 6)⟩,
  ⟨some 34, none, .bin .lss (.t 32) (.t 33)⟩,
  ⟨some 35, none, .mov (.t 34)⟩,
  ⟨some 36, some (35, true), .mov (.t 0)⟩,
  ⟨some 37, some (35, true), .mov (.t 7)⟩,
  ⟨some 38, some (35, true), .ixs 1 (.t 36) (.t 37)⟩,
  ⟨some 39, some (35, true), .load (.t 38)⟩,
  ⟨some 40, some (35, true), .mov (.t 1)⟩,
  ⟨some 41, some (35, true), .bin .eql (.t 39) (.t 40)⟩,
  ⟨some 42, some (35, true), .mov (.t 41)⟩,
  ⟨some 43, some (42, false), .mov (.t 0)⟩,
  ⟨some 44, some (42, false), .mov (.t 7)⟩,
  ⟨some 45, some (42, false), .ixs 1 (.t 43) (.t 44)⟩,
  ⟨some 46, some (42, false), .load (.t 45)⟩,
  ⟨some 47, some (42, false), .call 118 [(.t 46)]⟩,
  ⟨some 48, some (42, false), .mov (.t 47)⟩,
  ⟨some 49, some (48, true), .mov (.t 1)⟩,
  ⟨some 50, some (48, true), .call 118 [(.t 49)]⟩,
  ⟨some 51, some (42, false), .pick (.t 48) (.t 50) (.k (.bool false))⟩,
  ⟨some 52, some (35, true), .pick (.t 42) (.k (.bool true)) (.t 51)⟩,
  ⟨some 53, none, .pick (.t 35) (.t 52) (.k (.bool false))⟩,
  ⟨some 4, none, .mov (.t 31)⟩,
  ⟨some 5, none, .mov (.t 53)⟩]
def A102 : AF := ⟨(.seq (.reg R102_0) (.seq (.reg R102_1) (.seq (.reg R102_2) (.seq (.block 0 (.loop B102_0)) (.seq (.reg R102_8) .ret))))), [(4, none), (5, none)]⟩

/-- cmp.Less[int] -/
def R113_0 : List GI := [
  ⟨some 4, none, .mov (.k (.bool false))⟩]
def R113_1 : List GI := [
  ⟨some 5, none, .mov (.t 0)⟩,
  ⟨some 6, none, .call 128 [(.t 5)]⟩,
  ⟨some 7, none, .mov (.t 6)⟩,
  ⟨some 8, some (7, true), .mov (.t 1)⟩,
  ⟨some 9, some (7, true), .call 128 [(.t 8)]⟩,
  ⟨some 10, some (7, true), .un .not (.t 9)⟩,
  ⟨some 11, none, .pick (.t 7) (.t 10) (.k (.bool false))⟩,
  ⟨some 12, none, .mov (.t 11)⟩,
  ⟨some 13, some (12, false), .mov (.t 0)⟩,
  ⟨some 14, some (12, false), .mov (.t 1)⟩,
  ⟨some 15, some (12, false), .bin .lss (.t 13) (.t 14)⟩,
  ⟨some 16, none, .pick (.t 12) (.k (.bool true)) (.t 15)⟩,
  ⟨some 4, none, .mov (.t 16)⟩]
def A113 : AF := ⟨(.seq (.reg R113_0) (.seq (.reg R113_1) .ret)), [(4, none)]⟩

/-- cmp.isNaN[int] -/
def R128_0 : List GI := [
  ⟨some 2, none, .mov (.k (.bool false))⟩]
def R128_1 : List GI := [
  ⟨some 3, none, .mov (.t 0)⟩,
  ⟨some 4, none, .mov (.t 0)⟩,
  ⟨some 5, none, .bin .neq (.t 3) (.t 4)⟩,
  ⟨some 2, none, .mov (.t 5)⟩]
def A128 : AF := ⟨(.seq (.reg R128_0) (.seq (.reg R128_1) .ret)), [(2, none)]⟩

/-- slices.isNaN[int] -/
def R118_0 : List GI := [
  ⟨some 2, none, .mov (.k (.bool false))⟩]
def R118_1 : List GI := [
  ⟨some 3, none, .mov (.t 0)⟩,
  ⟨some 4, none, .mov (.t 0)⟩,
  ⟨some 5, none, .bin .neq (.t 3) (.t 4)⟩,
  ⟨some 2, none, .mov (.t 5)⟩]
def A118 : AF := ⟨(.seq (.reg R118_0) (.seq (.reg R118_1) .ret)), [(2, none)]⟩

end
end Go.Rx

namespace Go.Rx
noncomputable section
/-- rootstock/regs.Print -/
def R30_0 : List GI := [
  ⟨some 1, none, .box 48 6 (.t 0)⟩,
  ⟨some 2, none, .mov (.k (.string ⟨#[]⟩))⟩,
  ⟨some 3, none, .mov (.k (.int .i64 0))⟩]
def R30_1 : List GI := [
  ⟨some 6, none, .loadn 6 (.t 1)⟩,
  ⟨some 7, none, .call 51 [(.t 6)]⟩,
  ⟨some 4, none, .mov (.t 7)⟩]
def R30_2 : List GI := [
  ⟨some 8, none, .mov (.t 4)⟩,
  ⟨some 9, none, .bin .neq (.t 8) (.k (.int .i64 0))⟩]
def R30_3 : List GI := [
  ⟨some 10, none, .mov (.t 4)⟩,
  ⟨some 2, none, .mov (.k (.string ⟨#[]⟩))⟩,
  ⟨some 3, none, .mov (.t 10)⟩]
def R30_4 : List GI := [
  ⟨some 11, none, .loadn 6 (.t 1)⟩,
  ⟨some 12, none, .call 57 [(.k (.slice none 0 0)), (.t 11)]⟩,
  ⟨some 5, none, .mov (.t 12)⟩]
def R30_5 : List GI := [
  ⟨some 13, none, .mov (.t 5)⟩,
  ⟨some 14, none, .lens (.t 13)⟩,
  ⟨some 15, none, .bin .gtr (.t 14) (.k (.int .i64 256))⟩]
def R30_6 : List GI := [
  ⟨some 2, none, .mov (.k (.string ⟨#[]⟩))⟩,
  ⟨some 3, none, .mov (.k (.int .i64 3))⟩]
def R30_7 : List GI := [
  ⟨some 16, none, .mov (.t 5)⟩,
  ⟨some 17, none, .b2s (.t 16)⟩,
  ⟨some 2, none, .mov (.t 17)⟩,
  ⟨some 3, none, .mov (.k (.int .i64 0))⟩]
def A30 : AF := ⟨(.seq (.reg R30_0) (.seq (.seq (.reg R30_1) (.seq (.reg R30_2) (.cond (.t 9) (.seq (.reg R30_3) .ret) .skip))) (.seq (.reg R30_4) (.seq (.seq (.reg R30_5) (.cond (.t 15) (.seq (.reg R30_6) .ret) .skip)) (.seq (.reg R30_7) .ret))))), [(2, none), (3, none)]⟩

/-- rootstock/regs.told -/
def R57_0 : List GI := [
  ⟨some 3, none, .box 48 6 (.t 1)⟩,
  ⟨some 4, none, .mov (.k (.slice none 0 0))⟩]
def R57_1 : List GI := [
  ⟨some 8, none, .fadr 0 (.t 3)⟩,
  ⟨some 9, none, .load (.t 8)⟩]
def R57_2 : List GI := [
  ⟨some 11, none, .bin .eql (.t 9) (.k (.int .i64 0))⟩,
  ⟨some 10, none, .mov (.t 11)⟩]
def R57_3 : List GI := [
  ⟨some 12, none, .mov (.t 0)⟩,
  ⟨some 13, none, .app 5 1 1 (.t 12) (.k (.string ⟨#[91, 93]⟩))⟩,
  ⟨some 4, none, .mov (.t 13)⟩]
def R57_4 : List GI := [
  ⟨some 15, none, .bin .eql (.t 9) (.k (.int .i64 2))⟩,
  ⟨some 14, none, .mov (.t 15)⟩]
def R57_5 : List GI := [
  ⟨some 16, none, .mov (.t 0)⟩,
  ⟨some 17, none, .fadr 1 (.t 3)⟩,
  ⟨some 18, none, .loadn 4 (.t 17)⟩,
  ⟨some 19, none, .call 81 [(.t 16), (.t 18)]⟩,
  ⟨some 4, none, .mov (.t 19)⟩]
def R57_6 : List GI := [
  ⟨some 20, none, .fadr 5 (.t 3)⟩,
  ⟨some 21, none, .load (.t 20)⟩,
  ⟨some 22, none, .lens (.t 21)⟩,
  ⟨some 23, none, .mov (.k (.int .i64 0))⟩]
def R57_7 : List GI := [
  ⟨some 24, none, .bin .lss (.t 23) (.t 22)⟩]
def R57_8 : List GI := [
  ⟨some 25, none, .mov (.t 23)⟩,
  ⟨some 26, none, .ixs 6 (.t 21) (.t 23)⟩,
  ⟨some 27, none, .loadn 6 (.t 26)⟩,
  ⟨some 6, none, .alloc 48 [(.int .i64 0), (.int .u64 0), (.int .u64 0), (.int .u64 0), (.int .u64 0), (.slice none 0 0)]⟩,
  ⟨some 5, none, .mov (.t 25)⟩,
  ⟨none, none, .store 6 (.t 6) (.t 27)⟩]
def R57_9 : List GI := [
  ⟨some 28, none, .fadr 0 (.t 3)⟩,
  ⟨some 29, none, .load (.t 28)⟩,
  ⟨some 30, none, .bin .eql (.t 29) (.k (.int .i64 4))⟩,
  ⟨some 31, none, .mov (.t 30)⟩,
  ⟨some 32, some (31, true), .mov (.t 5)⟩,
  ⟨some 33, some (31, true), .bin .gtr (.t 32) (.k (.int .i64 0))⟩,
  ⟨some 34, none, .pick (.t 31) (.t 33) (.k (.bool false))⟩]
def R57_10 : List GI := [
  ⟨some 35, none, .mov (.t 0)⟩,
  ⟨some 36, none, .bslice 5 1 [(.int .u8 0)] [(0, 1, (.k (.int .u8 124)))]⟩,
  ⟨some 37, none, .app 5 1 1 (.t 35) (.t 36)⟩,
  ⟨some 0, none, .mov (.t 37)⟩]
def R57_11 : List GI := [
  ⟨some 38, none, .fadr 0 (.t 6)⟩,
  ⟨some 39, none, .load (.t 38)⟩,
  ⟨some 40, none, .bin .eql (.t 39) (.k (.int .i64 4))⟩,
  ⟨some 41, none, .mov (.t 40)⟩,
  ⟨some 42, some (41, false), .fadr 0 (.t 3)⟩,
  ⟨some 43, some (41, false), .load (.t 42)⟩,
  ⟨some 44, some (41, false), .bin .neq (.t 43) (.k (.int .i64 4))⟩,
  ⟨some 45, some (41, false), .mov (.t 44)⟩,
  ⟨some 46, some (45, true), .fadr 0 (.t 6)⟩,
  ⟨some 47, some (45, true), .load (.t 46)⟩,
  ⟨some 48, some (45, true), .bin .eql (.t 47) (.k (.int .i64 1))⟩,
  ⟨some 49, some (45, true), .mov (.t 48)⟩,
  ⟨some 50, some (49, false), .fadr 0 (.t 6)⟩,
  ⟨some 51, some (49, false), .load (.t 50)⟩,
  ⟨some 52, some (49, false), .bin .eql (.t 51) (.k (.int .i64 3))⟩,
  ⟨some 53, some (45, true), .pick (.t 49) (.k (.bool true)) (.t 52)⟩,
  ⟨some 54, some (41, false), .pick (.t 45) (.t 53) (.k (.bool false))⟩,
  ⟨some 55, none, .pick (.t 41) (.k (.bool true)) (.t 54)⟩,
  ⟨some 7, none, .mov (.t 55)⟩]
def R57_12 : List GI := [
  ⟨some 56, none, .mov (.t 7)⟩]
def R57_13 : List GI := [
  ⟨some 57, none, .mov (.t 0)⟩,
  ⟨some 58, none, .bslice 5 1 [(.int .u8 0)] [(0, 1, (.k (.int .u8 40)))]⟩,
  ⟨some 59, none, .app 5 1 1 (.t 57) (.t 58)⟩,
  ⟨some 0, none, .mov (.t 59)⟩]
def R57_14 : List GI := [
  ⟨some 60, none, .mov (.t 0)⟩,
  ⟨some 61, none, .loadn 6 (.t 6)⟩,
  ⟨some 62, none, .call 57 [(.t 60), (.t 61)]⟩,
  ⟨some 0, none, .mov (.t 62)⟩]
def R57_15 : List GI := [
  ⟨some 63, none, .mov (.t 7)⟩]
def R57_16 : List GI := [
  ⟨some 64, none, .mov (.t 0)⟩,
  ⟨some 65, none, .bslice 5 1 [(.int .u8 0)] [(0, 1, (.k (.int .u8 41)))]⟩,
  ⟨some 66, none, .app 5 1 1 (.t 64) (.t 65)⟩,
  ⟨some 0, none, .mov (.t 66)⟩]
def R57_17 : List GI := [
  ⟨some 67, none, .bin .add (.t 23) (.k (.int .i64 1))⟩,
  ⟨some 23, none, .mov (.t 67)⟩]
def B57_0 : AC := (.seq (.reg R57_7) (.seq (.cond (.t 24) .skip (.exit 1)) (.seq (.block 2 (.seq (.reg R57_8) (.seq (.seq (.reg R57_9) (.cond (.t 34) (.reg R57_10) .skip)) (.seq (.reg R57_11) (.seq (.seq (.reg R57_12) (.cond (.t 56) (.reg R57_13) .skip)) (.seq (.reg R57_14) (.seq (.reg R57_15) (.cond (.t 63) (.reg R57_16) .skip)))))))) (.reg R57_17))))
def R57_18 : List GI := [
  ⟨some 68, none, .fadr 0 (.t 3)⟩,
  ⟨some 69, none, .load (.t 68)⟩]
def R57_19 : List GI := [
  ⟨some 71, none, .bin .eql (.t 69) (.k (.int .i64 5))⟩,
  ⟨some 70, none, .mov (.t 71)⟩]
def R57_20 : List GI := [
  ⟨some 72, none, .mov (.t 0)⟩,
  ⟨some 73, none, .bslice 5 1 [(.int .u8 0)] [(0, 1, (.k (.int .u8 42)))]⟩,
  ⟨some 74, none, .app 5 1 1 (.t 72) (.t 73)⟩,
  ⟨some 4, none, .mov (.t 74)⟩]
def R57_21 : List GI := [
  ⟨some 76, none, .bin .eql (.t 69) (.k (.int .i64 6))⟩,
  ⟨some 75, none, .mov (.t 76)⟩]
def R57_22 : List GI := [
  ⟨some 77, none, .mov (.t 0)⟩,
  ⟨some 78, none, .bslice 5 1 [(.int .u8 0)] [(0, 1, (.k (.int .u8 43)))]⟩,
  ⟨some 79, none, .app 5 1 1 (.t 77) (.t 78)⟩,
  ⟨some 4, none, .mov (.t 79)⟩]
def R57_23 : List GI := [
  ⟨some 81, none, .bin .eql (.t 69) (.k (.int .i64 7))⟩,
  ⟨some 80, none, .mov (.t 81)⟩]
def R57_24 : List GI := [
  ⟨some 82, none, .mov (.t 0)⟩,
  ⟨some 83, none, .bslice 5 1 [(.int .u8 0)] [(0, 1, (.k (.int .u8 63)))]⟩,
  ⟨some 84, none, .app 5 1 1 (.t 82) (.t 83)⟩,
  ⟨some 4, none, .mov (.t 84)⟩]
def R57_25 : List GI := [
  ⟨some 85, none, .mov (.t 0)⟩,
  ⟨some 4, none, .mov (.t 85)⟩]
def A57 : AF := ⟨(.seq (.reg R57_0) (.seq (.seq (.reg R57_1) (.block 0 (.seq (.reg R57_2) (.cond (.t 10) (.seq (.reg R57_3) .ret) (.seq (.reg R57_4) (.cond (.t 14) (.seq (.reg R57_5) .ret) .skip)))))) (.seq (.seq (.reg R57_6) (.block 1 (.loop B57_0))) (.seq (.seq (.reg R57_18) (.block 3 (.seq (.reg R57_19) (.cond (.t 70) (.seq (.reg R57_20) .ret) (.seq (.reg R57_21) (.cond (.t 75) (.seq (.reg R57_22) .ret) (.seq (.reg R57_23) (.cond (.t 80) (.seq (.reg R57_24) .ret) .skip)))))))) (.seq (.reg R57_25) .ret))))), [(4, none)]⟩

/-- rootstock/regs.single -/
def R81_0 : List GI := [
  ⟨some 3, none, .box 45 4 (.t 1)⟩,
  ⟨some 4, none, .mov (.k (.slice none 0 0))⟩]
def R81_1 : List GI := [
  ⟨some 9, none, .loadn 4 (.t 3)⟩,
  ⟨some 10, none, .call 93 []⟩,
  ⟨some 11, none, .eqa [1, 1, 1, 1] false (.t 9) (.t 10)⟩,
  ⟨some 8, none, .mov (.t 11)⟩]
def R81_2 : List GI := [
  ⟨some 12, none, .mov (.t 0)⟩,
  ⟨some 13, none, .bslice 5 1 [(.int .u8 0)] [(0, 1, (.k (.int .u8 46)))]⟩,
  ⟨some 14, none, .app 5 1 1 (.t 12) (.t 13)⟩,
  ⟨some 4, none, .mov (.t 14)⟩]
def R81_3 : List GI := [
  ⟨some 16, none, .loadn 4 (.t 3)⟩,
  ⟨some 17, none, .call 84 [(.t 16)]⟩,
  ⟨some 18, none, .bin .neq (.t 17) (.k (.int .i64 1))⟩,
  ⟨some 15, none, .mov (.t 18)⟩]
def R81_4 : List GI := [
  ⟨some 19, none, .mov (.t 0)⟩,
  ⟨some 20, none, .loadn 4 (.t 3)⟩,
  ⟨some 21, none, .call 94 [(.t 20)]⟩,
  ⟨some 22, none, .app 5 1 1 (.t 19) (.t 21)⟩,
  ⟨some 4, none, .mov (.t 22)⟩]
def R81_5 : List GI := [
  ⟨some 23, none, .loadn 4 (.t 3)⟩,
  ⟨some 24, none, .call 95 [(.t 23)]⟩,
  ⟨some 25, none, .ixt (.t 24) (.k (.int .i64 0))⟩,
  ⟨some 5, none, .mov (.t 25)⟩]
def R81_6 : List GI := [
  ⟨some 27, none, .mov (.t 5)⟩,
  ⟨some 28, none, .call 96 [(.t 27)]⟩,
  ⟨some 26, none, .mov (.t 28)⟩,
  ⟨some 29, none, .ext 0 (.t 26)⟩,
  ⟨some 30, none, .ext 1 (.t 26)⟩,
  ⟨some 6, none, .mov (.t 29)⟩,
  ⟨some 7, none, .mov (.t 30)⟩]
def R81_7 : List GI := [
  ⟨some 31, none, .mov (.t 7)⟩]
def R81_8 : List GI := [
  ⟨some 32, none, .mov (.t 0)⟩,
  ⟨some 33, none, .mov (.t 6)⟩,
  ⟨some 34, none, .bslice 5 2 [(.int .u8 0), (.int .u8 0)] [(0, 1, (.k (.int .u8 92))), (1, 1, (.t 33))]⟩,
  ⟨some 35, none, .app 5 1 1 (.t 32) (.t 34)⟩,
  ⟨some 4, none, .mov (.t 35)⟩]
def R81_9 : List GI := [
  ⟨some 36, none, .mov (.t 5)⟩,
  ⟨some 37, none, .call 97 [(.t 36)]⟩]
def R81_10 : List GI := [
  ⟨some 38, none, .mov (.t 0)⟩,
  ⟨some 39, none, .bslice 5 1 [(.int .u8 0)] [(0, 1, (.k (.int .u8 92)))]⟩,
  ⟨some 40, none, .app 5 1 1 (.t 38) (.t 39)⟩,
  ⟨some 0, none, .mov (.t 40)⟩]
def R81_11 : List GI := [
  ⟨some 41, none, .mov (.t 0)⟩,
  ⟨some 42, none, .mov (.t 5)⟩,
  ⟨some 43, none, .bslice 5 1 [(.int .u8 0)] [(0, 1, (.t 42))]⟩,
  ⟨some 44, none, .app 5 1 1 (.t 41) (.t 43)⟩,
  ⟨some 4, none, .mov (.t 44)⟩]
def A81 : AF := ⟨(.seq (.reg R81_0) (.seq (.block 0 (.seq (.regd R81_1 [(0, 1)]) (.cond (.t 8) (.seq (.reg R81_2) .ret) (.seq (.reg R81_3) (.cond (.t 15) (.seq (.reg R81_4) .ret) .skip))))) (.seq (.reg R81_5) (.seq (.seq (.reg R81_6) (.seq (.reg R81_7) (.cond (.t 31) (.seq (.reg R81_8) .ret) .skip))) (.seq (.seq (.reg R81_9) (.cond (.t 37) (.reg R81_10) .skip)) (.seq (.reg R81_11) .ret)))))), [(4, none)]⟩

/-- (*rootstock/regs.reader).row -/
def R82_0 : List GI := [
  ⟨some 2, none, .alloc 48 [(.int .i64 0), (.int .u64 0), (.int .u64 0), (.int .u64 0), (.int .u64 0), (.slice none 0 0)]⟩]
def R82_1 : List GI := [
  ⟨some 3, none, .mov (.k (.slice none 0 0))⟩]
def R82_2 : List GI := [
  ⟨some 7, none, .mov (.t 0)⟩,
  ⟨some 8, none, .call 83 [(.t 7)]⟩,
  ⟨some 6, none, .mov (.t 8)⟩,
  ⟨some 9, none, .ext 0 (.t 6)⟩,
  ⟨some 10, none, .ext 1 (.t 6)⟩,
  ⟨some 4, none, .mov (.t 9)⟩,
  ⟨some 5, none, .mov (.t 10)⟩]
def R82_3 : List GI := [
  ⟨some 11, none, .mov (.t 5)⟩,
  ⟨some 12, none, .mov (.t 11)⟩,
  ⟨some 13, some (12, true), .mov (.t 4)⟩,
  ⟨some 14, some (12, true), .bin .neq (.t 13) (.k (.int .u8 124))⟩,
  ⟨some 15, none, .pick (.t 12) (.t 14) (.k (.bool false))⟩,
  ⟨some 16, none, .mov (.t 15)⟩,
  ⟨some 17, some (16, true), .mov (.t 4)⟩,
  ⟨some 18, some (16, true), .bin .neq (.t 17) (.k (.int .u8 41))⟩,
  ⟨some 19, none, .pick (.t 16) (.t 18) (.k (.bool false))⟩]
def R82_4 : List GI := [
  ⟨some 25, none, .mov (.t 3)⟩,
  ⟨some 26, none, .mov (.t 0)⟩,
  ⟨some 27, none, .call 98 [(.t 26)]⟩,
  ⟨some 28, none, .bslice 48 1 [(.int .i64 0), (.int .u64 0), (.int .u64 0), (.int .u64 0), (.int .u64 0), (.slice none 0 0)] [(0, 6, (.t 27))]⟩,
  ⟨some 29, none, .app 48 6 64 (.t 25) (.t 28)⟩,
  ⟨some 3, none, .mov (.t 29)⟩]
def R82_5 : List GI := [
  ⟨some 21, none, .mov (.t 0)⟩,
  ⟨some 22, none, .call 83 [(.t 21)]⟩,
  ⟨some 20, none, .mov (.t 22)⟩,
  ⟨some 23, none, .ext 0 (.t 20)⟩,
  ⟨some 24, none, .ext 1 (.t 20)⟩,
  ⟨some 4, none, .mov (.t 23)⟩,
  ⟨some 5, none, .mov (.t 24)⟩]
def B82_0 : AC := (.seq (.seq (.reg R82_3) (.cond (.t 19) .skip (.exit 0))) (.seq (.block 1 (.reg R82_4)) (.reg R82_5)))
def R82_6 : List GI := [
  ⟨some 30, none, .mov (.t 3)⟩,
  ⟨some 31, none, .lens (.t 30)⟩]
def R82_7 : List GI := [
  ⟨some 33, none, .bin .eql (.t 31) (.k (.int .i64 0))⟩,
  ⟨some 32, none, .mov (.t 33)⟩]
def R82_8 : List GI := [
  ⟨some 34, none, .build [(.int .i64 0), (.int .u64 0), (.int .u64 0), (.int .u64 0), (.int .u64 0), (.slice none 0 0)] [(0, 1, (.k (.int .i64 1)))]⟩,
  ⟨none, none, .store 6 (.t 2) (.t 34)⟩]
def R82_9 : List GI := [
  ⟨some 36, none, .bin .eql (.t 31) (.k (.int .i64 1))⟩,
  ⟨some 35, none, .mov (.t 36)⟩]
def R82_10 : List GI := [
  ⟨some 37, none, .mov (.t 3)⟩,
  ⟨some 38, none, .ixs 6 (.t 37) (.k (.int .i64 0))⟩,
  ⟨some 39, none, .loadn 6 (.t 38)⟩,
  ⟨none, none, .store 6 (.t 2) (.t 39)⟩]
def R82_11 : List GI := [
  ⟨some 40, none, .mov (.t 3)⟩,
  ⟨some 41, none, .build [(.int .i64 0), (.int .u64 0), (.int .u64 0), (.int .u64 0), (.int .u64 0), (.slice none 0 0)] [(0, 1, (.k (.int .i64 3))), (5, 1, (.t 40))]⟩,
  ⟨none, none, .store 6 (.t 2) (.t 41)⟩]
def A82 : AF := ⟨(.seq (.reg R82_0) (.seq (.reg R82_1) (.seq (.seq (.reg R82_2) (.block 0 (.loop B82_0))) (.seq (.seq (.reg R82_6) (.block 2 (.seq (.reg R82_7) (.cond (.t 32) (.seq (.reg R82_8) .ret) (.seq (.reg R82_9) (.cond (.t 35) (.seq (.reg R82_10) .ret) .skip)))))) (.seq (.reg R82_11) .ret))))), [(2, some (some 6))]⟩

/-- (*rootstock/regs.reader).next -/
def R83_0 : List GI := [
  ⟨some 2, none, .mov (.k (.int .u8 0))⟩,
  ⟨some 3, none, .mov (.k (.bool false))⟩]
def R83_1 : List GI := [
  ⟨some 4, none, .mov (.t 0)⟩,
  ⟨some 5, none, .nilchk (.t 4)⟩,
  ⟨some 6, none, .fadr 1 (.t 5)⟩,
  ⟨some 7, none, .load (.t 6)⟩,
  ⟨some 8, none, .mov (.t 0)⟩,
  ⟨some 9, none, .nilchk (.t 8)⟩,
  ⟨some 10, none, .fadr 0 (.t 9)⟩,
  ⟨some 11, none, .load (.t 10)⟩,
  ⟨some 12, none, .lent (.t 11)⟩,
  ⟨some 13, none, .bin .geq (.t 7) (.t 12)⟩]
def R83_2 : List GI := [
  ⟨some 2, none, .mov (.k (.int .u8 0))⟩,
  ⟨some 3, none, .mov (.k (.bool false))⟩]
def R83_3 : List GI := [
  ⟨some 14, none, .mov (.t 0)⟩,
  ⟨some 15, none, .nilchk (.t 14)⟩,
  ⟨some 16, none, .fadr 0 (.t 15)⟩,
  ⟨some 17, none, .load (.t 16)⟩,
  ⟨some 18, none, .mov (.t 0)⟩,
  ⟨some 19, none, .nilchk (.t 18)⟩,
  ⟨some 20, none, .fadr 1 (.t 19)⟩,
  ⟨some 21, none, .load (.t 20)⟩,
  ⟨some 22, none, .ixt (.t 17) (.t 21)⟩,
  ⟨some 2, none, .mov (.t 22)⟩,
  ⟨some 3, none, .mov (.k (.bool true))⟩]
def A83 : AF := ⟨(.seq (.reg R83_0) (.seq (.seq (.regd R83_1 []) (.cond (.t 13) (.seq (.reg R83_2) .ret) .skip)) (.seq (.regd R83_3 []) .ret))), [(2, none), (3, none)]⟩

/-- rootstock/sets.Count -/
def R84_0 : List GI := [
  ⟨some 1, none, .box 45 4 (.t 0)⟩,
  ⟨some 2, none, .mov (.k (.int .i64 0))⟩]
def R84_1 : List GI := [
  ⟨some 3, none, .mov (.k (.int .i64 0))⟩]
def R84_2 : List GI := [
  ⟨some 6, none, .loadn 4 (.t 1)⟩,
  ⟨some 7, none, .mov (.k (.int .i64 0))⟩]
def R84_3 : List GI := [
  ⟨some 8, none, .bin .lss (.t 7) (.k (.int .i64 4))⟩]
def R84_4 : List GI := [
  ⟨some 9, none, .ixg 4 1 false (.t 6) (.t 7)⟩,
  ⟨some 5, none, .mov (.t 9)⟩]
def R84_5 : List GI := [
  ⟨some 10, none, .mov (.t 3)⟩,
  ⟨some 11, none, .mov (.t 5)⟩,
  ⟨some 12, none, .call 99 [(.t 11)]⟩,
  ⟨some 13, none, .bin .add (.t 10) (.t 12)⟩,
  ⟨some 3, none, .mov (.t 13)⟩]
def R84_6 : List GI := [
  ⟨some 14, none, .bin .add (.t 7) (.k (.int .i64 1))⟩,
  ⟨some 7, none, .mov (.t 14)⟩]
def B84_0 : AC := (.seq (.reg R84_3) (.seq (.cond (.t 8) .skip (.exit 0)) (.seq (.block 1 (.seq (.reg R84_4) (.reg R84_5))) (.reg R84_6))))
def R84_7 : List GI := [
  ⟨some 15, none, .mov (.t 3)⟩,
  ⟨some 2, none, .mov (.t 15)⟩]
def A84 : AF := ⟨(.seq (.reg R84_0) (.seq (.reg R84_1) (.seq (.seq (.reg R84_2) (.block 0 (.loop B84_0))) (.seq (.reg R84_7) .ret)))), [(2, none)]⟩

/-- rootstock/regs.dot -/
def R93_0 : List GI := [
  ⟨some 0, none, .alloc 45 [(.int .u64 0), (.int .u64 0), (.int .u64 0), (.int .u64 0)]⟩]
def R93_1 : List GI := [
  ⟨some 1, none, .build [(.int .u64 0), (.int .u64 0), (.int .u64 0), (.int .u64 0)] []⟩,
  ⟨some 2, none, .call 104 [(.t 1), (.k (.int .u8 10))]⟩,
  ⟨some 3, none, .call 103 [(.t 2)]⟩,
  ⟨none, none, .store 4 (.t 0) (.t 3)⟩]
def A93 : AF := ⟨(.seq (.reg R93_0) (.seq (.reg R93_1) .ret)), [(0, some (some 4))]⟩

/-- rootstock/sets.Print -/
def R94_0 : List GI := [
  ⟨some 1, none, .box 45 4 (.t 0)⟩,
  ⟨some 2, none, .mov (.k (.string ⟨#[]⟩))⟩]
def R94_1 : List GI := [
  ⟨some 6, none, .bslice 5 1 [(.int .u8 0)] [(0, 1, (.k (.int .u8 91)))]⟩,
  ⟨some 3, none, .mov (.t 6)⟩]
def R94_2 : List GI := [
  ⟨some 7, none, .loadn 4 (.t 1)⟩,
  ⟨some 8, none, .call 84 [(.t 7)]⟩,
  ⟨some 9, none, .bin .gtr (.t 8) (.k (.int .i64 128))⟩]
def R94_3 : List GI := [
  ⟨some 10, none, .mov (.t 3)⟩,
  ⟨some 11, none, .bslice 5 1 [(.int .u8 0)] [(0, 1, (.k (.int .u8 94)))]⟩,
  ⟨some 12, none, .app 5 1 1 (.t 10) (.t 11)⟩,
  ⟨some 3, none, .mov (.t 12)⟩]
def R94_4 : List GI := [
  ⟨some 13, none, .loadn 4 (.t 1)⟩,
  ⟨some 14, none, .call 103 [(.t 13)]⟩,
  ⟨none, none, .store 4 (.t 1) (.t 14)⟩]
def R94_5 : List GI := [
  ⟨some 4, none, .mov (.k (.int .i64 0))⟩]
def R94_6 : List GI := [
  ⟨some 15, none, .mov (.t 4)⟩,
  ⟨some 16, none, .bin .lss (.t 15) (.k (.int .i64 256))⟩]
def R94_7 : List GI := [
  ⟨some 19, none, .loadn 4 (.t 1)⟩,
  ⟨some 20, none, .mov (.t 4)⟩,
  ⟨some 21, none, .conv .u8 (.t 20)⟩,
  ⟨some 22, none, .call 75 [(.t 19), (.t 21)]⟩,
  ⟨some 23, none, .un .not (.t 22)⟩]
def R94_8 : List GI := [
  ⟨some 24, none, .mov (.t 4)⟩,
  ⟨some 5, none, .mov (.t 24)⟩]
def R94_9 : List GI := [
  ⟨some 25, none, .mov (.t 5)⟩,
  ⟨some 26, none, .bin .lss (.t 25) (.k (.int .i64 255))⟩,
  ⟨some 27, none, .mov (.t 26)⟩,
  ⟨some 28, some (27, true), .loadn 4 (.t 1)⟩,
  ⟨some 29, some (27, true), .mov (.t 5)⟩,
  ⟨some 30, some (27, true), .bin .add (.t 29) (.k (.int .i64 1))⟩,
  ⟨some 31, some (27, true), .conv .u8 (.t 30)⟩,
  ⟨some 32, some (27, true), .call 75 [(.t 28), (.t 31)]⟩,
  ⟨some 33, none, .pick (.t 27) (.t 32) (.k (.bool false))⟩]
def R94_10 : List GI := [
  ⟨some 34, none, .mov (.t 5)⟩,
  ⟨some 35, none, .bin .add (.t 34) (.k (.int .i64 1))⟩,
  ⟨some 5, none, .mov (.t 35)⟩]
def B94_1 : AC := (.seq (.seq (.reg R94_9) (.cond (.t 33) .skip (.exit 2))) (.block 3 (.reg R94_10)))
def R94_11 : List GI := [
  ⟨some 36, none, .mov (.t 3)⟩,
  ⟨some 37, none, .mov (.t 4)⟩,
  ⟨some 38, none, .conv .u8 (.t 37)⟩,
  ⟨some 39, none, .call 105 [(.t 36), (.t 38)]⟩,
  ⟨some 3, none, .mov (.t 39)⟩]
def R94_12 : List GI := [
  ⟨some 40, none, .mov (.t 5)⟩,
  ⟨some 41, none, .mov (.t 4)⟩,
  ⟨some 42, none, .bin .add (.t 41) (.k (.int .i64 2))⟩,
  ⟨some 43, none, .bin .geq (.t 40) (.t 42)⟩]
def R94_13 : List GI := [
  ⟨some 44, none, .mov (.t 3)⟩,
  ⟨some 45, none, .bslice 5 1 [(.int .u8 0)] [(0, 1, (.k (.int .u8 45)))]⟩,
  ⟨some 46, none, .app 5 1 1 (.t 44) (.t 45)⟩,
  ⟨some 47, none, .mov (.t 5)⟩,
  ⟨some 48, none, .conv .u8 (.t 47)⟩,
  ⟨some 49, none, .call 105 [(.t 46), (.t 48)]⟩,
  ⟨some 3, none, .mov (.t 49)⟩]
def R94_14 : List GI := [
  ⟨some 50, none, .mov (.t 5)⟩,
  ⟨some 4, none, .mov (.t 50)⟩]
def R94_15 : List GI := [
  ⟨some 17, none, .mov (.t 4)⟩,
  ⟨some 18, none, .bin .add (.t 17) (.k (.int .i64 1))⟩,
  ⟨some 4, none, .mov (.t 18)⟩]
def B94_0 : AC := (.seq (.seq (.reg R94_6) (.cond (.t 16) .skip (.exit 0))) (.seq (.block 1 (.seq (.seq (.reg R94_7) (.cond (.t 23) (.exit 1) .skip)) (.seq (.reg R94_8) (.seq (.block 2 (.loop B94_1)) (.seq (.reg R94_11) (.seq (.reg R94_12) (.cond (.t 43) (.seq (.reg R94_13) (.reg R94_14)) .skip))))))) (.reg R94_15)))
def R94_16 : List GI := [
  ⟨some 51, none, .mov (.t 3)⟩,
  ⟨some 52, none, .bslice 5 1 [(.int .u8 0)] [(0, 1, (.k (.int .u8 93)))]⟩,
  ⟨some 53, none, .app 5 1 1 (.t 51) (.t 52)⟩,
  ⟨some 54, none, .b2s (.t 53)⟩,
  ⟨some 2, none, .mov (.t 54)⟩]
def A94 : AF := ⟨(.seq (.reg R94_0) (.seq (.reg R94_1) (.seq (.seq (.reg R94_2) (.cond (.t 9) (.seq (.reg R94_3) (.reg R94_4)) .skip)) (.seq (.seq (.reg R94_5) (.block 0 (.loop B94_0))) (.seq (.reg R94_16) .ret))))), [(2, none)]⟩

/-- rootstock/sets.Members -/
def R95_0 : List GI := [
  ⟨some 1, none, .box 45 4 (.t 0)⟩,
  ⟨some 2, none, .mov (.k (.string ⟨#[]⟩))⟩]
def R95_1 : List GI := [
  ⟨some 3, none, .mov (.k (.slice none 0 0))⟩]
def R95_2 : List GI := [
  ⟨some 5, none, .mov (.k (.int .i64 0))⟩]
def R95_3 : List GI := [
  ⟨some 6, none, .bin .lss (.t 5) (.k (.int .i64 256))⟩]
def R95_4 : List GI := [
  ⟨some 7, none, .mov (.t 5)⟩,
  ⟨some 4, none, .mov (.t 7)⟩]
def R95_5 : List GI := [
  ⟨some 8, none, .loadn 4 (.t 1)⟩,
  ⟨some 9, none, .mov (.t 4)⟩,
  ⟨some 10, none, .conv .u8 (.t 9)⟩,
  ⟨some 11, none, .call 75 [(.t 8), (.t 10)]⟩]
def R95_6 : List GI := [
  ⟨some 12, none, .mov (.t 3)⟩,
  ⟨some 13, none, .mov (.t 4)⟩,
  ⟨some 14, none, .conv .u8 (.t 13)⟩,
  ⟨some 15, none, .bslice 5 1 [(.int .u8 0)] [(0, 1, (.t 14))]⟩,
  ⟨some 16, none, .app 5 1 1 (.t 12) (.t 15)⟩,
  ⟨some 3, none, .mov (.t 16)⟩]
def R95_7 : List GI := [
  ⟨some 17, none, .bin .add (.t 5) (.k (.int .i64 1))⟩,
  ⟨some 5, none, .mov (.t 17)⟩]
def B95_0 : AC := (.seq (.reg R95_3) (.seq (.cond (.t 6) .skip (.exit 0)) (.seq (.block 1 (.seq (.reg R95_4) (.seq (.reg R95_5) (.cond (.t 11) (.reg R95_6) .skip)))) (.reg R95_7))))
def R95_8 : List GI := [
  ⟨some 18, none, .mov (.t 3)⟩,
  ⟨some 19, none, .b2s (.t 18)⟩,
  ⟨some 2, none, .mov (.t 19)⟩]
def A95 : AF := ⟨(.seq (.reg R95_0) (.seq (.reg R95_1) (.seq (.seq (.reg R95_2) (.block 0 (.loop B95_0))) (.seq (.reg R95_8) .ret)))), [(2, none)]⟩

/-- rootstock/classes.Escape -/
def R96_0 : List GI := [
  ⟨some 2, none, .mov (.k (.int .u8 0))⟩,
  ⟨some 3, none, .mov (.k (.bool false))⟩]
def R96_1 : List GI := [
  ⟨some 4, none, .mov (.t 0)⟩]
def R96_2 : List GI := [
  ⟨some 6, none, .bin .eql (.t 4) (.k (.int .u8 10))⟩,
  ⟨some 5, none, .mov (.t 6)⟩]
def R96_3 : List GI := [
  ⟨some 2, none, .mov (.k (.int .u8 110))⟩,
  ⟨some 3, none, .mov (.k (.bool true))⟩]
def R96_4 : List GI := [
  ⟨some 8, none, .bin .eql (.t 4) (.k (.int .u8 9))⟩,
  ⟨some 7, none, .mov (.t 8)⟩]
def R96_5 : List GI := [
  ⟨some 2, none, .mov (.k (.int .u8 116))⟩,
  ⟨some 3, none, .mov (.k (.bool true))⟩]
def R96_6 : List GI := [
  ⟨some 10, none, .bin .eql (.t 4) (.k (.int .u8 13))⟩,
  ⟨some 9, none, .mov (.t 10)⟩]
def R96_7 : List GI := [
  ⟨some 2, none, .mov (.k (.int .u8 114))⟩,
  ⟨some 3, none, .mov (.k (.bool true))⟩]
def R96_8 : List GI := [
  ⟨some 2, none, .mov (.k (.int .u8 0))⟩,
  ⟨some 3, none, .mov (.k (.bool false))⟩]
def A96 : AF := ⟨(.seq (.reg R96_0) (.seq (.seq (.reg R96_1) (.block 0 (.seq (.reg R96_2) (.cond (.t 5) (.seq (.reg R96_3) .ret) (.seq (.reg R96_4) (.cond (.t 7) (.seq (.reg R96_5) .ret) (.seq (.reg R96_6) (.cond (.t 9) (.seq (.reg R96_7) .ret) .skip)))))))) (.seq (.reg R96_8) .ret))), [(2, none), (3, none)]⟩

/-- rootstock/regs.sign -/
def R97_0 : List GI := [
  ⟨some 2, none, .mov (.k (.bool false))⟩]
def R97_1 : List GI := [
  ⟨some 3, none, .mov (.t 0)⟩]
def R97_2 : List GI := [
  ⟨some 5, none, .bin .eql (.t 3) (.k (.int .u8 46))⟩,
  ⟨some 4, none, .mov (.t 5)⟩]
def R97_3 : List GI := [
  ⟨some 6, none, .bin .eql (.t 3) (.k (.int .u8 42))⟩,
  ⟨some 4, none, .mov (.t 6)⟩]
def R97_4 : List GI := [
  ⟨some 7, none, .bin .eql (.t 3) (.k (.int .u8 43))⟩,
  ⟨some 4, none, .mov (.t 7)⟩]
def R97_5 : List GI := [
  ⟨some 8, none, .bin .eql (.t 3) (.k (.int .u8 63))⟩,
  ⟨some 4, none, .mov (.t 8)⟩]
def R97_6 : List GI := [
  ⟨some 9, none, .bin .eql (.t 3) (.k (.int .u8 124))⟩,
  ⟨some 4, none, .mov (.t 9)⟩]
def R97_7 : List GI := [
  ⟨some 10, none, .bin .eql (.t 3) (.k (.int .u8 40))⟩,
  ⟨some 4, none, .mov (.t 10)⟩]
def R97_8 : List GI := [
  ⟨some 11, none, .bin .eql (.t 3) (.k (.int .u8 41))⟩,
  ⟨some 4, none, .mov (.t 11)⟩]
def R97_9 : List GI := [
  ⟨some 12, none, .bin .eql (.t 3) (.k (.int .u8 91))⟩,
  ⟨some 4, none, .mov (.t 12)⟩]
def R97_10 : List GI := [
  ⟨some 13, none, .bin .eql (.t 3) (.k (.int .u8 93))⟩,
  ⟨some 4, none, .mov (.t 13)⟩]
def R97_11 : List GI := [
  ⟨some 14, none, .bin .eql (.t 3) (.k (.int .u8 92))⟩,
  ⟨some 4, none, .mov (.t 14)⟩]
def R97_12 : List GI := [
  ⟨some 2, none, .mov (.k (.bool true))⟩]
def R97_13 : List GI := [
  ⟨some 2, none, .mov (.k (.bool false))⟩]
def A97 : AF := ⟨(.seq (.reg R97_0) (.seq (.seq (.reg R97_1) (.block 0 (.seq (.seq (.reg R97_2) (.cond (.t 4) .skip (.seq (.reg R97_3) (.cond (.t 4) .skip (.seq (.reg R97_4) (.cond (.t 4) .skip (.seq (.reg R97_5) (.cond (.t 4) .skip (.seq (.reg R97_6) (.cond (.t 4) .skip (.seq (.reg R97_7) (.cond (.t 4) .skip (.seq (.reg R97_8) (.cond (.t 4) .skip (.seq (.reg R97_9) (.cond (.t 4) .skip (.seq (.reg R97_10) (.cond (.t 4) .skip (.reg R97_11))))))))))))))))))) (.cond (.t 4) (.seq (.reg R97_12) .ret) .skip)))) (.seq (.reg R97_13) .ret))), [(2, none)]⟩

/-- (*rootstock/regs.reader).thing -/
def R98_0 : List GI := [
  ⟨some 2, none, .alloc 48 [(.int .i64 0), (.int .u64 0), (.int .u64 0), (.int .u64 0), (.int .u64 0), (.slice none 0 0)]⟩]
def R98_1 : List GI := [
  ⟨some 7, none, .mov (.t 0)⟩,
  ⟨some 8, none, .call 106 [(.t 7)]⟩,
  ⟨some 3, none, .alloc 48 [(.int .i64 0), (.int .u64 0), (.int .u64 0), (.int .u64 0), (.int .u64 0), (.slice none 0 0)]⟩,
  ⟨none, none, .store 6 (.t 3) (.t 8)⟩]
def R98_2 : List GI := [
  ⟨some 10, none, .mov (.t 0)⟩,
  ⟨some 11, none, .call 83 [(.t 10)]⟩,
  ⟨some 9, none, .mov (.t 11)⟩,
  ⟨some 12, none, .ext 0 (.t 9)⟩,
  ⟨some 13, none, .ext 1 (.t 9)⟩,
  ⟨some 4, none, .mov (.t 12)⟩,
  ⟨some 5, none, .mov (.t 13)⟩]
def R98_3 : List GI := [
  ⟨some 6, none, .mov (.k (.int .i64 0))⟩]
def R98_4 : List GI := [
  ⟨some 14, none, .mov (.t 4)⟩]
def R98_5 : List GI := [
  ⟨some 17, none, .bin .eql (.t 14) (.k (.int .u8 42))⟩,
  ⟨some 16, none, .mov (.t 17)⟩]
def R98_6 : List GI := [
  ⟨some 6, none, .mov (.k (.int .i64 5))⟩]
def R98_7 : List GI := [
  ⟨some 19, none, .bin .eql (.t 14) (.k (.int .u8 43))⟩,
  ⟨some 18, none, .mov (.t 19)⟩]
def R98_8 : List GI := [
  ⟨some 6, none, .mov (.k (.int .i64 6))⟩]
def R98_9 : List GI := [
  ⟨some 21, none, .bin .eql (.t 14) (.k (.int .u8 63))⟩,
  ⟨some 20, none, .mov (.t 21)⟩]
def R98_10 : List GI := [
  ⟨some 6, none, .mov (.k (.int .i64 7))⟩]
def R98_11 : List GI := [
  ⟨some 15, none, .loadn 6 (.t 3)⟩,
  ⟨none, none, .store 6 (.t 2) (.t 15)⟩]
def R98_12 : List GI := [
  ⟨some 22, none, .mov (.t 0)⟩,
  ⟨some 23, none, .nilchk (.t 22)⟩,
  ⟨some 24, none, .fadr 1 (.t 23)⟩,
  ⟨some 25, none, .load (.t 24)⟩,
  ⟨some 26, none, .bin .add (.t 25) (.k (.int .i64 1))⟩,
  ⟨some 27, none, .nilchk (.t 22)⟩,
  ⟨some 28, none, .fadr 1 (.t 27)⟩,
  ⟨none, none, .store 1 (.t 28) (.t 26)⟩]
def R98_13 : List GI := [
  ⟨some 29, none, .mov (.t 6)⟩,
  ⟨some 30, none, .loadn 6 (.t 3)⟩,
  ⟨some 31, none, .bslice 48 1 [(.int .i64 0), (.int .u64 0), (.int .u64 0), (.int .u64 0), (.int .u64 0), (.slice none 0 0)] [(0, 6, (.t 30))]⟩,
  ⟨some 32, none, .build [(.int .i64 0), (.int .u64 0), (.int .u64 0), (.int .u64 0), (.int .u64 0), (.slice none 0 0)] [(0, 1, (.t 29)), (5, 1, (.t 31))]⟩,
  ⟨none, none, .store 6 (.t 3) (.t 32)⟩]
def B98_0 : AC := (.block 1 (.seq (.reg R98_2) (.seq (.reg R98_3) (.seq (.seq (.reg R98_4) (.block 2 (.seq (.reg R98_5) (.cond (.t 16) (.reg R98_6) (.seq (.reg R98_7) (.cond (.t 18) (.reg R98_8) (.seq (.reg R98_9) (.cond (.t 20) (.reg R98_10) (.seq (.reg R98_11) .ret))))))))) (.seq (.reg R98_12) (.reg R98_13))))))
def A98 : AF := ⟨(.seq (.reg R98_0) (.seq (.reg R98_1) (.block 0 (.loop B98_0)))), [(2, some (some 6))]⟩

/-- math/bits.OnesCount64 -/
def R99_0 : List GI := [
  ⟨some 2, none, .mov (.k (.int .i64 0))⟩]
def R99_1 : List GI := [
  ⟨some 3, none, .mov (.t 0)⟩,
  ⟨some 4, none, .bin .shr (.t 3) (.k (.int .u64 1))⟩,
  ⟨some 5, none, .bin .and (.t 4) (.k (.int .u64 6148914691236517205))⟩,
  ⟨some 6, none, .mov (.t 0)⟩,
  ⟨some 7, none, .bin .and (.t 6) (.k (.int .u64 6148914691236517205))⟩,
  ⟨some 8, none, .bin .add (.t 5) (.t 7)⟩,
  ⟨some 0, none, .mov (.t 8)⟩]
def R99_2 : List GI := [
  ⟨some 9, none, .mov (.t 0)⟩,
  ⟨some 10, none, .bin .shr (.t 9) (.k (.int .u64 2))⟩,
  ⟨some 11, none, .bin .and (.t 10) (.k (.int .u64 3689348814741910323))⟩,
  ⟨some 12, none, .mov (.t 0)⟩,
  ⟨some 13, none, .bin .and (.t 12) (.k (.int .u64 3689348814741910323))⟩,
  ⟨some 14, none, .bin .add (.t 11) (.t 13)⟩,
  ⟨some 0, none, .mov (.t 14)⟩]
def R99_3 : List GI := [
  ⟨some 15, none, .mov (.t 0)⟩,
  ⟨some 16, none, .bin .shr (.t 15) (.k (.int .u64 4))⟩,
  ⟨some 17, none, .mov (.t 0)⟩,
  ⟨some 18, none, .bin .add (.t 16) (.t 17)⟩,
  ⟨some 19, none, .bin .and (.t 18) (.k (.int .u64 1085102592571150095))⟩,
  ⟨some 0, none, .mov (.t 19)⟩]
def R99_4 : List GI := [
  ⟨some 20, none, .mov (.t 0)⟩,
  ⟨some 21, none, .mov (.t 0)⟩,
  ⟨some 22, none, .bin .shr (.t 21) (.k (.int .u64 8))⟩,
  ⟨some 23, none, .bin .add (.t 20) (.t 22)⟩,
  ⟨some 0, none, .mov (.t 23)⟩]
def R99_5 : List GI := [
  ⟨some 24, none, .mov (.t 0)⟩,
  ⟨some 25, none, .mov (.t 0)⟩,
  ⟨some 26, none, .bin .shr (.t 25) (.k (.int .u64 16))⟩,
  ⟨some 27, none, .bin .add (.t 24) (.t 26)⟩,
  ⟨some 0, none, .mov (.t 27)⟩]
def R99_6 : List GI := [
  ⟨some 28, none, .mov (.t 0)⟩,
  ⟨some 29, none, .mov (.t 0)⟩,
  ⟨some 30, none, .bin .shr (.t 29) (.k (.int .u64 32))⟩,
  ⟨some 31, none, .bin .add (.t 28) (.t 30)⟩,
  ⟨some 0, none, .mov (.t 31)⟩]
def R99_7 : List GI := [
  ⟨some 32, none, .mov (.t 0)⟩,
  ⟨some 33, none, .conv .i64 (.t 32)⟩,
  ⟨some 34, none, .bin .and (.t 33) (.k (.int .i64 127))⟩,
  ⟨some 2, none, .mov (.t 34)⟩]
def A99 : AF := ⟨(.seq (.reg R99_0) (.seq (.reg R99_1) (.seq (.reg R99_2) (.seq (.reg R99_3) (.seq (.reg R99_4) (.seq (.reg R99_5) (.seq (.reg R99_6) (.seq (.reg R99_7) .ret)))))))), [(2, none)]⟩

/-- rootstock/sets.Not -/
def R103_0 : List GI := [
  ⟨some 1, none, .box 45 4 (.t 0)⟩,
  ⟨some 2, none, .alloc 45 [(.int .u64 0), (.int .u64 0), (.int .u64 0), (.int .u64 0)]⟩]
def R103_1 : List GI := [
  ⟨some 4, none, .mov (.k (.int .i64 0))⟩]
def R103_2 : List GI := [
  ⟨some 5, none, .bin .lss (.t 4) (.k (.int .i64 4))⟩]
def R103_3 : List GI := [
  ⟨some 6, none, .mov (.t 4)⟩,
  ⟨some 3, none, .mov (.t 6)⟩]
def R103_4 : List GI := [
  ⟨some 7, none, .mov (.t 3)⟩,
  ⟨some 8, none, .mov (.t 3)⟩,
  ⟨some 9, none, .ixa 4 1 (.t 1) (.t 8)⟩,
  ⟨some 10, none, .load (.t 9)⟩,
  ⟨some 11, none, .un .xor (.t 10)⟩,
  ⟨some 12, none, .ixa 4 1 (.t 1) (.t 7)⟩,
  ⟨none, none, .store 1 (.t 12) (.t 11)⟩]
def R103_5 : List GI := [
  ⟨some 13, none, .bin .add (.t 4) (.k (.int .i64 1))⟩,
  ⟨some 4, none, .mov (.t 13)⟩]
def B103_0 : AC := (.seq (.reg R103_2) (.seq (.cond (.t 5) .skip (.exit 0)) (.seq (.block 1 (.seq (.reg R103_3) (.reg R103_4))) (.reg R103_5))))
def R103_6 : List GI := [
  ⟨some 14, none, .loadn 4 (.t 1)⟩,
  ⟨none, none, .store 4 (.t 2) (.t 14)⟩]
def A103 : AF := ⟨(.seq (.reg R103_0) (.seq (.seq (.reg R103_1) (.block 0 (.loop B103_0))) (.seq (.reg R103_6) .ret))), [(2, some (some 4))]⟩

/-- rootstock/classes.Put -/
def R104_0 : List GI := [
  ⟨some 2, none, .box 45 4 (.t 0)⟩,
  ⟨some 4, none, .alloc 45 [(.int .u64 0), (.int .u64 0), (.int .u64 0), (.int .u64 0)]⟩]
def R104_1 : List GI := [
  ⟨some 5, none, .mov (.t 1)⟩,
  ⟨some 6, none, .bin .quo (.t 5) (.k (.int .u8 64))⟩,
  ⟨some 7, none, .ixa 4 1 (.t 2) (.t 6)⟩,
  ⟨some 8, none, .load (.t 7)⟩,
  ⟨some 9, none, .mov (.t 1)⟩,
  ⟨some 10, none, .bin .rem (.t 9) (.k (.int .u8 64))⟩,
  ⟨some 11, none, .bin .shl (.k (.int .u64 1)) (.t 10)⟩,
  ⟨some 12, none, .bin .or (.t 8) (.t 11)⟩,
  ⟨some 13, none, .ixa 4 1 (.t 2) (.t 6)⟩,
  ⟨none, none, .store 1 (.t 13) (.t 12)⟩]
def R104_2 : List GI := [
  ⟨some 14, none, .loadn 4 (.t 2)⟩,
  ⟨none, none, .store 4 (.t 4) (.t 14)⟩]
def A104 : AF := ⟨(.seq (.reg R104_0) (.seq (.reg R104_1) (.seq (.reg R104_2) .ret))), [(4, some (some 4))]⟩

/-- rootstock/classes.Append -/
def R105_0 : List GI := [
  ⟨some 4, none, .mov (.k (.slice none 0 0))⟩]
def R105_1 : List GI := [
  ⟨some 8, none, .mov (.t 1)⟩,
  ⟨some 9, none, .call 96 [(.t 8)]⟩,
  ⟨some 7, none, .mov (.t 9)⟩,
  ⟨some 10, none, .ext 0 (.t 7)⟩,
  ⟨some 11, none, .ext 1 (.t 7)⟩,
  ⟨some 5, none, .mov (.t 10)⟩,
  ⟨some 6, none, .mov (.t 11)⟩]
def R105_2 : List GI := [
  ⟨some 12, none, .mov (.t 6)⟩]
def R105_3 : List GI := [
  ⟨some 13, none, .mov (.t 0)⟩,
  ⟨some 14, none, .mov (.t 5)⟩,
  ⟨some 15, none, .bslice 5 2 [(.int .u8 0), (.int .u8 0)] [(0, 1, (.k (.int .u8 92))), (1, 1, (.t 14))]⟩,
  ⟨some 16, none, .app 5 1 1 (.t 13) (.t 15)⟩,
  ⟨some 4, none, .mov (.t 16)⟩]
def R105_4 : List GI := [
  ⟨some 17, none, .mov (.t 1)⟩,
  ⟨some 18, none, .call 119 [(.t 17)]⟩]
def R105_5 : List GI := [
  ⟨some 19, none, .mov (.t 0)⟩,
  ⟨some 20, none, .bslice 5 1 [(.int .u8 0)] [(0, 1, (.k (.int .u8 92)))]⟩,
  ⟨some 21, none, .app 5 1 1 (.t 19) (.t 20)⟩,
  ⟨some 0, none, .mov (.t 21)⟩]
def R105_6 : List GI := [
  ⟨some 22, none, .mov (.t 0)⟩,
  ⟨some 23, none, .mov (.t 1)⟩,
  ⟨some 24, none, .bslice 5 1 [(.int .u8 0)] [(0, 1, (.t 23))]⟩,
  ⟨some 25, none, .app 5 1 1 (.t 22) (.t 24)⟩,
  ⟨some 4, none, .mov (.t 25)⟩]
def A105 : AF := ⟨(.seq (.reg R105_0) (.seq (.seq (.reg R105_1) (.seq (.reg R105_2) (.cond (.t 12) (.seq (.reg R105_3) .ret) .skip))) (.seq (.seq (.reg R105_4) (.cond (.t 18) (.reg R105_5) .skip)) (.seq (.reg R105_6) .ret)))), [(4, none)]⟩

/-- (*rootstock/regs.reader).atom -/
def R106_0 : List GI := [
  ⟨some 2, none, .alloc 48 [(.int .i64 0), (.int .u64 0), (.int .u64 0), (.int .u64 0), (.int .u64 0), (.slice none 0 0)]⟩]
def R106_1 : List GI := [
  ⟨some 14, none, .mov (.t 0)⟩,
  ⟨some 15, none, .nilchk (.t 14)⟩,
  ⟨some 16, none, .fadr 0 (.t 15)⟩,
  ⟨some 17, none, .load (.t 16)⟩,
  ⟨some 18, none, .mov (.t 0)⟩,
  ⟨some 19, none, .nilchk (.t 18)⟩,
  ⟨some 20, none, .fadr 1 (.t 19)⟩,
  ⟨some 21, none, .load (.t 20)⟩,
  ⟨some 22, none, .ixt (.t 17) (.t 21)⟩,
  ⟨some 3, none, .mov (.t 22)⟩]
def R106_2 : List GI := [
  ⟨some 24, none, .mov (.t 3)⟩,
  ⟨some 25, none, .bin .eql (.t 24) (.k (.int .u8 40))⟩,
  ⟨some 23, none, .mov (.t 25)⟩]
def R106_3 : List GI := [
  ⟨some 26, none, .mov (.t 0)⟩,
  ⟨some 27, none, .nilchk (.t 26)⟩,
  ⟨some 28, none, .fadr 1 (.t 27)⟩,
  ⟨some 29, none, .load (.t 28)⟩,
  ⟨some 30, none, .bin .add (.t 29) (.k (.int .i64 1))⟩,
  ⟨some 31, none, .nilchk (.t 26)⟩,
  ⟨some 32, none, .fadr 1 (.t 31)⟩,
  ⟨none, none, .store 1 (.t 32) (.t 30)⟩]
def R106_4 : List GI := [
  ⟨some 33, none, .mov (.t 0)⟩,
  ⟨some 34, none, .call 59 [(.t 33)]⟩,
  ⟨some 4, none, .alloc 48 [(.int .i64 0), (.int .u64 0), (.int .u64 0), (.int .u64 0), (.int .u64 0), (.slice none 0 0)]⟩,
  ⟨none, none, .store 6 (.t 4) (.t 34)⟩]
def R106_5 : List GI := [
  ⟨some 36, none, .mov (.t 0)⟩,
  ⟨some 37, none, .call 83 [(.t 36)]⟩,
  ⟨some 35, none, .mov (.t 37)⟩,
  ⟨some 38, none, .ext 0 (.t 35)⟩,
  ⟨some 39, none, .ext 1 (.t 35)⟩,
  ⟨some 5, none, .mov (.t 38)⟩,
  ⟨some 6, none, .mov (.t 39)⟩]
def R106_6 : List GI := [
  ⟨some 40, none, .mov (.t 6)⟩,
  ⟨some 41, none, .un .not (.t 40)⟩,
  ⟨some 42, none, .mov (.t 41)⟩,
  ⟨some 43, some (42, false), .mov (.t 5)⟩,
  ⟨some 44, some (42, false), .bin .neq (.t 43) (.k (.int .u8 41))⟩,
  ⟨some 45, none, .pick (.t 42) (.k (.bool true)) (.t 44)⟩]
def R106_7 : List GI := [
  ⟨some 46, none, .mov (.t 0)⟩,
  ⟨some 47, none, .nilchk (.t 46)⟩,
  ⟨some 48, none, .fadr 1 (.t 47)⟩,
  ⟨some 49, none, .load (.t 48)⟩,
  ⟨some 50, none, .mki 93 (.t 49)⟩,
  ⟨none, none, .fail⟩]
def R106_8 : List GI := [
  ⟨some 51, none, .mov (.t 0)⟩,
  ⟨some 52, none, .nilchk (.t 51)⟩,
  ⟨some 53, none, .fadr 1 (.t 52)⟩,
  ⟨some 54, none, .load (.t 53)⟩,
  ⟨some 55, none, .bin .add (.t 54) (.k (.int .i64 1))⟩,
  ⟨some 56, none, .nilchk (.t 51)⟩,
  ⟨some 57, none, .fadr 1 (.t 56)⟩,
  ⟨none, none, .store 1 (.t 57) (.t 55)⟩]
def R106_9 : List GI := [
  ⟨some 58, none, .loadn 6 (.t 4)⟩,
  ⟨none, none, .store 6 (.t 2) (.t 58)⟩]
def R106_10 : List GI := [
  ⟨some 60, none, .mov (.t 3)⟩,
  ⟨some 61, none, .bin .eql (.t 60) (.k (.int .u8 91))⟩,
  ⟨some 59, none, .mov (.t 61)⟩]
def R106_11 : List GI := [
  ⟨some 63, none, .mov (.t 0)⟩,
  ⟨some 64, none, .nilchk (.t 63)⟩,
  ⟨some 65, none, .fadr 0 (.t 64)⟩,
  ⟨some 66, none, .load (.t 65)⟩,
  ⟨some 67, none, .mov (.t 0)⟩,
  ⟨some 68, none, .nilchk (.t 67)⟩,
  ⟨some 69, none, .fadr 1 (.t 68)⟩,
  ⟨some 70, none, .load (.t 69)⟩,
  ⟨some 71, none, .call 120 [(.t 66), (.t 70)]⟩,
  ⟨some 62, none, .mov (.t 71)⟩,
  ⟨some 72, none, .ext 0 (.t 62)⟩,
  ⟨some 73, none, .ext 1 (.t 62)⟩,
  ⟨some 74, none, .ext 2 (.t 62)⟩,
  ⟨some 7, none, .alloc 45 [(.int .u64 0), (.int .u64 0), (.int .u64 0), (.int .u64 0)]⟩,
  ⟨none, none, .store 4 (.t 7) (.t 72)⟩,
  ⟨some 8, none, .mov (.t 73)⟩,
  ⟨some 9, none, .mov (.t 74)⟩]
def R106_12 : List GI := [
  ⟨some 75, none, .mov (.t 9)⟩,
  ⟨some 76, none, .un .not (.t 75)⟩]
def R106_13 : List GI := [
  ⟨some 77, none, .mov (.t 8)⟩,
  ⟨some 78, none, .mki 93 (.t 77)⟩,
  ⟨none, none, .fail⟩]
def R106_14 : List GI := [
  ⟨some 79, none, .mov (.t 0)⟩,
  ⟨some 80, none, .mov (.t 8)⟩,
  ⟨some 81, none, .nilchk (.t 79)⟩,
  ⟨some 82, none, .fadr 1 (.t 81)⟩,
  ⟨none, none, .store 1 (.t 82) (.t 80)⟩]
def R106_15 : List GI := [
  ⟨some 83, none, .loadn 4 (.t 7)⟩,
  ⟨some 84, none, .build [(.int .i64 0), (.int .u64 0), (.int .u64 0), (.int .u64 0), (.int .u64 0), (.slice none 0 0)] [(0, 1, (.k (.int .i64 2))), (1, 4, (.t 83))]⟩,
  ⟨none, none, .store 6 (.t 2) (.t 84)⟩]
def R106_16 : List GI := [
  ⟨some 86, none, .mov (.t 3)⟩,
  ⟨some 87, none, .bin .eql (.t 86) (.k (.int .u8 46))⟩,
  ⟨some 85, none, .mov (.t 87)⟩]
def R106_17 : List GI := [
  ⟨some 88, none, .mov (.t 0)⟩,
  ⟨some 89, none, .nilchk (.t 88)⟩,
  ⟨some 90, none, .fadr 1 (.t 89)⟩,
  ⟨some 91, none, .load (.t 90)⟩,
  ⟨some 92, none, .bin .add (.t 91) (.k (.int .i64 1))⟩,
  ⟨some 93, none, .nilchk (.t 88)⟩,
  ⟨some 94, none, .fadr 1 (.t 93)⟩,
  ⟨none, none, .store 1 (.t 94) (.t 92)⟩]
def R106_18 : List GI := [
  ⟨some 95, none, .call 93 []⟩,
  ⟨some 96, none, .build [(.int .i64 0), (.int .u64 0), (.int .u64 0), (.int .u64 0), (.int .u64 0), (.slice none 0 0)] [(0, 1, (.k (.int .i64 2))), (1, 4, (.t 95))]⟩,
  ⟨none, none, .store 6 (.t 2) (.t 96)⟩]
def R106_19 : List GI := [
  ⟨some 98, none, .mov (.t 3)⟩,
  ⟨some 99, none, .bin .eql (.t 98) (.k (.int .u8 92))⟩,
  ⟨some 97, none, .mov (.t 99)⟩]
def R106_20 : List GI := [
  ⟨some 100, none, .mov (.t 0)⟩,
  ⟨some 101, none, .nilchk (.t 100)⟩,
  ⟨some 102, none, .fadr 1 (.t 101)⟩,
  ⟨some 103, none, .load (.t 102)⟩,
  ⟨some 104, none, .bin .add (.t 103) (.k (.int .i64 1))⟩,
  ⟨some 105, none, .nilchk (.t 100)⟩,
  ⟨some 106, none, .fadr 1 (.t 105)⟩,
  ⟨none, none, .store 1 (.t 106) (.t 104)⟩]
def R106_21 : List GI := [
  ⟨some 108, none, .mov (.t 0)⟩,
  ⟨some 109, none, .call 83 [(.t 108)]⟩,
  ⟨some 107, none, .mov (.t 109)⟩,
  ⟨some 110, none, .ext 0 (.t 107)⟩,
  ⟨some 111, none, .ext 1 (.t 107)⟩,
  ⟨some 10, none, .mov (.t 110)⟩,
  ⟨some 11, none, .mov (.t 111)⟩]
def R106_22 : List GI := [
  ⟨some 113, none, .mov (.t 10)⟩,
  ⟨some 114, none, .call 121 [(.t 113)]⟩,
  ⟨some 112, none, .mov (.t 114)⟩,
  ⟨some 115, none, .ext 0 (.t 112)⟩,
  ⟨some 116, none, .ext 1 (.t 112)⟩,
  ⟨some 12, none, .mov (.t 115)⟩,
  ⟨some 13, none, .mov (.t 116)⟩]
def R106_23 : List GI := [
  ⟨some 117, none, .mov (.t 13)⟩,
  ⟨some 118, none, .un .not (.t 117)⟩]
def R106_24 : List GI := [
  ⟨some 119, none, .mov (.t 10)⟩,
  ⟨some 12, none, .mov (.t 119)⟩]
def R106_25 : List GI := [
  ⟨some 120, none, .mov (.t 11)⟩,
  ⟨some 121, none, .un .not (.t 120)⟩,
  ⟨some 122, none, .mov (.t 121)⟩,
  ⟨some 123, some (122, false), .mov (.t 13)⟩,
  ⟨some 124, some (122, false), .un .not (.t 123)⟩,
  ⟨some 125, some (122, false), .mov (.t 124)⟩,
  ⟨some 126, some (125, true), .mov (.t 10)⟩,
  ⟨some 127, some (125, true), .call 97 [(.t 126)]⟩,
  ⟨some 128, some (125, true), .un .not (.t 127)⟩,
  ⟨some 129, some (122, false), .pick (.t 125) (.t 128) (.k (.bool false))⟩,
  ⟨some 130, none, .pick (.t 122) (.k (.bool true)) (.t 129)⟩]
def R106_26 : List GI := [
  ⟨some 131, none, .mov (.t 0)⟩,
  ⟨some 132, none, .nilchk (.t 131)⟩,
  ⟨some 133, none, .fadr 1 (.t 132)⟩,
  ⟨some 134, none, .load (.t 133)⟩,
  ⟨some 135, none, .mki 93 (.t 134)⟩,
  ⟨none, none, .fail⟩]
def R106_27 : List GI := [
  ⟨some 136, none, .mov (.t 0)⟩,
  ⟨some 137, none, .nilchk (.t 136)⟩,
  ⟨some 138, none, .fadr 1 (.t 137)⟩,
  ⟨some 139, none, .load (.t 138)⟩,
  ⟨some 140, none, .bin .add (.t 139) (.k (.int .i64 1))⟩,
  ⟨some 141, none, .nilchk (.t 136)⟩,
  ⟨some 142, none, .fadr 1 (.t 141)⟩,
  ⟨none, none, .store 1 (.t 142) (.t 140)⟩]
def R106_28 : List GI := [
  ⟨some 143, none, .mov (.t 12)⟩,
  ⟨some 144, none, .call 122 [(.t 143)]⟩,
  ⟨none, none, .store 6 (.t 2) (.t 144)⟩]
def R106_29 : List GI := [
  ⟨some 146, none, .mov (.t 3)⟩,
  ⟨some 147, none, .call 97 [(.t 146)]⟩,
  ⟨some 145, none, .mov (.t 147)⟩]
def R106_30 : List GI := [
  ⟨some 148, none, .mov (.t 0)⟩,
  ⟨some 149, none, .nilchk (.t 148)⟩,
  ⟨some 150, none, .fadr 1 (.t 149)⟩,
  ⟨some 151, none, .load (.t 150)⟩,
  ⟨some 152, none, .mki 93 (.t 151)⟩,
  ⟨none, none, .fail⟩]
def R106_31 : List GI := [
  ⟨some 153, none, .mov (.t 0)⟩,
  ⟨some 154, none, .nilchk (.t 153)⟩,
  ⟨some 155, none, .fadr 1 (.t 154)⟩,
  ⟨some 156, none, .load (.t 155)⟩,
  ⟨some 157, none, .bin .add (.t 156) (.k (.int .i64 1))⟩,
  ⟨some 158, none, .nilchk (.t 153)⟩,
  ⟨some 159, none, .fadr 1 (.t 158)⟩,
  ⟨none, none, .store 1 (.t 159) (.t 157)⟩]
def R106_32 : List GI := [
  ⟨some 160, none, .mov (.t 3)⟩,
  ⟨some 161, none, .call 122 [(.t 160)]⟩,
  ⟨none, none, .store 6 (.t 2) (.t 161)⟩]
def A106 : AF := ⟨(.seq (.reg R106_0) (.seq (.regd R106_1 []) (.seq (.block 0 (.seq (.reg R106_2) (.cond (.t 23) (.seq (.reg R106_3) (.seq (.reg R106_4) (.seq (.seq (.reg R106_5) (.seq (.reg R106_6) (.cond (.t 45) (.reg R106_7) .skip))) (.seq (.reg R106_8) (.seq (.reg R106_9) .ret))))) (.seq (.reg R106_10) (.cond (.t 59) (.seq (.regd R106_11 []) (.seq (.seq (.reg R106_12) (.cond (.t 76) (.reg R106_13) .skip)) (.seq (.reg R106_14) (.seq (.reg R106_15) .ret)))) (.seq (.reg R106_16) (.cond (.t 85) (.seq (.reg R106_17) (.seq (.reg R106_18) .ret)) (.seq (.reg R106_19) (.cond (.t 97) (.seq (.reg R106_20) (.seq (.reg R106_21) (.seq (.reg R106_22) (.seq (.seq (.reg R106_23) (.cond (.t 118) (.reg R106_24) .skip)) (.seq (.seq (.reg R106_25) (.cond (.t 130) (.reg R106_26) .skip)) (.seq (.reg R106_27) (.seq (.reg R106_28) .ret))))))) (.seq (.reg R106_29) (.cond (.t 145) (.reg R106_30) .skip))))))))))) (.seq (.reg R106_31) (.seq (.reg R106_32) .ret))))), [(2, some (some 6))]⟩

/-- rootstock/classes.Special -/
def R119_0 : List GI := [
  ⟨some 2, none, .mov (.k (.bool false))⟩]
def R119_1 : List GI := [
  ⟨some 3, none, .mov (.t 0)⟩]
def R119_2 : List GI := [
  ⟨some 5, none, .bin .eql (.t 3) (.k (.int .u8 92))⟩,
  ⟨some 4, none, .mov (.t 5)⟩]
def R119_3 : List GI := [
  ⟨some 6, none, .bin .eql (.t 3) (.k (.int .u8 91))⟩,
  ⟨some 4, none, .mov (.t 6)⟩]
def R119_4 : List GI := [
  ⟨some 7, none, .bin .eql (.t 3) (.k (.int .u8 93))⟩,
  ⟨some 4, none, .mov (.t 7)⟩]
def R119_5 : List GI := [
  ⟨some 8, none, .bin .eql (.t 3) (.k (.int .u8 94))⟩,
  ⟨some 4, none, .mov (.t 8)⟩]
def R119_6 : List GI := [
  ⟨some 9, none, .bin .eql (.t 3) (.k (.int .u8 45))⟩,
  ⟨some 4, none, .mov (.t 9)⟩]
def R119_7 : List GI := [
  ⟨some 2, none, .mov (.k (.bool true))⟩]
def R119_8 : List GI := [
  ⟨some 2, none, .mov (.k (.bool false))⟩]
def A119 : AF := ⟨(.seq (.reg R119_0) (.seq (.seq (.reg R119_1) (.block 0 (.seq (.seq (.reg R119_2) (.cond (.t 4) .skip (.seq (.reg R119_3) (.cond (.t 4) .skip (.seq (.reg R119_4) (.cond (.t 4) .skip (.seq (.reg R119_5) (.cond (.t 4) .skip (.reg R119_6))))))))) (.cond (.t 4) (.seq (.reg R119_7) .ret) .skip)))) (.seq (.reg R119_8) .ret))), [(2, none)]⟩

/-- rootstock/classes.Read -/
def R120_0 : List GI := [
  ⟨some 4, none, .alloc 45 [(.int .u64 0), (.int .u64 0), (.int .u64 0), (.int .u64 0)]⟩,
  ⟨some 5, none, .mov (.k (.int .i64 0))⟩,
  ⟨some 6, none, .mov (.k (.bool false))⟩]
def R120_1 : List GI := [
  ⟨some 7, none, .alloc 45 [(.int .u64 0), (.int .u64 0), (.int .u64 0), (.int .u64 0)]⟩]
def R120_2 : List GI := [
  ⟨some 15, none, .mov (.t 1)⟩,
  ⟨some 16, none, .mov (.t 0)⟩,
  ⟨some 17, none, .lent (.t 16)⟩,
  ⟨some 18, none, .bin .geq (.t 15) (.t 17)⟩,
  ⟨some 19, none, .mov (.t 18)⟩,
  ⟨some 20, some (19, false), .mov (.t 0)⟩,
  ⟨some 21, some (19, false), .mov (.t 1)⟩,
  ⟨some 22, some (19, false), .ixt (.t 20) (.t 21)⟩,
  ⟨some 23, some (19, false), .bin .neq (.t 22) (.k (.int .u8 91))⟩,
  ⟨some 24, none, .pick (.t 19) (.k (.bool true)) (.t 23)⟩]
def R120_3 : List GI := [
  ⟨some 25, none, .loadn 4 (.t 7)⟩,
  ⟨some 26, none, .mov (.t 1)⟩,
  ⟨none, none, .store 4 (.t 4) (.t 25)⟩,
  ⟨some 5, none, .mov (.t 26)⟩,
  ⟨some 6, none, .mov (.k (.bool false))⟩]
def R120_4 : List GI := [
  ⟨some 27, none, .mov (.t 1)⟩,
  ⟨some 28, none, .bin .add (.t 27) (.k (.int .i64 1))⟩,
  ⟨some 1, none, .mov (.t 28)⟩]
def R120_5 : List GI := [
  ⟨some 29, none, .mov (.t 1)⟩,
  ⟨some 30, none, .mov (.t 0)⟩,
  ⟨some 31, none, .lent (.t 30)⟩,
  ⟨some 32, none, .bin .lss (.t 29) (.t 31)⟩,
  ⟨some 33, none, .mov (.t 32)⟩,
  ⟨some 34, some (33, true), .mov (.t 0)⟩,
  ⟨some 35, some (33, true), .mov (.t 1)⟩,
  ⟨some 36, some (33, true), .ixt (.t 34) (.t 35)⟩,
  ⟨some 37, some (33, true), .bin .eql (.t 36) (.k (.int .u8 94))⟩,
  ⟨some 38, none, .pick (.t 33) (.t 37) (.k (.bool false))⟩,
  ⟨some 8, none, .mov (.t 38)⟩]
def R120_6 : List GI := [
  ⟨some 39, none, .mov (.t 8)⟩]
def R120_7 : List GI := [
  ⟨some 40, none, .mov (.t 1)⟩,
  ⟨some 41, none, .bin .add (.t 40) (.k (.int .i64 1))⟩,
  ⟨some 1, none, .mov (.t 41)⟩]
def R120_8 : List GI := [
  ⟨some 42, none, .mov (.t 1)⟩,
  ⟨some 43, none, .mov (.t 0)⟩,
  ⟨some 44, none, .lent (.t 43)⟩,
  ⟨some 45, none, .bin .lss (.t 42) (.t 44)⟩,
  ⟨some 46, none, .mov (.t 45)⟩,
  ⟨some 47, some (46, true), .mov (.t 0)⟩,
  ⟨some 48, some (46, true), .mov (.t 1)⟩,
  ⟨some 49, some (46, true), .ixt (.t 47) (.t 48)⟩,
  ⟨some 50, some (46, true), .bin .neq (.t 49) (.k (.int .u8 93))⟩,
  ⟨some 51, none, .pick (.t 46) (.t 50) (.k (.bool false))⟩]
def R120_9 : List GI := [
  ⟨some 53, none, .mov (.t 0)⟩,
  ⟨some 54, none, .mov (.t 1)⟩,
  ⟨some 55, none, .call 129 [(.t 53), (.t 54)]⟩,
  ⟨some 52, none, .mov (.t 55)⟩,
  ⟨some 56, none, .ext 0 (.t 52)⟩,
  ⟨some 57, none, .ext 1 (.t 52)⟩,
  ⟨some 58, none, .ext 2 (.t 52)⟩,
  ⟨some 9, none, .mov (.t 56)⟩,
  ⟨some 10, none, .mov (.t 57)⟩,
  ⟨some 11, none, .mov (.t 58)⟩]
def R120_10 : List GI := [
  ⟨some 59, none, .mov (.t 11)⟩,
  ⟨some 60, none, .un .not (.t 59)⟩]
def R120_11 : List GI := [
  ⟨some 61, none, .build [(.int .u64 0), (.int .u64 0), (.int .u64 0), (.int .u64 0)] []⟩,
  ⟨some 62, none, .mov (.t 10)⟩,
  ⟨none, none, .store 4 (.t 4) (.t 61)⟩,
  ⟨some 5, none, .mov (.t 62)⟩,
  ⟨some 6, none, .mov (.k (.bool false))⟩]
def R120_12 : List GI := [
  ⟨some 63, none, .mov (.t 9)⟩,
  ⟨some 12, none, .mov (.t 63)⟩]
def R120_13 : List GI := [
  ⟨some 64, none, .mov (.t 10)⟩,
  ⟨some 65, none, .mov (.t 0)⟩,
  ⟨some 66, none, .lent (.t 65)⟩,
  ⟨some 67, none, .bin .lss (.t 64) (.t 66)⟩,
  ⟨some 68, none, .mov (.t 67)⟩,
  ⟨some 69, some (68, true), .mov (.t 0)⟩,
  ⟨some 70, some (68, true), .mov (.t 10)⟩,
  ⟨some 71, some (68, true), .ixt (.t 69) (.t 70)⟩,
  ⟨some 72, some (68, true), .bin .eql (.t 71) (.k (.int .u8 45))⟩,
  ⟨some 73, none, .pick (.t 68) (.t 72) (.k (.bool false))⟩]
def R120_14 : List GI := [
  ⟨some 75, none, .mov (.t 0)⟩,
  ⟨some 76, none, .mov (.t 10)⟩,
  ⟨some 77, none, .bin .add (.t 76) (.k (.int .i64 1))⟩,
  ⟨some 78, none, .call 129 [(.t 75), (.t 77)]⟩,
  ⟨some 74, none, .mov (.t 78)⟩,
  ⟨some 79, none, .ext 0 (.t 74)⟩,
  ⟨some 80, none, .ext 1 (.t 74)⟩,
  ⟨some 81, none, .ext 2 (.t 74)⟩,
  ⟨some 12, none, .mov (.t 79)⟩,
  ⟨some 10, none, .mov (.t 80)⟩,
  ⟨some 11, none, .mov (.t 81)⟩]
def R120_15 : List GI := [
  ⟨some 82, none, .mov (.t 11)⟩,
  ⟨some 83, none, .un .not (.t 82)⟩]
def R120_16 : List GI := [
  ⟨some 84, none, .build [(.int .u64 0), (.int .u64 0), (.int .u64 0), (.int .u64 0)] []⟩,
  ⟨some 85, none, .mov (.t 10)⟩,
  ⟨none, none, .store 4 (.t 4) (.t 84)⟩,
  ⟨some 5, none, .mov (.t 85)⟩,
  ⟨some 6, none, .mov (.k (.bool false))⟩]
def R120_17 : List GI := [
  ⟨some 86, none, .mov (.t 12)⟩,
  ⟨some 87, none, .mov (.t 9)⟩,
  ⟨some 88, none, .bin .lss (.t 86) (.t 87)⟩]
def R120_18 : List GI := [
  ⟨some 89, none, .build [(.int .u64 0), (.int .u64 0), (.int .u64 0), (.int .u64 0)] []⟩,
  ⟨some 90, none, .mov (.t 10)⟩,
  ⟨some 91, none, .bin .sub (.t 90) (.k (.int .i64 1))⟩,
  ⟨none, none, .store 4 (.t 4) (.t 89)⟩,
  ⟨some 5, none, .mov (.t 91)⟩,
  ⟨some 6, none, .mov (.k (.bool false))⟩]
def R120_19 : List GI := [
  ⟨some 92, none, .mov (.t 9)⟩,
  ⟨some 93, none, .conv .i64 (.t 92)⟩,
  ⟨some 13, none, .mov (.t 93)⟩]
def R120_20 : List GI := [
  ⟨some 94, none, .mov (.t 13)⟩,
  ⟨some 95, none, .mov (.t 12)⟩,
  ⟨some 96, none, .conv .i64 (.t 95)⟩,
  ⟨some 97, none, .bin .leq (.t 94) (.t 96)⟩]
def R120_21 : List GI := [
  ⟨some 100, none, .loadn 4 (.t 7)⟩,
  ⟨some 101, none, .mov (.t 13)⟩,
  ⟨some 102, none, .conv .u8 (.t 101)⟩,
  ⟨some 103, none, .call 104 [(.t 100), (.t 102)]⟩,
  ⟨none, none, .store 4 (.t 7) (.t 103)⟩]
def R120_22 : List GI := [
  ⟨some 98, none, .mov (.t 13)⟩,
  ⟨some 99, none, .bin .add (.t 98) (.k (.int .i64 1))⟩,
  ⟨some 13, none, .mov (.t 99)⟩]
def B120_1 : AC := (.seq (.seq (.reg R120_20) (.cond (.t 97) .skip (.exit 2))) (.seq (.block 3 (.reg R120_21)) (.reg R120_22)))
def R120_23 : List GI := [
  ⟨some 104, none, .mov (.t 10)⟩,
  ⟨some 1, none, .mov (.t 104)⟩]
def B120_0 : AC := (.seq (.seq (.reg R120_8) (.cond (.t 51) .skip (.exit 0))) (.block 1 (.seq (.reg R120_9) (.seq (.seq (.reg R120_10) (.cond (.t 60) (.seq (.reg R120_11) .ret) .skip)) (.seq (.reg R120_12) (.seq (.seq (.reg R120_13) (.cond (.t 73) (.seq (.seq (.reg R120_14) (.seq (.reg R120_15) (.cond (.t 83) (.seq (.reg R120_16) .ret) .skip))) (.seq (.reg R120_17) (.cond (.t 88) (.seq (.reg R120_18) .ret) .skip))) .skip)) (.seq (.seq (.reg R120_19) (.block 2 (.loop B120_1))) (.reg R120_23))))))))
def R120_24 : List GI := [
  ⟨some 105, none, .mov (.t 1)⟩,
  ⟨some 106, none, .mov (.t 0)⟩,
  ⟨some 107, none, .lent (.t 106)⟩,
  ⟨some 108, none, .bin .geq (.t 105) (.t 107)⟩]
def R120_25 : List GI := [
  ⟨some 109, none, .build [(.int .u64 0), (.int .u64 0), (.int .u64 0), (.int .u64 0)] []⟩,
  ⟨some 110, none, .mov (.t 0)⟩,
  ⟨some 111, none, .lent (.t 110)⟩,
  ⟨none, none, .store 4 (.t 4) (.t 109)⟩,
  ⟨some 5, none, .mov (.t 111)⟩,
  ⟨some 6, none, .mov (.k (.bool false))⟩]
def R120_26 : List GI := [
  ⟨some 112, none, .mov (.t 8)⟩]
def R120_27 : List GI := [
  ⟨some 113, none, .mov (.k (.int .i64 0))⟩]
def R120_28 : List GI := [
  ⟨some 114, none, .bin .lss (.t 113) (.k (.int .i64 4))⟩]
def R120_29 : List GI := [
  ⟨some 115, none, .mov (.t 113)⟩,
  ⟨some 14, none, .mov (.t 115)⟩]
def R120_30 : List GI := [
  ⟨some 116, none, .mov (.t 14)⟩,
  ⟨some 117, none, .mov (.t 14)⟩,
  ⟨some 118, none, .ixa 4 1 (.t 7) (.t 117)⟩,
  ⟨some 119, none, .load (.t 118)⟩,
  ⟨some 120, none, .un .xor (.t 119)⟩,
  ⟨some 121, none, .ixa 4 1 (.t 7) (.t 116)⟩,
  ⟨none, none, .store 1 (.t 121) (.t 120)⟩]
def R120_31 : List GI := [
  ⟨some 122, none, .bin .add (.t 113) (.k (.int .i64 1))⟩,
  ⟨some 113, none, .mov (.t 122)⟩]
def B120_2 : AC := (.seq (.reg R120_28) (.seq (.cond (.t 114) .skip (.exit 4)) (.seq (.block 5 (.seq (.reg R120_29) (.reg R120_30))) (.reg R120_31))))
def R120_32 : List GI := [
  ⟨some 123, none, .loadn 4 (.t 7)⟩,
  ⟨some 124, none, .mov (.t 1)⟩,
  ⟨some 125, none, .bin .add (.t 124) (.k (.int .i64 1))⟩,
  ⟨none, none, .store 4 (.t 4) (.t 123)⟩,
  ⟨some 5, none, .mov (.t 125)⟩,
  ⟨some 6, none, .mov (.k (.bool true))⟩]
def A120 : AF := ⟨(.seq (.reg R120_0) (.seq (.reg R120_1) (.seq (.seq (.reg R120_2) (.cond (.t 24) (.seq (.reg R120_3) .ret) .skip)) (.seq (.reg R120_4) (.seq (.reg R120_5) (.seq (.seq (.reg R120_6) (.cond (.t 39) (.reg R120_7) .skip)) (.seq (.block 0 (.loop B120_0)) (.seq (.seq (.reg R120_24) (.cond (.t 108) (.seq (.reg R120_25) .ret) .skip)) (.seq (.seq (.reg R120_26) (.cond (.t 112) (.seq (.reg R120_27) (.block 4 (.loop B120_2))) .skip)) (.seq (.reg R120_32) .ret)))))))))), [(4, some (some 4)), (5, none), (6, none)]⟩

/-- rootstock/classes.Unescape -/
def R121_0 : List GI := [
  ⟨some 2, none, .mov (.k (.int .u8 0))⟩,
  ⟨some 3, none, .mov (.k (.bool false))⟩]
def R121_1 : List GI := [
  ⟨some 4, none, .mov (.t 0)⟩]
def R121_2 : List GI := [
  ⟨some 6, none, .bin .eql (.t 4) (.k (.int .u8 110))⟩,
  ⟨some 5, none, .mov (.t 6)⟩]
def R121_3 : List GI := [
  ⟨some 2, none, .mov (.k (.int .u8 10))⟩,
  ⟨some 3, none, .mov (.k (.bool true))⟩]
def R121_4 : List GI := [
  ⟨some 8, none, .bin .eql (.t 4) (.k (.int .u8 116))⟩,
  ⟨some 7, none, .mov (.t 8)⟩]
def R121_5 : List GI := [
  ⟨some 2, none, .mov (.k (.int .u8 9))⟩,
  ⟨some 3, none, .mov (.k (.bool true))⟩]
def R121_6 : List GI := [
  ⟨some 10, none, .bin .eql (.t 4) (.k (.int .u8 114))⟩,
  ⟨some 9, none, .mov (.t 10)⟩]
def R121_7 : List GI := [
  ⟨some 2, none, .mov (.k (.int .u8 13))⟩,
  ⟨some 3, none, .mov (.k (.bool true))⟩]
def R121_8 : List GI := [
  ⟨some 2, none, .mov (.k (.int .u8 0))⟩,
  ⟨some 3, none, .mov (.k (.bool false))⟩]
def A121 : AF := ⟨(.seq (.reg R121_0) (.seq (.seq (.reg R121_1) (.block 0 (.seq (.reg R121_2) (.cond (.t 5) (.seq (.reg R121_3) .ret) (.seq (.reg R121_4) (.cond (.t 7) (.seq (.reg R121_5) .ret) (.seq (.reg R121_6) (.cond (.t 9) (.seq (.reg R121_7) .ret) .skip)))))))) (.seq (.reg R121_8) .ret))), [(2, none), (3, none)]⟩

/-- rootstock/regs.one -/
def R122_0 : List GI := [
  ⟨some 2, none, .alloc 48 [(.int .i64 0), (.int .u64 0), (.int .u64 0), (.int .u64 0), (.int .u64 0), (.slice none 0 0)]⟩]
def R122_1 : List GI := [
  ⟨some 3, none, .build [(.int .u64 0), (.int .u64 0), (.int .u64 0), (.int .u64 0)] []⟩,
  ⟨some 4, none, .mov (.t 0)⟩,
  ⟨some 5, none, .call 104 [(.t 3), (.t 4)]⟩,
  ⟨some 6, none, .build [(.int .i64 0), (.int .u64 0), (.int .u64 0), (.int .u64 0), (.int .u64 0), (.slice none 0 0)] [(0, 1, (.k (.int .i64 2))), (1, 4, (.t 5))]⟩,
  ⟨none, none, .store 6 (.t 2) (.t 6)⟩]
def A122 : AF := ⟨(.seq (.reg R122_0) (.seq (.reg R122_1) .ret)), [(2, some (some 6))]⟩

/-- rootstock/classes.one -/
def R129_0 : List GI := [
  ⟨some 4, none, .mov (.k (.int .u8 0))⟩,
  ⟨some 5, none, .mov (.k (.int .i64 0))⟩,
  ⟨some 6, none, .mov (.k (.bool false))⟩]
def R129_1 : List GI := [
  ⟨some 10, none, .mov (.t 1)⟩,
  ⟨some 11, none, .mov (.t 0)⟩,
  ⟨some 12, none, .lent (.t 11)⟩,
  ⟨some 13, none, .bin .geq (.t 10) (.t 12)⟩,
  ⟨some 9, none, .mov (.t 13)⟩]
def R129_2 : List GI := [
  ⟨some 14, none, .mov (.t 1)⟩,
  ⟨some 4, none, .mov (.k (.int .u8 0))⟩,
  ⟨some 5, none, .mov (.t 14)⟩,
  ⟨some 6, none, .mov (.k (.bool false))⟩]
def R129_3 : List GI := [
  ⟨some 16, none, .mov (.t 0)⟩,
  ⟨some 17, none, .mov (.t 1)⟩,
  ⟨some 18, none, .ixt (.t 16) (.t 17)⟩,
  ⟨some 19, none, .bin .neq (.t 18) (.k (.int .u8 92))⟩,
  ⟨some 15, none, .mov (.t 19)⟩]
def R129_4 : List GI := [
  ⟨some 20, none, .mov (.t 0)⟩,
  ⟨some 21, none, .mov (.t 1)⟩,
  ⟨some 22, none, .ixt (.t 20) (.t 21)⟩,
  ⟨some 23, none, .call 119 [(.t 22)]⟩]
def R129_5 : List GI := [
  ⟨some 24, none, .mov (.t 1)⟩,
  ⟨some 4, none, .mov (.k (.int .u8 0))⟩,
  ⟨some 5, none, .mov (.t 24)⟩,
  ⟨some 6, none, .mov (.k (.bool false))⟩]
def R129_6 : List GI := [
  ⟨some 25, none, .mov (.t 0)⟩,
  ⟨some 26, none, .mov (.t 1)⟩,
  ⟨some 27, none, .ixt (.t 25) (.t 26)⟩,
  ⟨some 28, none, .mov (.t 1)⟩,
  ⟨some 29, none, .bin .add (.t 28) (.k (.int .i64 1))⟩,
  ⟨some 4, none, .mov (.t 27)⟩,
  ⟨some 5, none, .mov (.t 29)⟩,
  ⟨some 6, none, .mov (.k (.bool true))⟩]
def R129_7 : List GI := [
  ⟨some 31, none, .mov (.t 1)⟩,
  ⟨some 32, none, .bin .add (.t 31) (.k (.int .i64 1))⟩,
  ⟨some 33, none, .mov (.t 0)⟩,
  ⟨some 34, none, .lent (.t 33)⟩,
  ⟨some 35, none, .bin .geq (.t 32) (.t 34)⟩,
  ⟨some 30, none, .mov (.t 35)⟩]
def R129_8 : List GI := [
  ⟨some 36, none, .mov (.t 1)⟩,
  ⟨some 37, none, .bin .add (.t 36) (.k (.int .i64 1))⟩,
  ⟨some 4, none, .mov (.k (.int .u8 0))⟩,
  ⟨some 5, none, .mov (.t 37)⟩,
  ⟨some 6, none, .mov (.k (.bool false))⟩]
def R129_9 : List GI := [
  ⟨some 39, none, .mov (.t 0)⟩,
  ⟨some 40, none, .mov (.t 1)⟩,
  ⟨some 41, none, .bin .add (.t 40) (.k (.int .i64 1))⟩,
  ⟨some 42, none, .ixt (.t 39) (.t 41)⟩,
  ⟨some 43, none, .call 121 [(.t 42)]⟩,
  ⟨some 38, none, .mov (.t 43)⟩,
  ⟨some 44, none, .ext 0 (.t 38)⟩,
  ⟨some 45, none, .ext 1 (.t 38)⟩,
  ⟨some 7, none, .mov (.t 44)⟩,
  ⟨some 8, none, .mov (.t 45)⟩]
def R129_10 : List GI := [
  ⟨some 46, none, .mov (.t 8)⟩]
def R129_11 : List GI := [
  ⟨some 47, none, .mov (.t 7)⟩,
  ⟨some 48, none, .mov (.t 1)⟩,
  ⟨some 49, none, .bin .add (.t 48) (.k (.int .i64 2))⟩,
  ⟨some 4, none, .mov (.t 47)⟩,
  ⟨some 5, none, .mov (.t 49)⟩,
  ⟨some 6, none, .mov (.k (.bool true))⟩]
def R129_12 : List GI := [
  ⟨some 50, none, .mov (.t 0)⟩,
  ⟨some 51, none, .mov (.t 1)⟩,
  ⟨some 52, none, .bin .add (.t 51) (.k (.int .i64 1))⟩,
  ⟨some 53, none, .ixt (.t 50) (.t 52)⟩,
  ⟨some 54, none, .call 119 [(.t 53)]⟩]
def R129_13 : List GI := [
  ⟨some 55, none, .mov (.t 0)⟩,
  ⟨some 56, none, .mov (.t 1)⟩,
  ⟨some 57, none, .bin .add (.t 56) (.k (.int .i64 1))⟩,
  ⟨some 58, none, .ixt (.t 55) (.t 57)⟩,
  ⟨some 59, none, .mov (.t 1)⟩,
  ⟨some 60, none, .bin .add (.t 59) (.k (.int .i64 2))⟩,
  ⟨some 4, none, .mov (.t 58)⟩,
  ⟨some 5, none, .mov (.t 60)⟩,
  ⟨some 6, none, .mov (.k (.bool true))⟩]
def R129_14 : List GI := [
  ⟨some 61, none, .mov (.t 1)⟩,
  ⟨some 62, none, .bin .add (.t 61) (.k (.int .i64 1))⟩,
  ⟨some 4, none, .mov (.k (.int .u8 0))⟩,
  ⟨some 5, none, .mov (.t 62)⟩,
  ⟨some 6, none, .mov (.k (.bool false))⟩]
def A129 : AF := ⟨(.seq (.reg R129_0) (.seq (.block 0 (.seq (.reg R129_1) (.cond (.t 9) (.seq (.reg R129_2) .ret) (.seq (.reg R129_3) (.cond (.t 15) (.seq (.seq (.reg R129_4) (.cond (.t 23) (.seq (.reg R129_5) .ret) .skip)) (.seq (.reg R129_6) .ret)) (.seq (.reg R129_7) (.cond (.t 30) (.seq (.reg R129_8) .ret) .skip))))))) (.seq (.seq (.reg R129_9) (.seq (.reg R129_10) (.cond (.t 46) (.seq (.reg R129_11) .ret) .skip))) (.seq (.seq (.reg R129_12) (.cond (.t 54) (.seq (.reg R129_13) .ret) .skip)) (.seq (.reg R129_14) .ret))))), [(4, none), (5, none), (6, none)]⟩

/-- rootstock/regs.Parse -/
def R31_0 : List GI := [
  ⟨some 2, none, .alloc 48 [(.int .i64 0), (.int .u64 0), (.int .u64 0), (.int .u64 0), (.int .u64 0), (.slice none 0 0)]⟩,
  ⟨some 3, none, .alloc 3 [(.int .i64 0)]⟩,
  ⟨some 4, none, .alloc 24 [(.int .i64 0)]⟩]
def R31_1 : List GI := [
  ⟨some 7, none, .mov (.t 0)⟩,
  ⟨some 8, none, .lent (.t 7)⟩,
  ⟨some 9, none, .bin .gtr (.t 8) (.k (.int .i64 256))⟩]
def R31_2 : List GI := [
  ⟨some 10, none, .loadn 6 (.t 2)⟩,
  ⟨none, none, .store 6 (.t 2) (.t 10)⟩,
  ⟨none, none, .store 1 (.t 3) (.k (.int .i64 0))⟩,
  ⟨none, none, .store 1 (.t 4) (.k (.int .i64 3))⟩]
def R31_3 : List GI := [
  ⟨some 12, none, .mov (.t 0)⟩,
  ⟨some 13, none, .build [(.string ⟨#[]⟩), (.int .i64 0)] [(0, 1, (.t 12))]⟩,
  ⟨some 14, none, .box 97 2 (.t 13)⟩,
  ⟨some 5, none, .mov (.t 14)⟩]
def R31_4 : List GI := [
  ⟨some 15, none, .mov (.t 5)⟩,
  ⟨some 16, none, .call 59 [(.t 15)]⟩,
  ⟨some 6, none, .alloc 48 [(.int .i64 0), (.int .u64 0), (.int .u64 0), (.int .u64 0), (.int .u64 0), (.slice none 0 0)]⟩,
  ⟨none, none, .store 6 (.t 6) (.t 16)⟩]
def R31_5 : List GI := [
  ⟨some 18, none, .mov (.t 5)⟩,
  ⟨some 19, none, .nilchk (.t 18)⟩,
  ⟨some 20, none, .fadr 1 (.t 19)⟩,
  ⟨some 21, none, .load (.t 20)⟩,
  ⟨some 22, none, .mov (.t 0)⟩,
  ⟨some 23, none, .lent (.t 22)⟩,
  ⟨some 24, none, .bin .lss (.t 21) (.t 23)⟩,
  ⟨some 17, none, .mov (.t 24)⟩]
def R31_6 : List GI := [
  ⟨some 25, none, .loadn 6 (.t 2)⟩,
  ⟨some 26, none, .mov (.t 5)⟩,
  ⟨some 27, none, .nilchk (.t 26)⟩,
  ⟨some 28, none, .fadr 1 (.t 27)⟩,
  ⟨some 29, none, .load (.t 28)⟩,
  ⟨none, none, .store 6 (.t 2) (.t 25)⟩,
  ⟨none, none, .store 1 (.t 3) (.t 29)⟩,
  ⟨none, none, .store 1 (.t 4) (.k (.int .i64 50))⟩]
def R31_7 : List GI := [
  ⟨some 31, none, .loadn 6 (.t 6)⟩,
  ⟨some 32, none, .call 60 [(.t 31)]⟩,
  ⟨some 33, none, .bin .gtr (.t 32) (.k (.int .i64 16))⟩,
  ⟨some 30, none, .mov (.t 33)⟩]
def R31_8 : List GI := [
  ⟨some 34, none, .loadn 6 (.t 2)⟩,
  ⟨none, none, .store 6 (.t 2) (.t 34)⟩,
  ⟨none, none, .store 1 (.t 3) (.k (.int .i64 0))⟩,
  ⟨none, none, .store 1 (.t 4) (.k (.int .i64 51))⟩]
def R31_9 : List GI := [
  ⟨some 35, none, .loadn 6 (.t 6)⟩,
  ⟨none, none, .store 6 (.t 2) (.t 35)⟩,
  ⟨none, none, .store 1 (.t 3) (.k (.int .i64 0))⟩,
  ⟨none, none, .store 1 (.t 4) (.k (.int .i64 0))⟩]
def D31 : DF := ⟨(.reg R31_0), (.seq (.reg R31_1) (.cond (.t 9) (.seq (.reg R31_2) .ret) .skip)), ⟨some 11, none, .mkf (.func 58) [] [(.t 2), (.t 3), (.t 4)]⟩, (.t 11), (.seq (.reg R31_3) (.seq (.reg R31_4) (.seq (.block 0 (.seq (.reg R31_5) (.cond (.t 17) (.seq (.regd R31_6 [(4, 5)]) .ret) (.seq (.reg R31_7) (.cond (.t 30) (.seq (.reg R31_8) .ret) .skip))))) (.seq (.reg R31_9) .ret)))), [(2, some (some 6)), (3, some none), (4, some none)]⟩

end
end Go.Rx
