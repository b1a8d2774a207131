/- Contracts of functions of the given program, over the abstract machine. -/
import Derived.Test.YtabhplelhjcdiaaRxArg
namespace Go.Rx
noncomputable section
/-- rootstock/rootstocklaw01.EditsKeeps -/
def R3_0 : List GI := [
  ⟨some 3, none, .box 23 3 (.t 1)⟩,
  ⟨some 4, none, .mov (.k (.bool false))⟩]
def R3_1 : List GI := [
  ⟨some 11, none, .mov (.t 0)⟩,
  ⟨some 12, none, .loadn 3 (.t 3)⟩,
  ⟨some 13, none, .call 12 [(.t 11), (.t 12)]⟩,
  ⟨some 10, none, .mov (.t 13)⟩,
  ⟨some 14, none, .ext 0 (.t 10)⟩,
  ⟨some 15, none, .ext 1 (.t 10)⟩,
  ⟨some 5, none, .mov (.t 14)⟩,
  ⟨some 6, none, .mov (.t 15)⟩]
def R3_2 : List GI := [
  ⟨some 16, none, .mov (.t 6)⟩,
  ⟨some 17, none, .bin .neq (.t 16) (.k (.int .i64 0))⟩]
def R3_3 : List GI := [
  ⟨some 18, none, .call 13 []⟩,
  ⟨some 4, none, .mov (.t 18)⟩]
def R3_4 : List GI := [
  ⟨some 19, none, .fadr 0 (.t 3)⟩,
  ⟨some 20, none, .load (.t 19)⟩,
  ⟨some 21, none, .bin .lss (.t 20) (.k (.int .i64 0))⟩,
  ⟨some 22, none, .mov (.t 21)⟩,
  ⟨some 23, some (22, false), .fadr 1 (.t 3)⟩,
  ⟨some 24, some (22, false), .load (.t 23)⟩,
  ⟨some 25, some (22, false), .fadr 0 (.t 3)⟩,
  ⟨some 26, some (22, false), .load (.t 25)⟩,
  ⟨some 27, some (22, false), .bin .lss (.t 24) (.t 26)⟩,
  ⟨some 28, none, .pick (.t 22) (.k (.bool true)) (.t 27)⟩,
  ⟨some 29, none, .mov (.t 28)⟩,
  ⟨some 30, some (29, false), .fadr 1 (.t 3)⟩,
  ⟨some 31, some (29, false), .load (.t 30)⟩,
  ⟨some 32, some (29, false), .mov (.t 0)⟩,
  ⟨some 33, some (29, false), .lent (.t 32)⟩,
  ⟨some 34, some (29, false), .bin .gtr (.t 31) (.t 33)⟩,
  ⟨some 35, none, .pick (.t 29) (.k (.bool true)) (.t 34)⟩,
  ⟨some 36, none, .mov (.t 35)⟩,
  ⟨some 37, some (36, false), .mov (.t 5)⟩,
  ⟨some 38, some (36, false), .lent (.t 37)⟩,
  ⟨some 39, some (36, false), .mov (.t 0)⟩,
  ⟨some 40, some (36, false), .lent (.t 39)⟩,
  ⟨some 41, some (36, false), .fadr 1 (.t 3)⟩,
  ⟨some 42, some (36, false), .load (.t 41)⟩,
  ⟨some 43, some (36, false), .fadr 0 (.t 3)⟩,
  ⟨some 44, some (36, false), .load (.t 43)⟩,
  ⟨some 45, some (36, false), .bin .sub (.t 42) (.t 44)⟩,
  ⟨some 46, some (36, false), .bin .sub (.t 40) (.t 45)⟩,
  ⟨some 47, some (36, false), .fadr 2 (.t 3)⟩,
  ⟨some 48, some (36, false), .load (.t 47)⟩,
  ⟨some 49, some (36, false), .lent (.t 48)⟩,
  ⟨some 50, some (36, false), .bin .add (.t 46) (.t 49)⟩,
  ⟨some 51, some (36, false), .bin .neq (.t 38) (.t 50)⟩,
  ⟨some 52, none, .pick (.t 36) (.k (.bool true)) (.t 51)⟩,
  ⟨some 53, none, .mov (.t 52)⟩,
  ⟨some 54, some (53, false), .mov (.t 5)⟩,
  ⟨some 55, some (53, false), .fadr 0 (.t 3)⟩,
  ⟨some 56, some (53, false), .load (.t 55)⟩,
  ⟨some 57, some (53, false), .fadr 0 (.t 3)⟩,
  ⟨some 58, some (53, false), .load (.t 57)⟩,
  ⟨some 59, some (53, false), .fadr 2 (.t 3)⟩,
  ⟨some 60, some (53, false), .load (.t 59)⟩,
  ⟨some 61, some (53, false), .lent (.t 60)⟩,
  ⟨some 62, some (53, false), .bin .add (.t 58) (.t 61)⟩,
  ⟨some 63, some (53, false), .sls (.t 54) (some (.t 56)) (some (.t 62))⟩,
  ⟨some 64, some (53, false), .fadr 2 (.t 3)⟩,
  ⟨some 65, some (53, false), .load (.t 64)⟩,
  ⟨some 66, some (53, false), .bin .neq (.t 63) (.t 65)⟩,
  ⟨some 67, none, .pick (.t 53) (.k (.bool true)) (.t 66)⟩]
def R3_5 : List GI := [
  ⟨some 4, none, .mov (.k (.bool false))⟩]
def R3_6 : List GI := [
  ⟨some 68, none, .fadr 0 (.t 3)⟩,
  ⟨some 69, none, .load (.t 68)⟩,
  ⟨some 70, none, .bin .sub (.t 69) (.k (.int .i64 200))⟩,
  ⟨some 71, none, .minmax true [(.k (.int .i64 0)), (.t 70)]⟩,
  ⟨some 7, none, .mov (.t 71)⟩]
def R3_7 : List GI := [
  ⟨some 72, none, .mov (.t 7)⟩,
  ⟨some 73, none, .fadr 0 (.t 3)⟩,
  ⟨some 74, none, .load (.t 73)⟩,
  ⟨some 75, none, .bin .lss (.t 72) (.t 74)⟩]
def R3_8 : List GI := [
  ⟨some 78, none, .loadn 3 (.t 3)⟩,
  ⟨some 79, none, .mov (.t 7)⟩,
  ⟨some 80, none, .call 14 [(.t 78), (.t 79)]⟩,
  ⟨some 81, none, .mov (.t 7)⟩,
  ⟨some 82, none, .bin .neq (.t 80) (.t 81)⟩,
  ⟨some 83, none, .mov (.t 82)⟩,
  ⟨some 84, some (83, false), .mov (.t 5)⟩,
  ⟨some 85, some (83, false), .mov (.t 7)⟩,
  ⟨some 86, some (83, false), .ixt (.t 84) (.t 85)⟩,
  ⟨some 87, some (83, false), .mov (.t 0)⟩,
  ⟨some 88, some (83, false), .mov (.t 7)⟩,
  ⟨some 89, some (83, false), .ixt (.t 87) (.t 88)⟩,
  ⟨some 90, some (83, false), .bin .neq (.t 86) (.t 89)⟩,
  ⟨some 91, none, .pick (.t 83) (.k (.bool true)) (.t 90)⟩]
def R3_9 : List GI := [
  ⟨some 4, none, .mov (.k (.bool false))⟩]
def R3_10 : List GI := [
  ⟨some 76, none, .mov (.t 7)⟩,
  ⟨some 77, none, .bin .add (.t 76) (.k (.int .i64 1))⟩,
  ⟨some 7, none, .mov (.t 77)⟩]
def B3_0 : AC := (.seq (.seq (.reg R3_7) (.cond (.t 75) .skip (.exit 0))) (.seq (.block 1 (.seq (.regd R3_8 []) (.cond (.t 91) (.seq (.reg R3_9) .ret) .skip))) (.reg R3_10)))
def R3_11 : List GI := [
  ⟨some 92, none, .fadr 1 (.t 3)⟩,
  ⟨some 93, none, .load (.t 92)⟩,
  ⟨some 8, none, .mov (.t 93)⟩]
def R3_12 : List GI := [
  ⟨some 94, none, .mov (.t 8)⟩,
  ⟨some 95, none, .mov (.t 0)⟩,
  ⟨some 96, none, .lent (.t 95)⟩,
  ⟨some 97, none, .bin .lss (.t 94) (.t 96)⟩,
  ⟨some 98, none, .mov (.t 97)⟩,
  ⟨some 99, some (98, true), .mov (.t 8)⟩,
  ⟨some 100, some (98, true), .fadr 1 (.t 3)⟩,
  ⟨some 101, some (98, true), .load (.t 100)⟩,
  ⟨some 102, some (98, true), .bin .add (.t 101) (.k (.int .i64 200))⟩,
  ⟨some 103, some (98, true), .bin .lss (.t 99) (.t 102)⟩,
  ⟨some 104, none, .pick (.t 98) (.t 103) (.k (.bool false))⟩]
def R3_13 : List GI := [
  ⟨some 107, none, .loadn 3 (.t 3)⟩,
  ⟨some 108, none, .mov (.t 8)⟩,
  ⟨some 109, none, .call 14 [(.t 107), (.t 108)]⟩,
  ⟨some 9, none, .mov (.t 109)⟩]
def R3_14 : List GI := [
  ⟨some 110, none, .mov (.t 8)⟩,
  ⟨some 111, none, .fadr 0 (.t 3)⟩,
  ⟨some 112, none, .load (.t 111)⟩,
  ⟨some 113, none, .bin .gtr (.t 110) (.t 112)⟩,
  ⟨some 114, none, .mov (.t 113)⟩,
  ⟨some 115, some (114, true), .mov (.t 9)⟩,
  ⟨some 116, some (114, true), .bin .lss (.t 115) (.k (.int .i64 0))⟩,
  ⟨some 117, some (114, true), .mov (.t 116)⟩,
  ⟨some 118, some (117, false), .mov (.t 9)⟩,
  ⟨some 119, some (117, false), .mov (.t 5)⟩,
  ⟨some 120, some (117, false), .lent (.t 119)⟩,
  ⟨some 121, some (117, false), .bin .geq (.t 118) (.t 120)⟩,
  ⟨some 122, some (114, true), .pick (.t 117) (.k (.bool true)) (.t 121)⟩,
  ⟨some 123, some (114, true), .mov (.t 122)⟩,
  ⟨some 124, some (123, false), .mov (.t 5)⟩,
  ⟨some 125, some (123, false), .mov (.t 9)⟩,
  ⟨some 126, some (123, false), .ixt (.t 124) (.t 125)⟩,
  ⟨some 127, some (123, false), .mov (.t 0)⟩,
  ⟨some 128, some (123, false), .mov (.t 8)⟩,
  ⟨some 129, some (123, false), .ixt (.t 127) (.t 128)⟩,
  ⟨some 130, some (123, false), .bin .neq (.t 126) (.t 129)⟩,
  ⟨some 131, some (114, true), .pick (.t 123) (.k (.bool true)) (.t 130)⟩,
  ⟨some 132, none, .pick (.t 114) (.t 131) (.k (.bool false))⟩]
def R3_15 : List GI := [
  ⟨some 4, none, .mov (.k (.bool false))⟩]
def R3_16 : List GI := [
  ⟨some 105, none, .mov (.t 8)⟩,
  ⟨some 106, none, .bin .add (.t 105) (.k (.int .i64 1))⟩,
  ⟨some 8, none, .mov (.t 106)⟩]
def B3_1 : AC := (.seq (.seq (.reg R3_12) (.cond (.t 104) .skip (.exit 2))) (.seq (.block 3 (.seq (.reg R3_13) (.seq (.regd R3_14 []) (.cond (.t 132) (.seq (.reg R3_15) .ret) .skip)))) (.reg R3_16)))
def R3_17 : List GI := [
  ⟨some 133, none, .mov (.t 5)⟩,
  ⟨some 134, none, .fadr 0 (.t 3)⟩,
  ⟨some 135, none, .load (.t 134)⟩,
  ⟨some 136, none, .sls (.t 133) none (some (.t 135))⟩,
  ⟨some 137, none, .mov (.t 0)⟩,
  ⟨some 138, none, .fadr 0 (.t 3)⟩,
  ⟨some 139, none, .load (.t 138)⟩,
  ⟨some 140, none, .sls (.t 137) none (some (.t 139))⟩,
  ⟨some 141, none, .bin .eql (.t 136) (.t 140)⟩,
  ⟨some 142, none, .mov (.t 141)⟩,
  ⟨some 143, some (142, true), .mov (.t 5)⟩,
  ⟨some 144, some (142, true), .fadr 0 (.t 3)⟩,
  ⟨some 145, some (142, true), .load (.t 144)⟩,
  ⟨some 146, some (142, true), .fadr 2 (.t 3)⟩,
  ⟨some 147, some (142, true), .load (.t 146)⟩,
  ⟨some 148, some (142, true), .lent (.t 147)⟩,
  ⟨some 149, some (142, true), .bin .add (.t 145) (.t 148)⟩,
  ⟨some 150, some (142, true), .sls (.t 143) (some (.t 149)) none⟩,
  ⟨some 151, some (142, true), .mov (.t 0)⟩,
  ⟨some 152, some (142, true), .fadr 1 (.t 3)⟩,
  ⟨some 153, some (142, true), .load (.t 152)⟩,
  ⟨some 154, some (142, true), .sls (.t 151) (some (.t 153)) none⟩,
  ⟨some 155, some (142, true), .bin .eql (.t 150) (.t 154)⟩,
  ⟨some 156, none, .pick (.t 142) (.t 155) (.k (.bool false))⟩,
  ⟨some 157, none, .mov (.t 156)⟩,
  ⟨some 158, some (157, true), .call 13 []⟩,
  ⟨some 159, none, .pick (.t 157) (.t 158) (.k (.bool false))⟩,
  ⟨some 4, none, .mov (.t 159)⟩]
def A3 : AF := ⟨(.seq (.reg R3_0) (.seq (.reg R3_1) (.seq (.seq (.reg R3_2) (.cond (.t 17) (.seq (.reg R3_3) .ret) .skip)) (.seq (.seq (.regd R3_4 []) (.cond (.t 67) (.seq (.reg R3_5) .ret) .skip)) (.seq (.seq (.reg R3_6) (.block 0 (.loop B3_0))) (.seq (.seq (.reg R3_11) (.block 2 (.loop B3_1))) (.seq (.regd R3_17 []) .ret))))))), [(4, none)]⟩

/-- rootstock/edits.Apply -/
def R12_0 : List GI := [
  ⟨some 3, none, .box 23 3 (.t 1)⟩,
  ⟨some 4, none, .mov (.k (.string ⟨#[]⟩))⟩,
  ⟨some 5, none, .mov (.k (.int .i64 0))⟩]
def R12_1 : List GI := [
  ⟨some 7, none, .mov (.t 0)⟩,
  ⟨some 8, none, .lent (.t 7)⟩,
  ⟨some 9, none, .loadn 3 (.t 3)⟩,
  ⟨some 10, none, .call 37 [(.t 8), (.t 9)]⟩,
  ⟨some 6, none, .mov (.t 10)⟩]
def R12_2 : List GI := [
  ⟨some 11, none, .mov (.t 6)⟩,
  ⟨some 12, none, .bin .neq (.t 11) (.k (.int .i64 0))⟩]
def R12_3 : List GI := [
  ⟨some 13, none, .mov (.t 6)⟩,
  ⟨some 4, none, .mov (.k (.string ⟨#[]⟩))⟩,
  ⟨some 5, none, .mov (.t 13)⟩]
def R12_4 : List GI := [
  ⟨some 14, none, .mov (.t 0)⟩,
  ⟨some 15, none, .fadr 0 (.t 3)⟩,
  ⟨some 16, none, .load (.t 15)⟩,
  ⟨some 17, none, .sls (.t 14) none (some (.t 16))⟩,
  ⟨some 18, none, .fadr 2 (.t 3)⟩,
  ⟨some 19, none, .load (.t 18)⟩,
  ⟨some 20, none, .bin .add (.t 17) (.t 19)⟩,
  ⟨some 21, none, .mov (.t 0)⟩,
  ⟨some 22, none, .fadr 1 (.t 3)⟩,
  ⟨some 23, none, .load (.t 22)⟩,
  ⟨some 24, none, .sls (.t 21) (some (.t 23)) none⟩,
  ⟨some 25, none, .bin .add (.t 20) (.t 24)⟩,
  ⟨some 4, none, .mov (.t 25)⟩,
  ⟨some 5, none, .mov (.k (.int .i64 0))⟩]
def A12 : AF := ⟨(.seq (.reg R12_0) (.seq (.seq (.reg R12_1) (.seq (.reg R12_2) (.cond (.t 12) (.seq (.reg R12_3) .ret) .skip))) (.seq (.regd R12_4 []) .ret))), [(4, none), (5, none)]⟩

/-- rootstock/rootstocklaw01.alive -/
def R13_0 : List GI := [
  ⟨some 0, none, .mov (.k (.bool false))⟩]
def R13_1 : List GI := [
  ⟨some 6, none, .build [(.int .i64 0), (.int .i64 0), (.string ⟨#[]⟩)] [(0, 1, (.k (.int .i64 1))), (1, 1, (.k (.int .i64 3))), (2, 1, (.k (.string ⟨#[88, 89, 90]⟩)))]⟩,
  ⟨some 7, none, .call 12 [(.k (.string ⟨#[97, 98, 99, 100, 101, 102]⟩)), (.t 6)]⟩,
  ⟨some 5, none, .mov (.t 7)⟩,
  ⟨some 8, none, .ext 0 (.t 5)⟩,
  ⟨some 9, none, .ext 1 (.t 5)⟩,
  ⟨some 1, none, .mov (.t 8)⟩,
  ⟨some 2, none, .mov (.t 9)⟩]
def R13_2 : List GI := [
  ⟨some 11, none, .build [(.int .i64 0), (.int .i64 0), (.string ⟨#[]⟩)] [(0, 1, (.k (.int .i64 2))), (1, 1, (.k (.int .i64 1)))]⟩,
  ⟨some 12, none, .call 12 [(.k (.string ⟨#[97, 98, 99, 100, 101, 102]⟩)), (.t 11)]⟩,
  ⟨some 10, none, .mov (.t 12)⟩,
  ⟨some 13, none, .ext 0 (.t 10)⟩,
  ⟨some 14, none, .ext 1 (.t 10)⟩,
  ⟨some 3, none, .mov (.t 13)⟩,
  ⟨some 4, none, .mov (.t 14)⟩]
def R13_3 : List GI := [
  ⟨some 15, none, .mov (.t 1)⟩,
  ⟨some 16, none, .bin .eql (.t 15) (.k (.string ⟨#[97, 88, 89, 90, 100, 101, 102]⟩))⟩,
  ⟨some 17, none, .mov (.t 16)⟩,
  ⟨some 18, some (17, true), .mov (.t 2)⟩,
  ⟨some 19, some (17, true), .bin .eql (.t 18) (.k (.int .i64 0))⟩,
  ⟨some 20, none, .pick (.t 17) (.t 19) (.k (.bool false))⟩,
  ⟨some 21, none, .mov (.t 20)⟩,
  ⟨some 22, some (21, true), .mov (.t 4)⟩,
  ⟨some 23, some (21, true), .bin .eql (.t 22) (.k (.int .i64 10))⟩,
  ⟨some 24, none, .pick (.t 21) (.t 23) (.k (.bool false))⟩,
  ⟨some 25, none, .mov (.t 24)⟩,
  ⟨some 26, some (25, true), .build [(.int .i64 0), (.int .i64 0), (.string ⟨#[]⟩)] [(0, 1, (.k (.int .i64 1))), (1, 1, (.k (.int .i64 5))), (2, 1, (.k (.string ⟨#[88]⟩)))]⟩,
  ⟨some 27, some (25, true), .call 14 [(.t 26), (.k (.int .i64 4))]⟩,
  ⟨some 28, some (25, true), .bin .eql (.t 27) (.k (.int .i64 2))⟩,
  ⟨some 29, none, .pick (.t 25) (.t 28) (.k (.bool false))⟩,
  ⟨some 0, none, .mov (.t 29)⟩]
def A13 : AF := ⟨(.seq (.reg R13_0) (.seq (.reg R13_1) (.seq (.reg R13_2) (.seq (.reg R13_3) .ret)))), [(0, none)]⟩

/-- rootstock/edits.Check -/
def R37_0 : List GI := [
  ⟨some 3, none, .box 23 3 (.t 1)⟩,
  ⟨some 4, none, .mov (.k (.int .i64 0))⟩]
def R37_1 : List GI := [
  ⟨some 6, none, .mov (.t 0)⟩,
  ⟨some 7, none, .bin .lss (.t 6) (.k (.int .i64 0))⟩,
  ⟨some 8, none, .mov (.t 7)⟩,
  ⟨some 9, some (8, false), .mov (.t 0)⟩,
  ⟨some 10, some (8, false), .bin .gtr (.t 9) (.k (.int .i64 65536))⟩,
  ⟨some 11, none, .pick (.t 8) (.k (.bool true)) (.t 10)⟩,
  ⟨some 5, none, .mov (.t 11)⟩]
def R37_2 : List GI := [
  ⟨some 4, none, .mov (.k (.int .i64 2))⟩]
def R37_3 : List GI := [
  ⟨some 13, none, .fadr 0 (.t 3)⟩,
  ⟨some 14, none, .load (.t 13)⟩,
  ⟨some 15, none, .bin .lss (.t 14) (.k (.int .i64 0))⟩,
  ⟨some 16, none, .mov (.t 15)⟩,
  ⟨some 17, some (16, false), .fadr 0 (.t 3)⟩,
  ⟨some 18, some (16, false), .load (.t 17)⟩,
  ⟨some 19, some (16, false), .fadr 1 (.t 3)⟩,
  ⟨some 20, some (16, false), .load (.t 19)⟩,
  ⟨some 21, some (16, false), .bin .gtr (.t 18) (.t 20)⟩,
  ⟨some 22, none, .pick (.t 16) (.k (.bool true)) (.t 21)⟩,
  ⟨some 23, none, .mov (.t 22)⟩,
  ⟨some 24, some (23, false), .fadr 1 (.t 3)⟩,
  ⟨some 25, some (23, false), .load (.t 24)⟩,
  ⟨some 26, some (23, false), .mov (.t 0)⟩,
  ⟨some 27, some (23, false), .bin .gtr (.t 25) (.t 26)⟩,
  ⟨some 28, none, .pick (.t 23) (.k (.bool true)) (.t 27)⟩,
  ⟨some 12, none, .mov (.t 28)⟩]
def R37_4 : List GI := [
  ⟨some 4, none, .mov (.k (.int .i64 10))⟩]
def R37_5 : List GI := [
  ⟨some 30, none, .fadr 2 (.t 3)⟩,
  ⟨some 31, none, .load (.t 30)⟩,
  ⟨some 32, none, .lent (.t 31)⟩,
  ⟨some 33, none, .mov (.t 0)⟩,
  ⟨some 34, none, .bin .sub (.k (.int .i64 65536)) (.t 33)⟩,
  ⟨some 35, none, .fadr 1 (.t 3)⟩,
  ⟨some 36, none, .load (.t 35)⟩,
  ⟨some 37, none, .fadr 0 (.t 3)⟩,
  ⟨some 38, none, .load (.t 37)⟩,
  ⟨some 39, none, .bin .sub (.t 36) (.t 38)⟩,
  ⟨some 40, none, .bin .add (.t 34) (.t 39)⟩,
  ⟨some 41, none, .bin .gtr (.t 32) (.t 40)⟩,
  ⟨some 29, none, .mov (.t 41)⟩]
def R37_6 : List GI := [
  ⟨some 4, none, .mov (.k (.int .i64 3))⟩]
def R37_7 : List GI := [
  ⟨some 4, none, .mov (.k (.int .i64 0))⟩]
def A37 : AF := ⟨(.seq (.reg R37_0) (.seq (.block 0 (.seq (.reg R37_1) (.cond (.t 5) (.seq (.reg R37_2) .ret) (.seq (.reg R37_3) (.cond (.t 12) (.seq (.reg R37_4) .ret) (.seq (.reg R37_5) (.cond (.t 29) (.seq (.reg R37_6) .ret) .skip))))))) (.seq (.reg R37_7) .ret))), [(4, none)]⟩

/-- rootstock/edits.At -/
def R14_0 : List GI := [
  ⟨some 2, none, .box 23 3 (.t 0)⟩,
  ⟨some 4, none, .mov (.k (.int .i64 0))⟩]
def R14_1 : List GI := [
  ⟨some 5, none, .loadn 3 (.t 2)⟩,
  ⟨some 6, none, .call 38 [(.t 5)]⟩,
  ⟨some 7, none, .un .not (.t 6)⟩,
  ⟨some 8, none, .mov (.t 7)⟩,
  ⟨some 9, some (8, false), .mov (.t 1)⟩,
  ⟨some 10, some (8, false), .bin .lss (.t 9) (.k (.int .i64 0))⟩,
  ⟨some 11, none, .pick (.t 8) (.k (.bool true)) (.t 10)⟩,
  ⟨some 12, none, .mov (.t 11)⟩,
  ⟨some 13, some (12, false), .mov (.t 1)⟩,
  ⟨some 14, some (12, false), .bin .gtr (.t 13) (.k (.int .i64 65536))⟩,
  ⟨some 15, none, .pick (.t 12) (.k (.bool true)) (.t 14)⟩]
def R14_2 : List GI := [
  ⟨some 4, none, .mov (.k (.int .i64 0))⟩]
def R14_3 : List GI := [
  ⟨some 16, none, .loadn 3 (.t 2)⟩,
  ⟨some 17, none, .mov (.t 1)⟩,
  ⟨some 18, none, .call 39 [(.t 16), (.t 17)]⟩,
  ⟨some 4, none, .mov (.t 18)⟩]
def A14 : AF := ⟨(.seq (.reg R14_0) (.seq (.seq (.reg R14_1) (.cond (.t 15) (.seq (.reg R14_2) .ret) .skip)) (.seq (.reg R14_3) .ret))), [(4, none)]⟩

/-- rootstock/edits.upright -/
def R38_0 : List GI := [
  ⟨some 1, none, .box 23 3 (.t 0)⟩,
  ⟨some 2, none, .mov (.k (.bool false))⟩]
def R38_1 : List GI := [
  ⟨some 3, none, .fadr 0 (.t 1)⟩,
  ⟨some 4, none, .load (.t 3)⟩,
  ⟨some 5, none, .bin .geq (.t 4) (.k (.int .i64 0))⟩,
  ⟨some 6, none, .mov (.t 5)⟩,
  ⟨some 7, some (6, true), .fadr 0 (.t 1)⟩,
  ⟨some 8, some (6, true), .load (.t 7)⟩,
  ⟨some 9, some (6, true), .fadr 1 (.t 1)⟩,
  ⟨some 10, some (6, true), .load (.t 9)⟩,
  ⟨some 11, some (6, true), .bin .leq (.t 8) (.t 10)⟩,
  ⟨some 12, none, .pick (.t 6) (.t 11) (.k (.bool false))⟩,
  ⟨some 13, none, .mov (.t 12)⟩,
  ⟨some 14, some (13, true), .fadr 1 (.t 1)⟩,
  ⟨some 15, some (13, true), .load (.t 14)⟩,
  ⟨some 16, some (13, true), .bin .leq (.t 15) (.k (.int .i64 65536))⟩,
  ⟨some 17, none, .pick (.t 13) (.t 16) (.k (.bool false))⟩,
  ⟨some 18, none, .mov (.t 17)⟩,
  ⟨some 19, some (18, true), .fadr 2 (.t 1)⟩,
  ⟨some 20, some (18, true), .load (.t 19)⟩,
  ⟨some 21, some (18, true), .lent (.t 20)⟩,
  ⟨some 22, some (18, true), .bin .leq (.t 21) (.k (.int .i64 65536))⟩,
  ⟨some 23, none, .pick (.t 18) (.t 22) (.k (.bool false))⟩,
  ⟨some 2, none, .mov (.t 23)⟩]
def A38 : AF := ⟨(.seq (.reg R38_0) (.seq (.reg R38_1) .ret)), [(2, none)]⟩

/-- rootstock/edits.moved -/
def R39_0 : List GI := [
  ⟨some 2, none, .box 23 3 (.t 0)⟩,
  ⟨some 4, none, .mov (.k (.int .i64 0))⟩]
def R39_1 : List GI := [
  ⟨some 6, none, .mov (.t 1)⟩,
  ⟨some 7, none, .fadr 0 (.t 2)⟩,
  ⟨some 8, none, .load (.t 7)⟩,
  ⟨some 9, none, .bin .leq (.t 6) (.t 8)⟩,
  ⟨some 5, none, .mov (.t 9)⟩]
def R39_2 : List GI := [
  ⟨some 10, none, .mov (.t 1)⟩,
  ⟨some 4, none, .mov (.t 10)⟩]
def R39_3 : List GI := [
  ⟨some 12, none, .mov (.t 1)⟩,
  ⟨some 13, none, .fadr 1 (.t 2)⟩,
  ⟨some 14, none, .load (.t 13)⟩,
  ⟨some 15, none, .bin .geq (.t 12) (.t 14)⟩,
  ⟨some 11, none, .mov (.t 15)⟩]
def R39_4 : List GI := [
  ⟨some 16, none, .mov (.t 1)⟩,
  ⟨some 17, none, .fadr 1 (.t 2)⟩,
  ⟨some 18, none, .load (.t 17)⟩,
  ⟨some 19, none, .fadr 0 (.t 2)⟩,
  ⟨some 20, none, .load (.t 19)⟩,
  ⟨some 21, none, .bin .sub (.t 18) (.t 20)⟩,
  ⟨some 22, none, .bin .sub (.t 16) (.t 21)⟩,
  ⟨some 23, none, .fadr 2 (.t 2)⟩,
  ⟨some 24, none, .load (.t 23)⟩,
  ⟨some 25, none, .lent (.t 24)⟩,
  ⟨some 26, none, .bin .add (.t 22) (.t 25)⟩,
  ⟨some 4, none, .mov (.t 26)⟩]
def R39_5 : List GI := [
  ⟨some 27, none, .mov (.t 1)⟩,
  ⟨some 28, none, .fadr 0 (.t 2)⟩,
  ⟨some 29, none, .load (.t 28)⟩,
  ⟨some 30, none, .fadr 2 (.t 2)⟩,
  ⟨some 31, none, .load (.t 30)⟩,
  ⟨some 32, none, .lent (.t 31)⟩,
  ⟨some 33, none, .bin .add (.t 29) (.t 32)⟩,
  ⟨some 34, none, .minmax false [(.t 27), (.t 33)]⟩,
  ⟨some 4, none, .mov (.t 34)⟩]
def A39 : AF := ⟨(.seq (.reg R39_0) (.seq (.block 0 (.seq (.reg R39_1) (.cond (.t 5) (.seq (.reg R39_2) .ret) (.seq (.reg R39_3) (.cond (.t 11) (.seq (.reg R39_4) .ret) .skip))))) (.seq (.reg R39_5) .ret))), [(4, none)]⟩

end
end Go.Rx
