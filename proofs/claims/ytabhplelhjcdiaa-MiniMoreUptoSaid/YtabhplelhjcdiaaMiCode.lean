/- The code of some functions of the given program, as the abstract machine takes it. -/
import Derived.Test.YtabhplelhjcdiaaRxSl
namespace Go.Rx
noncomputable section
/-- rootstock/rootstocklaw08.MiniTurned -/
def R4_0 : List GI := [
  ⟨some 2, none, .box 34 259 (.t 0)⟩,
  ⟨some 4, none, .mov (.k (.bool false))⟩]
def R4_1 : List GI := [
  ⟨some 22, none, .loadn 259 (.t 2)⟩,
  ⟨some 23, none, .call 15 [(.t 22), (.k (.int .i64 5000))]⟩,
  ⟨some 24, none, .mov (.t 23)⟩,
  ⟨some 25, some (24, false), .loadn 259 (.t 2)⟩,
  ⟨some 26, some (24, false), .call 16 [(.t 25)]⟩,
  ⟨some 27, some (24, false), .bin .neq (.t 26) (.k (.int .i64 0))⟩,
  ⟨some 28, none, .pick (.t 24) (.k (.bool true)) (.t 27)⟩]
def R4_2 : List GI := [
  ⟨some 29, none, .call 17 []⟩,
  ⟨some 4, none, .mov (.t 29)⟩]
def R4_3 : List GI := [
  ⟨some 30, none, .loadn 259 (.t 2)⟩,
  ⟨some 31, none, .call 18 [(.t 30)]⟩,
  ⟨some 32, none, .un .not (.t 31)⟩]
def R4_4 : List GI := [
  ⟨some 4, none, .mov (.k (.bool false))⟩]
def R4_5 : List GI := [
  ⟨some 33, none, .fadr 257 (.t 2)⟩,
  ⟨some 34, none, .load (.t 33)⟩,
  ⟨some 35, none, .lens (.t 34)⟩,
  ⟨some 36, none, .fadr 257 (.t 2)⟩,
  ⟨some 37, none, .load (.t 36)⟩,
  ⟨some 38, none, .ixs 1 (.t 37) (.k (.int .i64 0))⟩,
  ⟨some 39, none, .load (.t 38)⟩,
  ⟨some 40, none, .lens (.t 39)⟩,
  ⟨some 5, none, .mov (.t 35)⟩,
  ⟨some 6, none, .mov (.t 40)⟩]
def R4_6 : List GI := [
  ⟨some 41, none, .mov (.t 5)⟩,
  ⟨some 42, none, .mks 3 1 8 [(.int .i64 0)] (.t 41) (.t 41)⟩,
  ⟨some 7, none, .mov (.t 42)⟩]
def R4_7 : List GI := [
  ⟨some 43, none, .mov (.t 6)⟩,
  ⟨some 44, none, .mks 3 1 8 [(.int .i64 0)] (.t 43) (.t 43)⟩,
  ⟨some 8, none, .mov (.t 44)⟩]
def R4_8 : List GI := [
  ⟨some 9, none, .mov (.k (.int .i64 0))⟩]
def R4_9 : List GI := [
  ⟨some 45, none, .mov (.t 9)⟩,
  ⟨some 46, none, .mov (.t 5)⟩,
  ⟨some 47, none, .bin .lss (.t 45) (.t 46)⟩]
def R4_10 : List GI := [
  ⟨some 50, none, .mov (.t 7)⟩,
  ⟨some 51, none, .mov (.t 9)⟩,
  ⟨some 52, none, .mov (.t 9)⟩,
  ⟨some 53, none, .ixs 1 (.t 50) (.t 51)⟩,
  ⟨none, none, .store 1 (.t 53) (.t 52)⟩]
def R4_11 : List GI := [
  ⟨some 48, none, .mov (.t 9)⟩,
  ⟨some 49, none, .bin .add (.t 48) (.k (.int .i64 1))⟩,
  ⟨some 9, none, .mov (.t 49)⟩]
def B4_0 : AC := (.seq (.seq (.reg R4_9) (.cond (.t 47) .skip (.exit 0))) (.seq (.block 1 (.reg R4_10)) (.reg R4_11)))
def R4_12 : List GI := [
  ⟨some 10, none, .mov (.k (.int .i64 0))⟩]
def R4_13 : List GI := [
  ⟨some 54, none, .mov (.t 10)⟩,
  ⟨some 55, none, .mov (.t 6)⟩,
  ⟨some 56, none, .bin .lss (.t 54) (.t 55)⟩]
def R4_14 : List GI := [
  ⟨some 59, none, .mov (.t 8)⟩,
  ⟨some 60, none, .mov (.t 10)⟩,
  ⟨some 61, none, .mov (.t 10)⟩,
  ⟨some 62, none, .ixs 1 (.t 59) (.t 60)⟩,
  ⟨none, none, .store 1 (.t 62) (.t 61)⟩]
def R4_15 : List GI := [
  ⟨some 57, none, .mov (.t 10)⟩,
  ⟨some 58, none, .bin .add (.t 57) (.k (.int .i64 1))⟩,
  ⟨some 10, none, .mov (.t 58)⟩]
def B4_1 : AC := (.seq (.seq (.reg R4_13) (.cond (.t 56) .skip (.exit 2))) (.seq (.block 3 (.reg R4_14)) (.reg R4_15)))
def R4_16 : List GI := [
  ⟨some 11, none, .mov (.k (.int .i64 0))⟩]
def R4_17 : List GI := [
  ⟨some 63, none, .mov (.t 11)⟩,
  ⟨some 64, none, .mov (.t 1)⟩,
  ⟨some 65, none, .lens (.t 64)⟩,
  ⟨some 66, none, .bin .lss (.t 63) (.t 65)⟩,
  ⟨some 67, none, .mov (.t 66)⟩,
  ⟨some 68, some (67, true), .mov (.t 11)⟩,
  ⟨some 69, some (67, true), .bin .lss (.t 68) (.k (.int .i64 1000))⟩,
  ⟨some 70, none, .pick (.t 67) (.t 69) (.k (.bool false))⟩]
def R4_18 : List GI := [
  ⟨some 73, none, .mov (.t 1)⟩,
  ⟨some 74, none, .mov (.t 11)⟩,
  ⟨some 75, none, .ixs 1 (.t 73) (.t 74)⟩,
  ⟨some 76, none, .load (.t 75)⟩,
  ⟨some 77, none, .bin .rem (.t 76) (.k (.int .i64 4096))⟩,
  ⟨some 12, none, .mov (.t 77)⟩]
def R4_19 : List GI := [
  ⟨some 78, none, .mov (.t 12)⟩,
  ⟨some 79, none, .bin .lss (.t 78) (.k (.int .i64 0))⟩]
def R4_20 : List GI := [
  ⟨some 80, none, .mov (.t 12)⟩,
  ⟨some 81, none, .bin .add (.t 80) (.k (.int .i64 4096))⟩,
  ⟨some 12, none, .mov (.t 81)⟩]
def R4_21 : List GI := [
  ⟨some 82, none, .mov (.t 7)⟩,
  ⟨some 83, none, .mov (.t 11)⟩,
  ⟨some 84, none, .mov (.t 5)⟩,
  ⟨some 85, none, .bin .rem (.t 83) (.t 84)⟩,
  ⟨some 86, none, .mov (.t 7)⟩,
  ⟨some 87, none, .mov (.t 12)⟩,
  ⟨some 88, none, .mov (.t 5)⟩,
  ⟨some 89, none, .bin .rem (.t 87) (.t 88)⟩,
  ⟨some 90, none, .mov (.t 7)⟩,
  ⟨some 91, none, .mov (.t 12)⟩,
  ⟨some 92, none, .mov (.t 5)⟩,
  ⟨some 93, none, .bin .rem (.t 91) (.t 92)⟩,
  ⟨some 94, none, .ixs 1 (.t 90) (.t 93)⟩,
  ⟨some 95, none, .load (.t 94)⟩,
  ⟨some 96, none, .mov (.t 7)⟩,
  ⟨some 97, none, .mov (.t 11)⟩,
  ⟨some 98, none, .mov (.t 5)⟩,
  ⟨some 99, none, .bin .rem (.t 97) (.t 98)⟩,
  ⟨some 100, none, .ixs 1 (.t 96) (.t 99)⟩,
  ⟨some 101, none, .load (.t 100)⟩,
  ⟨some 102, none, .ixs 1 (.t 82) (.t 85)⟩,
  ⟨none, none, .store 1 (.t 102) (.t 95)⟩,
  ⟨some 103, none, .ixs 1 (.t 86) (.t 89)⟩,
  ⟨none, none, .store 1 (.t 103) (.t 101)⟩]
def R4_22 : List GI := [
  ⟨some 104, none, .mov (.t 8)⟩,
  ⟨some 105, none, .mov (.t 11)⟩,
  ⟨some 106, none, .mov (.t 6)⟩,
  ⟨some 107, none, .bin .rem (.t 105) (.t 106)⟩,
  ⟨some 108, none, .mov (.t 8)⟩,
  ⟨some 109, none, .mov (.t 12)⟩,
  ⟨some 110, none, .mov (.t 6)⟩,
  ⟨some 111, none, .bin .rem (.t 109) (.t 110)⟩,
  ⟨some 112, none, .mov (.t 8)⟩,
  ⟨some 113, none, .mov (.t 12)⟩,
  ⟨some 114, none, .mov (.t 6)⟩,
  ⟨some 115, none, .bin .rem (.t 113) (.t 114)⟩,
  ⟨some 116, none, .ixs 1 (.t 112) (.t 115)⟩,
  ⟨some 117, none, .load (.t 116)⟩,
  ⟨some 118, none, .mov (.t 8)⟩,
  ⟨some 119, none, .mov (.t 11)⟩,
  ⟨some 120, none, .mov (.t 6)⟩,
  ⟨some 121, none, .bin .rem (.t 119) (.t 120)⟩,
  ⟨some 122, none, .ixs 1 (.t 118) (.t 121)⟩,
  ⟨some 123, none, .load (.t 122)⟩,
  ⟨some 124, none, .ixs 1 (.t 104) (.t 107)⟩,
  ⟨none, none, .store 1 (.t 124) (.t 117)⟩,
  ⟨some 125, none, .ixs 1 (.t 108) (.t 111)⟩,
  ⟨none, none, .store 1 (.t 125) (.t 123)⟩]
def R4_23 : List GI := [
  ⟨some 71, none, .mov (.t 11)⟩,
  ⟨some 72, none, .bin .add (.t 71) (.k (.int .i64 1))⟩,
  ⟨some 11, none, .mov (.t 72)⟩]
def B4_2 : AC := (.seq (.seq (.reg R4_17) (.cond (.t 70) .skip (.exit 4))) (.seq (.block 5 (.seq (.reg R4_18) (.seq (.seq (.reg R4_19) (.cond (.t 79) (.reg R4_20) .skip)) (.seq (.regd R4_21 []) (.regd R4_22 []))))) (.reg R4_23)))
def R4_24 : List GI := [
  ⟨some 126, none, .mov (.t 7)⟩,
  ⟨some 127, none, .fadr 0 (.t 2)⟩,
  ⟨some 128, none, .load (.t 127)⟩,
  ⟨some 129, none, .ixs 1 (.t 126) (.t 128)⟩,
  ⟨some 130, none, .load (.t 129)⟩,
  ⟨some 131, none, .mov (.t 5)⟩,
  ⟨some 132, none, .mks 32 1 24 [(.slice none 0 0)] (.t 131) (.t 131)⟩,
  ⟨some 133, none, .mov (.t 5)⟩,
  ⟨some 134, none, .mks 3 1 8 [(.int .i64 0)] (.t 133) (.t 133)⟩,
  ⟨some 135, none, .build (rl [(1, (.int .i64 0)), (256, (.int .u8 0)), (2, (.slice none 0 0))]) [(0, 1, (.t 130)), (257, 1, (.t 132)), (258, 1, (.t 134))]⟩,
  ⟨some 13, none, .alloc 34 (rl [(1, (.int .i64 0)), (256, (.int .u8 0)), (2, (.slice none 0 0))])⟩,
  ⟨none, none, .store 259 (.t 13) (.t 135)⟩]
def R4_25 : List GI := [
  ⟨some 14, none, .mov (.k (.int .i64 0))⟩]
def R4_26 : List GI := [
  ⟨some 136, none, .mov (.t 14)⟩,
  ⟨some 137, none, .bin .lss (.t 136) (.k (.int .i64 256))⟩]
def R4_27 : List GI := [
  ⟨some 140, none, .mov (.t 14)⟩,
  ⟨some 141, none, .mov (.t 8)⟩,
  ⟨some 142, none, .mov (.t 14)⟩,
  ⟨some 143, none, .fadr 1 (.t 2)⟩,
  ⟨some 144, none, .ixa 256 1 (.t 143) (.t 142)⟩,
  ⟨some 145, none, .load (.t 144)⟩,
  ⟨some 146, none, .ixs 1 (.t 141) (.t 145)⟩,
  ⟨some 147, none, .load (.t 146)⟩,
  ⟨some 148, none, .conv .u8 (.t 147)⟩,
  ⟨some 149, none, .fadr 1 (.t 13)⟩,
  ⟨some 150, none, .ixa 256 1 (.t 149) (.t 140)⟩,
  ⟨none, none, .store 1 (.t 150) (.t 148)⟩]
def R4_28 : List GI := [
  ⟨some 138, none, .mov (.t 14)⟩,
  ⟨some 139, none, .bin .add (.t 138) (.k (.int .i64 1))⟩,
  ⟨some 14, none, .mov (.t 139)⟩]
def B4_3 : AC := (.seq (.seq (.reg R4_26) (.cond (.t 137) .skip (.exit 6))) (.seq (.block 7 (.reg R4_27)) (.reg R4_28)))
def R4_29 : List GI := [
  ⟨some 15, none, .mov (.k (.int .i64 0))⟩]
def R4_30 : List GI := [
  ⟨some 151, none, .mov (.t 15)⟩,
  ⟨some 152, none, .mov (.t 5)⟩,
  ⟨some 153, none, .bin .lss (.t 151) (.t 152)⟩]
def R4_31 : List GI := [
  ⟨some 156, none, .mov (.t 6)⟩,
  ⟨some 157, none, .mks 3 1 8 [(.int .i64 0)] (.t 156) (.t 156)⟩,
  ⟨some 16, none, .mov (.t 157)⟩]
def R4_32 : List GI := [
  ⟨some 17, none, .mov (.k (.int .i64 0))⟩]
def R4_33 : List GI := [
  ⟨some 158, none, .mov (.t 17)⟩,
  ⟨some 159, none, .mov (.t 6)⟩,
  ⟨some 160, none, .bin .lss (.t 158) (.t 159)⟩]
def R4_34 : List GI := [
  ⟨some 163, none, .mov (.t 16)⟩,
  ⟨some 164, none, .mov (.t 8)⟩,
  ⟨some 165, none, .mov (.t 17)⟩,
  ⟨some 166, none, .ixs 1 (.t 164) (.t 165)⟩,
  ⟨some 167, none, .load (.t 166)⟩,
  ⟨some 168, none, .fadr 257 (.t 2)⟩,
  ⟨some 169, none, .load (.t 168)⟩,
  ⟨some 170, none, .mov (.t 15)⟩,
  ⟨some 171, none, .ixs 1 (.t 169) (.t 170)⟩,
  ⟨some 172, none, .load (.t 171)⟩,
  ⟨some 173, none, .mov (.t 17)⟩,
  ⟨some 174, none, .ixs 1 (.t 172) (.t 173)⟩,
  ⟨some 175, none, .load (.t 174)⟩,
  ⟨some 176, none, .ixs 1 (.t 163) (.t 167)⟩,
  ⟨none, none, .store 1 (.t 176) (.t 175)⟩]
def R4_35 : List GI := [
  ⟨some 177, none, .fadr 257 (.t 2)⟩,
  ⟨some 178, none, .load (.t 177)⟩,
  ⟨some 179, none, .mov (.t 15)⟩,
  ⟨some 180, none, .ixs 1 (.t 178) (.t 179)⟩,
  ⟨some 181, none, .load (.t 180)⟩,
  ⟨some 182, none, .mov (.t 17)⟩,
  ⟨some 183, none, .ixs 1 (.t 181) (.t 182)⟩,
  ⟨some 184, none, .load (.t 183)⟩,
  ⟨some 185, none, .bin .geq (.t 184) (.k (.int .i64 0))⟩]
def R4_36 : List GI := [
  ⟨some 186, none, .mov (.t 16)⟩,
  ⟨some 187, none, .mov (.t 8)⟩,
  ⟨some 188, none, .mov (.t 17)⟩,
  ⟨some 189, none, .ixs 1 (.t 187) (.t 188)⟩,
  ⟨some 190, none, .load (.t 189)⟩,
  ⟨some 191, none, .mov (.t 7)⟩,
  ⟨some 192, none, .fadr 257 (.t 2)⟩,
  ⟨some 193, none, .load (.t 192)⟩,
  ⟨some 194, none, .mov (.t 15)⟩,
  ⟨some 195, none, .ixs 1 (.t 193) (.t 194)⟩,
  ⟨some 196, none, .load (.t 195)⟩,
  ⟨some 197, none, .mov (.t 17)⟩,
  ⟨some 198, none, .ixs 1 (.t 196) (.t 197)⟩,
  ⟨some 199, none, .load (.t 198)⟩,
  ⟨some 200, none, .ixs 1 (.t 191) (.t 199)⟩,
  ⟨some 201, none, .load (.t 200)⟩,
  ⟨some 202, none, .ixs 1 (.t 186) (.t 190)⟩,
  ⟨none, none, .store 1 (.t 202) (.t 201)⟩]
def R4_37 : List GI := [
  ⟨some 161, none, .mov (.t 17)⟩,
  ⟨some 162, none, .bin .add (.t 161) (.k (.int .i64 1))⟩,
  ⟨some 17, none, .mov (.t 162)⟩]
def B4_5 : AC := (.seq (.seq (.reg R4_33) (.cond (.t 160) .skip (.exit 10))) (.seq (.block 11 (.seq (.regd R4_34 []) (.seq (.reg R4_35) (.cond (.t 185) (.regd R4_36 []) .skip)))) (.reg R4_37)))
def R4_38 : List GI := [
  ⟨some 203, none, .fadr 257 (.t 13)⟩,
  ⟨some 204, none, .load (.t 203)⟩,
  ⟨some 205, none, .mov (.t 7)⟩,
  ⟨some 206, none, .mov (.t 15)⟩,
  ⟨some 207, none, .ixs 1 (.t 205) (.t 206)⟩,
  ⟨some 208, none, .load (.t 207)⟩,
  ⟨some 209, none, .mov (.t 16)⟩,
  ⟨some 210, none, .ixs 1 (.t 204) (.t 208)⟩,
  ⟨none, none, .store 1 (.t 210) (.t 209)⟩]
def R4_39 : List GI := [
  ⟨some 211, none, .fadr 258 (.t 13)⟩,
  ⟨some 212, none, .load (.t 211)⟩,
  ⟨some 213, none, .mov (.t 7)⟩,
  ⟨some 214, none, .mov (.t 15)⟩,
  ⟨some 215, none, .ixs 1 (.t 213) (.t 214)⟩,
  ⟨some 216, none, .load (.t 215)⟩,
  ⟨some 217, none, .fadr 258 (.t 2)⟩,
  ⟨some 218, none, .load (.t 217)⟩,
  ⟨some 219, none, .mov (.t 15)⟩,
  ⟨some 220, none, .ixs 1 (.t 218) (.t 219)⟩,
  ⟨some 221, none, .load (.t 220)⟩,
  ⟨some 222, none, .ixs 1 (.t 212) (.t 216)⟩,
  ⟨none, none, .store 1 (.t 222) (.t 221)⟩]
def R4_40 : List GI := [
  ⟨some 154, none, .mov (.t 15)⟩,
  ⟨some 155, none, .bin .add (.t 154) (.k (.int .i64 1))⟩,
  ⟨some 15, none, .mov (.t 155)⟩]
def B4_4 : AC := (.seq (.seq (.reg R4_30) (.cond (.t 153) .skip (.exit 8))) (.seq (.block 9 (.seq (.reg R4_31) (.seq (.seq (.reg R4_32) (.block 10 (.loop B4_5))) (.seq (.regd R4_38 []) (.regd R4_39 []))))) (.reg R4_40)))
def R4_41 : List GI := [
  ⟨some 224, none, .loadn 259 (.t 2)⟩,
  ⟨some 225, none, .call 19 [(.t 224)]⟩,
  ⟨some 223, none, .mov (.t 225)⟩,
  ⟨some 226, none, .ext 0 (.t 223)⟩,
  ⟨some 227, none, .ext 1 (.t 223)⟩,
  ⟨some 18, none, .alloc 34 (rl [(1, (.int .i64 0)), (256, (.int .u8 0)), (2, (.slice none 0 0))])⟩,
  ⟨none, none, .store 259 (.t 18) (.t 226)⟩,
  ⟨some 19, none, .mov (.t 227)⟩]
def R4_42 : List GI := [
  ⟨some 229, none, .loadn 259 (.t 13)⟩,
  ⟨some 230, none, .call 19 [(.t 229)]⟩,
  ⟨some 228, none, .mov (.t 230)⟩,
  ⟨some 231, none, .ext 0 (.t 228)⟩,
  ⟨some 232, none, .ext 1 (.t 228)⟩,
  ⟨some 20, none, .alloc 34 (rl [(1, (.int .i64 0)), (256, (.int .u8 0)), (2, (.slice none 0 0))])⟩,
  ⟨none, none, .store 259 (.t 20) (.t 231)⟩,
  ⟨some 21, none, .mov (.t 232)⟩]
def R4_43 : List GI := [
  ⟨some 233, none, .mov (.t 19)⟩,
  ⟨some 234, none, .bin .eql (.t 233) (.k (.int .i64 0))⟩,
  ⟨some 235, none, .mov (.t 234)⟩,
  ⟨some 236, some (235, true), .mov (.t 21)⟩,
  ⟨some 237, some (235, true), .bin .eql (.t 236) (.k (.int .i64 0))⟩,
  ⟨some 238, none, .pick (.t 235) (.t 237) (.k (.bool false))⟩,
  ⟨some 239, none, .mov (.t 238)⟩,
  ⟨some 240, some (239, true), .loadn 259 (.t 18)⟩,
  ⟨some 241, some (239, true), .loadn 259 (.t 20)⟩,
  ⟨some 242, some (239, true), .call 20 [(.t 240), (.t 241)]⟩,
  ⟨some 243, none, .pick (.t 239) (.t 242) (.k (.bool false))⟩,
  ⟨some 244, none, .mov (.t 243)⟩,
  ⟨some 245, some (244, true), .call 17 []⟩,
  ⟨some 246, none, .pick (.t 244) (.t 245) (.k (.bool false))⟩,
  ⟨some 4, none, .mov (.t 246)⟩]
def A4 : AF := ⟨(.seq (.reg R4_0) (.seq (.seq (.reg R4_1) (.cond (.t 28) (.seq (.reg R4_2) .ret) .skip)) (.seq (.seq (.reg R4_3) (.cond (.t 32) (.seq (.reg R4_4) .ret) .skip)) (.seq (.regd R4_5 []) (.seq (.reg R4_6) (.seq (.reg R4_7) (.seq (.seq (.reg R4_8) (.block 0 (.loop B4_0))) (.seq (.seq (.reg R4_12) (.block 2 (.loop B4_1))) (.seq (.seq (.reg R4_16) (.block 4 (.loop B4_2))) (.seq (.regd R4_24 []) (.seq (.seq (.reg R4_25) (.block 6 (.loop B4_3))) (.seq (.seq (.reg R4_29) (.block 8 (.loop B4_4))) (.seq (.reg R4_41) (.seq (.reg R4_42) (.seq (.reg R4_43) .ret))))))))))))))), [(4, none)]⟩

/-- rootstock/rootstocklaw08.MiniMore -/
def R5_0 : List GI := [
  ⟨some 3, none, .box 34 259 (.t 0)⟩,
  ⟨some 6, none, .mov (.k (.bool false))⟩]
def R5_1 : List GI := [
  ⟨some 16, none, .loadn 259 (.t 3)⟩,
  ⟨some 17, none, .call 15 [(.t 16), (.k (.int .i64 5000))]⟩,
  ⟨some 18, none, .mov (.t 17)⟩,
  ⟨some 19, some (18, false), .loadn 259 (.t 3)⟩,
  ⟨some 20, some (18, false), .call 16 [(.t 19)]⟩,
  ⟨some 21, some (18, false), .bin .neq (.t 20) (.k (.int .i64 0))⟩,
  ⟨some 22, none, .pick (.t 18) (.k (.bool true)) (.t 21)⟩,
  ⟨some 23, none, .mov (.t 22)⟩,
  ⟨some 24, some (23, false), .fadr 257 (.t 3)⟩,
  ⟨some 25, some (23, false), .load (.t 24)⟩,
  ⟨some 26, some (23, false), .lens (.t 25)⟩,
  ⟨some 27, some (23, false), .bin .geq (.t 26) (.k (.int .i64 2048))⟩,
  ⟨some 28, none, .pick (.t 23) (.k (.bool true)) (.t 27)⟩,
  ⟨some 29, none, .mov (.t 28)⟩,
  ⟨some 30, some (29, false), .mov (.t 2)⟩,
  ⟨some 31, some (29, false), .bin .geq (.t 30) (.k (.int .i64 48))⟩,
  ⟨some 32, none, .pick (.t 29) (.k (.bool true)) (.t 31)⟩]
def R5_2 : List GI := [
  ⟨some 33, none, .call 17 []⟩,
  ⟨some 6, none, .mov (.t 33)⟩]
def R5_3 : List GI := [
  ⟨some 34, none, .loadn 259 (.t 3)⟩,
  ⟨some 35, none, .call 18 [(.t 34)]⟩,
  ⟨some 36, none, .un .not (.t 35)⟩]
def R5_4 : List GI := [
  ⟨some 6, none, .mov (.k (.bool false))⟩]
def R5_5 : List GI := [
  ⟨some 37, none, .fadr 257 (.t 3)⟩,
  ⟨some 38, none, .load (.t 37)⟩,
  ⟨some 39, none, .lens (.t 38)⟩,
  ⟨some 40, none, .fadr 257 (.t 3)⟩,
  ⟨some 41, none, .load (.t 40)⟩,
  ⟨some 42, none, .ixs 1 (.t 41) (.k (.int .i64 0))⟩,
  ⟨some 43, none, .load (.t 42)⟩,
  ⟨some 44, none, .lens (.t 43)⟩,
  ⟨some 7, none, .mov (.t 39)⟩,
  ⟨some 8, none, .mov (.t 44)⟩]
def R5_6 : List GI := [
  ⟨some 45, none, .mov (.t 8)⟩,
  ⟨some 46, none, .mks 3 1 8 [(.int .i64 0)] (.t 45) (.t 45)⟩,
  ⟨some 9, none, .mov (.t 46)⟩]
def R5_7 : List GI := [
  ⟨some 10, none, .mov (.k (.int .i64 0))⟩]
def R5_8 : List GI := [
  ⟨some 47, none, .mov (.t 10)⟩,
  ⟨some 48, none, .mov (.t 8)⟩,
  ⟨some 49, none, .bin .lss (.t 47) (.t 48)⟩]
def R5_9 : List GI := [
  ⟨some 52, none, .mov (.t 9)⟩,
  ⟨some 53, none, .mov (.t 10)⟩,
  ⟨some 54, none, .ixs 1 (.t 52) (.t 53)⟩,
  ⟨none, none, .store 1 (.t 54) (.k (.int .i64 (-1)))⟩]
def R5_10 : List GI := [
  ⟨some 55, none, .mov (.t 10)⟩,
  ⟨some 56, none, .mov (.t 1)⟩,
  ⟨some 57, none, .lens (.t 56)⟩,
  ⟨some 58, none, .bin .lss (.t 55) (.t 57)⟩]
def R5_11 : List GI := [
  ⟨some 59, none, .mov (.t 9)⟩,
  ⟨some 60, none, .mov (.t 10)⟩,
  ⟨some 61, none, .mov (.t 1)⟩,
  ⟨some 62, none, .mov (.t 10)⟩,
  ⟨some 63, none, .ixs 1 (.t 61) (.t 62)⟩,
  ⟨some 64, none, .load (.t 63)⟩,
  ⟨some 65, none, .mov (.t 7)⟩,
  ⟨some 66, none, .minmax false [(.t 64), (.t 65)]⟩,
  ⟨some 67, none, .ixs 1 (.t 59) (.t 60)⟩,
  ⟨none, none, .store 1 (.t 67) (.t 66)⟩]
def R5_12 : List GI := [
  ⟨some 50, none, .mov (.t 10)⟩,
  ⟨some 51, none, .bin .add (.t 50) (.k (.int .i64 1))⟩,
  ⟨some 10, none, .mov (.t 51)⟩]
def B5_0 : AC := (.seq (.seq (.reg R5_8) (.cond (.t 49) .skip (.exit 0))) (.seq (.block 1 (.seq (.reg R5_9) (.seq (.reg R5_10) (.cond (.t 58) (.reg R5_11) .skip)))) (.reg R5_12)))
def R5_13 : List GI := [
  ⟨some 68, none, .fadr 0 (.t 3)⟩,
  ⟨some 69, none, .load (.t 68)⟩,
  ⟨some 70, none, .fadr 1 (.t 3)⟩,
  ⟨some 71, none, .loadn 256 (.t 70)⟩,
  ⟨some 72, none, .bslice 32 0 [] []⟩,
  ⟨some 73, none, .fadr 257 (.t 3)⟩,
  ⟨some 74, none, .load (.t 73)⟩,
  ⟨some 75, none, .app 32 1 24 (.t 72) (.t 74)⟩,
  ⟨some 76, none, .mov (.t 9)⟩,
  ⟨some 77, none, .bslice 32 1 [(.slice none 0 0)] [(0, 1, (.t 76))]⟩,
  ⟨some 78, none, .app 32 1 24 (.t 75) (.t 77)⟩,
  ⟨some 79, none, .bslice 3 0 [] []⟩,
  ⟨some 80, none, .fadr 258 (.t 3)⟩,
  ⟨some 81, none, .load (.t 80)⟩,
  ⟨some 82, none, .app 3 1 8 (.t 79) (.t 81)⟩,
  ⟨some 83, none, .mov (.t 2)⟩,
  ⟨some 84, none, .bslice 3 1 [(.int .i64 0)] [(0, 1, (.t 83))]⟩,
  ⟨some 85, none, .app 3 1 8 (.t 82) (.t 84)⟩,
  ⟨some 86, none, .build (rl [(1, (.int .i64 0)), (256, (.int .u8 0)), (2, (.slice none 0 0))]) [(0, 1, (.t 69)), (1, 256, (.t 71)), (257, 1, (.t 78)), (258, 1, (.t 85))]⟩,
  ⟨some 11, none, .alloc 34 (rl [(1, (.int .i64 0)), (256, (.int .u8 0)), (2, (.slice none 0 0))])⟩,
  ⟨none, none, .store 259 (.t 11) (.t 86)⟩]
def R5_14 : List GI := [
  ⟨some 88, none, .loadn 259 (.t 3)⟩,
  ⟨some 89, none, .call 19 [(.t 88)]⟩,
  ⟨some 87, none, .mov (.t 89)⟩,
  ⟨some 90, none, .ext 0 (.t 87)⟩,
  ⟨some 91, none, .ext 1 (.t 87)⟩,
  ⟨some 12, none, .alloc 34 (rl [(1, (.int .i64 0)), (256, (.int .u8 0)), (2, (.slice none 0 0))])⟩,
  ⟨none, none, .store 259 (.t 12) (.t 90)⟩,
  ⟨some 13, none, .mov (.t 91)⟩]
def R5_15 : List GI := [
  ⟨some 93, none, .loadn 259 (.t 11)⟩,
  ⟨some 94, none, .call 19 [(.t 93)]⟩,
  ⟨some 92, none, .mov (.t 94)⟩,
  ⟨some 95, none, .ext 0 (.t 92)⟩,
  ⟨some 96, none, .ext 1 (.t 92)⟩,
  ⟨some 14, none, .alloc 34 (rl [(1, (.int .i64 0)), (256, (.int .u8 0)), (2, (.slice none 0 0))])⟩,
  ⟨none, none, .store 259 (.t 14) (.t 95)⟩,
  ⟨some 15, none, .mov (.t 96)⟩]
def R5_16 : List GI := [
  ⟨some 97, none, .mov (.t 13)⟩,
  ⟨some 98, none, .bin .eql (.t 97) (.k (.int .i64 0))⟩,
  ⟨some 99, none, .mov (.t 98)⟩,
  ⟨some 100, some (99, true), .mov (.t 15)⟩,
  ⟨some 101, some (99, true), .bin .eql (.t 100) (.k (.int .i64 0))⟩,
  ⟨some 102, none, .pick (.t 99) (.t 101) (.k (.bool false))⟩,
  ⟨some 103, none, .mov (.t 102)⟩,
  ⟨some 104, some (103, true), .loadn 259 (.t 12)⟩,
  ⟨some 105, some (103, true), .loadn 259 (.t 14)⟩,
  ⟨some 106, some (103, true), .call 20 [(.t 104), (.t 105)]⟩,
  ⟨some 107, none, .pick (.t 103) (.t 106) (.k (.bool false))⟩,
  ⟨some 108, none, .mov (.t 107)⟩,
  ⟨some 109, some (108, true), .call 17 []⟩,
  ⟨some 110, none, .pick (.t 108) (.t 109) (.k (.bool false))⟩,
  ⟨some 6, none, .mov (.t 110)⟩]
def A5 : AF := ⟨(.seq (.reg R5_0) (.seq (.seq (.reg R5_1) (.cond (.t 32) (.seq (.reg R5_2) .ret) .skip)) (.seq (.seq (.reg R5_3) (.cond (.t 36) (.seq (.reg R5_4) .ret) .skip)) (.seq (.regd R5_5 []) (.seq (.reg R5_6) (.seq (.seq (.reg R5_7) (.block 0 (.loop B5_0))) (.seq (.regd R5_13 [(1, 7), (3, 7), (1, 10), (3, 10), (13, 7), (13, 10), (1, 14), (3, 14), (1, 17), (3, 17)]) (.seq (.reg R5_14) (.seq (.reg R5_15) (.seq (.reg R5_16) .ret)))))))))), [(6, none)]⟩

/-- rootstock/rootstocklaw01.DfaBig -/
def R15_0 : List GI := [
  ⟨some 2, none, .box 34 259 (.t 0)⟩,
  ⟨some 4, none, .mov (.k (.bool false))⟩]
def R15_1 : List GI := [
  ⟨some 7, none, .fadr 257 (.t 2)⟩,
  ⟨some 8, none, .load (.t 7)⟩,
  ⟨some 9, none, .lens (.t 8)⟩,
  ⟨some 10, none, .mov (.t 1)⟩,
  ⟨some 11, none, .bin .add (.t 10) (.k (.int .i64 1))⟩,
  ⟨some 12, none, .minmax false [(.t 9), (.t 11)]⟩,
  ⟨some 13, none, .fadr 258 (.t 2)⟩,
  ⟨some 14, none, .load (.t 13)⟩,
  ⟨some 15, none, .lens (.t 14)⟩,
  ⟨some 16, none, .mov (.t 1)⟩,
  ⟨some 17, none, .bin .add (.t 16) (.k (.int .i64 1))⟩,
  ⟨some 18, none, .minmax false [(.t 15), (.t 17)]⟩,
  ⟨some 19, none, .bin .add (.t 12) (.t 18)⟩,
  ⟨some 5, none, .mov (.t 19)⟩]
def R15_2 : List GI := [
  ⟨some 6, none, .mov (.k (.int .i64 0))⟩]
def R15_3 : List GI := [
  ⟨some 20, none, .mov (.t 6)⟩,
  ⟨some 21, none, .fadr 257 (.t 2)⟩,
  ⟨some 22, none, .load (.t 21)⟩,
  ⟨some 23, none, .lens (.t 22)⟩,
  ⟨some 24, none, .bin .lss (.t 20) (.t 23)⟩,
  ⟨some 25, none, .mov (.t 24)⟩,
  ⟨some 26, some (25, true), .mov (.t 5)⟩,
  ⟨some 27, some (25, true), .mov (.t 1)⟩,
  ⟨some 28, some (25, true), .bin .leq (.t 26) (.t 27)⟩,
  ⟨some 29, none, .pick (.t 25) (.t 28) (.k (.bool false))⟩]
def R15_4 : List GI := [
  ⟨some 32, none, .mov (.t 5)⟩,
  ⟨some 33, none, .fadr 257 (.t 2)⟩,
  ⟨some 34, none, .load (.t 33)⟩,
  ⟨some 35, none, .mov (.t 6)⟩,
  ⟨some 36, none, .ixs 1 (.t 34) (.t 35)⟩,
  ⟨some 37, none, .load (.t 36)⟩,
  ⟨some 38, none, .lens (.t 37)⟩,
  ⟨some 39, none, .mov (.t 1)⟩,
  ⟨some 40, none, .bin .add (.t 39) (.k (.int .i64 1))⟩,
  ⟨some 41, none, .minmax false [(.t 38), (.t 40)]⟩,
  ⟨some 42, none, .bin .add (.t 32) (.t 41)⟩,
  ⟨some 5, none, .mov (.t 42)⟩]
def R15_5 : List GI := [
  ⟨some 30, none, .mov (.t 6)⟩,
  ⟨some 31, none, .bin .add (.t 30) (.k (.int .i64 1))⟩,
  ⟨some 6, none, .mov (.t 31)⟩]
def B15_0 : AC := (.seq (.seq (.reg R15_3) (.cond (.t 29) .skip (.exit 0))) (.seq (.block 1 (.reg R15_4)) (.reg R15_5)))
def R15_6 : List GI := [
  ⟨some 43, none, .mov (.t 5)⟩,
  ⟨some 44, none, .mov (.t 1)⟩,
  ⟨some 45, none, .bin .gtr (.t 43) (.t 44)⟩,
  ⟨some 4, none, .mov (.t 45)⟩]
def A15 : AF := ⟨(.seq (.reg R15_0) (.seq (.reg R15_1) (.seq (.seq (.reg R15_2) (.block 0 (.loop B15_0))) (.seq (.reg R15_6) .ret)))), [(4, none)]⟩

/-- rootstock/dfa.Check -/
def R16_0 : List GI := [
  ⟨some 1, none, .box 34 259 (.t 0)⟩,
  ⟨some 2, none, .mov (.k (.int .i64 0))⟩]
def R16_1 : List GI := [
  ⟨some 7, none, .fadr 257 (.t 1)⟩,
  ⟨some 8, none, .load (.t 7)⟩,
  ⟨some 9, none, .lens (.t 8)⟩,
  ⟨some 3, none, .mov (.t 9)⟩]
def R16_2 : List GI := [
  ⟨some 10, none, .mov (.t 3)⟩,
  ⟨some 11, none, .fadr 258 (.t 1)⟩,
  ⟨some 12, none, .load (.t 11)⟩,
  ⟨some 13, none, .lens (.t 12)⟩,
  ⟨some 14, none, .minmax true [(.t 10), (.t 13)]⟩,
  ⟨some 15, none, .bin .gtr (.t 14) (.k (.int .i64 2048))⟩]
def R16_3 : List GI := [
  ⟨some 2, none, .mov (.k (.int .i64 3))⟩]
def R16_4 : List GI := [
  ⟨some 16, none, .mov (.t 3)⟩,
  ⟨some 17, none, .bin .eql (.t 16) (.k (.int .i64 0))⟩,
  ⟨some 18, none, .mov (.t 17)⟩,
  ⟨some 19, some (18, false), .fadr 258 (.t 1)⟩,
  ⟨some 20, some (18, false), .load (.t 19)⟩,
  ⟨some 21, some (18, false), .lens (.t 20)⟩,
  ⟨some 22, some (18, false), .mov (.t 3)⟩,
  ⟨some 23, some (18, false), .bin .neq (.t 21) (.t 22)⟩,
  ⟨some 24, none, .pick (.t 18) (.k (.bool true)) (.t 23)⟩,
  ⟨some 25, none, .mov (.t 24)⟩,
  ⟨some 26, some (25, false), .fadr 0 (.t 1)⟩,
  ⟨some 27, some (25, false), .load (.t 26)⟩,
  ⟨some 28, some (25, false), .bin .lss (.t 27) (.k (.int .i64 0))⟩,
  ⟨some 29, none, .pick (.t 25) (.k (.bool true)) (.t 28)⟩,
  ⟨some 30, none, .mov (.t 29)⟩,
  ⟨some 31, some (30, false), .fadr 0 (.t 1)⟩,
  ⟨some 32, some (30, false), .load (.t 31)⟩,
  ⟨some 33, some (30, false), .mov (.t 3)⟩,
  ⟨some 34, some (30, false), .bin .geq (.t 32) (.t 33)⟩,
  ⟨some 35, none, .pick (.t 30) (.k (.bool true)) (.t 34)⟩]
def R16_5 : List GI := [
  ⟨some 2, none, .mov (.k (.int .i64 2))⟩]
def R16_6 : List GI := [
  ⟨some 36, none, .fadr 257 (.t 1)⟩,
  ⟨some 37, none, .load (.t 36)⟩,
  ⟨some 38, none, .ixs 1 (.t 37) (.k (.int .i64 0))⟩,
  ⟨some 39, none, .load (.t 38)⟩,
  ⟨some 40, none, .lens (.t 39)⟩,
  ⟨some 4, none, .mov (.t 40)⟩]
def R16_7 : List GI := [
  ⟨some 41, none, .mov (.t 4)⟩,
  ⟨some 42, none, .bin .gtr (.t 41) (.k (.int .i64 256))⟩,
  ⟨some 43, none, .mov (.t 42)⟩,
  ⟨some 44, some (43, false), .mov (.t 4)⟩,
  ⟨some 45, some (43, false), .fadr 1 (.t 1)⟩,
  ⟨some 46, some (43, false), .sla 256 1 (.t 45) none none none⟩,
  ⟨some 47, some (43, false), .call 40 [(.t 46)]⟩,
  ⟨some 48, some (43, false), .conv .i64 (.t 47)⟩,
  ⟨some 49, some (43, false), .bin .leq (.t 44) (.t 48)⟩,
  ⟨some 50, none, .pick (.t 43) (.k (.bool true)) (.t 49)⟩]
def R16_8 : List GI := [
  ⟨some 2, none, .mov (.k (.int .i64 2))⟩]
def R16_9 : List GI := [
  ⟨some 51, none, .fadr 257 (.t 1)⟩,
  ⟨some 52, none, .load (.t 51)⟩,
  ⟨some 53, none, .lens (.t 52)⟩,
  ⟨some 54, none, .mov (.k (.int .i64 0))⟩]
def R16_10 : List GI := [
  ⟨some 55, none, .bin .lss (.t 54) (.t 53)⟩]
def R16_11 : List GI := [
  ⟨some 56, none, .mov (.t 54)⟩,
  ⟨some 57, none, .ixs 1 (.t 52) (.t 54)⟩,
  ⟨some 58, none, .load (.t 57)⟩,
  ⟨some 5, none, .mov (.t 56)⟩,
  ⟨some 6, none, .mov (.t 58)⟩]
def R16_12 : List GI := [
  ⟨some 59, none, .mov (.t 6)⟩,
  ⟨some 60, none, .lens (.t 59)⟩,
  ⟨some 61, none, .mov (.t 4)⟩,
  ⟨some 62, none, .bin .neq (.t 60) (.t 61)⟩,
  ⟨some 63, none, .mov (.t 62)⟩,
  ⟨some 64, some (63, false), .mov (.t 6)⟩,
  ⟨some 65, some (63, false), .call 41 [(.t 64)]⟩,
  ⟨some 66, some (63, false), .mov (.t 3)⟩,
  ⟨some 67, some (63, false), .bin .geq (.t 65) (.t 66)⟩,
  ⟨some 68, none, .pick (.t 63) (.k (.bool true)) (.t 67)⟩,
  ⟨some 69, none, .mov (.t 68)⟩,
  ⟨some 70, some (69, false), .fadr 258 (.t 1)⟩,
  ⟨some 71, some (69, false), .load (.t 70)⟩,
  ⟨some 72, some (69, false), .mov (.t 5)⟩,
  ⟨some 73, some (69, false), .ixs 1 (.t 71) (.t 72)⟩,
  ⟨some 74, some (69, false), .load (.t 73)⟩,
  ⟨some 75, some (69, false), .bin .geq (.t 74) (.k (.int .i64 48))⟩,
  ⟨some 76, none, .pick (.t 69) (.k (.bool true)) (.t 75)⟩]
def R16_13 : List GI := [
  ⟨some 2, none, .mov (.k (.int .i64 2))⟩]
def R16_14 : List GI := [
  ⟨some 77, none, .bin .add (.t 54) (.k (.int .i64 1))⟩,
  ⟨some 54, none, .mov (.t 77)⟩]
def B16_0 : AC := (.seq (.reg R16_10) (.seq (.cond (.t 55) .skip (.exit 0)) (.seq (.block 1 (.seq (.reg R16_11) (.seq (.reg R16_12) (.cond (.t 76) (.seq (.reg R16_13) .ret) .skip)))) (.reg R16_14))))
def R16_15 : List GI := [
  ⟨some 2, none, .mov (.k (.int .i64 0))⟩]
def A16 : AF := ⟨(.seq (.reg R16_0) (.seq (.reg R16_1) (.seq (.seq (.reg R16_2) (.cond (.t 15) (.seq (.reg R16_3) .ret) .skip)) (.seq (.seq (.reg R16_4) (.cond (.t 35) (.seq (.reg R16_5) .ret) .skip)) (.seq (.reg R16_6) (.seq (.seq (.reg R16_7) (.cond (.t 50) (.seq (.reg R16_8) .ret) .skip)) (.seq (.seq (.reg R16_9) (.block 0 (.loop B16_0))) (.seq (.reg R16_15) .ret)))))))), [(2, none)]⟩

/-- rootstock/rootstocklaw08.alive -/
def R17_0 : List GI := [
  ⟨some 0, none, .mov (.k (.bool false))⟩]
def R17_1 : List GI := [
  ⟨some 11, none, .call 42 []⟩,
  ⟨some 12, none, .call 19 [(.t 11)]⟩,
  ⟨some 10, none, .mov (.t 12)⟩,
  ⟨some 13, none, .ext 0 (.t 10)⟩,
  ⟨some 14, none, .ext 1 (.t 10)⟩,
  ⟨some 1, none, .alloc 34 (rl [(1, (.int .i64 0)), (256, (.int .u8 0)), (2, (.slice none 0 0))])⟩,
  ⟨none, none, .store 259 (.t 1) (.t 13)⟩,
  ⟨some 2, none, .mov (.t 14)⟩]
def R17_2 : List GI := [
  ⟨some 15, none, .call 42 []⟩,
  ⟨some 3, none, .alloc 34 (rl [(1, (.int .i64 0)), (256, (.int .u8 0)), (2, (.slice none 0 0))])⟩,
  ⟨none, none, .store 259 (.t 3) (.t 15)⟩]
def R17_3 : List GI := [
  ⟨some 16, none, .fadr 0 (.t 3)⟩,
  ⟨none, none, .store 1 (.t 16) (.k (.int .i64 4))⟩]
def R17_4 : List GI := [
  ⟨some 18, none, .call 42 []⟩,
  ⟨some 19, none, .loadn 259 (.t 1)⟩,
  ⟨some 20, none, .call 43 [(.t 18), (.t 19)]⟩,
  ⟨some 17, none, .mov (.t 20)⟩,
  ⟨some 21, none, .ext 0 (.t 17)⟩,
  ⟨some 22, none, .ext 1 (.t 17)⟩,
  ⟨some 4, none, .mov (.t 21)⟩,
  ⟨some 5, none, .mov (.t 22)⟩]
def R17_5 : List GI := [
  ⟨some 24, none, .call 42 []⟩,
  ⟨some 25, none, .loadn 259 (.t 3)⟩,
  ⟨some 26, none, .call 43 [(.t 24), (.t 25)]⟩,
  ⟨some 23, none, .mov (.t 26)⟩,
  ⟨some 27, none, .ext 0 (.t 23)⟩,
  ⟨some 28, none, .ext 1 (.t 23)⟩,
  ⟨some 6, none, .mov (.t 27)⟩,
  ⟨some 7, none, .mov (.t 28)⟩]
def R17_6 : List GI := [
  ⟨some 30, none, .build (rl [(1, (.int .i64 0)), (256, (.int .u8 0)), (2, (.slice none 0 0))]) []⟩,
  ⟨some 31, none, .call 19 [(.t 30)]⟩,
  ⟨some 29, none, .mov (.t 31)⟩,
  ⟨some 32, none, .ext 0 (.t 29)⟩,
  ⟨some 33, none, .ext 1 (.t 29)⟩,
  ⟨some 8, none, .alloc 34 (rl [(1, (.int .i64 0)), (256, (.int .u8 0)), (2, (.slice none 0 0))])⟩,
  ⟨none, none, .store 259 (.t 8) (.t 32)⟩,
  ⟨some 9, none, .mov (.t 33)⟩]
def R17_7 : List GI := [
  ⟨some 34, none, .mov (.t 2)⟩,
  ⟨some 35, none, .bin .eql (.t 34) (.k (.int .i64 0))⟩,
  ⟨some 36, none, .mov (.t 35)⟩,
  ⟨some 37, some (36, true), .fadr 257 (.t 1)⟩,
  ⟨some 38, some (36, true), .load (.t 37)⟩,
  ⟨some 39, some (36, true), .lens (.t 38)⟩,
  ⟨some 40, some (36, true), .bin .eql (.t 39) (.k (.int .i64 2))⟩,
  ⟨some 41, none, .pick (.t 36) (.t 40) (.k (.bool false))⟩,
  ⟨some 42, none, .mov (.t 41)⟩,
  ⟨some 43, some (42, true), .fadr 258 (.t 1)⟩,
  ⟨some 44, some (42, true), .load (.t 43)⟩,
  ⟨some 45, some (42, true), .bslice 3 2 [(.int .i64 0), (.int .i64 0)] [(0, 1, (.k (.int .i64 (-1)))), (1, 1, (.k (.int .i64 7)))]⟩,
  ⟨some 46, some (42, true), .call 44 [(.t 44), (.t 45)]⟩,
  ⟨some 47, none, .pick (.t 42) (.t 46) (.k (.bool false))⟩,
  ⟨some 48, none, .mov (.t 47)⟩,
  ⟨some 49, some (48, true), .fadr 257 (.t 1)⟩,
  ⟨some 50, some (48, true), .load (.t 49)⟩,
  ⟨some 51, some (48, true), .ixs 1 (.t 50) (.k (.int .i64 1))⟩,
  ⟨some 52, some (48, true), .load (.t 51)⟩,
  ⟨some 53, some (48, true), .bslice 3 2 [(.int .i64 0), (.int .i64 0)] [(0, 1, (.k (.int .i64 (-1)))), (1, 1, (.k (.int .i64 1)))]⟩,
  ⟨some 54, some (48, true), .call 44 [(.t 52), (.t 53)]⟩,
  ⟨some 55, none, .pick (.t 48) (.t 54) (.k (.bool false))⟩,
  ⟨some 56, none, .mov (.t 55)⟩,
  ⟨some 57, some (56, true), .mov (.t 4)⟩,
  ⟨some 58, none, .pick (.t 56) (.t 57) (.k (.bool false))⟩,
  ⟨some 59, none, .mov (.t 58)⟩,
  ⟨some 60, some (59, true), .mov (.t 6)⟩,
  ⟨some 61, some (59, true), .un .not (.t 60)⟩,
  ⟨some 62, none, .pick (.t 59) (.t 61) (.k (.bool false))⟩,
  ⟨some 63, none, .mov (.t 62)⟩,
  ⟨some 64, some (63, true), .mov (.t 5)⟩,
  ⟨some 65, some (63, true), .bin .eql (.t 64) (.k (.int .i64 0))⟩,
  ⟨some 66, none, .pick (.t 63) (.t 65) (.k (.bool false))⟩,
  ⟨some 67, none, .mov (.t 66)⟩,
  ⟨some 68, some (67, true), .mov (.t 7)⟩,
  ⟨some 69, some (67, true), .bin .eql (.t 68) (.k (.int .i64 0))⟩,
  ⟨some 70, none, .pick (.t 67) (.t 69) (.k (.bool false))⟩,
  ⟨some 71, none, .mov (.t 70)⟩,
  ⟨some 72, some (71, true), .mov (.t 9)⟩,
  ⟨some 73, some (71, true), .bin .eql (.t 72) (.k (.int .i64 2))⟩,
  ⟨some 74, none, .pick (.t 71) (.t 73) (.k (.bool false))⟩,
  ⟨some 0, none, .mov (.t 74)⟩]
def A17 : AF := ⟨(.seq (.reg R17_0) (.seq (.reg R17_1) (.seq (.reg R17_2) (.seq (.reg R17_3) (.seq (.regd R17_4 [(1, 0)]) (.seq (.regd R17_5 [(1, 0)]) (.seq (.reg R17_6) (.seq (.reg R17_7) .ret)))))))), [(0, none)]⟩

/-- rootstock/rootstocklaw01.DfaWhole -/
def R18_0 : List GI := [
  ⟨some 1, none, .box 34 259 (.t 0)⟩,
  ⟨some 2, none, .mov (.k (.bool false))⟩]
def R18_1 : List GI := [
  ⟨some 7, none, .fadr 257 (.t 1)⟩,
  ⟨some 8, none, .load (.t 7)⟩,
  ⟨some 9, none, .lens (.t 8)⟩,
  ⟨some 3, none, .mov (.t 9)⟩]
def R18_2 : List GI := [
  ⟨some 10, none, .mov (.t 3)⟩,
  ⟨some 11, none, .bin .eql (.t 10) (.k (.int .i64 0))⟩,
  ⟨some 12, none, .mov (.t 11)⟩,
  ⟨some 13, some (12, false), .fadr 258 (.t 1)⟩,
  ⟨some 14, some (12, false), .load (.t 13)⟩,
  ⟨some 15, some (12, false), .lens (.t 14)⟩,
  ⟨some 16, some (12, false), .mov (.t 3)⟩,
  ⟨some 17, some (12, false), .bin .neq (.t 15) (.t 16)⟩,
  ⟨some 18, none, .pick (.t 12) (.k (.bool true)) (.t 17)⟩,
  ⟨some 19, none, .mov (.t 18)⟩,
  ⟨some 20, some (19, false), .fadr 257 (.t 1)⟩,
  ⟨some 21, some (19, false), .load (.t 20)⟩,
  ⟨some 22, some (19, false), .ixs 1 (.t 21) (.k (.int .i64 0))⟩,
  ⟨some 23, some (19, false), .load (.t 22)⟩,
  ⟨some 24, some (19, false), .lens (.t 23)⟩,
  ⟨some 25, some (19, false), .bin .eql (.t 24) (.k (.int .i64 0))⟩,
  ⟨some 26, none, .pick (.t 19) (.k (.bool true)) (.t 25)⟩,
  ⟨some 27, none, .mov (.t 26)⟩,
  ⟨some 28, some (27, false), .fadr 0 (.t 1)⟩,
  ⟨some 29, some (27, false), .load (.t 28)⟩,
  ⟨some 30, some (27, false), .bin .lss (.t 29) (.k (.int .i64 0))⟩,
  ⟨some 31, none, .pick (.t 27) (.k (.bool true)) (.t 30)⟩,
  ⟨some 32, none, .mov (.t 31)⟩,
  ⟨some 33, some (32, false), .fadr 0 (.t 1)⟩,
  ⟨some 34, some (32, false), .load (.t 33)⟩,
  ⟨some 35, some (32, false), .mov (.t 3)⟩,
  ⟨some 36, some (32, false), .bin .geq (.t 34) (.t 35)⟩,
  ⟨some 37, none, .pick (.t 32) (.k (.bool true)) (.t 36)⟩]
def R18_3 : List GI := [
  ⟨some 2, none, .mov (.k (.bool false))⟩]
def R18_4 : List GI := [
  ⟨some 4, none, .mov (.k (.int .i64 0))⟩]
def R18_5 : List GI := [
  ⟨some 38, none, .mov (.t 4)⟩,
  ⟨some 39, none, .mov (.t 3)⟩,
  ⟨some 40, none, .bin .lss (.t 38) (.t 39)⟩]
def R18_6 : List GI := [
  ⟨some 43, none, .fadr 257 (.t 1)⟩,
  ⟨some 44, none, .load (.t 43)⟩,
  ⟨some 45, none, .mov (.t 4)⟩,
  ⟨some 46, none, .ixs 1 (.t 44) (.t 45)⟩,
  ⟨some 47, none, .load (.t 46)⟩,
  ⟨some 48, none, .lens (.t 47)⟩,
  ⟨some 49, none, .fadr 257 (.t 1)⟩,
  ⟨some 50, none, .load (.t 49)⟩,
  ⟨some 51, none, .ixs 1 (.t 50) (.k (.int .i64 0))⟩,
  ⟨some 52, none, .load (.t 51)⟩,
  ⟨some 53, none, .lens (.t 52)⟩,
  ⟨some 54, none, .bin .neq (.t 48) (.t 53)⟩]
def R18_7 : List GI := [
  ⟨some 2, none, .mov (.k (.bool false))⟩]
def R18_8 : List GI := [
  ⟨some 5, none, .mov (.k (.int .i64 0))⟩]
def R18_9 : List GI := [
  ⟨some 55, none, .mov (.t 5)⟩,
  ⟨some 56, none, .fadr 257 (.t 1)⟩,
  ⟨some 57, none, .load (.t 56)⟩,
  ⟨some 58, none, .mov (.t 4)⟩,
  ⟨some 59, none, .ixs 1 (.t 57) (.t 58)⟩,
  ⟨some 60, none, .load (.t 59)⟩,
  ⟨some 61, none, .lens (.t 60)⟩,
  ⟨some 62, none, .bin .lss (.t 55) (.t 61)⟩]
def R18_10 : List GI := [
  ⟨some 65, none, .fadr 257 (.t 1)⟩,
  ⟨some 66, none, .load (.t 65)⟩,
  ⟨some 67, none, .mov (.t 4)⟩,
  ⟨some 68, none, .ixs 1 (.t 66) (.t 67)⟩,
  ⟨some 69, none, .load (.t 68)⟩,
  ⟨some 70, none, .mov (.t 5)⟩,
  ⟨some 71, none, .ixs 1 (.t 69) (.t 70)⟩,
  ⟨some 72, none, .load (.t 71)⟩,
  ⟨some 73, none, .mov (.t 3)⟩,
  ⟨some 74, none, .bin .geq (.t 72) (.t 73)⟩]
def R18_11 : List GI := [
  ⟨some 2, none, .mov (.k (.bool false))⟩]
def R18_12 : List GI := [
  ⟨some 63, none, .mov (.t 5)⟩,
  ⟨some 64, none, .bin .add (.t 63) (.k (.int .i64 1))⟩,
  ⟨some 5, none, .mov (.t 64)⟩]
def B18_1 : AC := (.seq (.seq (.reg R18_9) (.cond (.t 62) .skip (.exit 2))) (.seq (.block 3 (.seq (.reg R18_10) (.cond (.t 74) (.seq (.reg R18_11) .ret) .skip))) (.reg R18_12)))
def R18_13 : List GI := [
  ⟨some 41, none, .mov (.t 4)⟩,
  ⟨some 42, none, .bin .add (.t 41) (.k (.int .i64 1))⟩,
  ⟨some 4, none, .mov (.t 42)⟩]
def B18_0 : AC := (.seq (.seq (.reg R18_5) (.cond (.t 40) .skip (.exit 0))) (.seq (.block 1 (.seq (.seq (.regd R18_6 []) (.cond (.t 54) (.seq (.reg R18_7) .ret) .skip)) (.seq (.reg R18_8) (.block 2 (.loop B18_1))))) (.reg R18_13)))
def R18_14 : List GI := [
  ⟨some 6, none, .mov (.k (.int .i64 0))⟩]
def R18_15 : List GI := [
  ⟨some 75, none, .mov (.t 6)⟩,
  ⟨some 76, none, .bin .lss (.t 75) (.k (.int .i64 256))⟩]
def R18_16 : List GI := [
  ⟨some 79, none, .mov (.t 6)⟩,
  ⟨some 80, none, .fadr 1 (.t 1)⟩,
  ⟨some 81, none, .ixa 256 1 (.t 80) (.t 79)⟩,
  ⟨some 82, none, .load (.t 81)⟩,
  ⟨some 83, none, .conv .i64 (.t 82)⟩,
  ⟨some 84, none, .fadr 257 (.t 1)⟩,
  ⟨some 85, none, .load (.t 84)⟩,
  ⟨some 86, none, .ixs 1 (.t 85) (.k (.int .i64 0))⟩,
  ⟨some 87, none, .load (.t 86)⟩,
  ⟨some 88, none, .lens (.t 87)⟩,
  ⟨some 89, none, .bin .geq (.t 83) (.t 88)⟩]
def R18_17 : List GI := [
  ⟨some 2, none, .mov (.k (.bool false))⟩]
def R18_18 : List GI := [
  ⟨some 77, none, .mov (.t 6)⟩,
  ⟨some 78, none, .bin .add (.t 77) (.k (.int .i64 1))⟩,
  ⟨some 6, none, .mov (.t 78)⟩]
def B18_2 : AC := (.seq (.seq (.reg R18_15) (.cond (.t 76) .skip (.exit 4))) (.seq (.block 5 (.seq (.regd R18_16 []) (.cond (.t 89) (.seq (.reg R18_17) .ret) .skip))) (.reg R18_18)))
def R18_19 : List GI := [
  ⟨some 2, none, .mov (.k (.bool true))⟩]
def A18 : AF := ⟨(.seq (.reg R18_0) (.seq (.reg R18_1) (.seq (.seq (.reg R18_2) (.cond (.t 37) (.seq (.reg R18_3) .ret) .skip)) (.seq (.seq (.reg R18_4) (.block 0 (.loop B18_0))) (.seq (.seq (.reg R18_14) (.block 4 (.loop B18_2))) (.seq (.reg R18_19) .ret)))))), [(2, none)]⟩

/-- rootstock/mini.Least -/
def R19_0 : List GI := [
  ⟨some 1, none, .box 34 259 (.t 0)⟩,
  ⟨some 2, none, .alloc 34 (rl [(1, (.int .i64 0)), (256, (.int .u8 0)), (2, (.slice none 0 0))])⟩,
  ⟨some 3, none, .mov (.k (.int .i64 0))⟩]
def R19_1 : List GI := [
  ⟨some 17, none, .loadn 259 (.t 1)⟩,
  ⟨some 18, none, .call 16 [(.t 17)]⟩,
  ⟨some 4, none, .mov (.t 18)⟩]
def R19_2 : List GI := [
  ⟨some 19, none, .mov (.t 4)⟩,
  ⟨some 20, none, .bin .neq (.t 19) (.k (.int .i64 0))⟩]
def R19_3 : List GI := [
  ⟨some 21, none, .build (rl [(1, (.int .i64 0)), (256, (.int .u8 0)), (2, (.slice none 0 0))]) []⟩,
  ⟨some 22, none, .mov (.t 4)⟩,
  ⟨none, none, .store 259 (.t 2) (.t 21)⟩,
  ⟨some 3, none, .mov (.t 22)⟩]
def R19_4 : List GI := [
  ⟨some 23, none, .loadn 259 (.t 1)⟩,
  ⟨some 24, none, .call 45 [(.t 23)]⟩,
  ⟨some 5, none, .mov (.t 24)⟩]
def R19_5 : List GI := [
  ⟨some 25, none, .mov (.t 5)⟩,
  ⟨some 26, none, .call 46 [(.t 25)]⟩,
  ⟨some 6, none, .mov (.t 26)⟩]
def R19_6 : List GI := [
  ⟨some 27, none, .mov (.t 6)⟩,
  ⟨some 28, none, .lens (.t 27)⟩,
  ⟨some 29, none, .mks 3 1 8 [(.int .i64 0)] (.t 28) (.t 28)⟩,
  ⟨some 7, none, .mov (.t 29)⟩]
def R19_7 : List GI := [
  ⟨some 30, none, .mov (.t 5)⟩,
  ⟨some 31, none, .nilchk (.t 30)⟩,
  ⟨some 32, none, .fadr 259 (.t 31)⟩,
  ⟨some 33, none, .load (.t 32)⟩,
  ⟨some 34, none, .bslice 3 1 [(.int .i64 0)] [(0, 1, (.t 33))]⟩,
  ⟨some 8, none, .mov (.t 34)⟩]
def R19_8 : List GI := [
  ⟨some 35, none, .mov (.t 7)⟩,
  ⟨some 36, none, .mov (.t 6)⟩,
  ⟨some 37, none, .mov (.t 5)⟩,
  ⟨some 38, none, .nilchk (.t 37)⟩,
  ⟨some 39, none, .fadr 259 (.t 38)⟩,
  ⟨some 40, none, .load (.t 39)⟩,
  ⟨some 41, none, .ixs 1 (.t 36) (.t 40)⟩,
  ⟨some 42, none, .load (.t 41)⟩,
  ⟨some 43, none, .ixs 1 (.t 35) (.t 42)⟩,
  ⟨none, none, .store 1 (.t 43) (.k (.int .i64 1))⟩]
def R19_9 : List GI := [
  ⟨some 9, none, .mov (.k (.slice none 0 0))⟩]
def R19_10 : List GI := [
  ⟨some 10, none, .mov (.k (.int .i64 0))⟩]
def R19_11 : List GI := [
  ⟨some 44, none, .mov (.t 10)⟩,
  ⟨some 45, none, .mov (.t 8)⟩,
  ⟨some 46, none, .lens (.t 45)⟩,
  ⟨some 47, none, .bin .lss (.t 44) (.t 46)⟩]
def R19_12 : List GI := [
  ⟨some 50, none, .mov (.t 5)⟩,
  ⟨some 51, none, .nilchk (.t 50)⟩,
  ⟨some 52, none, .fadr 0 (.t 51)⟩,
  ⟨some 53, none, .load (.t 52)⟩,
  ⟨some 54, none, .lens (.t 53)⟩,
  ⟨some 55, none, .mks 3 1 8 [(.int .i64 0)] (.t 54) (.t 54)⟩,
  ⟨some 11, none, .mov (.t 55)⟩]
def R19_13 : List GI := [
  ⟨some 56, none, .mov (.t 5)⟩,
  ⟨some 57, none, .nilchk (.t 56)⟩,
  ⟨some 58, none, .fadr 257 (.t 57)⟩,
  ⟨some 59, none, .load (.t 58)⟩,
  ⟨some 60, none, .mov (.t 8)⟩,
  ⟨some 61, none, .mov (.t 10)⟩,
  ⟨some 62, none, .ixs 1 (.t 60) (.t 61)⟩,
  ⟨some 63, none, .load (.t 62)⟩,
  ⟨some 64, none, .ixs 1 (.t 59) (.t 63)⟩,
  ⟨some 65, none, .load (.t 64)⟩,
  ⟨some 66, none, .lens (.t 65)⟩,
  ⟨some 67, none, .mov (.k (.int .i64 0))⟩]
def R19_14 : List GI := [
  ⟨some 68, none, .bin .lss (.t 67) (.t 66)⟩]
def R19_15 : List GI := [
  ⟨some 69, none, .mov (.t 67)⟩,
  ⟨some 70, none, .ixs 1 (.t 65) (.t 67)⟩,
  ⟨some 71, none, .load (.t 70)⟩,
  ⟨some 12, none, .mov (.t 69)⟩,
  ⟨some 13, none, .mov (.t 71)⟩]
def R19_16 : List GI := [
  ⟨some 72, none, .mov (.t 13)⟩,
  ⟨some 73, none, .bin .lss (.t 72) (.k (.int .i64 0))⟩]
def R19_17 : List GI := [
  ⟨some 74, none, .mov (.t 11)⟩,
  ⟨some 75, none, .mov (.t 12)⟩,
  ⟨some 76, none, .ixs 1 (.t 74) (.t 75)⟩,
  ⟨none, none, .store 1 (.t 76) (.k (.int .i64 (-1)))⟩]
def R19_18 : List GI := [
  ⟨some 77, none, .mov (.t 7)⟩,
  ⟨some 78, none, .mov (.t 6)⟩,
  ⟨some 79, none, .mov (.t 13)⟩,
  ⟨some 80, none, .ixs 1 (.t 78) (.t 79)⟩,
  ⟨some 81, none, .load (.t 80)⟩,
  ⟨some 82, none, .ixs 1 (.t 77) (.t 81)⟩,
  ⟨some 83, none, .load (.t 82)⟩,
  ⟨some 84, none, .bin .eql (.t 83) (.k (.int .i64 0))⟩]
def R19_19 : List GI := [
  ⟨some 85, none, .mov (.t 8)⟩,
  ⟨some 86, none, .mov (.t 13)⟩,
  ⟨some 87, none, .bslice 3 1 [(.int .i64 0)] [(0, 1, (.t 86))]⟩,
  ⟨some 88, none, .app 3 1 8 (.t 85) (.t 87)⟩,
  ⟨some 8, none, .mov (.t 88)⟩]
def R19_20 : List GI := [
  ⟨some 89, none, .mov (.t 7)⟩,
  ⟨some 90, none, .mov (.t 6)⟩,
  ⟨some 91, none, .mov (.t 13)⟩,
  ⟨some 92, none, .ixs 1 (.t 90) (.t 91)⟩,
  ⟨some 93, none, .load (.t 92)⟩,
  ⟨some 94, none, .mov (.t 8)⟩,
  ⟨some 95, none, .lens (.t 94)⟩,
  ⟨some 96, none, .ixs 1 (.t 89) (.t 93)⟩,
  ⟨none, none, .store 1 (.t 96) (.t 95)⟩]
def R19_21 : List GI := [
  ⟨some 97, none, .mov (.t 11)⟩,
  ⟨some 98, none, .mov (.t 12)⟩,
  ⟨some 99, none, .mov (.t 7)⟩,
  ⟨some 100, none, .mov (.t 6)⟩,
  ⟨some 101, none, .mov (.t 13)⟩,
  ⟨some 102, none, .ixs 1 (.t 100) (.t 101)⟩,
  ⟨some 103, none, .load (.t 102)⟩,
  ⟨some 104, none, .ixs 1 (.t 99) (.t 103)⟩,
  ⟨some 105, none, .load (.t 104)⟩,
  ⟨some 106, none, .bin .sub (.t 105) (.k (.int .i64 1))⟩,
  ⟨some 107, none, .ixs 1 (.t 97) (.t 98)⟩,
  ⟨none, none, .store 1 (.t 107) (.t 106)⟩]
def R19_22 : List GI := [
  ⟨some 108, none, .bin .add (.t 67) (.k (.int .i64 1))⟩,
  ⟨some 67, none, .mov (.t 108)⟩]
def B19_1 : AC := (.seq (.reg R19_14) (.seq (.cond (.t 68) .skip (.exit 2)) (.seq (.block 3 (.seq (.reg R19_15) (.seq (.seq (.reg R19_16) (.cond (.t 73) (.seq (.reg R19_17) (.exit 3)) .skip)) (.seq (.seq (.reg R19_18) (.cond (.t 84) (.seq (.reg R19_19) (.reg R19_20)) .skip)) (.reg R19_21))))) (.reg R19_22))))
def R19_23 : List GI := [
  ⟨some 109, none, .mov (.t 9)⟩,
  ⟨some 110, none, .mov (.t 11)⟩,
  ⟨some 111, none, .bslice 32 1 [(.slice none 0 0)] [(0, 1, (.t 110))]⟩,
  ⟨some 112, none, .app 32 1 24 (.t 109) (.t 111)⟩,
  ⟨some 9, none, .mov (.t 112)⟩]
def R19_24 : List GI := [
  ⟨some 48, none, .mov (.t 10)⟩,
  ⟨some 49, none, .bin .add (.t 48) (.k (.int .i64 1))⟩,
  ⟨some 10, none, .mov (.t 49)⟩]
def B19_0 : AC := (.seq (.seq (.reg R19_11) (.cond (.t 47) .skip (.exit 0))) (.seq (.block 1 (.seq (.reg R19_12) (.seq (.seq (.regd R19_13 []) (.block 2 (.loop B19_1))) (.reg R19_23)))) (.reg R19_24)))
def R19_25 : List GI := [
  ⟨some 113, none, .build (rl [(1, (.int .i64 0)), (256, (.int .u8 0)), (2, (.slice none 0 0))]) []⟩,
  ⟨some 14, none, .alloc 34 (rl [(1, (.int .i64 0)), (256, (.int .u8 0)), (2, (.slice none 0 0))])⟩,
  ⟨none, none, .store 259 (.t 14) (.t 113)⟩]
def R19_26 : List GI := [
  ⟨some 114, none, .mov (.t 8)⟩,
  ⟨some 115, none, .lens (.t 114)⟩,
  ⟨some 116, none, .mov (.k (.int .i64 0))⟩]
def R19_27 : List GI := [
  ⟨some 117, none, .bin .lss (.t 116) (.t 115)⟩]
def R19_28 : List GI := [
  ⟨some 118, none, .ixs 1 (.t 114) (.t 116)⟩,
  ⟨some 119, none, .load (.t 118)⟩,
  ⟨some 16, none, .mov (.t 119)⟩]
def R19_29 : List GI := [
  ⟨some 120, none, .fadr 258 (.t 14)⟩,
  ⟨some 121, none, .load (.t 120)⟩,
  ⟨some 122, none, .mov (.t 5)⟩,
  ⟨some 123, none, .nilchk (.t 122)⟩,
  ⟨some 124, none, .fadr 258 (.t 123)⟩,
  ⟨some 125, none, .load (.t 124)⟩,
  ⟨some 126, none, .mov (.t 16)⟩,
  ⟨some 127, none, .ixs 1 (.t 125) (.t 126)⟩,
  ⟨some 128, none, .load (.t 127)⟩,
  ⟨some 129, none, .bslice 3 1 [(.int .i64 0)] [(0, 1, (.t 128))]⟩,
  ⟨some 130, none, .app 3 1 8 (.t 121) (.t 129)⟩,
  ⟨some 131, none, .fadr 258 (.t 14)⟩,
  ⟨none, none, .store 1 (.t 131) (.t 130)⟩]
def R19_30 : List GI := [
  ⟨some 132, none, .bin .add (.t 116) (.k (.int .i64 1))⟩,
  ⟨some 116, none, .mov (.t 132)⟩]
def B19_2 : AC := (.seq (.reg R19_27) (.seq (.cond (.t 117) .skip (.exit 4)) (.seq (.block 5 (.seq (.reg R19_28) (.regd R19_29 []))) (.reg R19_30))))
def R19_31 : List GI := [
  ⟨some 133, none, .loadn 259 (.t 1)⟩,
  ⟨some 134, none, .mov (.t 5)⟩,
  ⟨some 135, none, .nilchk (.t 134)⟩,
  ⟨some 136, none, .fadr 0 (.t 135)⟩,
  ⟨some 137, none, .load (.t 136)⟩,
  ⟨some 138, none, .mov (.t 9)⟩,
  ⟨some 139, none, .call 47 [(.t 14), (.t 133), (.t 137), (.t 138)]⟩]
def R19_32 : List GI := [
  ⟨some 140, none, .loadn 259 (.t 14)⟩,
  ⟨none, none, .store 259 (.t 2) (.t 140)⟩,
  ⟨some 3, none, .mov (.k (.int .i64 0))⟩]
def A19 : AF := ⟨(.seq (.reg R19_0) (.seq (.seq (.reg R19_1) (.seq (.reg R19_2) (.cond (.t 20) (.seq (.reg R19_3) .ret) .skip))) (.seq (.reg R19_4) (.seq (.reg R19_5) (.seq (.reg R19_6) (.seq (.reg R19_7) (.seq (.reg R19_8) (.seq (.reg R19_9) (.seq (.seq (.reg R19_10) (.block 0 (.loop B19_0))) (.seq (.reg R19_25) (.seq (.seq (.reg R19_26) (.block 4 (.loop B19_2))) (.seq (.regd R19_31 []) (.seq (.reg R19_32) .ret))))))))))))), [(2, some (some 259)), (3, none)]⟩

/-- rootstock/rootstocklaw01.SameDfa -/
def R20_0 : List GI := [
  ⟨some 2, none, .box 34 259 (.t 0)⟩,
  ⟨some 3, none, .box 34 259 (.t 1)⟩,
  ⟨some 4, none, .mov (.k (.bool false))⟩]
def R20_1 : List GI := [
  ⟨some 6, none, .fadr 0 (.t 2)⟩,
  ⟨some 7, none, .load (.t 6)⟩,
  ⟨some 8, none, .fadr 0 (.t 3)⟩,
  ⟨some 9, none, .load (.t 8)⟩,
  ⟨some 10, none, .bin .neq (.t 7) (.t 9)⟩,
  ⟨some 11, none, .mov (.t 10)⟩,
  ⟨some 12, some (11, false), .fadr 1 (.t 2)⟩,
  ⟨some 13, some (11, false), .loadn 256 (.t 12)⟩,
  ⟨some 14, some (11, false), .fadr 1 (.t 3)⟩,
  ⟨some 15, some (11, false), .loadn 256 (.t 14)⟩,
  ⟨some 16, some (11, false), .eqa (rn [(256, 1)]) true (.t 13) (.t 15)⟩,
  ⟨some 17, none, .pick (.t 11) (.k (.bool true)) (.t 16)⟩,
  ⟨some 18, none, .mov (.t 17)⟩,
  ⟨some 19, some (18, false), .fadr 257 (.t 2)⟩,
  ⟨some 20, some (18, false), .load (.t 19)⟩,
  ⟨some 21, some (18, false), .lens (.t 20)⟩,
  ⟨some 22, some (18, false), .fadr 257 (.t 3)⟩,
  ⟨some 23, some (18, false), .load (.t 22)⟩,
  ⟨some 24, some (18, false), .lens (.t 23)⟩,
  ⟨some 25, some (18, false), .bin .neq (.t 21) (.t 24)⟩,
  ⟨some 26, none, .pick (.t 18) (.k (.bool true)) (.t 25)⟩,
  ⟨some 27, none, .mov (.t 26)⟩,
  ⟨some 28, some (27, false), .fadr 258 (.t 2)⟩,
  ⟨some 29, some (27, false), .load (.t 28)⟩,
  ⟨some 30, some (27, false), .fadr 258 (.t 3)⟩,
  ⟨some 31, some (27, false), .load (.t 30)⟩,
  ⟨some 32, some (27, false), .call 44 [(.t 29), (.t 31)]⟩,
  ⟨some 33, some (27, false), .un .not (.t 32)⟩,
  ⟨some 34, none, .pick (.t 27) (.k (.bool true)) (.t 33)⟩]
def R20_2 : List GI := [
  ⟨some 4, none, .mov (.k (.bool false))⟩]
def R20_3 : List GI := [
  ⟨some 5, none, .mov (.k (.int .i64 0))⟩]
def R20_4 : List GI := [
  ⟨some 35, none, .mov (.t 5)⟩,
  ⟨some 36, none, .fadr 257 (.t 2)⟩,
  ⟨some 37, none, .load (.t 36)⟩,
  ⟨some 38, none, .lens (.t 37)⟩,
  ⟨some 39, none, .bin .lss (.t 35) (.t 38)⟩]
def R20_5 : List GI := [
  ⟨some 42, none, .fadr 257 (.t 2)⟩,
  ⟨some 43, none, .load (.t 42)⟩,
  ⟨some 44, none, .mov (.t 5)⟩,
  ⟨some 45, none, .ixs 1 (.t 43) (.t 44)⟩,
  ⟨some 46, none, .load (.t 45)⟩,
  ⟨some 47, none, .fadr 257 (.t 3)⟩,
  ⟨some 48, none, .load (.t 47)⟩,
  ⟨some 49, none, .mov (.t 5)⟩,
  ⟨some 50, none, .ixs 1 (.t 48) (.t 49)⟩,
  ⟨some 51, none, .load (.t 50)⟩,
  ⟨some 52, none, .call 44 [(.t 46), (.t 51)]⟩,
  ⟨some 53, none, .un .not (.t 52)⟩]
def R20_6 : List GI := [
  ⟨some 4, none, .mov (.k (.bool false))⟩]
def R20_7 : List GI := [
  ⟨some 40, none, .mov (.t 5)⟩,
  ⟨some 41, none, .bin .add (.t 40) (.k (.int .i64 1))⟩,
  ⟨some 5, none, .mov (.t 41)⟩]
def B20_0 : AC := (.seq (.seq (.reg R20_4) (.cond (.t 39) .skip (.exit 0))) (.seq (.block 1 (.seq (.regd R20_5 []) (.cond (.t 53) (.seq (.reg R20_6) .ret) .skip))) (.reg R20_7)))
def R20_8 : List GI := [
  ⟨some 4, none, .mov (.k (.bool true))⟩]
def A20 : AF := ⟨(.seq (.reg R20_0) (.seq (.seq (.reg R20_1) (.cond (.t 34) (.seq (.reg R20_2) .ret) .skip)) (.seq (.seq (.reg R20_3) (.block 0 (.loop B20_0))) (.seq (.reg R20_8) .ret)))), [(4, none)]⟩

/-- slices.Max[[]uint8,uint8] -/
def R40_0 : List GI := [
  ⟨some 2, none, .mov (.k (.int .u8 0))⟩]
def R40_1 : List GI := [
  ⟨some 5, none, .mov (.t 0)⟩,
  ⟨some 6, none, .lens (.t 5)⟩,
  ⟨some 7, none, .bin .lss (.t 6) (.k (.int .i64 1))⟩]
def R40_2 : List GI := [
  ⟨some 8, none, .mki 9 (.k (.string ⟨#[115, 108, 105, 99, 101, 115, 46, 77, 97, 120, 58, 32, 101, 109, 112, 116, 121, 32, 108, 105, 115, 116]⟩))⟩,
  ⟨none, none, .fail⟩]
def R40_3 : List GI := [
  ⟨some 9, none, .mov (.t 0)⟩,
  ⟨some 10, none, .ixs 1 (.t 9) (.k (.int .i64 0))⟩,
  ⟨some 11, none, .load (.t 10)⟩,
  ⟨some 3, none, .mov (.t 11)⟩]
def R40_4 : List GI := [
  ⟨some 4, none, .mov (.k (.int .i64 1))⟩]
def R40_5 : List GI := [
  ⟨some 12, none, .mov (.t 4)⟩,
  ⟨some 13, none, .mov (.t 0)⟩,
  ⟨some 14, none, .lens (.t 13)⟩,
  ⟨some 15, none, .bin .lss (.t 12) (.t 14)⟩]
def R40_6 : List GI := [
  ⟨some 18, none, .mov (.t 3)⟩,
  ⟨some 19, none, .mov (.t 0)⟩,
  ⟨some 20, none, .mov (.t 4)⟩,
  ⟨some 21, none, .ixs 1 (.t 19) (.t 20)⟩,
  ⟨some 22, none, .load (.t 21)⟩,
  ⟨some 23, none, .minmax true [(.t 18), (.t 22)]⟩,
  ⟨some 3, none, .mov (.t 23)⟩]
def R40_7 : List GI := [
  ⟨some 16, none, .mov (.t 4)⟩,
  ⟨some 17, none, .bin .add (.t 16) (.k (.int .i64 1))⟩,
  ⟨some 4, none, .mov (.t 17)⟩]
def B40_0 : AC := (.seq (.seq (.reg R40_5) (.cond (.t 15) .skip (.exit 0))) (.seq (.block 1 (.reg R40_6)) (.reg R40_7)))
def R40_8 : List GI := [
  ⟨some 24, none, .mov (.t 3)⟩,
  ⟨some 2, none, .mov (.t 24)⟩]
def A40 : AF := ⟨(.seq (.reg R40_0) (.seq (.seq (.reg R40_1) (.cond (.t 7) (.reg R40_2) .skip)) (.seq (.reg R40_3) (.seq (.seq (.reg R40_4) (.block 0 (.loop B40_0))) (.seq (.reg R40_8) .ret))))), [(2, none)]⟩

/-- slices.Max[[]int,int] -/
def R41_0 : List GI := [
  ⟨some 2, none, .mov (.k (.int .i64 0))⟩]
def R41_1 : List GI := [
  ⟨some 5, none, .mov (.t 0)⟩,
  ⟨some 6, none, .lens (.t 5)⟩,
  ⟨some 7, none, .bin .lss (.t 6) (.k (.int .i64 1))⟩]
def R41_2 : List GI := [
  ⟨some 8, none, .mki 9 (.k (.string ⟨#[115, 108, 105, 99, 101, 115, 46, 77, 97, 120, 58, 32, 101, 109, 112, 116, 121, 32, 108, 105, 115, 116]⟩))⟩,
  ⟨none, none, .fail⟩]
def R41_3 : List GI := [
  ⟨some 9, none, .mov (.t 0)⟩,
  ⟨some 10, none, .ixs 1 (.t 9) (.k (.int .i64 0))⟩,
  ⟨some 11, none, .load (.t 10)⟩,
  ⟨some 3, none, .mov (.t 11)⟩]
def R41_4 : List GI := [
  ⟨some 4, none, .mov (.k (.int .i64 1))⟩]
def R41_5 : List GI := [
  ⟨some 12, none, .mov (.t 4)⟩,
  ⟨some 13, none, .mov (.t 0)⟩,
  ⟨some 14, none, .lens (.t 13)⟩,
  ⟨some 15, none, .bin .lss (.t 12) (.t 14)⟩]
def R41_6 : List GI := [
  ⟨some 18, none, .mov (.t 3)⟩,
  ⟨some 19, none, .mov (.t 0)⟩,
  ⟨some 20, none, .mov (.t 4)⟩,
  ⟨some 21, none, .ixs 1 (.t 19) (.t 20)⟩,
  ⟨some 22, none, .load (.t 21)⟩,
  ⟨some 23, none, .minmax true [(.t 18), (.t 22)]⟩,
  ⟨some 3, none, .mov (.t 23)⟩]
def R41_7 : List GI := [
  ⟨some 16, none, .mov (.t 4)⟩,
  ⟨some 17, none, .bin .add (.t 16) (.k (.int .i64 1))⟩,
  ⟨some 4, none, .mov (.t 17)⟩]
def B41_0 : AC := (.seq (.seq (.reg R41_5) (.cond (.t 15) .skip (.exit 0))) (.seq (.block 1 (.reg R41_6)) (.reg R41_7)))
def R41_8 : List GI := [
  ⟨some 24, none, .mov (.t 3)⟩,
  ⟨some 2, none, .mov (.t 24)⟩]
def A41 : AF := ⟨(.seq (.reg R41_0) (.seq (.seq (.reg R41_1) (.cond (.t 7) (.reg R41_2) .skip)) (.seq (.reg R41_3) (.seq (.seq (.reg R41_4) (.block 0 (.loop B41_0))) (.seq (.reg R41_8) .ret))))), [(2, none)]⟩

/-- rootstock/rootstocklaw08.known -/
def R42_0 : List GI := [
  ⟨some 0, none, .alloc 34 (rl [(1, (.int .i64 0)), (256, (.int .u8 0)), (2, (.slice none 0 0))])⟩]
def R42_1 : List GI := [
  ⟨some 2, none, .bslice 3 2 [(.int .i64 0), (.int .i64 0)] [(0, 1, (.k (.int .i64 (-1)))), (1, 1, (.k (.int .i64 1)))]⟩,
  ⟨some 3, none, .bslice 3 2 [(.int .i64 0), (.int .i64 0)] [(0, 1, (.k (.int .i64 (-1)))), (1, 1, (.k (.int .i64 2)))]⟩,
  ⟨some 4, none, .bslice 3 2 [(.int .i64 0), (.int .i64 0)] [(0, 1, (.k (.int .i64 3))), (1, 1, (.k (.int .i64 1)))]⟩,
  ⟨some 5, none, .bslice 3 2 [(.int .i64 0), (.int .i64 0)] [(0, 1, (.k (.int .i64 (-1)))), (1, 1, (.k (.int .i64 3)))]⟩,
  ⟨some 6, none, .bslice 3 2 [(.int .i64 0), (.int .i64 0)] [(0, 1, (.k (.int .i64 (-1)))), (1, 1, (.k (.int .i64 0)))]⟩,
  ⟨some 7, none, .bslice 32 5 [(.slice none 0 0), (.slice none 0 0), (.slice none 0 0), (.slice none 0 0), (.slice none 0 0)] [(0, 1, (.t 2)), (1, 1, (.t 3)), (2, 1, (.t 4)), (3, 1, (.t 5)), (4, 1, (.t 6))]⟩,
  ⟨some 8, none, .bslice 3 5 [(.int .i64 0), (.int .i64 0), (.int .i64 0), (.int .i64 0), (.int .i64 0)] [(0, 1, (.k (.int .i64 (-1)))), (1, 1, (.k (.int .i64 7))), (2, 1, (.k (.int .i64 7))), (3, 1, (.k (.int .i64 (-1)))), (4, 1, (.k (.int .i64 (-1))))]⟩,
  ⟨some 9, none, .build (rl [(1, (.int .i64 0)), (256, (.int .u8 0)), (2, (.slice none 0 0))]) [(257, 1, (.t 7)), (258, 1, (.t 8))]⟩,
  ⟨some 1, none, .alloc 34 (rl [(1, (.int .i64 0)), (256, (.int .u8 0)), (2, (.slice none 0 0))])⟩,
  ⟨none, none, .store 259 (.t 1) (.t 9)⟩]
def R42_2 : List GI := [
  ⟨some 10, none, .fadr 1 (.t 1)⟩,
  ⟨some 11, none, .ixa 256 1 (.t 10) (.k (.int .i64 97))⟩,
  ⟨none, none, .store 1 (.t 11) (.k (.int .u8 1))⟩]
def R42_3 : List GI := [
  ⟨some 12, none, .loadn 259 (.t 1)⟩,
  ⟨none, none, .store 259 (.t 0) (.t 12)⟩]
def A42 : AF := ⟨(.seq (.reg R42_0) (.seq (.reg R42_1) (.seq (.reg R42_2) (.seq (.reg R42_3) .ret)))), [(0, some (some 259))]⟩

/-- rootstock/mini.Same -/
def R43_0 : List GI := [
  ⟨some 2, none, .box 34 259 (.t 0)⟩,
  ⟨some 3, none, .box 34 259 (.t 1)⟩,
  ⟨some 4, none, .mov (.k (.bool false))⟩,
  ⟨some 5, none, .mov (.k (.int .i64 0))⟩]
def R43_1 : List GI := [
  ⟨some 16, none, .loadn 259 (.t 2)⟩,
  ⟨some 17, none, .call 16 [(.t 16)]⟩,
  ⟨some 6, none, .mov (.t 17)⟩]
def R43_2 : List GI := [
  ⟨some 18, none, .mov (.t 6)⟩,
  ⟨some 19, none, .bin .neq (.t 18) (.k (.int .i64 0))⟩]
def R43_3 : List GI := [
  ⟨some 20, none, .mov (.t 6)⟩,
  ⟨some 4, none, .mov (.k (.bool false))⟩,
  ⟨some 5, none, .mov (.t 20)⟩]
def R43_4 : List GI := [
  ⟨some 21, none, .loadn 259 (.t 3)⟩,
  ⟨some 22, none, .call 16 [(.t 21)]⟩,
  ⟨some 7, none, .mov (.t 22)⟩]
def R43_5 : List GI := [
  ⟨some 23, none, .mov (.t 7)⟩,
  ⟨some 24, none, .bin .neq (.t 23) (.k (.int .i64 0))⟩]
def R43_6 : List GI := [
  ⟨some 25, none, .mov (.t 7)⟩,
  ⟨some 4, none, .mov (.k (.bool false))⟩,
  ⟨some 5, none, .mov (.t 25)⟩]
def R43_7 : List GI := [
  ⟨some 26, none, .loadn 259 (.t 2)⟩,
  ⟨some 27, none, .call 45 [(.t 26)]⟩,
  ⟨some 28, none, .loadn 259 (.t 3)⟩,
  ⟨some 29, none, .call 45 [(.t 28)]⟩,
  ⟨some 8, none, .mov (.t 27)⟩,
  ⟨some 9, none, .mov (.t 29)⟩]
def R43_8 : List GI := [
  ⟨some 30, none, .mkm⟩,
  ⟨some 10, none, .mov (.t 30)⟩]
def R43_9 : List GI := [
  ⟨some 31, none, .mov (.t 8)⟩,
  ⟨some 32, none, .nilchk (.t 31)⟩,
  ⟨some 33, none, .fadr 259 (.t 32)⟩,
  ⟨some 34, none, .load (.t 33)⟩,
  ⟨some 35, none, .mov (.t 9)⟩,
  ⟨some 36, none, .nilchk (.t 35)⟩,
  ⟨some 37, none, .fadr 259 (.t 36)⟩,
  ⟨some 38, none, .load (.t 37)⟩,
  ⟨some 39, none, .build [(.int .i64 0), (.int .i64 0)] [(0, 1, (.t 34)), (1, 1, (.t 38))]⟩,
  ⟨some 40, none, .bslice 111 1 [(.int .i64 0), (.int .i64 0)] [(0, 2, (.t 39))]⟩,
  ⟨some 11, none, .mov (.t 40)⟩]
def R43_10 : List GI := [
  ⟨some 41, none, .mov (.t 11)⟩,
  ⟨some 42, none, .lens (.t 41)⟩,
  ⟨some 43, none, .bin .gtr (.t 42) (.k (.int .i64 0))⟩]
def R43_11 : List GI := [
  ⟨some 44, none, .mov (.t 11)⟩,
  ⟨some 45, none, .mov (.t 11)⟩,
  ⟨some 46, none, .lens (.t 45)⟩,
  ⟨some 47, none, .bin .sub (.t 46) (.k (.int .i64 1))⟩,
  ⟨some 48, none, .ixs 2 (.t 44) (.t 47)⟩,
  ⟨some 49, none, .loadn 2 (.t 48)⟩,
  ⟨some 12, none, .alloc 111 [(.int .i64 0), (.int .i64 0)]⟩,
  ⟨none, none, .store 2 (.t 12) (.t 49)⟩]
def R43_12 : List GI := [
  ⟨some 50, none, .mov (.t 11)⟩,
  ⟨some 51, none, .mov (.t 11)⟩,
  ⟨some 52, none, .lens (.t 51)⟩,
  ⟨some 53, none, .bin .sub (.t 52) (.k (.int .i64 1))⟩,
  ⟨some 54, none, .slc 111 2 (.t 50) none (some (.t 53)) none⟩,
  ⟨some 11, none, .mov (.t 54)⟩]
def R43_13 : List GI := [
  ⟨some 55, none, .mov (.t 10)⟩,
  ⟨some 56, none, .loadn 2 (.t 12)⟩,
  ⟨some 57, none, .look true [1, 1] (.int .i64 0) false (.t 55) (.t 56)⟩,
  ⟨some 58, none, .bin .gtr (.t 57) (.k (.int .i64 0))⟩]
def R43_14 : List GI := [
  ⟨some 59, none, .mov (.t 10)⟩,
  ⟨some 60, none, .loadn 2 (.t 12)⟩,
  ⟨some 61, none, .look true [1, 1] (.int .i64 0) false (.t 59) (.t 60)⟩,
  ⟨some 62, none, .bin .add (.t 61) (.k (.int .i64 1))⟩,
  ⟨some 63, none, .ment true [1, 1] (.int .i64 0) (.t 59) (.t 60)⟩,
  ⟨some 64, none, .ext 1 (.t 63)⟩,
  ⟨none, none, .mst (.t 59) (.t 64) (.t 62)⟩]
def R43_15 : List GI := [
  ⟨some 65, none, .mov (.t 8)⟩,
  ⟨some 66, none, .nilchk (.t 65)⟩,
  ⟨some 67, none, .fadr 258 (.t 66)⟩,
  ⟨some 68, none, .load (.t 67)⟩,
  ⟨some 69, none, .fadr 0 (.t 12)⟩,
  ⟨some 70, none, .load (.t 69)⟩,
  ⟨some 71, none, .ixs 1 (.t 68) (.t 70)⟩,
  ⟨some 72, none, .load (.t 71)⟩,
  ⟨some 73, none, .mov (.t 9)⟩,
  ⟨some 74, none, .nilchk (.t 73)⟩,
  ⟨some 75, none, .fadr 258 (.t 74)⟩,
  ⟨some 76, none, .load (.t 75)⟩,
  ⟨some 77, none, .fadr 1 (.t 12)⟩,
  ⟨some 78, none, .load (.t 77)⟩,
  ⟨some 79, none, .ixs 1 (.t 76) (.t 78)⟩,
  ⟨some 80, none, .load (.t 79)⟩,
  ⟨some 81, none, .bin .neq (.t 72) (.t 80)⟩]
def R43_16 : List GI := [
  ⟨some 4, none, .mov (.k (.bool false))⟩,
  ⟨some 5, none, .mov (.k (.int .i64 0))⟩]
def R43_17 : List GI := [
  ⟨some 82, none, .mov (.k (.int .i64 0))⟩]
def R43_18 : List GI := [
  ⟨some 83, none, .bin .lss (.t 82) (.k (.int .i64 256))⟩]
def R43_19 : List GI := [
  ⟨some 84, none, .mov (.t 82)⟩,
  ⟨some 13, none, .mov (.t 84)⟩]
def R43_20 : List GI := [
  ⟨some 85, none, .mov (.t 8)⟩,
  ⟨some 86, none, .nilchk (.t 85)⟩,
  ⟨some 87, none, .fadr 257 (.t 86)⟩,
  ⟨some 88, none, .load (.t 87)⟩,
  ⟨some 89, none, .fadr 0 (.t 12)⟩,
  ⟨some 90, none, .load (.t 89)⟩,
  ⟨some 91, none, .ixs 1 (.t 88) (.t 90)⟩,
  ⟨some 92, none, .load (.t 91)⟩,
  ⟨some 93, none, .mov (.t 8)⟩,
  ⟨some 94, none, .mov (.t 13)⟩,
  ⟨some 95, none, .nilchk (.t 93)⟩,
  ⟨some 96, none, .fadr 1 (.t 95)⟩,
  ⟨some 97, none, .ixa 256 1 (.t 96) (.t 94)⟩,
  ⟨some 98, none, .load (.t 97)⟩,
  ⟨some 99, none, .ixs 1 (.t 92) (.t 98)⟩,
  ⟨some 100, none, .load (.t 99)⟩,
  ⟨some 101, none, .mov (.t 9)⟩,
  ⟨some 102, none, .nilchk (.t 101)⟩,
  ⟨some 103, none, .fadr 257 (.t 102)⟩,
  ⟨some 104, none, .load (.t 103)⟩,
  ⟨some 105, none, .fadr 1 (.t 12)⟩,
  ⟨some 106, none, .load (.t 105)⟩,
  ⟨some 107, none, .ixs 1 (.t 104) (.t 106)⟩,
  ⟨some 108, none, .load (.t 107)⟩,
  ⟨some 109, none, .mov (.t 9)⟩,
  ⟨some 110, none, .mov (.t 13)⟩,
  ⟨some 111, none, .nilchk (.t 109)⟩,
  ⟨some 112, none, .fadr 1 (.t 111)⟩,
  ⟨some 113, none, .ixa 256 1 (.t 112) (.t 110)⟩,
  ⟨some 114, none, .load (.t 113)⟩,
  ⟨some 115, none, .ixs 1 (.t 108) (.t 114)⟩,
  ⟨some 116, none, .load (.t 115)⟩,
  ⟨some 14, none, .mov (.t 100)⟩,
  ⟨some 15, none, .mov (.t 116)⟩]
def R43_21 : List GI := [
  ⟨some 117, none, .mov (.t 14)⟩,
  ⟨some 118, none, .bin .lss (.t 117) (.k (.int .i64 0))⟩,
  ⟨some 119, none, .mov (.t 15)⟩,
  ⟨some 120, none, .bin .lss (.t 119) (.k (.int .i64 0))⟩,
  ⟨some 121, none, .eqc 0 true (.t 118) (.t 120)⟩]
def R43_22 : List GI := [
  ⟨some 4, none, .mov (.k (.bool false))⟩,
  ⟨some 5, none, .mov (.k (.int .i64 0))⟩]
def R43_23 : List GI := [
  ⟨some 122, none, .mov (.t 14)⟩,
  ⟨some 123, none, .bin .geq (.t 122) (.k (.int .i64 0))⟩]
def R43_24 : List GI := [
  ⟨some 124, none, .mov (.t 11)⟩,
  ⟨some 125, none, .mov (.t 14)⟩,
  ⟨some 126, none, .mov (.t 15)⟩,
  ⟨some 127, none, .build [(.int .i64 0), (.int .i64 0)] [(0, 1, (.t 125)), (1, 1, (.t 126))]⟩,
  ⟨some 128, none, .bslice 111 1 [(.int .i64 0), (.int .i64 0)] [(0, 2, (.t 127))]⟩,
  ⟨some 129, none, .app 111 2 16 (.t 124) (.t 128)⟩,
  ⟨some 11, none, .mov (.t 129)⟩]
def R43_25 : List GI := [
  ⟨some 130, none, .bin .add (.t 82) (.k (.int .i64 1))⟩,
  ⟨some 82, none, .mov (.t 130)⟩]
def B43_1 : AC := (.seq (.reg R43_18) (.seq (.cond (.t 83) .skip (.exit 2)) (.seq (.block 3 (.seq (.reg R43_19) (.seq (.regd R43_20 []) (.seq (.seq (.reg R43_21) (.cond (.t 121) (.seq (.reg R43_22) .ret) .skip)) (.seq (.reg R43_23) (.cond (.t 123) (.reg R43_24) .skip)))))) (.reg R43_25))))
def B43_0 : AC := (.seq (.seq (.reg R43_10) (.cond (.t 43) .skip (.exit 0))) (.block 1 (.seq (.reg R43_11) (.seq (.reg R43_12) (.seq (.seq (.reg R43_13) (.cond (.t 58) (.exit 1) .skip)) (.seq (.regd R43_14 [(2, 4)]) (.seq (.seq (.regd R43_15 []) (.cond (.t 81) (.seq (.reg R43_16) .ret) .skip)) (.seq (.reg R43_17) (.block 2 (.loop B43_1))))))))))
def R43_26 : List GI := [
  ⟨some 4, none, .mov (.k (.bool true))⟩,
  ⟨some 5, none, .mov (.k (.int .i64 0))⟩]
def A43 : AF := ⟨(.seq (.reg R43_0) (.seq (.seq (.reg R43_1) (.seq (.reg R43_2) (.cond (.t 19) (.seq (.reg R43_3) .ret) .skip))) (.seq (.seq (.reg R43_4) (.seq (.reg R43_5) (.cond (.t 24) (.seq (.reg R43_6) .ret) .skip))) (.seq (.regd R43_7 [(2, 1)]) (.seq (.reg R43_8) (.seq (.regd R43_9 []) (.seq (.block 0 (.loop B43_0)) (.seq (.reg R43_26) .ret)))))))), [(4, none), (5, none)]⟩

/-- rootstock/rootstocklaw01.SameInts -/
def R44_0 : List GI := [
  ⟨some 4, none, .mov (.k (.bool false))⟩]
def R44_1 : List GI := [
  ⟨some 6, none, .mov (.t 0)⟩,
  ⟨some 7, none, .lens (.t 6)⟩,
  ⟨some 8, none, .mov (.t 1)⟩,
  ⟨some 9, none, .lens (.t 8)⟩,
  ⟨some 10, none, .bin .neq (.t 7) (.t 9)⟩]
def R44_2 : List GI := [
  ⟨some 4, none, .mov (.k (.bool false))⟩]
def R44_3 : List GI := [
  ⟨some 5, none, .mov (.k (.int .i64 0))⟩]
def R44_4 : List GI := [
  ⟨some 11, none, .mov (.t 5)⟩,
  ⟨some 12, none, .mov (.t 0)⟩,
  ⟨some 13, none, .lens (.t 12)⟩,
  ⟨some 14, none, .bin .lss (.t 11) (.t 13)⟩]
def R44_5 : List GI := [
  ⟨some 17, none, .mov (.t 0)⟩,
  ⟨some 18, none, .mov (.t 5)⟩,
  ⟨some 19, none, .ixs 1 (.t 17) (.t 18)⟩,
  ⟨some 20, none, .load (.t 19)⟩,
  ⟨some 21, none, .mov (.t 1)⟩,
  ⟨some 22, none, .mov (.t 5)⟩,
  ⟨some 23, none, .ixs 1 (.t 21) (.t 22)⟩,
  ⟨some 24, none, .load (.t 23)⟩,
  ⟨some 25, none, .bin .neq (.t 20) (.t 24)⟩]
def R44_6 : List GI := [
  ⟨some 4, none, .mov (.k (.bool false))⟩]
def R44_7 : List GI := [
  ⟨some 15, none, .mov (.t 5)⟩,
  ⟨some 16, none, .bin .add (.t 15) (.k (.int .i64 1))⟩,
  ⟨some 5, none, .mov (.t 16)⟩]
def B44_0 : AC := (.seq (.seq (.reg R44_4) (.cond (.t 14) .skip (.exit 0))) (.seq (.block 1 (.seq (.regd R44_5 []) (.cond (.t 25) (.seq (.reg R44_6) .ret) .skip))) (.reg R44_7)))
def R44_8 : List GI := [
  ⟨some 4, none, .mov (.k (.bool true))⟩]
def A44 : AF := ⟨(.seq (.reg R44_0) (.seq (.seq (.reg R44_1) (.cond (.t 10) (.seq (.reg R44_2) .ret) .skip)) (.seq (.seq (.reg R44_3) (.block 0 (.loop B44_0))) (.seq (.reg R44_8) .ret)))), [(4, none)]⟩

/-- rootstock/mini.tabled -/
def R45_0 : List GI := [
  ⟨some 1, none, .box 34 259 (.t 0)⟩,
  ⟨some 2, none, .mov (.k (.pointer none))⟩]
def R45_1 : List GI := [
  ⟨some 17, none, .loadn 259 (.t 1)⟩,
  ⟨some 18, none, .call 70 [(.t 17)]⟩,
  ⟨some 19, none, .fadr 0 (.t 1)⟩,
  ⟨some 20, none, .load (.t 19)⟩,
  ⟨some 21, none, .build (rl [(1, (.slice none 0 0)), (256, (.int .i64 0)), (2, (.slice none 0 0)), (1, (.int .i64 0))]) [(0, 1, (.t 18)), (259, 1, (.t 20))]⟩,
  ⟨some 22, none, .box 84 260 (.t 21)⟩,
  ⟨some 3, none, .mov (.t 22)⟩]
def R45_2 : List GI := [
  ⟨some 4, none, .alloc 82 (rl [(256, (.int .i64 0))])⟩]
def R45_3 : List GI := [
  ⟨some 23, none, .mov (.t 3)⟩,
  ⟨some 24, none, .nilchk (.t 23)⟩,
  ⟨some 25, none, .fadr 0 (.t 24)⟩,
  ⟨some 26, none, .load (.t 25)⟩,
  ⟨some 27, none, .lens (.t 26)⟩,
  ⟨some 28, none, .mov (.k (.int .i64 0))⟩]
def R45_4 : List GI := [
  ⟨some 29, none, .bin .lss (.t 28) (.t 27)⟩]
def R45_5 : List GI := [
  ⟨some 30, none, .mov (.t 28)⟩,
  ⟨some 31, none, .ixs 1 (.t 26) (.t 28)⟩,
  ⟨some 32, none, .load (.t 31)⟩,
  ⟨some 5, none, .mov (.t 30)⟩,
  ⟨some 6, none, .mov (.t 32)⟩]
def R45_6 : List GI := [
  ⟨some 33, none, .mov (.t 6)⟩,
  ⟨some 34, none, .fadr 1 (.t 1)⟩,
  ⟨some 35, none, .ixa 256 1 (.t 34) (.t 33)⟩,
  ⟨some 36, none, .load (.t 35)⟩,
  ⟨some 37, none, .mov (.t 5)⟩,
  ⟨some 38, none, .ixa 256 1 (.t 4) (.t 36)⟩,
  ⟨none, none, .store 1 (.t 38) (.t 37)⟩]
def R45_7 : List GI := [
  ⟨some 39, none, .bin .add (.t 28) (.k (.int .i64 1))⟩,
  ⟨some 28, none, .mov (.t 39)⟩]
def B45_0 : AC := (.seq (.reg R45_4) (.seq (.cond (.t 29) .skip (.exit 0)) (.seq (.block 1 (.seq (.reg R45_5) (.reg R45_6))) (.reg R45_7))))
def R45_8 : List GI := [
  ⟨some 40, none, .mov (.k (.int .i64 0))⟩]
def R45_9 : List GI := [
  ⟨some 41, none, .bin .lss (.t 40) (.k (.int .i64 256))⟩]
def R45_10 : List GI := [
  ⟨some 42, none, .mov (.t 40)⟩,
  ⟨some 7, none, .mov (.t 42)⟩]
def R45_11 : List GI := [
  ⟨some 43, none, .mov (.t 3)⟩,
  ⟨some 44, none, .mov (.t 7)⟩,
  ⟨some 45, none, .mov (.t 7)⟩,
  ⟨some 46, none, .fadr 1 (.t 1)⟩,
  ⟨some 47, none, .ixa 256 1 (.t 46) (.t 45)⟩,
  ⟨some 48, none, .load (.t 47)⟩,
  ⟨some 49, none, .ixa 256 1 (.t 4) (.t 48)⟩,
  ⟨some 50, none, .load (.t 49)⟩,
  ⟨some 51, none, .nilchk (.t 43)⟩,
  ⟨some 52, none, .fadr 1 (.t 51)⟩,
  ⟨some 53, none, .ixa 256 1 (.t 52) (.t 44)⟩,
  ⟨none, none, .store 1 (.t 53) (.t 50)⟩]
def R45_12 : List GI := [
  ⟨some 54, none, .bin .add (.t 40) (.k (.int .i64 1))⟩,
  ⟨some 40, none, .mov (.t 54)⟩]
def B45_1 : AC := (.seq (.reg R45_9) (.seq (.cond (.t 41) .skip (.exit 2)) (.seq (.block 3 (.seq (.reg R45_10) (.regd R45_11 []))) (.reg R45_12))))
def R45_13 : List GI := [
  ⟨some 55, none, .fadr 257 (.t 1)⟩,
  ⟨some 56, none, .load (.t 55)⟩,
  ⟨some 57, none, .lens (.t 56)⟩,
  ⟨some 58, none, .mov (.k (.int .i64 0))⟩]
def R45_14 : List GI := [
  ⟨some 59, none, .bin .lss (.t 58) (.t 57)⟩]
def R45_15 : List GI := [
  ⟨some 60, none, .mov (.t 58)⟩,
  ⟨some 8, none, .mov (.t 60)⟩]
def R45_16 : List GI := [
  ⟨some 61, none, .mov (.t 3)⟩,
  ⟨some 62, none, .nilchk (.t 61)⟩,
  ⟨some 63, none, .fadr 0 (.t 62)⟩,
  ⟨some 64, none, .load (.t 63)⟩,
  ⟨some 65, none, .lens (.t 64)⟩,
  ⟨some 66, none, .mks 3 1 8 [(.int .i64 0)] (.t 65) (.t 65)⟩,
  ⟨some 9, none, .mov (.t 66)⟩]
def R45_17 : List GI := [
  ⟨some 67, none, .mov (.t 3)⟩,
  ⟨some 68, none, .nilchk (.t 67)⟩,
  ⟨some 69, none, .fadr 0 (.t 68)⟩,
  ⟨some 70, none, .load (.t 69)⟩,
  ⟨some 71, none, .lens (.t 70)⟩,
  ⟨some 72, none, .mov (.k (.int .i64 0))⟩]
def R45_18 : List GI := [
  ⟨some 73, none, .bin .lss (.t 72) (.t 71)⟩]
def R45_19 : List GI := [
  ⟨some 74, none, .mov (.t 72)⟩,
  ⟨some 75, none, .ixs 1 (.t 70) (.t 72)⟩,
  ⟨some 76, none, .load (.t 75)⟩,
  ⟨some 10, none, .mov (.t 74)⟩,
  ⟨some 11, none, .mov (.t 76)⟩]
def R45_20 : List GI := [
  ⟨some 77, none, .mov (.t 9)⟩,
  ⟨some 78, none, .mov (.t 10)⟩,
  ⟨some 79, none, .fadr 257 (.t 1)⟩,
  ⟨some 80, none, .load (.t 79)⟩,
  ⟨some 81, none, .mov (.t 8)⟩,
  ⟨some 82, none, .ixs 1 (.t 80) (.t 81)⟩,
  ⟨some 83, none, .load (.t 82)⟩,
  ⟨some 84, none, .mov (.t 11)⟩,
  ⟨some 85, none, .fadr 1 (.t 1)⟩,
  ⟨some 86, none, .ixa 256 1 (.t 85) (.t 84)⟩,
  ⟨some 87, none, .load (.t 86)⟩,
  ⟨some 88, none, .ixs 1 (.t 83) (.t 87)⟩,
  ⟨some 89, none, .load (.t 88)⟩,
  ⟨some 90, none, .minmax true [(.t 89), (.k (.int .i64 (-1)))]⟩,
  ⟨some 91, none, .ixs 1 (.t 77) (.t 78)⟩,
  ⟨none, none, .store 1 (.t 91) (.t 90)⟩]
def R45_21 : List GI := [
  ⟨some 92, none, .bin .add (.t 72) (.k (.int .i64 1))⟩,
  ⟨some 72, none, .mov (.t 92)⟩]
def B45_3 : AC := (.seq (.reg R45_18) (.seq (.cond (.t 73) .skip (.exit 6)) (.seq (.block 7 (.seq (.reg R45_19) (.regd R45_20 []))) (.reg R45_21))))
def R45_22 : List GI := [
  ⟨some 93, none, .mov (.t 3)⟩,
  ⟨some 94, none, .mov (.t 3)⟩,
  ⟨some 95, none, .nilchk (.t 94)⟩,
  ⟨some 96, none, .fadr 257 (.t 95)⟩,
  ⟨some 97, none, .load (.t 96)⟩,
  ⟨some 98, none, .mov (.t 9)⟩,
  ⟨some 99, none, .bslice 32 1 [(.slice none 0 0)] [(0, 1, (.t 98))]⟩,
  ⟨some 100, none, .app 32 1 24 (.t 97) (.t 99)⟩,
  ⟨some 101, none, .nilchk (.t 93)⟩,
  ⟨some 102, none, .fadr 257 (.t 101)⟩,
  ⟨none, none, .store 1 (.t 102) (.t 100)⟩]
def R45_23 : List GI := [
  ⟨some 103, none, .mov (.t 3)⟩,
  ⟨some 104, none, .mov (.t 3)⟩,
  ⟨some 105, none, .nilchk (.t 104)⟩,
  ⟨some 106, none, .fadr 258 (.t 105)⟩,
  ⟨some 107, none, .load (.t 106)⟩,
  ⟨some 108, none, .loadn 259 (.t 1)⟩,
  ⟨some 109, none, .mov (.t 8)⟩,
  ⟨some 110, none, .call 71 [(.t 108), (.t 109)]⟩,
  ⟨some 111, none, .bslice 3 1 [(.int .i64 0)] [(0, 1, (.t 110))]⟩,
  ⟨some 112, none, .app 3 1 8 (.t 107) (.t 111)⟩,
  ⟨some 113, none, .nilchk (.t 103)⟩,
  ⟨some 114, none, .fadr 258 (.t 113)⟩,
  ⟨none, none, .store 1 (.t 114) (.t 112)⟩]
def R45_24 : List GI := [
  ⟨some 115, none, .bin .add (.t 58) (.k (.int .i64 1))⟩,
  ⟨some 58, none, .mov (.t 115)⟩]
def B45_2 : AC := (.seq (.reg R45_14) (.seq (.cond (.t 59) .skip (.exit 4)) (.seq (.block 5 (.seq (.reg R45_15) (.seq (.reg R45_16) (.seq (.seq (.reg R45_17) (.block 6 (.loop B45_3))) (.seq (.reg R45_22) (.regd R45_23 [(4, 7)])))))) (.reg R45_24))))
def R45_25 : List GI := [
  ⟨some 116, none, .mov (.t 3)⟩,
  ⟨some 117, none, .nilchk (.t 116)⟩,
  ⟨some 118, none, .fadr 257 (.t 117)⟩,
  ⟨some 119, none, .load (.t 118)⟩,
  ⟨some 120, none, .mov (.t 3)⟩,
  ⟨some 121, none, .nilchk (.t 120)⟩,
  ⟨some 122, none, .fadr 258 (.t 121)⟩,
  ⟨some 123, none, .load (.t 122)⟩,
  ⟨some 124, none, .call 72 [(.t 119), (.t 123)]⟩,
  ⟨some 12, none, .mov (.t 124)⟩]
def R45_26 : List GI := [
  ⟨some 125, none, .mov (.t 3)⟩,
  ⟨some 126, none, .nilchk (.t 125)⟩,
  ⟨some 127, none, .fadr 257 (.t 126)⟩,
  ⟨some 128, none, .load (.t 127)⟩,
  ⟨some 129, none, .lens (.t 128)⟩,
  ⟨some 130, none, .mov (.k (.int .i64 0))⟩]
def R45_27 : List GI := [
  ⟨some 131, none, .bin .lss (.t 130) (.t 129)⟩]
def R45_28 : List GI := [
  ⟨some 132, none, .ixs 1 (.t 128) (.t 130)⟩,
  ⟨some 133, none, .load (.t 132)⟩,
  ⟨some 14, none, .mov (.t 133)⟩]
def R45_29 : List GI := [
  ⟨some 134, none, .mov (.t 14)⟩,
  ⟨some 135, none, .lens (.t 134)⟩,
  ⟨some 136, none, .mov (.k (.int .i64 0))⟩]
def R45_30 : List GI := [
  ⟨some 137, none, .bin .lss (.t 136) (.t 135)⟩]
def R45_31 : List GI := [
  ⟨some 138, none, .mov (.t 136)⟩,
  ⟨some 139, none, .ixs 1 (.t 134) (.t 136)⟩,
  ⟨some 140, none, .load (.t 139)⟩,
  ⟨some 15, none, .mov (.t 138)⟩,
  ⟨some 16, none, .mov (.t 140)⟩]
def R45_32 : List GI := [
  ⟨some 141, none, .mov (.t 16)⟩,
  ⟨some 142, none, .bin .geq (.t 141) (.k (.int .i64 0))⟩,
  ⟨some 143, none, .mov (.t 142)⟩,
  ⟨some 144, some (143, true), .mov (.t 12)⟩,
  ⟨some 145, some (143, true), .mov (.t 16)⟩,
  ⟨some 146, some (143, true), .ixs 1 (.t 144) (.t 145)⟩,
  ⟨some 147, some (143, true), .load (.t 146)⟩,
  ⟨some 148, some (143, true), .un .not (.t 147)⟩,
  ⟨some 149, none, .pick (.t 143) (.t 148) (.k (.bool false))⟩]
def R45_33 : List GI := [
  ⟨some 150, none, .mov (.t 14)⟩,
  ⟨some 151, none, .mov (.t 15)⟩,
  ⟨some 152, none, .ixs 1 (.t 150) (.t 151)⟩,
  ⟨none, none, .store 1 (.t 152) (.k (.int .i64 (-1)))⟩]
def R45_34 : List GI := [
  ⟨some 153, none, .bin .add (.t 136) (.k (.int .i64 1))⟩,
  ⟨some 136, none, .mov (.t 153)⟩]
def B45_5 : AC := (.seq (.reg R45_30) (.seq (.cond (.t 137) .skip (.exit 10)) (.seq (.block 11 (.seq (.reg R45_31) (.seq (.reg R45_32) (.cond (.t 149) (.reg R45_33) .skip)))) (.reg R45_34))))
def R45_35 : List GI := [
  ⟨some 154, none, .bin .add (.t 130) (.k (.int .i64 1))⟩,
  ⟨some 130, none, .mov (.t 154)⟩]
def B45_4 : AC := (.seq (.reg R45_27) (.seq (.cond (.t 131) .skip (.exit 8)) (.seq (.block 9 (.seq (.reg R45_28) (.seq (.reg R45_29) (.block 10 (.loop B45_5))))) (.reg R45_35))))
def R45_36 : List GI := [
  ⟨some 155, none, .mov (.t 3)⟩,
  ⟨some 2, none, .mov (.t 155)⟩]
def A45 : AF := ⟨(.seq (.reg R45_0) (.seq (.regd R45_1 [(3, 1)]) (.seq (.reg R45_2) (.seq (.seq (.reg R45_3) (.block 0 (.loop B45_0))) (.seq (.seq (.reg R45_8) (.block 2 (.loop B45_1))) (.seq (.seq (.reg R45_13) (.block 4 (.loop B45_2))) (.seq (.regd R45_25 []) (.seq (.seq (.reg R45_26) (.block 8 (.loop B45_4))) (.seq (.reg R45_36) .ret))))))))), [(2, none)]⟩

/-- (*rootstock/mini.table).blocks -/
def R46_0 : List GI := [
  ⟨some 2, none, .mov (.k (.slice none 0 0))⟩]
def R46_1 : List GI := [
  ⟨some 15, none, .mov (.t 0)⟩,
  ⟨some 16, none, .nilchk (.t 15)⟩,
  ⟨some 17, none, .fadr 257 (.t 16)⟩,
  ⟨some 18, none, .load (.t 17)⟩,
  ⟨some 19, none, .lens (.t 18)⟩,
  ⟨some 20, none, .mks 3 1 8 [(.int .i64 0)] (.t 19) (.t 19)⟩,
  ⟨some 3, none, .mov (.t 20)⟩]
def R46_2 : List GI := [
  ⟨some 4, none, .mov (.k (.int .i64 0))⟩]
def R46_3 : List GI := [
  ⟨some 21, none, .mkm⟩,
  ⟨some 5, none, .mov (.t 21)⟩]
def R46_4 : List GI := [
  ⟨some 22, none, .mov (.t 3)⟩,
  ⟨some 23, none, .lens (.t 22)⟩,
  ⟨some 24, none, .mks 3 1 8 [(.int .i64 0)] (.t 23) (.t 23)⟩,
  ⟨some 6, none, .mov (.t 24)⟩]
def R46_5 : List GI := [
  ⟨some 25, none, .mov (.t 0)⟩,
  ⟨some 26, none, .nilchk (.t 25)⟩,
  ⟨some 27, none, .fadr 257 (.t 26)⟩,
  ⟨some 28, none, .load (.t 27)⟩,
  ⟨some 29, none, .lens (.t 28)⟩,
  ⟨some 30, none, .mov (.k (.int .i64 0))⟩]
def R46_6 : List GI := [
  ⟨some 31, none, .bin .lss (.t 30) (.t 29)⟩]
def R46_7 : List GI := [
  ⟨some 32, none, .mov (.t 30)⟩,
  ⟨some 33, none, .ixs 1 (.t 28) (.t 30)⟩,
  ⟨some 34, none, .load (.t 33)⟩,
  ⟨some 7, none, .mov (.t 32)⟩,
  ⟨some 8, none, .mov (.t 34)⟩]
def R46_8 : List GI := [
  ⟨some 35, none, .mov (.t 0)⟩,
  ⟨some 36, none, .nilchk (.t 35)⟩,
  ⟨some 37, none, .fadr 258 (.t 36)⟩,
  ⟨some 38, none, .load (.t 37)⟩,
  ⟨some 39, none, .mov (.t 7)⟩,
  ⟨some 40, none, .ixs 1 (.t 38) (.t 39)⟩,
  ⟨some 41, none, .load (.t 40)⟩,
  ⟨some 42, none, .call 73 [(.k (.slice none 0 0)), (.t 41)]⟩,
  ⟨some 43, none, .mov (.t 3)⟩,
  ⟨some 44, none, .mov (.t 7)⟩,
  ⟨some 45, none, .ixs 1 (.t 43) (.t 44)⟩,
  ⟨some 46, none, .load (.t 45)⟩,
  ⟨some 47, none, .call 73 [(.t 42), (.t 46)]⟩,
  ⟨some 9, none, .mov (.t 47)⟩]
def R46_9 : List GI := [
  ⟨some 48, none, .mov (.t 8)⟩,
  ⟨some 49, none, .lens (.t 48)⟩,
  ⟨some 50, none, .mov (.k (.int .i64 0))⟩]
def R46_10 : List GI := [
  ⟨some 51, none, .bin .lss (.t 50) (.t 49)⟩]
def R46_11 : List GI := [
  ⟨some 52, none, .ixs 1 (.t 48) (.t 50)⟩,
  ⟨some 53, none, .load (.t 52)⟩,
  ⟨some 11, none, .mov (.t 53)⟩]
def R46_12 : List GI := [
  ⟨some 12, none, .mov (.k (.int .i64 (-1)))⟩]
def R46_13 : List GI := [
  ⟨some 54, none, .mov (.t 11)⟩,
  ⟨some 55, none, .bin .geq (.t 54) (.k (.int .i64 0))⟩]
def R46_14 : List GI := [
  ⟨some 56, none, .mov (.t 3)⟩,
  ⟨some 57, none, .mov (.t 11)⟩,
  ⟨some 58, none, .ixs 1 (.t 56) (.t 57)⟩,
  ⟨some 59, none, .load (.t 58)⟩,
  ⟨some 12, none, .mov (.t 59)⟩]
def R46_15 : List GI := [
  ⟨some 60, none, .mov (.t 9)⟩,
  ⟨some 61, none, .mov (.t 12)⟩,
  ⟨some 62, none, .call 73 [(.t 60), (.t 61)]⟩,
  ⟨some 9, none, .mov (.t 62)⟩]
def R46_16 : List GI := [
  ⟨some 63, none, .bin .add (.t 50) (.k (.int .i64 1))⟩,
  ⟨some 50, none, .mov (.t 63)⟩]
def B46_2 : AC := (.seq (.reg R46_10) (.seq (.cond (.t 51) .skip (.exit 4)) (.seq (.block 5 (.seq (.reg R46_11) (.seq (.reg R46_12) (.seq (.seq (.reg R46_13) (.cond (.t 55) (.reg R46_14) .skip)) (.reg R46_15))))) (.reg R46_16))))
def R46_17 : List GI := [
  ⟨some 65, none, .mov (.t 5)⟩,
  ⟨some 66, none, .mov (.t 9)⟩,
  ⟨some 67, none, .b2s (.t 66)⟩,
  ⟨some 68, none, .look false [2] (.int .i64 0) true (.t 65) (.t 67)⟩,
  ⟨some 64, none, .mov (.t 68)⟩,
  ⟨some 69, none, .ext 0 (.t 64)⟩,
  ⟨some 70, none, .ext 1 (.t 64)⟩,
  ⟨some 13, none, .mov (.t 69)⟩,
  ⟨some 14, none, .mov (.t 70)⟩]
def R46_18 : List GI := [
  ⟨some 71, none, .mov (.t 14)⟩,
  ⟨some 72, none, .un .not (.t 71)⟩]
def R46_19 : List GI := [
  ⟨some 73, none, .mov (.t 5)⟩,
  ⟨some 74, none, .lenm (.t 73)⟩,
  ⟨some 13, none, .mov (.t 74)⟩]
def R46_20 : List GI := [
  ⟨some 75, none, .mov (.t 5)⟩,
  ⟨some 76, none, .mov (.t 9)⟩,
  ⟨some 77, none, .b2s (.t 76)⟩,
  ⟨some 78, none, .mov (.t 13)⟩,
  ⟨none, none, .mset false [2] (.t 75) (.t 77) (.t 78)⟩]
def R46_21 : List GI := [
  ⟨some 79, none, .mov (.t 6)⟩,
  ⟨some 80, none, .mov (.t 7)⟩,
  ⟨some 81, none, .mov (.t 13)⟩,
  ⟨some 82, none, .ixs 1 (.t 79) (.t 80)⟩,
  ⟨none, none, .store 1 (.t 82) (.t 81)⟩]
def R46_22 : List GI := [
  ⟨some 83, none, .bin .add (.t 30) (.k (.int .i64 1))⟩,
  ⟨some 30, none, .mov (.t 83)⟩]
def B46_1 : AC := (.seq (.reg R46_6) (.seq (.cond (.t 31) .skip (.exit 2)) (.seq (.block 3 (.seq (.reg R46_7) (.seq (.regd R46_8 [(11, 7)]) (.seq (.seq (.reg R46_9) (.block 4 (.loop B46_2))) (.seq (.reg R46_17) (.seq (.seq (.reg R46_18) (.cond (.t 72) (.seq (.reg R46_19) (.reg R46_20)) .skip)) (.reg R46_21))))))) (.reg R46_22))))
def R46_23 : List GI := [
  ⟨some 84, none, .mov (.t 6)⟩,
  ⟨some 3, none, .mov (.t 84)⟩]
def R46_24 : List GI := [
  ⟨some 85, none, .mov (.t 5)⟩,
  ⟨some 86, none, .lenm (.t 85)⟩,
  ⟨some 87, none, .mov (.t 4)⟩,
  ⟨some 88, none, .bin .eql (.t 86) (.t 87)⟩]
def R46_25 : List GI := [
  ⟨some 89, none, .mov (.t 3)⟩,
  ⟨some 2, none, .mov (.t 89)⟩]
def R46_26 : List GI := [
  ⟨some 90, none, .mov (.t 5)⟩,
  ⟨some 91, none, .lenm (.t 90)⟩,
  ⟨some 4, none, .mov (.t 91)⟩]
def B46_0 : AC := (.block 1 (.seq (.reg R46_3) (.seq (.reg R46_4) (.seq (.seq (.reg R46_5) (.block 2 (.loop B46_1))) (.seq (.reg R46_23) (.seq (.seq (.reg R46_24) (.cond (.t 88) (.seq (.reg R46_25) .ret) .skip)) (.reg R46_26)))))))
def A46 : AF := ⟨(.seq (.reg R46_0) (.seq (.reg R46_1) (.seq (.reg R46_2) (.block 0 (.loop B46_0))))), [(2, none)]⟩

/-- rootstock/mini.classed -/
def R47_0 : List GI := [
  ⟨some 5, none, .box 34 259 (.t 1)⟩]
def R47_1 : List GI := [
  ⟨some 24, none, .mkm⟩,
  ⟨some 8, none, .mov (.t 24)⟩]
def R47_2 : List GI := [
  ⟨some 9, none, .alloc 30 (rl [(256, (.int .u8 0))])⟩]
def R47_3 : List GI := [
  ⟨some 10, none, .mov (.k (.slice none 0 0))⟩]
def R47_4 : List GI := [
  ⟨some 25, none, .mov (.t 2)⟩,
  ⟨some 26, none, .lens (.t 25)⟩,
  ⟨some 27, none, .mov (.k (.int .i64 0))⟩]
def R47_5 : List GI := [
  ⟨some 28, none, .bin .lss (.t 27) (.t 26)⟩]
def R47_6 : List GI := [
  ⟨some 29, none, .mov (.t 27)⟩,
  ⟨some 30, none, .ixs 1 (.t 25) (.t 27)⟩,
  ⟨some 31, none, .load (.t 30)⟩,
  ⟨some 11, none, .mov (.t 29)⟩,
  ⟨some 12, none, .mov (.t 31)⟩]
def R47_7 : List GI := [
  ⟨some 13, none, .mov (.k (.slice none 0 0))⟩]
def R47_8 : List GI := [
  ⟨some 32, none, .mov (.t 3)⟩,
  ⟨some 33, none, .lens (.t 32)⟩,
  ⟨some 34, none, .mov (.k (.int .i64 0))⟩]
def R47_9 : List GI := [
  ⟨some 35, none, .bin .lss (.t 34) (.t 33)⟩]
def R47_10 : List GI := [
  ⟨some 36, none, .ixs 1 (.t 32) (.t 34)⟩,
  ⟨some 37, none, .load (.t 36)⟩,
  ⟨some 15, none, .mov (.t 37)⟩]
def R47_11 : List GI := [
  ⟨some 38, none, .mov (.t 13)⟩,
  ⟨some 39, none, .mov (.t 15)⟩,
  ⟨some 40, none, .mov (.t 11)⟩,
  ⟨some 41, none, .ixs 1 (.t 39) (.t 40)⟩,
  ⟨some 42, none, .load (.t 41)⟩,
  ⟨some 43, none, .call 73 [(.t 38), (.t 42)]⟩,
  ⟨some 13, none, .mov (.t 43)⟩]
def R47_12 : List GI := [
  ⟨some 44, none, .bin .add (.t 34) (.k (.int .i64 1))⟩,
  ⟨some 34, none, .mov (.t 44)⟩]
def B47_1 : AC := (.seq (.reg R47_9) (.seq (.cond (.t 35) .skip (.exit 2)) (.seq (.block 3 (.seq (.reg R47_10) (.reg R47_11))) (.reg R47_12))))
def R47_13 : List GI := [
  ⟨some 46, none, .mov (.t 8)⟩,
  ⟨some 47, none, .mov (.t 13)⟩,
  ⟨some 48, none, .b2s (.t 47)⟩,
  ⟨some 49, none, .look false [2] (.int .i64 0) true (.t 46) (.t 48)⟩,
  ⟨some 45, none, .mov (.t 49)⟩,
  ⟨some 50, none, .ext 0 (.t 45)⟩,
  ⟨some 51, none, .ext 1 (.t 45)⟩,
  ⟨some 16, none, .mov (.t 50)⟩,
  ⟨some 17, none, .mov (.t 51)⟩]
def R47_14 : List GI := [
  ⟨some 52, none, .mov (.t 17)⟩,
  ⟨some 53, none, .un .not (.t 52)⟩]
def R47_15 : List GI := [
  ⟨some 54, none, .mov (.t 10)⟩,
  ⟨some 55, none, .lens (.t 54)⟩,
  ⟨some 16, none, .mov (.t 55)⟩]
def R47_16 : List GI := [
  ⟨some 56, none, .mov (.t 8)⟩,
  ⟨some 57, none, .mov (.t 13)⟩,
  ⟨some 58, none, .b2s (.t 57)⟩,
  ⟨some 59, none, .mov (.t 16)⟩,
  ⟨none, none, .mset false [2] (.t 56) (.t 58) (.t 59)⟩]
def R47_17 : List GI := [
  ⟨some 60, none, .mov (.t 10)⟩,
  ⟨some 61, none, .mov (.t 11)⟩,
  ⟨some 62, none, .bslice 3 1 [(.int .i64 0)] [(0, 1, (.t 61))]⟩,
  ⟨some 63, none, .app 3 1 8 (.t 60) (.t 62)⟩,
  ⟨some 10, none, .mov (.t 63)⟩]
def R47_18 : List GI := [
  ⟨some 64, none, .mov (.t 12)⟩,
  ⟨some 65, none, .fadr 1 (.t 5)⟩,
  ⟨some 66, none, .ixa 256 1 (.t 65) (.t 64)⟩,
  ⟨some 67, none, .load (.t 66)⟩,
  ⟨some 68, none, .mov (.t 16)⟩,
  ⟨some 69, none, .conv .u8 (.t 68)⟩,
  ⟨some 70, none, .ixa 256 1 (.t 9) (.t 67)⟩,
  ⟨none, none, .store 1 (.t 70) (.t 69)⟩]
def R47_19 : List GI := [
  ⟨some 71, none, .bin .add (.t 27) (.k (.int .i64 1))⟩,
  ⟨some 27, none, .mov (.t 71)⟩]
def B47_0 : AC := (.seq (.reg R47_5) (.seq (.cond (.t 28) .skip (.exit 0)) (.seq (.block 1 (.seq (.reg R47_6) (.seq (.reg R47_7) (.seq (.seq (.reg R47_8) (.block 2 (.loop B47_1))) (.seq (.reg R47_13) (.seq (.seq (.reg R47_14) (.cond (.t 53) (.seq (.reg R47_15) (.seq (.reg R47_16) (.reg R47_17))) .skip)) (.reg R47_18))))))) (.reg R47_19))))
def R47_20 : List GI := [
  ⟨some 72, none, .mov (.k (.int .i64 0))⟩]
def R47_21 : List GI := [
  ⟨some 73, none, .bin .lss (.t 72) (.k (.int .i64 256))⟩]
def R47_22 : List GI := [
  ⟨some 74, none, .mov (.t 72)⟩,
  ⟨some 18, none, .mov (.t 74)⟩]
def R47_23 : List GI := [
  ⟨some 75, none, .mov (.t 0)⟩,
  ⟨some 76, none, .mov (.t 18)⟩,
  ⟨some 77, none, .mov (.t 18)⟩,
  ⟨some 78, none, .fadr 1 (.t 5)⟩,
  ⟨some 79, none, .ixa 256 1 (.t 78) (.t 77)⟩,
  ⟨some 80, none, .load (.t 79)⟩,
  ⟨some 81, none, .ixa 256 1 (.t 9) (.t 80)⟩,
  ⟨some 82, none, .load (.t 81)⟩,
  ⟨some 83, none, .nilchk (.t 75)⟩,
  ⟨some 84, none, .fadr 1 (.t 83)⟩,
  ⟨some 85, none, .ixa 256 1 (.t 84) (.t 76)⟩,
  ⟨none, none, .store 1 (.t 85) (.t 82)⟩]
def R47_24 : List GI := [
  ⟨some 86, none, .bin .add (.t 72) (.k (.int .i64 1))⟩,
  ⟨some 72, none, .mov (.t 86)⟩]
def B47_2 : AC := (.seq (.reg R47_21) (.seq (.cond (.t 73) .skip (.exit 4)) (.seq (.block 5 (.seq (.reg R47_22) (.regd R47_23 []))) (.reg R47_24))))
def R47_25 : List GI := [
  ⟨some 87, none, .mov (.t 3)⟩,
  ⟨some 88, none, .lens (.t 87)⟩,
  ⟨some 89, none, .mov (.k (.int .i64 0))⟩]
def R47_26 : List GI := [
  ⟨some 90, none, .bin .lss (.t 89) (.t 88)⟩]
def R47_27 : List GI := [
  ⟨some 91, none, .ixs 1 (.t 87) (.t 89)⟩,
  ⟨some 92, none, .load (.t 91)⟩,
  ⟨some 20, none, .mov (.t 92)⟩]
def R47_28 : List GI := [
  ⟨some 93, none, .mov (.t 10)⟩,
  ⟨some 94, none, .lens (.t 93)⟩,
  ⟨some 95, none, .mks 3 1 8 [(.int .i64 0)] (.t 94) (.t 94)⟩,
  ⟨some 21, none, .mov (.t 95)⟩]
def R47_29 : List GI := [
  ⟨some 96, none, .mov (.t 10)⟩,
  ⟨some 97, none, .lens (.t 96)⟩,
  ⟨some 98, none, .mov (.k (.int .i64 0))⟩]
def R47_30 : List GI := [
  ⟨some 99, none, .bin .lss (.t 98) (.t 97)⟩]
def R47_31 : List GI := [
  ⟨some 100, none, .mov (.t 98)⟩,
  ⟨some 101, none, .ixs 1 (.t 96) (.t 98)⟩,
  ⟨some 102, none, .load (.t 101)⟩,
  ⟨some 22, none, .mov (.t 100)⟩,
  ⟨some 23, none, .mov (.t 102)⟩]
def R47_32 : List GI := [
  ⟨some 103, none, .mov (.t 21)⟩,
  ⟨some 104, none, .mov (.t 22)⟩,
  ⟨some 105, none, .mov (.t 20)⟩,
  ⟨some 106, none, .mov (.t 23)⟩,
  ⟨some 107, none, .ixs 1 (.t 105) (.t 106)⟩,
  ⟨some 108, none, .load (.t 107)⟩,
  ⟨some 109, none, .ixs 1 (.t 103) (.t 104)⟩,
  ⟨none, none, .store 1 (.t 109) (.t 108)⟩]
def R47_33 : List GI := [
  ⟨some 110, none, .bin .add (.t 98) (.k (.int .i64 1))⟩,
  ⟨some 98, none, .mov (.t 110)⟩]
def B47_4 : AC := (.seq (.reg R47_30) (.seq (.cond (.t 99) .skip (.exit 8)) (.seq (.block 9 (.seq (.reg R47_31) (.reg R47_32))) (.reg R47_33))))
def R47_34 : List GI := [
  ⟨some 111, none, .mov (.t 0)⟩,
  ⟨some 112, none, .mov (.t 0)⟩,
  ⟨some 113, none, .nilchk (.t 112)⟩,
  ⟨some 114, none, .fadr 257 (.t 113)⟩,
  ⟨some 115, none, .load (.t 114)⟩,
  ⟨some 116, none, .mov (.t 21)⟩,
  ⟨some 117, none, .bslice 32 1 [(.slice none 0 0)] [(0, 1, (.t 116))]⟩,
  ⟨some 118, none, .app 32 1 24 (.t 115) (.t 117)⟩,
  ⟨some 119, none, .nilchk (.t 111)⟩,
  ⟨some 120, none, .fadr 257 (.t 119)⟩,
  ⟨none, none, .store 1 (.t 120) (.t 118)⟩]
def R47_35 : List GI := [
  ⟨some 121, none, .bin .add (.t 89) (.k (.int .i64 1))⟩,
  ⟨some 89, none, .mov (.t 121)⟩]
def B47_3 : AC := (.seq (.reg R47_26) (.seq (.cond (.t 90) .skip (.exit 6)) (.seq (.block 7 (.seq (.reg R47_27) (.seq (.reg R47_28) (.seq (.seq (.reg R47_29) (.block 8 (.loop B47_4))) (.reg R47_34))))) (.reg R47_35))))
def A47 : AF := ⟨(.seq (.reg R47_0) (.seq (.reg R47_1) (.seq (.reg R47_2) (.seq (.reg R47_3) (.seq (.seq (.reg R47_4) (.block 0 (.loop B47_0))) (.seq (.seq (.reg R47_20) (.block 4 (.loop B47_2))) (.seq (.reg R47_25) (.block 6 (.loop B47_3))))))))), []⟩

/-- rootstock/mini.reps -/
def R70_0 : List GI := [
  ⟨some 1, none, .box 34 259 (.t 0)⟩,
  ⟨some 2, none, .mov (.k (.slice none 0 0))⟩]
def R70_1 : List GI := [
  ⟨some 3, none, .mov (.k (.slice none 0 0))⟩]
def R70_2 : List GI := [
  ⟨some 4, none, .alloc 120 (rl [(256, (.bool false))])⟩]
def R70_3 : List GI := [
  ⟨some 7, none, .mov (.k (.int .i64 0))⟩]
def R70_4 : List GI := [
  ⟨some 8, none, .bin .lss (.t 7) (.k (.int .i64 256))⟩]
def R70_5 : List GI := [
  ⟨some 9, none, .mov (.t 7)⟩,
  ⟨some 5, none, .mov (.t 9)⟩]
def R70_6 : List GI := [
  ⟨some 10, none, .mov (.t 5)⟩,
  ⟨some 11, none, .fadr 1 (.t 1)⟩,
  ⟨some 12, none, .ixa 256 1 (.t 11) (.t 10)⟩,
  ⟨some 13, none, .load (.t 12)⟩,
  ⟨some 6, none, .mov (.t 13)⟩]
def R70_7 : List GI := [
  ⟨some 14, none, .mov (.t 6)⟩,
  ⟨some 15, none, .ixa 256 1 (.t 4) (.t 14)⟩,
  ⟨some 16, none, .load (.t 15)⟩,
  ⟨some 17, none, .un .not (.t 16)⟩]
def R70_8 : List GI := [
  ⟨some 18, none, .mov (.t 6)⟩,
  ⟨some 19, none, .ixa 256 1 (.t 4) (.t 18)⟩,
  ⟨none, none, .store 1 (.t 19) (.k (.bool true))⟩]
def R70_9 : List GI := [
  ⟨some 20, none, .mov (.t 3)⟩,
  ⟨some 21, none, .mov (.t 5)⟩,
  ⟨some 22, none, .conv .u8 (.t 21)⟩,
  ⟨some 23, none, .bslice 5 1 [(.int .u8 0)] [(0, 1, (.t 22))]⟩,
  ⟨some 24, none, .app 5 1 1 (.t 20) (.t 23)⟩,
  ⟨some 3, none, .mov (.t 24)⟩]
def R70_10 : List GI := [
  ⟨some 25, none, .bin .add (.t 7) (.k (.int .i64 1))⟩,
  ⟨some 7, none, .mov (.t 25)⟩]
def B70_0 : AC := (.seq (.reg R70_4) (.seq (.cond (.t 8) .skip (.exit 0)) (.seq (.block 1 (.seq (.reg R70_5) (.seq (.reg R70_6) (.seq (.reg R70_7) (.cond (.t 17) (.seq (.reg R70_8) (.reg R70_9)) .skip))))) (.reg R70_10))))
def R70_11 : List GI := [
  ⟨some 26, none, .mov (.t 3)⟩,
  ⟨some 2, none, .mov (.t 26)⟩]
def A70 : AF := ⟨(.seq (.reg R70_0) (.seq (.reg R70_1) (.seq (.reg R70_2) (.seq (.seq (.reg R70_3) (.block 0 (.loop B70_0))) (.seq (.reg R70_11) .ret))))), [(2, none)]⟩

/-- rootstock/mini.rule -/
def R71_0 : List GI := [
  ⟨some 2, none, .box 34 259 (.t 0)⟩,
  ⟨some 4, none, .mov (.k (.int .i64 0))⟩]
def R71_1 : List GI := [
  ⟨some 5, none, .fadr 258 (.t 2)⟩,
  ⟨some 6, none, .load (.t 5)⟩,
  ⟨some 7, none, .mov (.t 1)⟩,
  ⟨some 8, none, .ixs 1 (.t 6) (.t 7)⟩,
  ⟨some 9, none, .load (.t 8)⟩,
  ⟨some 10, none, .minmax true [(.t 9), (.k (.int .i64 (-1)))]⟩,
  ⟨some 4, none, .mov (.t 10)⟩]
def A71 : AF := ⟨(.seq (.reg R71_0) (.seq (.reg R71_1) .ret)), [(4, none)]⟩

/-- rootstock/mini.lives -/
def R72_0 : List GI := [
  ⟨some 4, none, .mov (.k (.slice none 0 0))⟩]
def R72_1 : List GI := [
  ⟨some 13, none, .mov (.t 0)⟩,
  ⟨some 14, none, .lens (.t 13)⟩,
  ⟨some 15, none, .mks 32 1 24 [(.slice none 0 0)] (.t 14) (.t 14)⟩,
  ⟨some 5, none, .mov (.t 15)⟩]
def R72_2 : List GI := [
  ⟨some 16, none, .mov (.t 0)⟩,
  ⟨some 17, none, .lens (.t 16)⟩,
  ⟨some 18, none, .mks 4 1 1 [(.bool false)] (.t 17) (.t 17)⟩,
  ⟨some 6, none, .mov (.t 18)⟩]
def R72_3 : List GI := [
  ⟨some 7, none, .mov (.k (.slice none 0 0))⟩]
def R72_4 : List GI := [
  ⟨some 19, none, .mov (.t 0)⟩,
  ⟨some 20, none, .lens (.t 19)⟩,
  ⟨some 21, none, .mov (.k (.int .i64 0))⟩]
def R72_5 : List GI := [
  ⟨some 22, none, .bin .lss (.t 21) (.t 20)⟩]
def R72_6 : List GI := [
  ⟨some 23, none, .mov (.t 21)⟩,
  ⟨some 24, none, .ixs 1 (.t 19) (.t 21)⟩,
  ⟨some 25, none, .load (.t 24)⟩,
  ⟨some 8, none, .mov (.t 23)⟩,
  ⟨some 9, none, .mov (.t 25)⟩]
def R72_7 : List GI := [
  ⟨some 26, none, .mov (.t 9)⟩,
  ⟨some 27, none, .lens (.t 26)⟩,
  ⟨some 28, none, .mov (.k (.int .i64 0))⟩]
def R72_8 : List GI := [
  ⟨some 29, none, .bin .lss (.t 28) (.t 27)⟩]
def R72_9 : List GI := [
  ⟨some 30, none, .ixs 1 (.t 26) (.t 28)⟩,
  ⟨some 31, none, .load (.t 30)⟩,
  ⟨some 11, none, .mov (.t 31)⟩]
def R72_10 : List GI := [
  ⟨some 32, none, .mov (.t 11)⟩,
  ⟨some 33, none, .bin .geq (.t 32) (.k (.int .i64 0))⟩]
def R72_11 : List GI := [
  ⟨some 34, none, .mov (.t 5)⟩,
  ⟨some 35, none, .mov (.t 11)⟩,
  ⟨some 36, none, .mov (.t 5)⟩,
  ⟨some 37, none, .mov (.t 11)⟩,
  ⟨some 38, none, .ixs 1 (.t 36) (.t 37)⟩,
  ⟨some 39, none, .load (.t 38)⟩,
  ⟨some 40, none, .mov (.t 8)⟩,
  ⟨some 41, none, .bslice 3 1 [(.int .i64 0)] [(0, 1, (.t 40))]⟩,
  ⟨some 42, none, .app 3 1 8 (.t 39) (.t 41)⟩,
  ⟨some 43, none, .ixs 1 (.t 34) (.t 35)⟩,
  ⟨none, none, .store 1 (.t 43) (.t 42)⟩]
def R72_12 : List GI := [
  ⟨some 44, none, .bin .add (.t 28) (.k (.int .i64 1))⟩,
  ⟨some 28, none, .mov (.t 44)⟩]
def B72_1 : AC := (.seq (.reg R72_8) (.seq (.cond (.t 29) .skip (.exit 2)) (.seq (.block 3 (.seq (.reg R72_9) (.seq (.reg R72_10) (.cond (.t 33) (.reg R72_11) .skip)))) (.reg R72_12))))
def R72_13 : List GI := [
  ⟨some 45, none, .mov (.t 1)⟩,
  ⟨some 46, none, .mov (.t 8)⟩,
  ⟨some 47, none, .ixs 1 (.t 45) (.t 46)⟩,
  ⟨some 48, none, .load (.t 47)⟩,
  ⟨some 49, none, .bin .geq (.t 48) (.k (.int .i64 0))⟩]
def R72_14 : List GI := [
  ⟨some 50, none, .mov (.t 7)⟩,
  ⟨some 51, none, .mov (.t 8)⟩,
  ⟨some 52, none, .bslice 3 1 [(.int .i64 0)] [(0, 1, (.t 51))]⟩,
  ⟨some 53, none, .app 3 1 8 (.t 50) (.t 52)⟩,
  ⟨some 7, none, .mov (.t 53)⟩]
def R72_15 : List GI := [
  ⟨some 54, none, .bin .add (.t 21) (.k (.int .i64 1))⟩,
  ⟨some 21, none, .mov (.t 54)⟩]
def B72_0 : AC := (.seq (.reg R72_5) (.seq (.cond (.t 22) .skip (.exit 0)) (.seq (.block 1 (.seq (.reg R72_6) (.seq (.seq (.reg R72_7) (.block 2 (.loop B72_1))) (.seq (.reg R72_13) (.cond (.t 49) (.reg R72_14) .skip))))) (.reg R72_15))))
def R72_16 : List GI := [
  ⟨some 55, none, .mov (.t 7)⟩,
  ⟨some 56, none, .lens (.t 55)⟩,
  ⟨some 57, none, .bin .gtr (.t 56) (.k (.int .i64 0))⟩]
def R72_17 : List GI := [
  ⟨some 58, none, .mov (.t 7)⟩,
  ⟨some 59, none, .mov (.t 7)⟩,
  ⟨some 60, none, .lens (.t 59)⟩,
  ⟨some 61, none, .bin .sub (.t 60) (.k (.int .i64 1))⟩,
  ⟨some 62, none, .ixs 1 (.t 58) (.t 61)⟩,
  ⟨some 63, none, .load (.t 62)⟩,
  ⟨some 12, none, .mov (.t 63)⟩]
def R72_18 : List GI := [
  ⟨some 64, none, .mov (.t 7)⟩,
  ⟨some 65, none, .mov (.t 7)⟩,
  ⟨some 66, none, .lens (.t 65)⟩,
  ⟨some 67, none, .bin .sub (.t 66) (.k (.int .i64 1))⟩,
  ⟨some 68, none, .slc 3 1 (.t 64) none (some (.t 67)) none⟩,
  ⟨some 7, none, .mov (.t 68)⟩]
def R72_19 : List GI := [
  ⟨some 69, none, .mov (.t 6)⟩,
  ⟨some 70, none, .mov (.t 12)⟩,
  ⟨some 71, none, .ixs 1 (.t 69) (.t 70)⟩,
  ⟨some 72, none, .load (.t 71)⟩,
  ⟨some 73, none, .un .not (.t 72)⟩]
def R72_20 : List GI := [
  ⟨some 74, none, .mov (.t 6)⟩,
  ⟨some 75, none, .mov (.t 12)⟩,
  ⟨some 76, none, .ixs 1 (.t 74) (.t 75)⟩,
  ⟨none, none, .store 1 (.t 76) (.k (.bool true))⟩]
def R72_21 : List GI := [
  ⟨some 77, none, .mov (.t 7)⟩,
  ⟨some 78, none, .mov (.t 5)⟩,
  ⟨some 79, none, .mov (.t 12)⟩,
  ⟨some 80, none, .ixs 1 (.t 78) (.t 79)⟩,
  ⟨some 81, none, .load (.t 80)⟩,
  ⟨some 82, none, .app 3 1 8 (.t 77) (.t 81)⟩,
  ⟨some 7, none, .mov (.t 82)⟩]
def B72_2 : AC := (.seq (.seq (.reg R72_16) (.cond (.t 57) .skip (.exit 4))) (.block 5 (.seq (.reg R72_17) (.seq (.reg R72_18) (.seq (.reg R72_19) (.cond (.t 73) (.seq (.reg R72_20) (.reg R72_21)) .skip))))))
def R72_22 : List GI := [
  ⟨some 83, none, .mov (.t 6)⟩,
  ⟨some 4, none, .mov (.t 83)⟩]
def A72 : AF := ⟨(.seq (.reg R72_0) (.seq (.reg R72_1) (.seq (.reg R72_2) (.seq (.reg R72_3) (.seq (.seq (.reg R72_4) (.block 0 (.loop B72_0))) (.seq (.block 4 (.loop B72_2)) (.seq (.reg R72_22) .ret))))))), [(4, none)]⟩

/-- rootstock/mini.put -/
def R73_0 : List GI := [
  ⟨some 4, none, .mov (.k (.slice none 0 0))⟩]
def R73_1 : List GI := [
  ⟨some 5, none, .mov (.t 0)⟩,
  ⟨some 6, none, .mov (.t 1)⟩,
  ⟨some 7, none, .bin .add (.t 6) (.k (.int .i64 1))⟩,
  ⟨some 8, none, .bin .shr (.t 7) (.k (.int .u64 16))⟩,
  ⟨some 9, none, .conv .u8 (.t 8)⟩,
  ⟨some 10, none, .mov (.t 1)⟩,
  ⟨some 11, none, .bin .add (.t 10) (.k (.int .i64 1))⟩,
  ⟨some 12, none, .bin .shr (.t 11) (.k (.int .u64 8))⟩,
  ⟨some 13, none, .conv .u8 (.t 12)⟩,
  ⟨some 14, none, .mov (.t 1)⟩,
  ⟨some 15, none, .bin .add (.t 14) (.k (.int .i64 1))⟩,
  ⟨some 16, none, .conv .u8 (.t 15)⟩,
  ⟨some 17, none, .bslice 5 3 [(.int .u8 0), (.int .u8 0), (.int .u8 0)] [(0, 1, (.t 9)), (1, 1, (.t 13)), (2, 1, (.t 16))]⟩,
  ⟨some 18, none, .app 5 1 1 (.t 5) (.t 17)⟩,
  ⟨some 4, none, .mov (.t 18)⟩]
def A73 : AF := ⟨(.seq (.reg R73_0) (.seq (.reg R73_1) .ret)), [(4, none)]⟩

end
end Go.Rx
