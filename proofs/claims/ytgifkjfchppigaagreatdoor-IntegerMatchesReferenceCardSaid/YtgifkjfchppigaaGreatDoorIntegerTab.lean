/- the functions of integer for the own evaluator -/
import Derived.Test.YtgifkjfchppigaaGreatDoorVSO
namespace Go.VI.Integer
set_option linter.unusedVariables false
def g2 : List AV := [(.int .u64 1), (.int .u64 10), (.int .u64 100), (.int .u64 1000), (.int .u64 10000), (.int .u64 100000), (.int .u64 1000000), (.int .u64 10000000), (.int .u64 100000000), (.int .u64 1000000000), (.int .u64 10000000000), (.int .u64 100000000000), (.int .u64 1000000000000), (.int .u64 10000000000000), (.int .u64 100000000000000), (.int .u64 1000000000000000), (.int .u64 10000000000000000), (.int .u64 100000000000000000), (.int .u64 1000000000000000000), (.int .u64 10000000000000000000)]
def g5 : List AV := [(.int .u8 128), (.int .u8 191), (.int .u8 160), (.int .u8 191), (.int .u8 128), (.int .u8 159), (.int .u8 144), (.int .u8 191), (.int .u8 128), (.int .u8 143), (.int .u8 0), (.int .u8 0), (.int .u8 0), (.int .u8 0), (.int .u8 0), (.int .u8 0), (.int .u8 0), (.int .u8 0), (.int .u8 0), (.int .u8 0), (.int .u8 0), (.int .u8 0), (.int .u8 0), (.int .u8 0), (.int .u8 0), (.int .u8 0), (.int .u8 0), (.int .u8 0), (.int .u8 0), (.int .u8 0), (.int .u8 0), (.int .u8 0)]
def g6 : List AV := [(.int .u8 0), (.int .u8 1), (.int .u8 28), (.int .u8 2), (.int .u8 29), (.int .u8 14), (.int .u8 24), (.int .u8 3), (.int .u8 30), (.int .u8 22), (.int .u8 20), (.int .u8 15), (.int .u8 25), (.int .u8 17), (.int .u8 4), (.int .u8 8), (.int .u8 31), (.int .u8 27), (.int .u8 13), (.int .u8 23), (.int .u8 21), (.int .u8 19), (.int .u8 16), (.int .u8 7), (.int .u8 26), (.int .u8 12), (.int .u8 18), (.int .u8 6), (.int .u8 11), (.int .u8 5), (.int .u8 10), (.int .u8 9)]
def g7 : List AV := [(.int .u8 0), (.int .u8 1), (.int .u8 56), (.int .u8 2), (.int .u8 57), (.int .u8 49), (.int .u8 28), (.int .u8 3), (.int .u8 61), (.int .u8 58), (.int .u8 42), (.int .u8 50), (.int .u8 38), (.int .u8 29), (.int .u8 17), (.int .u8 4), (.int .u8 62), (.int .u8 47), (.int .u8 59), (.int .u8 36), (.int .u8 45), (.int .u8 43), (.int .u8 51), (.int .u8 22), (.int .u8 53), (.int .u8 39), (.int .u8 33), (.int .u8 30), (.int .u8 24), (.int .u8 18), (.int .u8 12), (.int .u8 5), (.int .u8 63), (.int .u8 55), (.int .u8 48), (.int .u8 27), (.int .u8 60), (.int .u8 41), (.int .u8 37), (.int .u8 16), (.int .u8 46), (.int .u8 35), (.int .u8 44), (.int .u8 21), (.int .u8 52), (.int .u8 32), (.int .u8 23), (.int .u8 11), (.int .u8 54), (.int .u8 26), (.int .u8 40), (.int .u8 15), (.int .u8 34), (.int .u8 20), (.int .u8 31), (.int .u8 10), (.int .u8 25), (.int .u8 14), (.int .u8 19), (.int .u8 9), (.int .u8 13), (.int .u8 8), (.int .u8 7), (.int .u8 6)]
@[go_sem] def c9_0 : XC := (.pre [2, 7, 48, 49, 50]
  (.seq (.reg false [2, 7, 48, 49, 50, 51] [] [⟨some 51,none,[],.bin .lss (.t 50) (.t 49)⟩])
 (.seq (.cond (.t 51)
 .skip
 (.pre [2, 7] (.exit 0)))
 (.pre [2, 7, 48, 49, 50] (.seq (.blk 1
 (.seq (.reg false [2, 7, 9, 48, 49, 50] [] [⟨some 52,none,[],.ixS 2 (.t 48) (.t 50)⟩,
⟨some 53,none,[],.load (.agg 2) (.t 52)⟩,
⟨some 9,none,[],.alloc 0 [.str [], .str []]⟩,
⟨none,none,[],.store 2 (.t 9) (.t 53)⟩])
 (.seq (.reg false [2, 7, 9, 10, 11, 48, 49, 50] [] [⟨some 55,none,[],.ixA 2 1 (.t 9) (.c (.int .i64 0))⟩,
⟨some 56,none,[],.load .one (.t 55)⟩,
⟨some 57,none,[],.ixA 2 1 (.t 9) (.c (.int .i64 1))⟩,
⟨some 58,none,[],.load .one (.t 57)⟩,
⟨some 59,none,[],.call (.c (.fn 14 [])) [(.t 56), (.t 58)] []⟩,
⟨some 54,none,[],.mov (.t 59)⟩,
⟨some 60,none,[],.ext (.t 54) 0⟩,
⟨some 61,none,[],.ext (.t 54) 1⟩,
⟨some 10,none,[],.mov (.t 60)⟩,
⟨some 11,none,[],.mov (.t 61)⟩])
 (.seq (.reg false [2, 7, 9, 10, 11, 12, 13, 48, 49, 50] [] [⟨some 63,none,[],.ixA 2 1 (.t 9) (.c (.int .i64 0))⟩,
⟨some 64,none,[],.load .one (.t 63)⟩,
⟨some 65,none,[],.ixA 2 1 (.t 9) (.c (.int .i64 1))⟩,
⟨some 66,none,[],.load .one (.t 65)⟩,
⟨some 67,none,[],.call (.c (.fn 25 [])) [(.t 64), (.t 66)] []⟩,
⟨some 62,none,[],.mov (.t 67)⟩,
⟨some 68,none,[],.ext (.t 62) 0⟩,
⟨some 69,none,[],.ext (.t 62) 1⟩,
⟨some 12,none,[],.mov (.t 68)⟩,
⟨some 13,none,[],.mov (.t 69)⟩])
 (.seq (.seq (.reg false [2, 7, 9, 48, 49, 50, 77] [] [⟨some 70,none,[],.mov (.t 10)⟩,
⟨some 71,none,[],.mov (.t 12)⟩,
⟨some 72,none,[],.bin .neq (.t 70) (.t 71)⟩,
⟨some 73,none,[],.mov (.t 72)⟩,
⟨some 74, some (73, false), [], .mov (.t 11)⟩,
⟨some 75, some (73, false), [], .mov (.t 13)⟩,
⟨some 76, some (73, false), [], .bin .neq (.t 74) (.t 75)⟩,
⟨some 77,none,[],.pick (.t 73) (.c (.bool true)) (.t 76)⟩])
 (.cond (.t 77)
 (.seq (.reg false [6] [] [⟨some 6,none,[],.mov (.c (.bool false))⟩])
 (.pre [6] .ret))
 .skip))
 (.pre [2, 7, 9, 48, 49, 50] (.seq (.reg false [2, 7, 9, 10, 11, 48, 49, 50] [] [⟨some 79,none,[],.ixA 2 1 (.t 9) (.c (.int .i64 0))⟩,
⟨some 80,none,[],.load .one (.t 79)⟩,
⟨some 81,none,[],.ixA 2 1 (.t 9) (.c (.int .i64 1))⟩,
⟨some 82,none,[],.load .one (.t 81)⟩,
⟨some 83,none,[],.call (.c (.fn 16 [])) [(.t 80), (.t 82)] []⟩,
⟨some 78,none,[],.mov (.t 83)⟩,
⟨some 84,none,[],.ext (.t 78) 0⟩,
⟨some 85,none,[],.ext (.t 78) 1⟩,
⟨some 10,none,[],.mov (.t 84)⟩,
⟨some 11,none,[],.mov (.t 85)⟩])
 (.seq (.reg false [2, 7, 9, 10, 11, 12, 13, 48, 49, 50] [] [⟨some 87,none,[],.ixA 2 1 (.t 9) (.c (.int .i64 0))⟩,
⟨some 88,none,[],.load .one (.t 87)⟩,
⟨some 89,none,[],.ixA 2 1 (.t 9) (.c (.int .i64 1))⟩,
⟨some 90,none,[],.load .one (.t 89)⟩,
⟨some 91,none,[],.call (.c (.fn 26 [])) [(.t 88), (.t 90)] []⟩,
⟨some 86,none,[],.mov (.t 91)⟩,
⟨some 92,none,[],.ext (.t 86) 0⟩,
⟨some 93,none,[],.ext (.t 86) 1⟩,
⟨some 12,none,[],.mov (.t 92)⟩,
⟨some 13,none,[],.mov (.t 93)⟩])
 (.seq (.seq (.reg false [2, 7, 9, 48, 49, 50, 101] [] [⟨some 94,none,[],.mov (.t 10)⟩,
⟨some 95,none,[],.mov (.t 12)⟩,
⟨some 96,none,[],.bin .neq (.t 94) (.t 95)⟩,
⟨some 97,none,[],.mov (.t 96)⟩,
⟨some 98, some (97, false), [], .mov (.t 11)⟩,
⟨some 99, some (97, false), [], .mov (.t 13)⟩,
⟨some 100, some (97, false), [], .bin .neq (.t 98) (.t 99)⟩,
⟨some 101,none,[],.pick (.t 97) (.c (.bool true)) (.t 100)⟩])
 (.cond (.t 101)
 (.seq (.reg false [6] [] [⟨some 6,none,[],.mov (.c (.bool false))⟩])
 (.pre [6] .ret))
 .skip))
 (.pre [2, 7, 9, 48, 49, 50] (.seq (.reg false [2, 7, 9, 10, 11, 48, 49, 50] [] [⟨some 103,none,[],.ixA 2 1 (.t 9) (.c (.int .i64 0))⟩,
⟨some 104,none,[],.load .one (.t 103)⟩,
⟨some 105,none,[],.ixA 2 1 (.t 9) (.c (.int .i64 1))⟩,
⟨some 106,none,[],.load .one (.t 105)⟩,
⟨some 107,none,[],.call (.c (.fn 15 [])) [(.t 104), (.t 106)] []⟩,
⟨some 102,none,[],.mov (.t 107)⟩,
⟨some 108,none,[],.ext (.t 102) 0⟩,
⟨some 109,none,[],.ext (.t 102) 1⟩,
⟨some 10,none,[],.mov (.t 108)⟩,
⟨some 11,none,[],.mov (.t 109)⟩])
 (.seq (.reg false [2, 7, 9, 10, 11, 12, 13, 48, 49, 50] [] [⟨some 111,none,[],.ixA 2 1 (.t 9) (.c (.int .i64 0))⟩,
⟨some 112,none,[],.load .one (.t 111)⟩,
⟨some 113,none,[],.ixA 2 1 (.t 9) (.c (.int .i64 1))⟩,
⟨some 114,none,[],.load .one (.t 113)⟩,
⟨some 115,none,[],.call (.c (.fn 27 [])) [(.t 112), (.t 114)] []⟩,
⟨some 110,none,[],.mov (.t 115)⟩,
⟨some 116,none,[],.ext (.t 110) 0⟩,
⟨some 117,none,[],.ext (.t 110) 1⟩,
⟨some 12,none,[],.mov (.t 116)⟩,
⟨some 13,none,[],.mov (.t 117)⟩])
 (.seq (.seq (.reg false [2, 7, 9, 48, 49, 50, 125] [] [⟨some 118,none,[],.mov (.t 10)⟩,
⟨some 119,none,[],.mov (.t 12)⟩,
⟨some 120,none,[],.bin .neq (.t 118) (.t 119)⟩,
⟨some 121,none,[],.mov (.t 120)⟩,
⟨some 122, some (121, false), [], .mov (.t 11)⟩,
⟨some 123, some (121, false), [], .mov (.t 13)⟩,
⟨some 124, some (121, false), [], .bin .neq (.t 122) (.t 123)⟩,
⟨some 125,none,[],.pick (.t 121) (.c (.bool true)) (.t 124)⟩])
 (.cond (.t 125)
 (.seq (.reg false [6] [] [⟨some 6,none,[],.mov (.c (.bool false))⟩])
 (.pre [6] .ret))
 .skip))
 (.pre [2, 7, 9, 48, 49, 50] (.seq (.reg false [2, 7, 9, 14, 15, 16, 48, 49, 50] [] [⟨some 127,none,[],.ixA 2 1 (.t 9) (.c (.int .i64 0))⟩,
⟨some 128,none,[],.load .one (.t 127)⟩,
⟨some 129,none,[],.ixA 2 1 (.t 9) (.c (.int .i64 1))⟩,
⟨some 130,none,[],.load .one (.t 129)⟩,
⟨some 131,none,[],.call (.c (.fn 17 [])) [(.t 128), (.t 130)] []⟩,
⟨some 126,none,[],.mov (.t 131)⟩,
⟨some 132,none,[],.ext (.t 126) 0⟩,
⟨some 133,none,[],.ext (.t 126) 1⟩,
⟨some 134,none,[],.ext (.t 126) 2⟩,
⟨some 14,none,[],.mov (.t 132)⟩,
⟨some 15,none,[],.mov (.t 133)⟩,
⟨some 16,none,[],.mov (.t 134)⟩])
 (.seq (.reg false [2, 7, 9, 14, 15, 16, 17, 18, 19, 48, 49, 50] [] [⟨some 136,none,[],.ixA 2 1 (.t 9) (.c (.int .i64 0))⟩,
⟨some 137,none,[],.load .one (.t 136)⟩,
⟨some 138,none,[],.ixA 2 1 (.t 9) (.c (.int .i64 1))⟩,
⟨some 139,none,[],.load .one (.t 138)⟩,
⟨some 140,none,[],.call (.c (.fn 28 [])) [(.t 137), (.t 139)] []⟩,
⟨some 135,none,[],.mov (.t 140)⟩,
⟨some 141,none,[],.ext (.t 135) 0⟩,
⟨some 142,none,[],.ext (.t 135) 1⟩,
⟨some 143,none,[],.ext (.t 135) 2⟩,
⟨some 17,none,[],.mov (.t 141)⟩,
⟨some 18,none,[],.mov (.t 142)⟩,
⟨some 19,none,[],.mov (.t 143)⟩])
 (.seq (.seq (.reg false [2, 7, 9, 48, 49, 50, 156] [] [⟨some 144,none,[],.mov (.t 14)⟩,
⟨some 145,none,[],.mov (.t 17)⟩,
⟨some 146,none,[],.bin .neq (.t 144) (.t 145)⟩,
⟨some 147,none,[],.mov (.t 146)⟩,
⟨some 148, some (147, false), [], .mov (.t 15)⟩,
⟨some 149, some (147, false), [], .mov (.t 18)⟩,
⟨some 150, some (147, false), [], .bin .neq (.t 148) (.t 149)⟩,
⟨some 151,none,[],.pick (.t 147) (.c (.bool true)) (.t 150)⟩,
⟨some 152,none,[],.mov (.t 151)⟩,
⟨some 153, some (152, false), [], .mov (.t 16)⟩,
⟨some 154, some (152, false), [], .mov (.t 19)⟩,
⟨some 155, some (152, false), [], .bin .neq (.t 153) (.t 154)⟩,
⟨some 156,none,[],.pick (.t 152) (.c (.bool true)) (.t 155)⟩])
 (.cond (.t 156)
 (.seq (.reg false [6] [] [⟨some 6,none,[],.mov (.c (.bool false))⟩])
 (.pre [6] .ret))
 .skip))
 (.pre [2, 7, 9, 48, 49, 50] (.seq (.reg false [2, 7, 9, 10, 11, 48, 49, 50] [] [⟨some 158,none,[],.ixA 2 1 (.t 9) (.c (.int .i64 0))⟩,
⟨some 159,none,[],.load .one (.t 158)⟩,
⟨some 160,none,[],.ixA 2 1 (.t 9) (.c (.int .i64 1))⟩,
⟨some 161,none,[],.load .one (.t 160)⟩,
⟨some 162,none,[],.call (.c (.fn 20 [])) [(.t 159), (.t 161)] []⟩,
⟨some 157,none,[],.mov (.t 162)⟩,
⟨some 163,none,[],.ext (.t 157) 0⟩,
⟨some 164,none,[],.ext (.t 157) 1⟩,
⟨some 10,none,[],.mov (.t 163)⟩,
⟨some 11,none,[],.mov (.t 164)⟩])
 (.seq (.reg false [2, 7, 9, 10, 11, 12, 13, 48, 49, 50] [] [⟨some 166,none,[],.ixA 2 1 (.t 9) (.c (.int .i64 0))⟩,
⟨some 167,none,[],.load .one (.t 166)⟩,
⟨some 168,none,[],.ixA 2 1 (.t 9) (.c (.int .i64 1))⟩,
⟨some 169,none,[],.load .one (.t 168)⟩,
⟨some 170,none,[],.call (.c (.fn 29 [])) [(.t 167), (.t 169)] []⟩,
⟨some 165,none,[],.mov (.t 170)⟩,
⟨some 171,none,[],.ext (.t 165) 0⟩,
⟨some 172,none,[],.ext (.t 165) 1⟩,
⟨some 12,none,[],.mov (.t 171)⟩,
⟨some 13,none,[],.mov (.t 172)⟩])
 (.seq (.seq (.reg false [2, 7, 9, 48, 49, 50, 180] [] [⟨some 173,none,[],.mov (.t 10)⟩,
⟨some 174,none,[],.mov (.t 12)⟩,
⟨some 175,none,[],.bin .neq (.t 173) (.t 174)⟩,
⟨some 176,none,[],.mov (.t 175)⟩,
⟨some 177, some (176, false), [], .mov (.t 11)⟩,
⟨some 178, some (176, false), [], .mov (.t 13)⟩,
⟨some 179, some (176, false), [], .bin .neq (.t 177) (.t 178)⟩,
⟨some 180,none,[],.pick (.t 176) (.c (.bool true)) (.t 179)⟩])
 (.cond (.t 180)
 (.seq (.reg false [6] [] [⟨some 6,none,[],.mov (.c (.bool false))⟩])
 (.pre [6] .ret))
 .skip))
 (.pre [2, 7, 9, 48, 49, 50] (.seq (.reg false [2, 7, 9, 10, 11, 48, 49, 50] [] [⟨some 182,none,[],.ixA 2 1 (.t 9) (.c (.int .i64 0))⟩,
⟨some 183,none,[],.load .one (.t 182)⟩,
⟨some 184,none,[],.call (.c (.fn 21 [])) [(.t 183)] []⟩,
⟨some 181,none,[],.mov (.t 184)⟩,
⟨some 185,none,[],.ext (.t 181) 0⟩,
⟨some 186,none,[],.ext (.t 181) 1⟩,
⟨some 10,none,[],.mov (.t 185)⟩,
⟨some 11,none,[],.mov (.t 186)⟩])
 (.seq (.reg false [2, 7, 9, 10, 11, 12, 13, 48, 49, 50] [] [⟨some 188,none,[],.ixA 2 1 (.t 9) (.c (.int .i64 0))⟩,
⟨some 189,none,[],.load .one (.t 188)⟩,
⟨some 190,none,[],.call (.c (.fn 30 [])) [(.t 189)] []⟩,
⟨some 187,none,[],.mov (.t 190)⟩,
⟨some 191,none,[],.ext (.t 187) 0⟩,
⟨some 192,none,[],.ext (.t 187) 1⟩,
⟨some 12,none,[],.mov (.t 191)⟩,
⟨some 13,none,[],.mov (.t 192)⟩])
 (.seq (.seq (.reg false [2, 7, 9, 48, 49, 50, 200] [] [⟨some 193,none,[],.mov (.t 10)⟩,
⟨some 194,none,[],.mov (.t 12)⟩,
⟨some 195,none,[],.bin .neq (.t 193) (.t 194)⟩,
⟨some 196,none,[],.mov (.t 195)⟩,
⟨some 197, some (196, false), [], .mov (.t 11)⟩,
⟨some 198, some (196, false), [], .mov (.t 13)⟩,
⟨some 199, some (196, false), [], .bin .neq (.t 197) (.t 198)⟩,
⟨some 200,none,[],.pick (.t 196) (.c (.bool true)) (.t 199)⟩])
 (.cond (.t 200)
 (.seq (.reg false [6] [] [⟨some 6,none,[],.mov (.c (.bool false))⟩])
 (.pre [6] .ret))
 .skip))
 (.pre [2, 7, 9, 48, 49, 50] (.seq (.reg false [2, 7, 9, 20, 21, 48, 49, 50] [] [⟨some 202,none,[],.ixA 2 1 (.t 9) (.c (.int .i64 0))⟩,
⟨some 203,none,[],.load .one (.t 202)⟩,
⟨some 204,none,[],.call (.c (.fn 31 [])) [(.t 203)] []⟩,
⟨some 201,none,[],.mov (.t 204)⟩,
⟨some 205,none,[],.ext (.t 201) 0⟩,
⟨some 206,none,[],.ext (.t 201) 1⟩,
⟨some 20,none,[],.mov (.t 205)⟩,
⟨some 21,none,[],.mov (.t 206)⟩])
 (.seq (.reg false [2, 7, 9, 20, 21, 22, 23, 48, 49, 50] [] [⟨some 208,none,[],.ixA 2 1 (.t 9) (.c (.int .i64 0))⟩,
⟨some 209,none,[],.load .one (.t 208)⟩,
⟨some 210,none,[],.call (.c (.fn 32 [])) [(.t 209)] []⟩,
⟨some 207,none,[],.mov (.t 210)⟩,
⟨some 211,none,[],.ext (.t 207) 0⟩,
⟨some 212,none,[],.ext (.t 207) 1⟩,
⟨some 22,none,[],.mov (.t 211)⟩,
⟨some 23,none,[],.mov (.t 212)⟩])
 (.seq (.reg true [2, 7, 48, 49, 50, 242] [] [⟨some 213,none,[],.mov (.t 20)⟩,
⟨some 214,none,[],.mov (.t 22)⟩,
⟨some 215,none,[],.bin .neq (.t 213) (.t 214)⟩,
⟨some 216,none,[],.mov (.t 215)⟩,
⟨some 217, some (216, false), [], .mov (.t 21)⟩,
⟨some 218, some (216, false), [], .mov (.t 23)⟩,
⟨some 219, some (216, false), [], .bin .neq (.t 217) (.t 218)⟩,
⟨some 220,none,[],.pick (.t 216) (.c (.bool true)) (.t 219)⟩,
⟨some 221,none,[],.mov (.t 220)⟩,
⟨some 222, some (221, false), [], .ixA 2 1 (.t 9) (.c (.int .i64 0))⟩,
⟨some 223, some (221, false), [.box 222], .load .one (.t 222)⟩,
⟨some 224, some (221, false), [], .call (.c (.fn 19 [])) [(.t 223)] []⟩,
⟨some 225, some (221, false), [], .ixA 2 1 (.t 9) (.c (.int .i64 0))⟩,
⟨some 226, some (221, false), [.box 225], .load .one (.t 225)⟩,
⟨some 227, some (221, false), [], .call (.c (.fn 33 [])) [(.t 226)] []⟩,
⟨some 228, some (221, false), [], .eqv true [] (.t 224) (.t 227)⟩,
⟨some 229,none,[],.pick (.t 221) (.c (.bool true)) (.t 228)⟩,
⟨some 230,none,[],.mov (.t 229)⟩,
⟨some 231, some (230, false), [], .ixA 2 1 (.t 9) (.c (.int .i64 0))⟩,
⟨some 232, some (230, false), [.box 231], .load .one (.t 231)⟩,
⟨some 233, some (230, false), [], .ixA 2 1 (.t 9) (.c (.int .i64 1))⟩,
⟨some 234, some (230, false), [.box 233], .load .one (.t 233)⟩,
⟨some 235, some (230, false), [], .call (.c (.fn 18 [])) [(.t 232), (.t 234)] []⟩,
⟨some 236, some (230, false), [], .ixA 2 1 (.t 9) (.c (.int .i64 0))⟩,
⟨some 237, some (230, false), [.box 236], .load .one (.t 236)⟩,
⟨some 238, some (230, false), [], .ixA 2 1 (.t 9) (.c (.int .i64 1))⟩,
⟨some 239, some (230, false), [.box 238], .load .one (.t 238)⟩,
⟨some 240, some (230, false), [], .call (.c (.fn 34 [])) [(.t 237), (.t 239)] []⟩,
⟨some 241, some (230, false), [], .bin .neq (.t 235) (.t 240)⟩,
⟨some 242,none,[],.pick (.t 230) (.c (.bool true)) (.t 241)⟩])
 (.cond (.t 242)
 (.seq (.reg false [6] [] [⟨some 6,none,[],.mov (.c (.bool false))⟩])
 (.pre [6] .ret))
 .skip))))))))))))))))))))))))))))))
 (.pre [2, 7, 48, 49, 50] (.reg false [2, 7, 48, 49, 50] [] [⟨some 243,none,[],.bin .add (.t 50) (.c (.int .i64 1))⟩,
⟨some 50,none,[],.mov (.t 243)⟩])))))))
def b9_0 : XC := c9_0
@[go_sem] theorem e9_0 (L : Lib) (cx : Cx) (env : Env) (h : Heap) : runC L cx b9_0 (env, h) = runC L cx c9_0 (env, h) := rfl

def x9 : XFn := { np := 3, isOpen := false, ns := 1, res := [.tmp 6], code :=
  (.seq (.reg false [0, 1, 2] [] [⟨some 6,none,[],.mov (.c (.bool false))⟩])
 (.seq (.reg false [0, 1, 2, 7] [] [⟨some 24,none,[],.call (.c (.fn 12 [])) [] []⟩,
⟨some 7,none,[],.mov (.t 24)⟩])
 (.seq (.reg false [0, 1, 2, 7] [] [⟨some 25,none,[],.mov (.t 0)⟩,
⟨some 26,none,[],.mov (.t 0)⟩,
⟨some 27,none,[],.len true (.t 26)⟩,
⟨some 28,none,[],.minmax false [(.t 27), (.c (.int .i64 210))]⟩,
⟨some 29,none,[],.slice none (.t 25) none (some (.t 28))⟩,
⟨some 0,none,[],.mov (.t 29)⟩])
 (.seq (.reg false [0, 1, 2, 7] [] [⟨some 30,none,[],.mov (.t 1)⟩,
⟨some 31,none,[],.mov (.t 1)⟩,
⟨some 32,none,[],.len true (.t 31)⟩,
⟨some 33,none,[],.minmax false [(.t 32), (.c (.int .i64 210))]⟩,
⟨some 34,none,[],.slice none (.t 30) none (some (.t 33))⟩,
⟨some 1,none,[],.mov (.t 34)⟩])
 (.seq (.seq (.reg false [2, 7, 48, 49, 50] [] [⟨some 35,none,[],.mov (.t 0)⟩,
⟨some 36,none,[],.mov (.t 1)⟩,
⟨some 37,none,[],.build [.str [], .str []] [(0, 1, (.t 35)), (1, 1, (.t 36))]⟩,
⟨some 38,none,[],.mov (.t 0)⟩,
⟨some 39,none,[],.call (.c (.fn 13 [])) [(.t 38), (.c (.int .i64 70))] []⟩,
⟨some 40,none,[],.mov (.t 1)⟩,
⟨some 41,none,[],.call (.c (.fn 13 [])) [(.t 40), (.c (.int .i64 30))] []⟩,
⟨some 42,none,[],.build [.str [], .str []] [(0, 1, (.t 39)), (1, 1, (.t 41))]⟩,
⟨some 43,none,[],.mov (.t 0)⟩,
⟨some 44,none,[],.call (.c (.fn 13 [])) [(.t 43), (.c (.int .i64 12))] []⟩,
⟨some 45,none,[],.mov (.t 2)⟩,
⟨some 46,none,[],.call (.c (.fn 24 [])) [(.t 45)] []⟩,
⟨some 47,none,[],.build [.str [], .str []] [(0, 1, (.t 44)), (1, 1, (.t 46))]⟩,
⟨some 48,none,[],.bslice 2 (.agg [.str [], .str []]) 3 [(0, (.t 37)), (1, (.t 42)), (2, (.t 47))]⟩,
⟨some 49,none,[],.len false (.t 48)⟩,
⟨some 50,none,[],.mov (.c (.int .i64 0))⟩])
 (.blk 0
 (.loop b9_0)))
 (.pre [2, 7] (.seq (.reg false [6] [] [⟨some 244,none,[],.mov (.t 7)⟩,
⟨some 245,none,[],.mov (.t 244)⟩,
⟨some 246, some (245, true), [], .mov (.t 2)⟩,
⟨some 247, some (245, true), [], .call (.c (.fn 35 [])) [(.t 246)] []⟩,
⟨some 248, some (245, true), [], .mov (.t 2)⟩,
⟨some 249, some (245, true), [], .call (.c (.fn 24 [])) [(.t 248)] []⟩,
⟨some 250, some (245, true), [], .bin .eql (.t 247) (.t 249)⟩,
⟨some 251,none,[],.pick (.t 245) (.t 250) (.c (.bool false))⟩,
⟨some 6,none,[],.mov (.t 251)⟩])
 (.pre [6] .ret)))))))) }

def x12 : XFn := { np := 0, isOpen := false, ns := 0, res := [.tmp 0], code :=
  (.seq (.reg false [] [] [⟨some 0,none,[],.mov (.c (.bool false))⟩])
 (.seq (.reg false [1, 2] [] [⟨some 23,none,[],.call (.c (.fn 14 [])) [(.c (.str [57, 57, 57])), (.c (.str [49]))] []⟩,
⟨some 22,none,[],.mov (.t 23)⟩,
⟨some 24,none,[],.ext (.t 22) 0⟩,
⟨some 25,none,[],.ext (.t 22) 1⟩,
⟨some 1,none,[],.mov (.t 24)⟩,
⟨some 2,none,[],.mov (.t 25)⟩])
 (.seq (.reg false [1, 2, 3, 4] [] [⟨some 27,none,[],.call (.c (.fn 16 [])) [(.c (.str [49])), (.c (.str [49, 48, 48, 48]))] []⟩,
⟨some 26,none,[],.mov (.t 27)⟩,
⟨some 28,none,[],.ext (.t 26) 0⟩,
⟨some 29,none,[],.ext (.t 26) 1⟩,
⟨some 3,none,[],.mov (.t 28)⟩,
⟨some 4,none,[],.mov (.t 29)⟩])
 (.seq (.reg false [1, 2, 3, 4, 5, 6] [] [⟨some 31,none,[],.call (.c (.fn 15 [])) [(.c (.str [45, 49, 50])), (.c (.str [49, 50]))] []⟩,
⟨some 30,none,[],.mov (.t 31)⟩,
⟨some 32,none,[],.ext (.t 30) 0⟩,
⟨some 33,none,[],.ext (.t 30) 1⟩,
⟨some 5,none,[],.mov (.t 32)⟩,
⟨some 6,none,[],.mov (.t 33)⟩])
 (.seq (.reg false [1, 2, 3, 4, 5, 6, 7, 8, 9] [] [⟨some 35,none,[],.call (.c (.fn 17 [])) [(.c (.str [45, 55])), (.c (.str [50]))] []⟩,
⟨some 34,none,[],.mov (.t 35)⟩,
⟨some 36,none,[],.ext (.t 34) 0⟩,
⟨some 37,none,[],.ext (.t 34) 1⟩,
⟨some 38,none,[],.ext (.t 34) 2⟩,
⟨some 7,none,[],.mov (.t 36)⟩,
⟨some 8,none,[],.mov (.t 37)⟩,
⟨some 9,none,[],.mov (.t 38)⟩])
 (.seq (.reg false [1, 2, 3, 4, 5, 6, 7, 8, 9, 10, 11, 12] [] [⟨some 40,none,[],.call (.c (.fn 17 [])) [(.c (.str [45, 55])), (.c (.str [45, 50]))] []⟩,
⟨some 39,none,[],.mov (.t 40)⟩,
⟨some 41,none,[],.ext (.t 39) 0⟩,
⟨some 42,none,[],.ext (.t 39) 1⟩,
⟨some 43,none,[],.ext (.t 39) 2⟩,
⟨some 10,none,[],.mov (.t 41)⟩,
⟨some 11,none,[],.mov (.t 42)⟩,
⟨some 12,none,[],.mov (.t 43)⟩])
 (.seq (.reg false [1, 2, 3, 4, 5, 6, 7, 8, 9, 10, 11, 12, 13, 14] [] [⟨some 45,none,[],.call (.c (.fn 20 [])) [(.c (.str [49, 50])), (.c (.str [45, 49, 56]))] []⟩,
⟨some 44,none,[],.mov (.t 45)⟩,
⟨some 46,none,[],.ext (.t 44) 0⟩,
⟨some 47,none,[],.ext (.t 44) 1⟩,
⟨some 13,none,[],.mov (.t 46)⟩,
⟨some 14,none,[],.mov (.t 47)⟩])
 (.seq (.reg false [1, 2, 3, 4, 5, 6, 7, 8, 9, 10, 11, 12, 13, 14, 15, 16] [] [⟨some 49,none,[],.call (.c (.fn 21 [])) [(.c (.str [57, 57]))] []⟩,
⟨some 48,none,[],.mov (.t 49)⟩,
⟨some 50,none,[],.ext (.t 48) 0⟩,
⟨some 51,none,[],.ext (.t 48) 1⟩,
⟨some 15,none,[],.mov (.t 50)⟩,
⟨some 16,none,[],.mov (.t 51)⟩])
 (.seq (.reg false [1, 2, 3, 4, 5, 6, 7, 8, 9, 10, 11, 12, 13, 14, 15, 16, 18] [] [⟨some 53,none,[],.call (.c (.fn 21 [])) [(.c (.str [45, 49]))] []⟩,
⟨some 52,none,[],.mov (.t 53)⟩,
⟨some 54,none,[],.ext (.t 52) 0⟩,
⟨some 55,none,[],.ext (.t 52) 1⟩,
⟨some 17,none,[],.mov (.t 54)⟩,
⟨some 18,none,[],.mov (.t 55)⟩])
 (.seq (.reg false [1, 2, 3, 4, 5, 6, 7, 8, 9, 10, 11, 12, 13, 14, 15, 16, 18, 20] [] [⟨some 57,none,[],.call (.c (.fn 14 [])) [(.c (.str [48, 48, 55])), (.c (.str [49]))] []⟩,
⟨some 56,none,[],.mov (.t 57)⟩,
⟨some 58,none,[],.ext (.t 56) 0⟩,
⟨some 59,none,[],.ext (.t 56) 1⟩,
⟨some 19,none,[],.mov (.t 58)⟩,
⟨some 20,none,[],.mov (.t 59)⟩])
 (.seq (.reg false [1, 3, 5, 7, 8, 10, 11, 13, 15, 21] [] [⟨some 60,none,[],.mov (.t 2)⟩,
⟨some 61,none,[],.bin .eql (.t 60) (.c (.int .i64 0))⟩,
⟨some 62,none,[],.mov (.t 61)⟩,
⟨some 63, some (62, true), [], .mov (.t 4)⟩,
⟨some 64, some (62, true), [], .bin .eql (.t 63) (.c (.int .i64 0))⟩,
⟨some 65,none,[],.pick (.t 62) (.t 64) (.c (.bool false))⟩,
⟨some 66,none,[],.mov (.t 65)⟩,
⟨some 67, some (66, true), [], .mov (.t 6)⟩,
⟨some 68, some (66, true), [], .bin .eql (.t 67) (.c (.int .i64 0))⟩,
⟨some 69,none,[],.pick (.t 66) (.t 68) (.c (.bool false))⟩,
⟨some 70,none,[],.mov (.t 69)⟩,
⟨some 71, some (70, true), [], .mov (.t 9)⟩,
⟨some 72, some (70, true), [], .bin .eql (.t 71) (.c (.int .i64 0))⟩,
⟨some 73,none,[],.pick (.t 70) (.t 72) (.c (.bool false))⟩,
⟨some 74,none,[],.mov (.t 73)⟩,
⟨some 75, some (74, true), [], .mov (.t 12)⟩,
⟨some 76, some (74, true), [], .bin .eql (.t 75) (.c (.int .i64 0))⟩,
⟨some 77,none,[],.pick (.t 74) (.t 76) (.c (.bool false))⟩,
⟨some 78,none,[],.mov (.t 77)⟩,
⟨some 79, some (78, true), [], .mov (.t 14)⟩,
⟨some 80, some (78, true), [], .bin .eql (.t 79) (.c (.int .i64 0))⟩,
⟨some 81,none,[],.pick (.t 78) (.t 80) (.c (.bool false))⟩,
⟨some 82,none,[],.mov (.t 81)⟩,
⟨some 83, some (82, true), [], .mov (.t 16)⟩,
⟨some 84, some (82, true), [], .bin .eql (.t 83) (.c (.int .i64 0))⟩,
⟨some 85,none,[],.pick (.t 82) (.t 84) (.c (.bool false))⟩,
⟨some 86,none,[],.mov (.t 85)⟩,
⟨some 87, some (86, true), [], .mov (.t 18)⟩,
⟨some 88, some (86, true), [], .bin .eql (.t 87) (.c (.int .i64 30))⟩,
⟨some 89,none,[],.pick (.t 86) (.t 88) (.c (.bool false))⟩,
⟨some 90,none,[],.mov (.t 89)⟩,
⟨some 91, some (90, true), [], .mov (.t 20)⟩,
⟨some 92, some (90, true), [], .bin .eql (.t 91) (.c (.int .i64 30))⟩,
⟨some 93,none,[],.pick (.t 90) (.t 92) (.c (.bool false))⟩,
⟨some 21,none,[],.mov (.t 93)⟩])
 (.seq (.reg false [0] [] [⟨some 94,none,[],.mov (.t 21)⟩,
⟨some 95,none,[],.mov (.t 94)⟩,
⟨some 96, some (95, true), [], .mov (.t 1)⟩,
⟨some 97, some (95, true), [], .bin .eql (.t 96) (.c (.str [49, 48, 48, 48]))⟩,
⟨some 98,none,[],.pick (.t 95) (.t 97) (.c (.bool false))⟩,
⟨some 99,none,[],.mov (.t 98)⟩,
⟨some 100, some (99, true), [], .mov (.t 3)⟩,
⟨some 101, some (99, true), [], .bin .eql (.t 100) (.c (.str [45, 57, 57, 57]))⟩,
⟨some 102,none,[],.pick (.t 99) (.t 101) (.c (.bool false))⟩,
⟨some 103,none,[],.mov (.t 102)⟩,
⟨some 104, some (103, true), [], .mov (.t 5)⟩,
⟨some 105, some (103, true), [], .bin .eql (.t 104) (.c (.str [45, 49, 52, 52]))⟩,
⟨some 106,none,[],.pick (.t 103) (.t 105) (.c (.bool false))⟩,
⟨some 107,none,[],.mov (.t 106)⟩,
⟨some 108, some (107, true), [], .mov (.t 7)⟩,
⟨some 109, some (107, true), [], .bin .eql (.t 108) (.c (.str [45, 52]))⟩,
⟨some 110,none,[],.pick (.t 107) (.t 109) (.c (.bool false))⟩,
⟨some 111,none,[],.mov (.t 110)⟩,
⟨some 112, some (111, true), [], .mov (.t 8)⟩,
⟨some 113, some (111, true), [], .bin .eql (.t 112) (.c (.str [49]))⟩,
⟨some 114,none,[],.pick (.t 111) (.t 113) (.c (.bool false))⟩,
⟨some 115,none,[],.mov (.t 114)⟩,
⟨some 116, some (115, true), [], .mov (.t 10)⟩,
⟨some 117, some (115, true), [], .bin .eql (.t 116) (.c (.str [52]))⟩,
⟨some 118,none,[],.pick (.t 115) (.t 117) (.c (.bool false))⟩,
⟨some 119,none,[],.mov (.t 118)⟩,
⟨some 120, some (119, true), [], .mov (.t 11)⟩,
⟨some 121, some (119, true), [], .bin .eql (.t 120) (.c (.str [49]))⟩,
⟨some 122,none,[],.pick (.t 119) (.t 121) (.c (.bool false))⟩,
⟨some 123,none,[],.mov (.t 122)⟩,
⟨some 124, some (123, true), [], .mov (.t 13)⟩,
⟨some 125, some (123, true), [], .bin .eql (.t 124) (.c (.str [54]))⟩,
⟨some 126,none,[],.pick (.t 123) (.t 125) (.c (.bool false))⟩,
⟨some 127,none,[],.mov (.t 126)⟩,
⟨some 128, some (127, true), [], .mov (.t 15)⟩,
⟨some 129, some (127, true), [], .bin .eql (.t 128) (.c (.str [57]))⟩,
⟨some 130,none,[],.pick (.t 127) (.t 129) (.c (.bool false))⟩,
⟨some 131,none,[],.mov (.t 130)⟩,
⟨some 132, some (131, true), [], .call (.c (.fn 19 [])) [(.c (.str [45, 55]))] []⟩,
⟨some 133,none,[],.pick (.t 131) (.t 132) (.c (.bool false))⟩,
⟨some 134,none,[],.mov (.t 133)⟩,
⟨some 135, some (134, true), [], .call (.c (.fn 19 [])) [(.c (.str [45, 48]))] []⟩,
⟨some 136, some (134, true), [], .un .not (.t 135)⟩,
⟨some 137,none,[],.pick (.t 134) (.t 136) (.c (.bool false))⟩,
⟨some 138,none,[],.mov (.t 137)⟩,
⟨some 139, some (138, true), [], .call (.c (.fn 19 [])) [(.c (.str []))] []⟩,
⟨some 140, some (138, true), [], .un .not (.t 139)⟩,
⟨some 141,none,[],.pick (.t 138) (.t 140) (.c (.bool false))⟩,
⟨some 142,none,[],.mov (.t 141)⟩,
⟨some 143, some (142, true), [], .call (.c (.fn 18 [])) [(.c (.str [45, 56])), (.c (.str [45, 55]))] []⟩,
⟨some 144, some (142, true), [], .bin .lss (.t 143) (.c (.int .i64 0))⟩,
⟨some 145,none,[],.pick (.t 142) (.t 144) (.c (.bool false))⟩,
⟨some 0,none,[],.mov (.t 145)⟩])
 (.pre [0] .ret))))))))))))) }

@[go_sem] def c13_0 : XC := (.pre [0, 1, 5, 6]
  (.seq (.seq (.reg false [0, 1, 5, 6, 17] [] [⟨some 9,none,[],.mov (.t 6)⟩,
⟨some 10,none,[],.mov (.t 0)⟩,
⟨some 11,none,[],.len true (.t 10)⟩,
⟨some 12,none,[],.bin .lss (.t 9) (.t 11)⟩,
⟨some 13,none,[],.mov (.t 12)⟩,
⟨some 14, some (13, true), [], .mov (.t 6)⟩,
⟨some 15, some (13, true), [], .mov (.t 1)⟩,
⟨some 16, some (13, true), [], .bin .lss (.t 14) (.t 15)⟩,
⟨some 17,none,[],.pick (.t 13) (.t 16) (.c (.bool false))⟩])
 (.cond (.t 17)
 .skip
 (.pre [0, 5] (.exit 0))))
 (.pre [0, 1, 5, 6] (.seq (.blk 1
 (.reg false [0, 1, 5, 6] [] [⟨some 20,none,[],.mov (.t 5)⟩,
⟨some 21,none,[],.mov (.t 0)⟩,
⟨some 22,none,[],.mov (.t 6)⟩,
⟨some 23,none,[],.ixStr (.t 21) (.t 22)⟩,
⟨some 24,none,[],.conv .i64 (.t 23)⟩,
⟨some 25,none,[],.bin .rem (.t 24) (.c (.int .i64 10))⟩,
⟨some 26,none,[],.bslice 1 (.int .i64 0) 1 [(0, (.t 25))]⟩,
⟨some 27,none,[],.app 0 1 17592186044416 (.t 20) (.t 26)⟩,
⟨some 5,none,[],.mov (.t 27)⟩]))
 (.pre [0, 1, 5, 6] (.reg false [0, 1, 5, 6] [] [⟨some 18,none,[],.mov (.t 6)⟩,
⟨some 19,none,[],.bin .add (.t 18) (.c (.int .i64 1))⟩,
⟨some 6,none,[],.mov (.t 19)⟩]))))))
def b13_0 : XC := c13_0
@[go_sem] theorem e13_0 (L : Lib) (cx : Cx) (env : Env) (h : Heap) : runC L cx b13_0 (env, h) = runC L cx c13_0 (env, h) := rfl

def x13 : XFn := { np := 2, isOpen := false, ns := 1, res := [.tmp 4], code :=
  (.seq (.reg false [0, 1] [] [⟨some 4,none,[],.mov (.c (.str []))⟩])
 (.seq (.reg false [0, 1, 5] [] [⟨some 5,none,[],.mov (.c .nilSl)⟩])
 (.seq (.seq (.reg false [0, 1, 5, 6] [] [⟨some 6,none,[],.mov (.c (.int .i64 0))⟩])
 (.blk 0
 (.loop b13_0)))
 (.pre [0, 5] (.seq (.reg true [7] [] [⟨some 29,none,[],.mov (.t 0)⟩,
⟨some 30,none,[],.len true (.t 29)⟩,
⟨some 31,none,[],.bin .gtr (.t 30) (.c (.int .i64 0))⟩,
⟨some 32,none,[],.mov (.t 31)⟩,
⟨some 33, some (32, true), [], .mov (.t 0)⟩,
⟨some 34, some (32, true), [], .ixStr (.t 33) (.c (.int .i64 0))⟩,
⟨some 35, some (32, true), [], .bin .geq (.t 34) (.c (.int .u8 128))⟩,
⟨some 36,none,[],.pick (.t 32) (.t 35) (.c (.bool false))⟩,
⟨some 37,none,[],.mov (.t 5)⟩,
⟨some 38,none,[],.call (.c (.fn 37 [])) [(.t 37)] []⟩,
⟨some 39,none,[],.call (.c (.fn 36 [])) [(.t 36), (.t 38)] []⟩,
⟨some 28,none,[],.mov (.t 39)⟩,
⟨some 40,none,[],.ext (.t 28) 0⟩,
⟨some 41,none,[],.ext (.t 28) 1⟩,
⟨some 7,none,[],.mov (.t 40)⟩,
⟨some 8,none,[],.mov (.t 41)⟩])
 (.seq (.reg false [4] [] [⟨some 42,none,[],.mov (.t 7)⟩,
⟨some 4,none,[],.mov (.t 42)⟩])
 (.pre [4] .ret))))))) }

def x14 : XFn := { np := 2, isOpen := false, ns := 2, res := [.tmp 4, .tmp 5], code :=
  (.seq (.reg false [0, 1] [] [⟨some 4,none,[],.mov (.c (.str []))⟩,
⟨some 5,none,[],.mov (.c (.int .i64 0))⟩])
 (.seq (.reg false [6, 7, 8] [] [⟨some 10,none,[],.mov (.t 0)⟩,
⟨some 11,none,[],.mov (.t 1)⟩,
⟨some 12,none,[],.call (.c (.fn 38 [])) [(.t 10), (.t 11)] []⟩,
⟨some 9,none,[],.mov (.t 12)⟩,
⟨some 13,none,[],.ext (.t 9) 0⟩,
⟨some 14,none,[],.ext (.t 9) 1⟩,
⟨some 15,none,[],.ext (.t 9) 2⟩,
⟨some 6,none,[],.alloc 0 [.bool false, .nilSl]⟩,
⟨some 7,none,[],.alloc 1 [.bool false, .nilSl]⟩,
⟨none,none,[],.store 2 (.t 6) (.t 13)⟩,
⟨none,none,[],.store 2 (.t 7) (.t 14)⟩,
⟨some 8,none,[],.mov (.t 15)⟩])
 (.seq (.seq (.reg false [6, 7, 17] [] [⟨some 16,none,[],.mov (.t 8)⟩,
⟨some 17,none,[],.un .not (.t 16)⟩])
 (.cond (.t 17)
 (.seq (.reg false [4, 5] [] [⟨some 4,none,[],.mov (.c (.str []))⟩,
⟨some 5,none,[],.mov (.c (.int .i64 30))⟩])
 (.pre [4, 5] .ret))
 .skip))
 (.pre [6, 7] (.seq (.reg false [4, 5] [] [⟨some 18,none,[],.load (.agg 2) (.t 6)⟩,
⟨some 19,none,[],.load (.agg 2) (.t 7)⟩,
⟨some 20,none,[],.call (.c (.fn 39 [])) [(.t 18), (.t 19)] []⟩,
⟨some 21,none,[],.call (.c (.fn 40 [])) [(.t 20)] []⟩,
⟨some 22,none,[],.ext (.t 21) 0⟩,
⟨some 23,none,[],.ext (.t 21) 1⟩,
⟨some 4,none,[],.mov (.t 22)⟩,
⟨some 5,none,[],.mov (.t 23)⟩])
 (.pre [4, 5] .ret)))))) }

def x15 : XFn := { np := 2, isOpen := false, ns := 2, res := [.tmp 4, .tmp 5], code :=
  (.seq (.reg false [0, 1] [] [⟨some 4,none,[],.mov (.c (.str []))⟩,
⟨some 5,none,[],.mov (.c (.int .i64 0))⟩])
 (.seq (.reg false [6, 7, 8] [] [⟨some 10,none,[],.mov (.t 0)⟩,
⟨some 11,none,[],.mov (.t 1)⟩,
⟨some 12,none,[],.call (.c (.fn 38 [])) [(.t 10), (.t 11)] []⟩,
⟨some 9,none,[],.mov (.t 12)⟩,
⟨some 13,none,[],.ext (.t 9) 0⟩,
⟨some 14,none,[],.ext (.t 9) 1⟩,
⟨some 15,none,[],.ext (.t 9) 2⟩,
⟨some 6,none,[],.alloc 0 [.bool false, .nilSl]⟩,
⟨some 7,none,[],.alloc 1 [.bool false, .nilSl]⟩,
⟨none,none,[],.store 2 (.t 6) (.t 13)⟩,
⟨none,none,[],.store 2 (.t 7) (.t 14)⟩,
⟨some 8,none,[],.mov (.t 15)⟩])
 (.seq (.seq (.reg false [6, 7, 17] [] [⟨some 16,none,[],.mov (.t 8)⟩,
⟨some 17,none,[],.un .not (.t 16)⟩])
 (.cond (.t 17)
 (.seq (.reg false [4, 5] [] [⟨some 4,none,[],.mov (.c (.str []))⟩,
⟨some 5,none,[],.mov (.c (.int .i64 30))⟩])
 (.pre [4, 5] .ret))
 .skip))
 (.pre [6, 7] (.seq (.reg true [4, 5] [] [⟨some 18,none,[],.padd (.t 6) 0⟩,
⟨some 19,none,[.box 18], .load .one (.t 18)⟩,
⟨some 20,none,[],.padd (.t 7) 0⟩,
⟨some 21,none,[.box 20], .load .one (.t 20)⟩,
⟨some 22,none,[],.eqv true [] (.t 19) (.t 21)⟩,
⟨some 23,none,[],.padd (.t 6) 1⟩,
⟨some 24,none,[.box 23], .load .one (.t 23)⟩,
⟨some 25,none,[],.padd (.t 7) 1⟩,
⟨some 26,none,[.box 25], .load .one (.t 25)⟩,
⟨some 27,none,[],.call (.c (.fn 41 [])) [(.t 24), (.t 26)] []⟩,
⟨some 28,none,[],.build [.bool false, .nilSl] [(0, 1, (.t 22)), (1, 1, (.t 27))]⟩,
⟨some 29,none,[],.call (.c (.fn 40 [])) [(.t 28)] []⟩,
⟨some 30,none,[],.ext (.t 29) 0⟩,
⟨some 31,none,[],.ext (.t 29) 1⟩,
⟨some 4,none,[],.mov (.t 30)⟩,
⟨some 5,none,[],.mov (.t 31)⟩])
 (.pre [4, 5] .ret)))))) }

def x16 : XFn := { np := 2, isOpen := false, ns := 2, res := [.tmp 4, .tmp 5], code :=
  (.seq (.reg false [0, 1] [] [⟨some 4,none,[],.mov (.c (.str []))⟩,
⟨some 5,none,[],.mov (.c (.int .i64 0))⟩])
 (.seq (.reg false [6, 7, 8] [] [⟨some 10,none,[],.mov (.t 0)⟩,
⟨some 11,none,[],.mov (.t 1)⟩,
⟨some 12,none,[],.call (.c (.fn 38 [])) [(.t 10), (.t 11)] []⟩,
⟨some 9,none,[],.mov (.t 12)⟩,
⟨some 13,none,[],.ext (.t 9) 0⟩,
⟨some 14,none,[],.ext (.t 9) 1⟩,
⟨some 15,none,[],.ext (.t 9) 2⟩,
⟨some 6,none,[],.alloc 0 [.bool false, .nilSl]⟩,
⟨some 7,none,[],.alloc 1 [.bool false, .nilSl]⟩,
⟨none,none,[],.store 2 (.t 6) (.t 13)⟩,
⟨none,none,[],.store 2 (.t 7) (.t 14)⟩,
⟨some 8,none,[],.mov (.t 15)⟩])
 (.seq (.seq (.reg false [6, 7, 17] [] [⟨some 16,none,[],.mov (.t 8)⟩,
⟨some 17,none,[],.un .not (.t 16)⟩])
 (.cond (.t 17)
 (.seq (.reg false [4, 5] [] [⟨some 4,none,[],.mov (.c (.str []))⟩,
⟨some 5,none,[],.mov (.c (.int .i64 30))⟩])
 (.pre [4, 5] .ret))
 .skip))
 (.pre [6, 7] (.seq (.reg false [6, 7] [] [⟨some 18,none,[],.padd (.t 7) 0⟩,
⟨some 19,none,[],.load .one (.t 18)⟩,
⟨some 20,none,[],.un .not (.t 19)⟩,
⟨some 21,none,[],.padd (.t 7) 0⟩,
⟨none,none,[],.store 1 (.t 21) (.t 20)⟩])
 (.seq (.reg false [4, 5] [] [⟨some 22,none,[],.load (.agg 2) (.t 6)⟩,
⟨some 23,none,[],.load (.agg 2) (.t 7)⟩,
⟨some 24,none,[],.call (.c (.fn 39 [])) [(.t 22), (.t 23)] []⟩,
⟨some 25,none,[],.call (.c (.fn 40 [])) [(.t 24)] []⟩,
⟨some 26,none,[],.ext (.t 25) 0⟩,
⟨some 27,none,[],.ext (.t 25) 1⟩,
⟨some 4,none,[],.mov (.t 26)⟩,
⟨some 5,none,[],.mov (.t 27)⟩])
 (.pre [4, 5] .ret))))))) }

def x17 : XFn := { np := 2, isOpen := false, ns := 2, res := [.tmp 4, .tmp 5, .tmp 6], code :=
  (.seq (.reg false [0, 1] [] [⟨some 4,none,[],.mov (.c (.str []))⟩,
⟨some 5,none,[],.mov (.c (.str []))⟩,
⟨some 6,none,[],.mov (.c (.int .i64 0))⟩])
 (.seq (.reg false [7, 8, 9] [] [⟨some 17,none,[],.mov (.t 0)⟩,
⟨some 18,none,[],.mov (.t 1)⟩,
⟨some 19,none,[],.call (.c (.fn 38 [])) [(.t 17), (.t 18)] []⟩,
⟨some 16,none,[],.mov (.t 19)⟩,
⟨some 20,none,[],.ext (.t 16) 0⟩,
⟨some 21,none,[],.ext (.t 16) 1⟩,
⟨some 22,none,[],.ext (.t 16) 2⟩,
⟨some 7,none,[],.alloc 0 [.bool false, .nilSl]⟩,
⟨some 8,none,[],.alloc 1 [.bool false, .nilSl]⟩,
⟨none,none,[],.store 2 (.t 7) (.t 20)⟩,
⟨none,none,[],.store 2 (.t 8) (.t 21)⟩,
⟨some 9,none,[],.mov (.t 22)⟩])
 (.seq (.seq (.reg false [7, 8, 30] [] [⟨some 23,none,[],.mov (.t 9)⟩,
⟨some 24,none,[],.un .not (.t 23)⟩,
⟨some 25,none,[],.mov (.t 24)⟩,
⟨some 26, some (25, false), [], .padd (.t 8) 1⟩,
⟨some 27, some (25, false), [], .load .one (.t 26)⟩,
⟨some 28, some (25, false), [], .len false (.t 27)⟩,
⟨some 29, some (25, false), [], .bin .eql (.t 28) (.c (.int .i64 0))⟩,
⟨some 30,none,[],.pick (.t 25) (.c (.bool true)) (.t 29)⟩])
 (.cond (.t 30)
 (.seq (.reg false [4, 5, 6] [] [⟨some 4,none,[],.mov (.c (.str []))⟩,
⟨some 5,none,[],.mov (.c (.str []))⟩,
⟨some 6,none,[],.mov (.c (.int .i64 30))⟩])
 (.pre [4, 5, 6] .ret))
 .skip))
 (.pre [7, 8] (.seq (.reg false [7, 8, 10, 11] [] [⟨some 32,none,[],.padd (.t 7) 1⟩,
⟨some 33,none,[],.load .one (.t 32)⟩,
⟨some 34,none,[],.padd (.t 8) 1⟩,
⟨some 35,none,[],.load .one (.t 34)⟩,
⟨some 36,none,[],.call (.c (.fn 42 [])) [(.t 33), (.t 35)] []⟩,
⟨some 31,none,[],.mov (.t 36)⟩,
⟨some 37,none,[],.ext (.t 31) 0⟩,
⟨some 38,none,[],.ext (.t 31) 1⟩,
⟨some 10,none,[],.mov (.t 37)⟩,
⟨some 11,none,[],.mov (.t 38)⟩])
 (.seq (.seq (.reg false [7, 8, 10, 11, 45] [] [⟨some 39,none,[],.padd (.t 7) 0⟩,
⟨some 40,none,[],.load .one (.t 39)⟩,
⟨some 41,none,[],.mov (.t 40)⟩,
⟨some 42, some (41, true), [], .mov (.t 11)⟩,
⟨some 43, some (41, true), [], .len false (.t 42)⟩,
⟨some 44, some (41, true), [], .bin .gtr (.t 43) (.c (.int .i64 0))⟩,
⟨some 45,none,[],.pick (.t 41) (.t 44) (.c (.bool false))⟩])
 (.cond (.t 45)
 (.reg true [7, 8, 10, 11] [] [⟨some 46,none,[],.mov (.t 10)⟩,
⟨some 47,none,[],.call (.c (.fn 44 [])) [] []⟩,
⟨some 48,none,[],.call (.c (.fn 43 [])) [(.t 46), (.t 47)] []⟩,
⟨some 49,none,[],.padd (.t 8) 1⟩,
⟨some 50,none,[.box 49], .load .one (.t 49)⟩,
⟨some 51,none,[],.mov (.t 11)⟩,
⟨some 52,none,[],.call (.c (.fn 45 [])) [(.t 50), (.t 51)] []⟩,
⟨some 10,none,[],.mov (.t 48)⟩,
⟨some 11,none,[],.mov (.t 52)⟩])
 .skip))
 (.pre [7, 8, 10, 11] (.seq (.reg false [11, 12, 13] [] [⟨some 54,none,[],.padd (.t 7) 0⟩,
⟨some 55,none,[],.load .one (.t 54)⟩,
⟨some 56,none,[],.padd (.t 8) 0⟩,
⟨some 57,none,[],.load .one (.t 56)⟩,
⟨some 58,none,[],.eqv true [] (.t 55) (.t 57)⟩,
⟨some 59,none,[],.mov (.t 10)⟩,
⟨some 60,none,[],.build [.bool false, .nilSl] [(0, 1, (.t 58)), (1, 1, (.t 59))]⟩,
⟨some 61,none,[],.call (.c (.fn 40 [])) [(.t 60)] []⟩,
⟨some 53,none,[],.mov (.t 61)⟩,
⟨some 62,none,[],.ext (.t 53) 0⟩,
⟨some 63,none,[],.ext (.t 53) 1⟩,
⟨some 12,none,[],.mov (.t 62)⟩,
⟨some 13,none,[],.mov (.t 63)⟩])
 (.seq (.seq (.reg false [11, 12, 13, 65] [] [⟨some 64,none,[],.mov (.t 13)⟩,
⟨some 65,none,[],.bin .neq (.t 64) (.c (.int .i64 0))⟩])
 (.cond (.t 65)
 (.seq (.reg false [4, 5, 6] [] [⟨some 66,none,[],.mov (.t 13)⟩,
⟨some 4,none,[],.mov (.c (.str []))⟩,
⟨some 5,none,[],.mov (.c (.str []))⟩,
⟨some 6,none,[],.mov (.t 66)⟩])
 (.pre [4, 5, 6] .ret))
 .skip))
 (.pre [11, 12] (.seq (.reg false [12, 14] [] [⟨some 68,none,[],.mov (.t 11)⟩,
⟨some 69,none,[],.build [.bool false, .nilSl] [(1, 1, (.t 68))]⟩,
⟨some 70,none,[],.call (.c (.fn 40 [])) [(.t 69)] []⟩,
⟨some 67,none,[],.mov (.t 70)⟩,
⟨some 71,none,[],.ext (.t 67) 0⟩,
⟨some 72,none,[],.ext (.t 67) 1⟩,
⟨some 14,none,[],.mov (.t 71)⟩,
⟨some 15,none,[],.mov (.t 72)⟩])
 (.seq (.reg false [4, 5, 6] [] [⟨some 73,none,[],.mov (.t 12)⟩,
⟨some 74,none,[],.mov (.t 14)⟩,
⟨some 4,none,[],.mov (.t 73)⟩,
⟨some 5,none,[],.mov (.t 74)⟩,
⟨some 6,none,[],.mov (.c (.int .i64 0))⟩])
 (.pre [4, 5, 6] .ret))))))))))))) }

def x18 : XFn := { np := 2, isOpen := false, ns := 2, res := [.tmp 4], code :=
  (.seq (.reg false [0, 1] [] [⟨some 4,none,[],.mov (.c (.int .i64 0))⟩])
 (.seq (.reg false [5, 6, 7] [] [⟨some 9,none,[],.mov (.t 0)⟩,
⟨some 10,none,[],.mov (.t 1)⟩,
⟨some 11,none,[],.call (.c (.fn 38 [])) [(.t 9), (.t 10)] []⟩,
⟨some 8,none,[],.mov (.t 11)⟩,
⟨some 12,none,[],.ext (.t 8) 0⟩,
⟨some 13,none,[],.ext (.t 8) 1⟩,
⟨some 14,none,[],.ext (.t 8) 2⟩,
⟨some 5,none,[],.alloc 0 [.bool false, .nilSl]⟩,
⟨some 6,none,[],.alloc 1 [.bool false, .nilSl]⟩,
⟨none,none,[],.store 2 (.t 5) (.t 12)⟩,
⟨none,none,[],.store 2 (.t 6) (.t 13)⟩,
⟨some 7,none,[],.mov (.t 14)⟩])
 (.seq (.blk 0
 (.seq (.reg false [5, 6, 15] [] [⟨some 16,none,[],.mov (.t 7)⟩,
⟨some 17,none,[],.un .not (.t 16)⟩,
⟨some 15,none,[],.mov (.t 17)⟩])
 (.cond (.t 15)
 (.seq (.reg false [4] [] [⟨some 4,none,[],.mov (.c (.int .i64 0))⟩])
 (.pre [4] .ret))
 (.seq (.reg false [5, 6, 18] [] [⟨some 19,none,[],.padd (.t 5) 0⟩,
⟨some 20,none,[],.load .one (.t 19)⟩,
⟨some 21,none,[],.mov (.t 20)⟩,
⟨some 22, some (21, true), [], .padd (.t 6) 0⟩,
⟨some 23, some (21, true), [], .load .one (.t 22)⟩,
⟨some 24,none,[],.pick (.t 21) (.t 23) (.c (.bool false))⟩,
⟨some 18,none,[],.mov (.t 24)⟩])
 (.cond (.t 18)
 (.seq (.reg false [4] [] [⟨some 25,none,[],.padd (.t 6) 1⟩,
⟨some 26,none,[],.load .one (.t 25)⟩,
⟨some 27,none,[],.padd (.t 5) 1⟩,
⟨some 28,none,[],.load .one (.t 27)⟩,
⟨some 29,none,[],.call (.c (.fn 46 [])) [(.t 26), (.t 28)] []⟩,
⟨some 4,none,[],.mov (.t 29)⟩])
 (.pre [4] .ret))
 (.seq (.reg false [5, 6, 30] [] [⟨some 31,none,[],.padd (.t 5) 0⟩,
⟨some 32,none,[],.load .one (.t 31)⟩,
⟨some 30,none,[],.mov (.t 32)⟩])
 (.cond (.t 30)
 (.seq (.reg false [4] [] [⟨some 4,none,[],.mov (.c (.int .i64 (-1)))⟩])
 (.pre [4] .ret))
 (.seq (.reg false [5, 6, 33] [] [⟨some 34,none,[],.padd (.t 6) 0⟩,
⟨some 35,none,[],.load .one (.t 34)⟩,
⟨some 33,none,[],.mov (.t 35)⟩])
 (.cond (.t 33)
 (.seq (.reg false [4] [] [⟨some 4,none,[],.mov (.c (.int .i64 1))⟩])
 (.pre [4] .ret))
 .skip)))))))))
 (.pre [5, 6] (.seq (.reg false [4] [] [⟨some 36,none,[],.padd (.t 5) 1⟩,
⟨some 37,none,[],.load .one (.t 36)⟩,
⟨some 38,none,[],.padd (.t 6) 1⟩,
⟨some 39,none,[],.load .one (.t 38)⟩,
⟨some 40,none,[],.call (.c (.fn 46 [])) [(.t 37), (.t 39)] []⟩,
⟨some 4,none,[],.mov (.t 40)⟩])
 (.pre [4] .ret)))))) }

def x19 : XFn := { np := 1, isOpen := false, ns := 0, res := [.tmp 2], code :=
  (.seq (.reg false [0] [] [⟨some 2,none,[],.mov (.c (.bool false))⟩])
 (.seq (.reg false [2] [] [⟨some 3,none,[],.mov (.t 0)⟩,
⟨some 4,none,[],.call (.c (.fn 47 [])) [(.t 3)] []⟩,
⟨some 2,none,[],.mov (.t 4)⟩])
 (.pre [2] .ret))) }

@[go_sem] def c20_0 : XC := (.pre [9, 10]
  (.seq (.seq (.reg false [9, 10, 28] [] [⟨some 26,none,[],.mov (.t 10)⟩,
⟨some 27,none,[],.len false (.t 26)⟩,
⟨some 28,none,[],.bin .gtr (.t 27) (.c (.int .i64 0))⟩])
 (.cond (.t 28)
 .skip
 (.pre [9] (.exit 0))))
 (.pre [9, 10] (.blk 1
 (.seq (.reg false [10, 12] [] [⟨some 30,none,[],.mov (.t 9)⟩,
⟨some 31,none,[],.mov (.t 10)⟩,
⟨some 32,none,[],.call (.c (.fn 42 [])) [(.t 30), (.t 31)] []⟩,
⟨some 29,none,[],.mov (.t 32)⟩,
⟨some 33,none,[],.ext (.t 29) 0⟩,
⟨some 34,none,[],.ext (.t 29) 1⟩,
⟨some 11,none,[],.mov (.t 33)⟩,
⟨some 12,none,[],.mov (.t 34)⟩])
 (.reg false [9, 10] [] [⟨some 35,none,[],.mov (.t 10)⟩,
⟨some 36,none,[],.mov (.t 12)⟩,
⟨some 9,none,[],.mov (.t 35)⟩,
⟨some 10,none,[],.mov (.t 36)⟩]))))))
def b20_0 : XC := c20_0
@[go_sem] theorem e20_0 (L : Lib) (cx : Cx) (env : Env) (h : Heap) : runC L cx b20_0 (env, h) = runC L cx c20_0 (env, h) := rfl

def x20 : XFn := { np := 2, isOpen := false, ns := 2, res := [.tmp 4, .tmp 5], code :=
  (.seq (.reg false [0, 1] [] [⟨some 4,none,[],.mov (.c (.str []))⟩,
⟨some 5,none,[],.mov (.c (.int .i64 0))⟩])
 (.seq (.reg false [6, 7, 8] [] [⟨some 14,none,[],.mov (.t 0)⟩,
⟨some 15,none,[],.mov (.t 1)⟩,
⟨some 16,none,[],.call (.c (.fn 38 [])) [(.t 14), (.t 15)] []⟩,
⟨some 13,none,[],.mov (.t 16)⟩,
⟨some 17,none,[],.ext (.t 13) 0⟩,
⟨some 18,none,[],.ext (.t 13) 1⟩,
⟨some 19,none,[],.ext (.t 13) 2⟩,
⟨some 6,none,[],.alloc 0 [.bool false, .nilSl]⟩,
⟨some 7,none,[],.alloc 1 [.bool false, .nilSl]⟩,
⟨none,none,[],.store 2 (.t 6) (.t 17)⟩,
⟨none,none,[],.store 2 (.t 7) (.t 18)⟩,
⟨some 8,none,[],.mov (.t 19)⟩])
 (.seq (.seq (.reg false [6, 7, 21] [] [⟨some 20,none,[],.mov (.t 8)⟩,
⟨some 21,none,[],.un .not (.t 20)⟩])
 (.cond (.t 21)
 (.seq (.reg false [4, 5] [] [⟨some 4,none,[],.mov (.c (.str []))⟩,
⟨some 5,none,[],.mov (.c (.int .i64 30))⟩])
 (.pre [4, 5] .ret))
 .skip))
 (.pre [6, 7] (.seq (.reg true [9, 10] [] [⟨some 22,none,[],.padd (.t 6) 1⟩,
⟨some 23,none,[.box 22], .load .one (.t 22)⟩,
⟨some 24,none,[],.padd (.t 7) 1⟩,
⟨some 25,none,[.box 24], .load .one (.t 24)⟩,
⟨some 9,none,[],.mov (.t 23)⟩,
⟨some 10,none,[],.mov (.t 25)⟩])
 (.seq (.blk 0
 (.loop b20_0))
 (.pre [9] (.seq (.reg false [4, 5] [] [⟨some 37,none,[],.mov (.t 9)⟩,
⟨some 38,none,[],.build [.bool false, .nilSl] [(1, 1, (.t 37))]⟩,
⟨some 39,none,[],.call (.c (.fn 40 [])) [(.t 38)] []⟩,
⟨some 40,none,[],.ext (.t 39) 0⟩,
⟨some 41,none,[],.ext (.t 39) 1⟩,
⟨some 4,none,[],.mov (.t 40)⟩,
⟨some 5,none,[],.mov (.t 41)⟩])
 (.pre [4, 5] .ret))))))))) }

@[go_sem] def c21_0 : XC := (.pre [4, 7]
  (.seq (.seq (.reg false [4, 7, 35] [] [⟨some 32,none,[],.padd (.t 4) 1⟩,
⟨some 33,none,[],.load .one (.t 32)⟩,
⟨some 34,none,[],.len false (.t 33)⟩,
⟨some 35,none,[],.bin .gtr (.t 34) (.c (.int .i64 0))⟩])
 (.cond (.t 35)
 .skip
 (.pre [] (.exit 0))))
 (.pre [4, 7] (.blk 1
 (.seq (.reg false [4, 7, 8] [] [⟨some 37,none,[],.padd (.t 4) 1⟩,
⟨some 38,none,[],.load .one (.t 37)⟩,
⟨some 39,none,[],.mov (.t 7)⟩,
⟨some 40,none,[],.call (.c (.fn 42 [])) [(.t 38), (.t 39)] []⟩,
⟨some 36,none,[],.mov (.t 40)⟩,
⟨some 41,none,[],.ext (.t 36) 0⟩,
⟨some 42,none,[],.ext (.t 36) 1⟩,
⟨some 8,none,[],.mov (.t 41)⟩,
⟨some 9,none,[],.mov (.t 42)⟩])
 (.seq (.reg false [4, 7, 10] [] [⟨some 44,none,[],.mov (.t 7)⟩,
⟨some 45,none,[],.mov (.t 8)⟩,
⟨some 46,none,[],.call (.c (.fn 43 [])) [(.t 44), (.t 45)] []⟩,
⟨some 47,none,[],.bslice 1 (.int .i64 0) 1 [(0, (.c (.int .i64 2)))]⟩,
⟨some 48,none,[],.call (.c (.fn 42 [])) [(.t 46), (.t 47)] []⟩,
⟨some 43,none,[],.mov (.t 48)⟩,
⟨some 49,none,[],.ext (.t 43) 0⟩,
⟨some 50,none,[],.ext (.t 43) 1⟩,
⟨some 10,none,[],.mov (.t 49)⟩,
⟨some 11,none,[],.mov (.t 50)⟩])
 (.seq (.seq (.reg false [4, 7, 10, 54] [] [⟨some 51,none,[],.mov (.t 10)⟩,
⟨some 52,none,[],.mov (.t 7)⟩,
⟨some 53,none,[],.call (.c (.fn 46 [])) [(.t 51), (.t 52)] []⟩,
⟨some 54,none,[],.bin .geq (.t 53) (.c (.int .i64 0))⟩])
 (.cond (.t 54)
 (.seq (.reg false [2, 3] [] [⟨some 55,none,[],.mov (.t 7)⟩,
⟨some 56,none,[],.build [.bool false, .nilSl] [(1, 1, (.t 55))]⟩,
⟨some 57,none,[],.call (.c (.fn 40 [])) [(.t 56)] []⟩,
⟨some 58,none,[],.ext (.t 57) 0⟩,
⟨some 59,none,[],.ext (.t 57) 1⟩,
⟨some 2,none,[],.mov (.t 58)⟩,
⟨some 3,none,[],.mov (.t 59)⟩])
 (.pre [2, 3] .ret))
 .skip))
 (.pre [4, 10] (.reg false [4, 7] [] [⟨some 60,none,[],.mov (.t 10)⟩,
⟨some 7,none,[],.mov (.t 60)⟩])))))))))
def b21_0 : XC := c21_0
@[go_sem] theorem e21_0 (L : Lib) (cx : Cx) (env : Env) (h : Heap) : runC L cx b21_0 (env, h) = runC L cx c21_0 (env, h) := rfl

def x21 : XFn := { np := 1, isOpen := false, ns := 4, res := [.tmp 2, .tmp 3], code :=
  (.seq (.reg false [0] [] [⟨some 2,none,[],.mov (.c (.str []))⟩,
⟨some 3,none,[],.mov (.c (.int .i64 0))⟩])
 (.seq (.reg false [4, 6] [] [⟨some 13,none,[],.mov (.t 0)⟩,
⟨some 14,none,[],.call (.c (.fn 38 [])) [(.t 13), (.c (.str [48]))] []⟩,
⟨some 12,none,[],.mov (.t 14)⟩,
⟨some 15,none,[],.ext (.t 12) 0⟩,
⟨some 16,none,[],.ext (.t 12) 1⟩,
⟨some 17,none,[],.ext (.t 12) 2⟩,
⟨some 4,none,[],.alloc 2 [.bool false, .nilSl]⟩,
⟨some 5,none,[],.alloc 3 [.bool false, .nilSl]⟩,
⟨none,none,[],.store 2 (.t 4) (.t 15)⟩,
⟨none,none,[],.store 2 (.t 5) (.t 16)⟩,
⟨some 6,none,[],.mov (.t 17)⟩])
 (.seq (.seq (.reg false [4, 23] [] [⟨some 18,none,[],.mov (.t 6)⟩,
⟨some 19,none,[],.un .not (.t 18)⟩,
⟨some 20,none,[],.mov (.t 19)⟩,
⟨some 21, some (20, false), [], .padd (.t 4) 0⟩,
⟨some 22, some (20, false), [], .load .one (.t 21)⟩,
⟨some 23,none,[],.pick (.t 20) (.c (.bool true)) (.t 22)⟩])
 (.cond (.t 23)
 (.seq (.reg false [2, 3] [] [⟨some 2,none,[],.mov (.c (.str []))⟩,
⟨some 3,none,[],.mov (.c (.int .i64 30))⟩])
 (.pre [2, 3] .ret))
 .skip))
 (.pre [4] (.seq (.reg false [4, 7] [] [⟨some 24,none,[],.padd (.t 4) 1⟩,
⟨some 25,none,[],.load .one (.t 24)⟩,
⟨some 26,none,[],.len false (.t 25)⟩,
⟨some 27,none,[],.bin .add (.t 26) (.c (.int .i64 1))⟩,
⟨some 28,none,[],.bin .quo (.t 27) (.c (.int .i64 2))⟩,
⟨some 29,none,[],.mk 0 1 (.int .i64 0) 17592186044416 (.t 28) (.t 28)⟩,
⟨some 30,none,[],.bslice 1 (.int .i64 0) 1 [(0, (.c (.int .i64 1)))]⟩,
⟨some 31,none,[],.app 1001 1 17592186044416 (.t 29) (.t 30)⟩,
⟨some 7,none,[],.mov (.t 31)⟩])
 (.seq (.blk 0
 (.loop b21_0))
 (.pre [] (.seq (.reg false [2, 3] [] [⟨some 2,none,[],.mov (.c (.str [48]))⟩,
⟨some 3,none,[],.mov (.c (.int .i64 0))⟩])
 (.pre [2, 3] .ret))))))))) }

@[go_sem] def c24_0 : XC := (.pre [0, 3, 4]
  (.seq (.seq (.reg false [0, 3, 4, 10] [] [⟨some 9,none,[],.mov (.t 4)⟩,
⟨some 10,none,[],.bin .neq (.t 9) (.c (.int .i64 0))⟩])
 (.cond (.t 10)
 .skip
 (.pre [0, 3] (.exit 0))))
 (.pre [0, 3, 4] (.seq (.blk 1
 (.seq (.reg false [0, 3, 4, 5] [] [⟨some 13,none,[],.mov (.t 4)⟩,
⟨some 14,none,[],.bin .rem (.t 13) (.c (.int .i64 10))⟩,
⟨some 5,none,[],.mov (.t 14)⟩])
 (.seq (.seq (.reg false [0, 3, 4, 5, 16] [] [⟨some 15,none,[],.mov (.t 5)⟩,
⟨some 16,none,[],.bin .lss (.t 15) (.c (.int .i64 0))⟩])
 (.cond (.t 16)
 (.reg false [0, 3, 4, 5] [] [⟨some 17,none,[],.mov (.t 5)⟩,
⟨some 18,none,[],.un .neg (.t 17)⟩,
⟨some 5,none,[],.mov (.t 18)⟩])
 .skip))
 (.pre [0, 3, 4, 5] (.reg false [0, 3, 4] [] [⟨some 19,none,[],.mov (.t 3)⟩,
⟨some 20,none,[],.mov (.t 5)⟩,
⟨some 21,none,[],.bslice 1 (.int .i64 0) 1 [(0, (.t 20))]⟩,
⟨some 22,none,[],.app 0 1 17592186044416 (.t 19) (.t 21)⟩,
⟨some 3,none,[],.mov (.t 22)⟩])))))
 (.pre [0, 3, 4] (.reg false [0, 3, 4] [] [⟨some 11,none,[],.mov (.t 4)⟩,
⟨some 12,none,[],.bin .quo (.t 11) (.c (.int .i64 10))⟩,
⟨some 4,none,[],.mov (.t 12)⟩]))))))
def b24_0 : XC := c24_0
@[go_sem] theorem e24_0 (L : Lib) (cx : Cx) (env : Env) (h : Heap) : runC L cx b24_0 (env, h) = runC L cx c24_0 (env, h) := rfl

def x24 : XFn := { np := 1, isOpen := false, ns := 1, res := [.tmp 2], code :=
  (.seq (.reg false [0] [] [⟨some 2,none,[],.mov (.c (.str []))⟩])
 (.seq (.reg false [0, 3] [] [⟨some 3,none,[],.mov (.c .nilSl)⟩])
 (.seq (.seq (.reg false [0, 3, 4] [] [⟨some 8,none,[],.mov (.t 0)⟩,
⟨some 4,none,[],.mov (.t 8)⟩])
 (.blk 0
 (.loop b24_0)))
 (.pre [0, 3] (.seq (.reg false [6] [] [⟨some 24,none,[],.mov (.t 0)⟩,
⟨some 25,none,[],.bin .lss (.t 24) (.c (.int .i64 0))⟩,
⟨some 26,none,[],.mov (.t 3)⟩,
⟨some 27,none,[],.call (.c (.fn 36 [])) [(.t 25), (.t 26)] []⟩,
⟨some 23,none,[],.mov (.t 27)⟩,
⟨some 28,none,[],.ext (.t 23) 0⟩,
⟨some 29,none,[],.ext (.t 23) 1⟩,
⟨some 6,none,[],.mov (.t 28)⟩,
⟨some 7,none,[],.mov (.t 29)⟩])
 (.seq (.reg false [2] [] [⟨some 30,none,[],.mov (.t 6)⟩,
⟨some 2,none,[],.mov (.t 30)⟩])
 (.pre [2] .ret))))))) }

def x25 : XFn := { np := 2, isOpen := false, ns := 0, res := [.tmp 4, .tmp 5], code :=
  (.seq (.reg false [0, 1] [] [⟨some 4,none,[],.mov (.c (.str []))⟩,
⟨some 5,none,[],.mov (.c (.int .i64 0))⟩])
 (.seq (.seq (.reg false [0, 1, 17] [] [⟨some 10,none,[],.mov (.t 0)⟩,
⟨some 11,none,[],.call (.c (.fn 33 [])) [(.t 10)] []⟩,
⟨some 12,none,[],.un .not (.t 11)⟩,
⟨some 13,none,[],.mov (.t 12)⟩,
⟨some 14, some (13, false), [], .mov (.t 1)⟩,
⟨some 15, some (13, false), [], .call (.c (.fn 33 [])) [(.t 14)] []⟩,
⟨some 16, some (13, false), [], .un .not (.t 15)⟩,
⟨some 17,none,[],.pick (.t 13) (.c (.bool true)) (.t 16)⟩])
 (.cond (.t 17)
 (.seq (.reg false [4, 5] [] [⟨some 4,none,[],.mov (.c (.str []))⟩,
⟨some 5,none,[],.mov (.c (.int .i64 30))⟩])
 (.pre [4, 5] .ret))
 .skip))
 (.pre [0, 1] (.seq (.reg false [1, 6, 7] [] [⟨some 19,none,[],.mov (.t 0)⟩,
⟨some 20,none,[],.call (.c (.fn 48 [])) [(.t 19)] []⟩,
⟨some 18,none,[],.mov (.t 20)⟩,
⟨some 21,none,[],.ext (.t 18) 0⟩,
⟨some 22,none,[],.ext (.t 18) 1⟩,
⟨some 6,none,[],.mov (.t 21)⟩,
⟨some 7,none,[],.mov (.t 22)⟩])
 (.seq (.reg false [6, 7, 8, 9] [] [⟨some 24,none,[],.mov (.t 1)⟩,
⟨some 25,none,[],.call (.c (.fn 48 [])) [(.t 24)] []⟩,
⟨some 23,none,[],.mov (.t 25)⟩,
⟨some 26,none,[],.ext (.t 23) 0⟩,
⟨some 27,none,[],.ext (.t 23) 1⟩,
⟨some 8,none,[],.mov (.t 26)⟩,
⟨some 9,none,[],.mov (.t 27)⟩])
 (.seq (.reg false [4, 5] [] [⟨some 28,none,[],.mov (.t 6)⟩,
⟨some 29,none,[],.mov (.t 7)⟩,
⟨some 30,none,[],.mov (.t 8)⟩,
⟨some 31,none,[],.mov (.t 9)⟩,
⟨some 32,none,[],.call (.c (.fn 49 [])) [(.t 28), (.t 29), (.t 30), (.t 31)] []⟩,
⟨some 33,none,[],.ext (.t 32) 0⟩,
⟨some 34,none,[],.ext (.t 32) 1⟩,
⟨some 4,none,[],.mov (.t 33)⟩,
⟨some 5,none,[],.mov (.t 34)⟩])
 (.pre [4, 5] .ret))))))) }

def x26 : XFn := { np := 2, isOpen := false, ns := 0, res := [.tmp 4, .tmp 5], code :=
  (.seq (.reg false [0, 1] [] [⟨some 4,none,[],.mov (.c (.str []))⟩,
⟨some 5,none,[],.mov (.c (.int .i64 0))⟩])
 (.seq (.seq (.reg false [0, 1, 17] [] [⟨some 10,none,[],.mov (.t 0)⟩,
⟨some 11,none,[],.call (.c (.fn 33 [])) [(.t 10)] []⟩,
⟨some 12,none,[],.un .not (.t 11)⟩,
⟨some 13,none,[],.mov (.t 12)⟩,
⟨some 14, some (13, false), [], .mov (.t 1)⟩,
⟨some 15, some (13, false), [], .call (.c (.fn 33 [])) [(.t 14)] []⟩,
⟨some 16, some (13, false), [], .un .not (.t 15)⟩,
⟨some 17,none,[],.pick (.t 13) (.c (.bool true)) (.t 16)⟩])
 (.cond (.t 17)
 (.seq (.reg false [4, 5] [] [⟨some 4,none,[],.mov (.c (.str []))⟩,
⟨some 5,none,[],.mov (.c (.int .i64 30))⟩])
 (.pre [4, 5] .ret))
 .skip))
 (.pre [0, 1] (.seq (.reg false [1, 6, 7] [] [⟨some 19,none,[],.mov (.t 0)⟩,
⟨some 20,none,[],.call (.c (.fn 48 [])) [(.t 19)] []⟩,
⟨some 18,none,[],.mov (.t 20)⟩,
⟨some 21,none,[],.ext (.t 18) 0⟩,
⟨some 22,none,[],.ext (.t 18) 1⟩,
⟨some 6,none,[],.mov (.t 21)⟩,
⟨some 7,none,[],.mov (.t 22)⟩])
 (.seq (.reg false [6, 7, 8, 9] [] [⟨some 24,none,[],.mov (.t 1)⟩,
⟨some 25,none,[],.call (.c (.fn 48 [])) [(.t 24)] []⟩,
⟨some 23,none,[],.mov (.t 25)⟩,
⟨some 26,none,[],.ext (.t 23) 0⟩,
⟨some 27,none,[],.ext (.t 23) 1⟩,
⟨some 8,none,[],.mov (.t 26)⟩,
⟨some 9,none,[],.mov (.t 27)⟩])
 (.seq (.reg false [4, 5] [] [⟨some 28,none,[],.mov (.t 6)⟩,
⟨some 29,none,[],.mov (.t 7)⟩,
⟨some 30,none,[],.mov (.t 8)⟩,
⟨some 31,none,[],.un .not (.t 30)⟩,
⟨some 32,none,[],.mov (.t 9)⟩,
⟨some 33,none,[],.call (.c (.fn 49 [])) [(.t 28), (.t 29), (.t 31), (.t 32)] []⟩,
⟨some 34,none,[],.ext (.t 33) 0⟩,
⟨some 35,none,[],.ext (.t 33) 1⟩,
⟨some 4,none,[],.mov (.t 34)⟩,
⟨some 5,none,[],.mov (.t 35)⟩])
 (.pre [4, 5] .ret))))))) }

def x27 : XFn := { np := 2, isOpen := false, ns := 0, res := [.tmp 4, .tmp 5], code :=
  (.seq (.reg false [0, 1] [] [⟨some 4,none,[],.mov (.c (.str []))⟩,
⟨some 5,none,[],.mov (.c (.int .i64 0))⟩])
 (.seq (.seq (.reg false [0, 1, 17] [] [⟨some 10,none,[],.mov (.t 0)⟩,
⟨some 11,none,[],.call (.c (.fn 33 [])) [(.t 10)] []⟩,
⟨some 12,none,[],.un .not (.t 11)⟩,
⟨some 13,none,[],.mov (.t 12)⟩,
⟨some 14, some (13, false), [], .mov (.t 1)⟩,
⟨some 15, some (13, false), [], .call (.c (.fn 33 [])) [(.t 14)] []⟩,
⟨some 16, some (13, false), [], .un .not (.t 15)⟩,
⟨some 17,none,[],.pick (.t 13) (.c (.bool true)) (.t 16)⟩])
 (.cond (.t 17)
 (.seq (.reg false [4, 5] [] [⟨some 4,none,[],.mov (.c (.str []))⟩,
⟨some 5,none,[],.mov (.c (.int .i64 30))⟩])
 (.pre [4, 5] .ret))
 .skip))
 (.pre [0, 1] (.seq (.reg false [1, 6, 7] [] [⟨some 19,none,[],.mov (.t 0)⟩,
⟨some 20,none,[],.call (.c (.fn 48 [])) [(.t 19)] []⟩,
⟨some 18,none,[],.mov (.t 20)⟩,
⟨some 21,none,[],.ext (.t 18) 0⟩,
⟨some 22,none,[],.ext (.t 18) 1⟩,
⟨some 6,none,[],.mov (.t 21)⟩,
⟨some 7,none,[],.mov (.t 22)⟩])
 (.seq (.reg false [6, 7, 8, 9] [] [⟨some 24,none,[],.mov (.t 1)⟩,
⟨some 25,none,[],.call (.c (.fn 48 [])) [(.t 24)] []⟩,
⟨some 23,none,[],.mov (.t 25)⟩,
⟨some 26,none,[],.ext (.t 23) 0⟩,
⟨some 27,none,[],.ext (.t 23) 1⟩,
⟨some 8,none,[],.mov (.t 26)⟩,
⟨some 9,none,[],.mov (.t 27)⟩])
 (.seq (.reg false [4, 5] [] [⟨some 28,none,[],.mov (.t 6)⟩,
⟨some 29,none,[],.mov (.t 8)⟩,
⟨some 30,none,[],.eqv true [] (.t 28) (.t 29)⟩,
⟨some 31,none,[],.mov (.t 7)⟩,
⟨some 32,none,[],.mov (.t 9)⟩,
⟨some 33,none,[],.call (.c (.fn 51 [])) [(.t 31), (.t 32)] []⟩,
⟨some 34,none,[],.call (.c (.fn 50 [])) [(.t 30), (.t 33)] []⟩,
⟨some 35,none,[],.ext (.t 34) 0⟩,
⟨some 36,none,[],.ext (.t 34) 1⟩,
⟨some 4,none,[],.mov (.t 35)⟩,
⟨some 5,none,[],.mov (.t 36)⟩])
 (.pre [4, 5] .ret))))))) }

def x28 : XFn := { np := 2, isOpen := false, ns := 0, res := [.tmp 4, .tmp 5, .tmp 6], code :=
  (.seq (.reg false [0, 1] [] [⟨some 4,none,[],.mov (.c (.str []))⟩,
⟨some 5,none,[],.mov (.c (.str []))⟩,
⟨some 6,none,[],.mov (.c (.int .i64 0))⟩])
 (.seq (.seq (.reg false [0, 1, 28] [] [⟨some 17,none,[],.mov (.t 0)⟩,
⟨some 18,none,[],.call (.c (.fn 33 [])) [(.t 17)] []⟩,
⟨some 19,none,[],.un .not (.t 18)⟩,
⟨some 20,none,[],.mov (.t 19)⟩,
⟨some 21, some (20, false), [], .mov (.t 1)⟩,
⟨some 22, some (20, false), [], .call (.c (.fn 33 [])) [(.t 21)] []⟩,
⟨some 23, some (20, false), [], .un .not (.t 22)⟩,
⟨some 24,none,[],.pick (.t 20) (.c (.bool true)) (.t 23)⟩,
⟨some 25,none,[],.mov (.t 24)⟩,
⟨some 26, some (25, false), [], .mov (.t 1)⟩,
⟨some 27, some (25, false), [], .bin .eql (.t 26) (.c (.str [48]))⟩,
⟨some 28,none,[],.pick (.t 25) (.c (.bool true)) (.t 27)⟩])
 (.cond (.t 28)
 (.seq (.reg false [4, 5, 6] [] [⟨some 4,none,[],.mov (.c (.str []))⟩,
⟨some 5,none,[],.mov (.c (.str []))⟩,
⟨some 6,none,[],.mov (.c (.int .i64 30))⟩])
 (.pre [4, 5, 6] .ret))
 .skip))
 (.pre [0, 1] (.seq (.reg false [1, 7, 8] [] [⟨some 30,none,[],.mov (.t 0)⟩,
⟨some 31,none,[],.call (.c (.fn 48 [])) [(.t 30)] []⟩,
⟨some 29,none,[],.mov (.t 31)⟩,
⟨some 32,none,[],.ext (.t 29) 0⟩,
⟨some 33,none,[],.ext (.t 29) 1⟩,
⟨some 7,none,[],.mov (.t 32)⟩,
⟨some 8,none,[],.mov (.t 33)⟩])
 (.seq (.reg false [7, 8, 9, 10] [] [⟨some 35,none,[],.mov (.t 1)⟩,
⟨some 36,none,[],.call (.c (.fn 48 [])) [(.t 35)] []⟩,
⟨some 34,none,[],.mov (.t 36)⟩,
⟨some 37,none,[],.ext (.t 34) 0⟩,
⟨some 38,none,[],.ext (.t 34) 1⟩,
⟨some 9,none,[],.mov (.t 37)⟩,
⟨some 10,none,[],.mov (.t 38)⟩])
 (.seq (.reg false [7, 9, 10, 11, 12] [] [⟨some 40,none,[],.mov (.t 8)⟩,
⟨some 41,none,[],.mov (.t 10)⟩,
⟨some 42,none,[],.call (.c (.fn 52 [])) [(.t 40), (.t 41)] []⟩,
⟨some 39,none,[],.mov (.t 42)⟩,
⟨some 43,none,[],.ext (.t 39) 0⟩,
⟨some 44,none,[],.ext (.t 39) 1⟩,
⟨some 11,none,[],.mov (.t 43)⟩,
⟨some 12,none,[],.mov (.t 44)⟩])
 (.seq (.seq (.reg false [7, 9, 10, 11, 12, 50] [] [⟨some 45,none,[],.mov (.t 7)⟩,
⟨some 46,none,[],.mov (.t 45)⟩,
⟨some 47, some (46, true), [], .mov (.t 12)⟩,
⟨some 48, some (46, true), [], .len false (.t 47)⟩,
⟨some 49, some (46, true), [], .bin .gtr (.t 48) (.c (.int .i64 0))⟩,
⟨some 50,none,[],.pick (.t 46) (.t 49) (.c (.bool false))⟩])
 (.cond (.t 50)
 (.seq (.reg false [7, 9, 10, 11, 12] [] [⟨some 51,none,[],.mov (.t 11)⟩,
⟨some 52,none,[],.bslice 1 (.int .i64 0) 1 [(0, (.c (.int .i64 1)))]⟩,
⟨some 53,none,[],.call (.c (.fn 53 [])) [(.t 51), (.t 52)] []⟩,
⟨some 11,none,[],.mov (.t 53)⟩])
 (.reg false [7, 9, 11, 12] [] [⟨some 54,none,[],.mov (.t 10)⟩,
⟨some 55,none,[],.mov (.t 12)⟩,
⟨some 56,none,[],.call (.c (.fn 54 [])) [(.t 54), (.t 55)] []⟩,
⟨some 12,none,[],.mov (.t 56)⟩]))
 .skip))
 (.pre [7, 9, 11, 12] (.seq (.reg false [12, 13, 14] [] [⟨some 58,none,[],.mov (.t 7)⟩,
⟨some 59,none,[],.mov (.t 9)⟩,
⟨some 60,none,[],.eqv true [] (.t 58) (.t 59)⟩,
⟨some 61,none,[],.mov (.t 11)⟩,
⟨some 62,none,[],.call (.c (.fn 50 [])) [(.t 60), (.t 61)] []⟩,
⟨some 57,none,[],.mov (.t 62)⟩,
⟨some 63,none,[],.ext (.t 57) 0⟩,
⟨some 64,none,[],.ext (.t 57) 1⟩,
⟨some 13,none,[],.mov (.t 63)⟩,
⟨some 14,none,[],.mov (.t 64)⟩])
 (.seq (.reg false [13, 14, 15] [] [⟨some 66,none,[],.mov (.t 12)⟩,
⟨some 67,none,[],.call (.c (.fn 36 [])) [(.c (.bool false)), (.t 66)] []⟩,
⟨some 65,none,[],.mov (.t 67)⟩,
⟨some 68,none,[],.ext (.t 65) 0⟩,
⟨some 69,none,[],.ext (.t 65) 1⟩,
⟨some 15,none,[],.mov (.t 68)⟩,
⟨some 16,none,[],.mov (.t 69)⟩])
 (.seq (.seq (.reg false [13, 14, 15, 71] [] [⟨some 70,none,[],.mov (.t 14)⟩,
⟨some 71,none,[],.bin .neq (.t 70) (.c (.int .i64 0))⟩])
 (.cond (.t 71)
 (.seq (.reg false [4, 5, 6] [] [⟨some 72,none,[],.mov (.t 14)⟩,
⟨some 4,none,[],.mov (.c (.str []))⟩,
⟨some 5,none,[],.mov (.c (.str []))⟩,
⟨some 6,none,[],.mov (.t 72)⟩])
 (.pre [4, 5, 6] .ret))
 .skip))
 (.pre [13, 15] (.seq (.reg false [4, 5, 6] [] [⟨some 73,none,[],.mov (.t 13)⟩,
⟨some 74,none,[],.mov (.t 15)⟩,
⟨some 4,none,[],.mov (.t 73)⟩,
⟨some 5,none,[],.mov (.t 74)⟩,
⟨some 6,none,[],.mov (.c (.int .i64 0))⟩])
 (.pre [4, 5, 6] .ret)))))))))))))) }

@[go_sem] def c29_0 : XC := (.pre [7, 9]
  (.seq (.seq (.reg false [7, 9, 32] [] [⟨some 30,none,[],.mov (.t 9)⟩,
⟨some 31,none,[],.len false (.t 30)⟩,
⟨some 32,none,[],.bin .gtr (.t 31) (.c (.int .i64 0))⟩])
 (.cond (.t 32)
 .skip
 (.pre [7] (.exit 0))))
 (.pre [7, 9] (.blk 1
 (.seq (.reg false [9, 11] [] [⟨some 34,none,[],.mov (.t 7)⟩,
⟨some 35,none,[],.mov (.t 9)⟩,
⟨some 36,none,[],.call (.c (.fn 52 [])) [(.t 34), (.t 35)] []⟩,
⟨some 33,none,[],.mov (.t 36)⟩,
⟨some 37,none,[],.ext (.t 33) 0⟩,
⟨some 38,none,[],.ext (.t 33) 1⟩,
⟨some 10,none,[],.mov (.t 37)⟩,
⟨some 11,none,[],.mov (.t 38)⟩])
 (.seq (.reg false [7, 11] [] [⟨some 39,none,[],.mov (.t 9)⟩,
⟨some 7,none,[],.mov (.t 39)⟩])
 (.reg false [7, 9] [] [⟨some 40,none,[],.mov (.t 11)⟩,
⟨some 9,none,[],.mov (.t 40)⟩])))))))
def b29_0 : XC := c29_0
@[go_sem] theorem e29_0 (L : Lib) (cx : Cx) (env : Env) (h : Heap) : runC L cx b29_0 (env, h) = runC L cx c29_0 (env, h) := rfl

def x29 : XFn := { np := 2, isOpen := false, ns := 0, res := [.tmp 4, .tmp 5], code :=
  (.seq (.reg false [0, 1] [] [⟨some 4,none,[],.mov (.c (.str []))⟩,
⟨some 5,none,[],.mov (.c (.int .i64 0))⟩])
 (.seq (.seq (.reg false [0, 1, 19] [] [⟨some 12,none,[],.mov (.t 0)⟩,
⟨some 13,none,[],.call (.c (.fn 33 [])) [(.t 12)] []⟩,
⟨some 14,none,[],.un .not (.t 13)⟩,
⟨some 15,none,[],.mov (.t 14)⟩,
⟨some 16, some (15, false), [], .mov (.t 1)⟩,
⟨some 17, some (15, false), [], .call (.c (.fn 33 [])) [(.t 16)] []⟩,
⟨some 18, some (15, false), [], .un .not (.t 17)⟩,
⟨some 19,none,[],.pick (.t 15) (.c (.bool true)) (.t 18)⟩])
 (.cond (.t 19)
 (.seq (.reg false [4, 5] [] [⟨some 4,none,[],.mov (.c (.str []))⟩,
⟨some 5,none,[],.mov (.c (.int .i64 30))⟩])
 (.pre [4, 5] .ret))
 .skip))
 (.pre [0, 1] (.seq (.reg false [1, 7] [] [⟨some 21,none,[],.mov (.t 0)⟩,
⟨some 22,none,[],.call (.c (.fn 48 [])) [(.t 21)] []⟩,
⟨some 20,none,[],.mov (.t 22)⟩,
⟨some 23,none,[],.ext (.t 20) 0⟩,
⟨some 24,none,[],.ext (.t 20) 1⟩,
⟨some 6,none,[],.mov (.t 23)⟩,
⟨some 7,none,[],.mov (.t 24)⟩])
 (.seq (.reg false [7, 9] [] [⟨some 26,none,[],.mov (.t 1)⟩,
⟨some 27,none,[],.call (.c (.fn 48 [])) [(.t 26)] []⟩,
⟨some 25,none,[],.mov (.t 27)⟩,
⟨some 28,none,[],.ext (.t 25) 0⟩,
⟨some 29,none,[],.ext (.t 25) 1⟩,
⟨some 8,none,[],.mov (.t 28)⟩,
⟨some 9,none,[],.mov (.t 29)⟩])
 (.seq (.blk 0
 (.loop b29_0))
 (.pre [7] (.seq (.reg false [4, 5] [] [⟨some 41,none,[],.mov (.t 7)⟩,
⟨some 42,none,[],.call (.c (.fn 50 [])) [(.c (.bool false)), (.t 41)] []⟩,
⟨some 43,none,[],.ext (.t 42) 0⟩,
⟨some 44,none,[],.ext (.t 42) 1⟩,
⟨some 4,none,[],.mov (.t 43)⟩,
⟨some 5,none,[],.mov (.t 44)⟩])
 (.pre [4, 5] .ret))))))))) }

@[go_sem] def c30_1 : XC := (.pre [5, 6, 7]
  (.seq (.seq (.reg false [5, 6, 7, 50] [] [⟨some 36,none,[],.mov (.t 6)⟩,
⟨some 37,none,[],.mov (.t 7)⟩,
⟨some 38,none,[],.ixS 1 (.t 36) (.t 37)⟩,
⟨some 39,none,[],.load .one (.t 38)⟩,
⟨some 40,none,[],.bin .gtr (.t 39) (.c (.int .i64 0))⟩,
⟨some 41,none,[],.mov (.t 40)⟩,
⟨some 42, some (41, true), [], .mov (.t 6)⟩,
⟨some 43, some (41, true), [], .call (.c (.fn 56 [])) [(.t 42)] []⟩,
⟨some 44, some (41, true), [], .mov (.t 6)⟩,
⟨some 45, some (41, true), [], .call (.c (.fn 56 [])) [(.t 44)] []⟩,
⟨some 46, some (41, true), [], .call (.c (.fn 51 [])) [(.t 43), (.t 45)] []⟩,
⟨some 47, some (41, true), [], .mov (.t 5)⟩,
⟨some 48, some (41, true), [], .call (.c (.fn 55 [])) [(.t 46), (.t 47)] []⟩,
⟨some 49, some (41, true), [], .bin .gtr (.t 48) (.c (.int .i64 0))⟩,
⟨some 50,none,[],.pick (.t 41) (.t 49) (.c (.bool false))⟩])
 (.cond (.t 50)
 .skip
 (.pre [5, 6, 7] (.exit 2))))
 (.pre [5, 6, 7] (.blk 3
 (.reg false [5, 6, 7] [] [⟨some 51,none,[],.mov (.t 6)⟩,
⟨some 52,none,[],.mov (.t 7)⟩,
⟨some 53,none,[],.ixS 1 (.t 51) (.t 52)⟩,
⟨some 54,none,[],.load .one (.t 53)⟩,
⟨some 55,none,[],.bin .sub (.t 54) (.c (.int .i64 1))⟩,
⟨some 56,none,[],.ixS 1 (.t 51) (.t 52)⟩,
⟨none,none,[],.store 1 (.t 56) (.t 55)⟩])))))
def b30_1 : XC := c30_1
@[go_sem] theorem e30_1 (L : Lib) (cx : Cx) (env : Env) (h : Heap) : runC L cx b30_1 (env, h) = runC L cx c30_1 (env, h) := rfl

@[go_sem] def c30_0 : XC := (.pre [5, 6, 7]
  (.seq (.seq (.reg false [5, 6, 7, 30] [] [⟨some 29,none,[],.mov (.t 7)⟩,
⟨some 30,none,[],.bin .geq (.t 29) (.c (.int .i64 0))⟩])
 (.cond (.t 30)
 .skip
 (.pre [6] (.exit 0))))
 (.pre [5, 6, 7] (.seq (.blk 1
 (.seq (.reg false [5, 6, 7] [] [⟨some 33,none,[],.mov (.t 6)⟩,
⟨some 34,none,[],.mov (.t 7)⟩,
⟨some 35,none,[],.ixS 1 (.t 33) (.t 34)⟩,
⟨none,none,[],.store 1 (.t 35) (.c (.int .i64 9))⟩])
 (.blk 2
 (.loop b30_1))))
 (.pre [5, 6, 7] (.reg false [5, 6, 7] [] [⟨some 31,none,[],.mov (.t 7)⟩,
⟨some 32,none,[],.bin .sub (.t 31) (.c (.int .i64 1))⟩,
⟨some 7,none,[],.mov (.t 32)⟩]))))))
def b30_0 : XC := c30_0
@[go_sem] theorem e30_0 (L : Lib) (cx : Cx) (env : Env) (h : Heap) : runC L cx b30_0 (env, h) = runC L cx c30_0 (env, h) := rfl

def x30 : XFn := { np := 1, isOpen := false, ns := 1, res := [.tmp 2, .tmp 3], code :=
  (.seq (.reg false [0] [] [⟨some 2,none,[],.mov (.c (.str []))⟩,
⟨some 3,none,[],.mov (.c (.int .i64 0))⟩])
 (.seq (.seq (.reg false [0, 15] [] [⟨some 8,none,[],.mov (.t 0)⟩,
⟨some 9,none,[],.call (.c (.fn 33 [])) [(.t 8)] []⟩,
⟨some 10,none,[],.un .not (.t 9)⟩,
⟨some 11,none,[],.mov (.t 10)⟩,
⟨some 12, some (11, false), [], .mov (.t 0)⟩,
⟨some 13, some (11, false), [], .ixStr (.t 12) (.c (.int .i64 0))⟩,
⟨some 14, some (11, false), [], .bin .eql (.t 13) (.c (.int .u8 45))⟩,
⟨some 15,none,[],.pick (.t 11) (.c (.bool true)) (.t 14)⟩])
 (.cond (.t 15)
 (.seq (.reg false [2, 3] [] [⟨some 2,none,[],.mov (.c (.str []))⟩,
⟨some 3,none,[],.mov (.c (.int .i64 30))⟩])
 (.pre [2, 3] .ret))
 .skip))
 (.pre [0] (.seq (.reg false [5] [] [⟨some 17,none,[],.mov (.t 0)⟩,
⟨some 18,none,[],.call (.c (.fn 48 [])) [(.t 17)] []⟩,
⟨some 16,none,[],.mov (.t 18)⟩,
⟨some 19,none,[],.ext (.t 16) 0⟩,
⟨some 20,none,[],.ext (.t 16) 1⟩,
⟨some 4,none,[],.mov (.t 19)⟩,
⟨some 5,none,[],.mov (.t 20)⟩])
 (.seq (.reg false [5, 6] [] [⟨some 21,none,[],.mov (.t 5)⟩,
⟨some 22,none,[],.len false (.t 21)⟩,
⟨some 23,none,[],.bin .add (.t 22) (.c (.int .i64 1))⟩,
⟨some 24,none,[],.bin .quo (.t 23) (.c (.int .i64 2))⟩,
⟨some 25,none,[],.mk 0 1 (.int .i64 0) 17592186044416 (.t 24) (.t 24)⟩,
⟨some 6,none,[],.mov (.t 25)⟩])
 (.seq (.seq (.reg false [5, 6, 7] [] [⟨some 26,none,[],.mov (.t 6)⟩,
⟨some 27,none,[],.len false (.t 26)⟩,
⟨some 28,none,[],.bin .sub (.t 27) (.c (.int .i64 1))⟩,
⟨some 7,none,[],.mov (.t 28)⟩])
 (.blk 0
 (.loop b30_0)))
 (.pre [6] (.seq (.reg false [2, 3] [] [⟨some 57,none,[],.mov (.t 6)⟩,
⟨some 58,none,[],.call (.c (.fn 37 [])) [(.t 57)] []⟩,
⟨some 59,none,[],.call (.c (.fn 50 [])) [(.c (.bool false)), (.t 58)] []⟩,
⟨some 60,none,[],.ext (.t 59) 0⟩,
⟨some 61,none,[],.ext (.t 59) 1⟩,
⟨some 2,none,[],.mov (.t 60)⟩,
⟨some 3,none,[],.mov (.t 61)⟩])
 (.pre [2, 3] .ret))))))))) }

def x31 : XFn := { np := 1, isOpen := false, ns := 0, res := [.tmp 2, .tmp 3], code :=
  (.seq (.reg false [0] [] [⟨some 2,none,[],.mov (.c (.int .i64 0))⟩,
⟨some 3,none,[],.mov (.c (.int .i64 0))⟩])
 (.seq (.reg false [0, 4, 5] [] [⟨some 7,none,[],.mov (.t 0)⟩,
⟨some 8,none,[],.call (.c (.fn 57 [])) [(.t 7)] []⟩,
⟨some 6,none,[],.mov (.t 8)⟩,
⟨some 9,none,[],.ext (.t 6) 0⟩,
⟨some 10,none,[],.ext (.t 6) 1⟩,
⟨some 4,none,[],.mov (.t 9)⟩,
⟨some 5,none,[],.mov (.t 10)⟩])
 (.seq (.seq (.reg false [4, 17] [] [⟨some 11,none,[],.mov (.t 0)⟩,
⟨some 12,none,[],.call (.c (.fn 47 [])) [(.t 11)] []⟩,
⟨some 13,none,[],.un .not (.t 12)⟩,
⟨some 14,none,[],.mov (.t 13)⟩,
⟨some 15, some (14, false), [], .mov (.t 5)⟩,
⟨some 16, some (14, false), [], .isnif true (.t 15)⟩,
⟨some 17,none,[],.pick (.t 14) (.c (.bool true)) (.t 16)⟩])
 (.cond (.t 17)
 (.seq (.reg false [2, 3] [] [⟨some 2,none,[],.mov (.c (.int .i64 0))⟩,
⟨some 3,none,[],.mov (.c (.int .i64 30))⟩])
 (.pre [2, 3] .ret))
 .skip))
 (.pre [4] (.seq (.reg false [2, 3] [] [⟨some 18,none,[],.mov (.t 4)⟩,
⟨some 2,none,[],.mov (.t 18)⟩,
⟨some 3,none,[],.mov (.c (.int .i64 0))⟩])
 (.pre [2, 3] .ret)))))) }

@[go_sem] def c32_0 : XC := (.pre [0, 4, 5]
  (.seq (.seq (.reg false [0, 4, 5, 23] [] [⟨some 20,none,[],.mov (.t 5)⟩,
⟨some 21,none,[],.mov (.t 0)⟩,
⟨some 22,none,[],.len true (.t 21)⟩,
⟨some 23,none,[],.bin .lss (.t 20) (.t 22)⟩])
 (.cond (.t 23)
 .skip
 (.pre [4] (.exit 0))))
 (.pre [0, 4, 5] (.seq (.blk 1
 (.seq (.seq (.reg false [0, 4, 5, 29] [] [⟨some 26,none,[],.mov (.t 0)⟩,
⟨some 27,none,[],.mov (.t 5)⟩,
⟨some 28,none,[],.ixStr (.t 26) (.t 27)⟩,
⟨some 29,none,[],.bin .eql (.t 28) (.c (.int .u8 45))⟩])
 (.cond (.t 29)
 (.pre [0, 4, 5] (.exit 1))
 .skip))
 (.pre [0, 4, 5] (.seq (.reg false [0, 4, 5, 6] [] [⟨some 30,none,[],.mov (.t 0)⟩,
⟨some 31,none,[],.mov (.t 5)⟩,
⟨some 32,none,[],.ixStr (.t 30) (.t 31)⟩,
⟨some 33,none,[],.bin .sub (.t 32) (.c (.int .u8 48))⟩,
⟨some 34,none,[],.conv .i64 (.t 33)⟩,
⟨some 6,none,[],.mov (.t 34)⟩])
 (.seq (.seq (.reg false [0, 4, 5, 6, 37] [] [⟨some 35,none,[],.mov (.t 0)⟩,
⟨some 36,none,[],.ixStr (.t 35) (.c (.int .i64 0))⟩,
⟨some 37,none,[],.bin .eql (.t 36) (.c (.int .u8 45))⟩])
 (.cond (.t 37)
 (.reg false [0, 4, 5, 6] [] [⟨some 38,none,[],.mov (.t 6)⟩,
⟨some 39,none,[],.un .neg (.t 38)⟩,
⟨some 6,none,[],.mov (.t 39)⟩])
 .skip))
 (.pre [0, 4, 5, 6] (.reg false [0, 4, 5] [] [⟨some 40,none,[],.mov (.t 4)⟩,
⟨some 41,none,[],.bin .mul (.c (.int .i64 10)) (.t 40)⟩,
⟨some 42,none,[],.mov (.t 6)⟩,
⟨some 43,none,[],.bin .add (.t 41) (.t 42)⟩,
⟨some 4,none,[],.mov (.t 43)⟩])))))))
 (.pre [0, 4, 5] (.reg false [0, 4, 5] [] [⟨some 24,none,[],.mov (.t 5)⟩,
⟨some 25,none,[],.bin .add (.t 24) (.c (.int .i64 1))⟩,
⟨some 5,none,[],.mov (.t 25)⟩]))))))
def b32_0 : XC := c32_0
@[go_sem] theorem e32_0 (L : Lib) (cx : Cx) (env : Env) (h : Heap) : runC L cx b32_0 (env, h) = runC L cx c32_0 (env, h) := rfl

def x32 : XFn := { np := 1, isOpen := false, ns := 0, res := [.tmp 2, .tmp 3], code :=
  (.seq (.reg false [0] [] [⟨some 2,none,[],.mov (.c (.int .i64 0))⟩,
⟨some 3,none,[],.mov (.c (.int .i64 0))⟩])
 (.seq (.seq (.reg false [0, 19] [] [⟨some 7,none,[],.mov (.t 0)⟩,
⟨some 8,none,[],.call (.c (.fn 33 [])) [(.t 7)] []⟩,
⟨some 9,none,[],.un .not (.t 8)⟩,
⟨some 10,none,[],.mov (.t 9)⟩,
⟨some 11, some (10, false), [], .mov (.t 0)⟩,
⟨some 12, some (10, false), [], .call (.c (.fn 34 [])) [(.t 11), (.c (.str [45, 57, 50, 50, 51, 51, 55, 50, 48, 51, 54, 56, 53, 52, 55, 55, 53, 56, 48, 56]))] []⟩,
⟨some 13, some (10, false), [], .bin .lss (.t 12) (.c (.int .i64 0))⟩,
⟨some 14,none,[],.pick (.t 10) (.c (.bool true)) (.t 13)⟩,
⟨some 15,none,[],.mov (.t 14)⟩,
⟨some 16, some (15, false), [], .mov (.t 0)⟩,
⟨some 17, some (15, false), [], .call (.c (.fn 34 [])) [(.t 16), (.c (.str [57, 50, 50, 51, 51, 55, 50, 48, 51, 54, 56, 53, 52, 55, 55, 53, 56, 48, 55]))] []⟩,
⟨some 18, some (15, false), [], .bin .gtr (.t 17) (.c (.int .i64 0))⟩,
⟨some 19,none,[],.pick (.t 15) (.c (.bool true)) (.t 18)⟩])
 (.cond (.t 19)
 (.seq (.reg false [2, 3] [] [⟨some 2,none,[],.mov (.c (.int .i64 0))⟩,
⟨some 3,none,[],.mov (.c (.int .i64 30))⟩])
 (.pre [2, 3] .ret))
 .skip))
 (.pre [0] (.seq (.reg false [0, 4] [] [⟨some 4,none,[],.mov (.c (.int .i64 0))⟩])
 (.seq (.seq (.reg false [0, 4, 5] [] [⟨some 5,none,[],.mov (.c (.int .i64 0))⟩])
 (.blk 0
 (.loop b32_0)))
 (.pre [4] (.seq (.reg false [2, 3] [] [⟨some 44,none,[],.mov (.t 4)⟩,
⟨some 2,none,[],.mov (.t 44)⟩,
⟨some 3,none,[],.mov (.c (.int .i64 0))⟩])
 (.pre [2, 3] .ret)))))))) }

@[go_sem] def c33_0 : XC := (.pre [0, 3]
  (.seq (.seq (.reg false [0, 3, 19] [] [⟨some 16,none,[],.mov (.t 3)⟩,
⟨some 17,none,[],.mov (.t 0)⟩,
⟨some 18,none,[],.len true (.t 17)⟩,
⟨some 19,none,[],.bin .lss (.t 16) (.t 18)⟩])
 (.cond (.t 19)
 .skip
 (.pre [0] (.exit 0))))
 (.pre [0, 3] (.seq (.blk 1
 (.seq (.reg false [0, 3, 31] [] [⟨some 22,none,[],.mov (.t 0)⟩,
⟨some 23,none,[],.mov (.t 3)⟩,
⟨some 24,none,[],.ixStr (.t 22) (.t 23)⟩,
⟨some 25,none,[],.bin .lss (.t 24) (.c (.int .u8 48))⟩,
⟨some 26,none,[],.mov (.t 25)⟩,
⟨some 27, some (26, false), [], .mov (.t 0)⟩,
⟨some 28, some (26, false), [], .mov (.t 3)⟩,
⟨some 29, some (26, false), [], .ixStr (.t 27) (.t 28)⟩,
⟨some 30, some (26, false), [], .bin .gtr (.t 29) (.c (.int .u8 57))⟩,
⟨some 31,none,[],.pick (.t 26) (.c (.bool true)) (.t 30)⟩])
 (.cond (.t 31)
 (.seq (.reg false [2] [] [⟨some 2,none,[],.mov (.c (.bool false))⟩])
 (.pre [2] .ret))
 .skip)))
 (.pre [0, 3] (.reg false [0, 3] [] [⟨some 20,none,[],.mov (.t 3)⟩,
⟨some 21,none,[],.bin .add (.t 20) (.c (.int .i64 1))⟩,
⟨some 3,none,[],.mov (.t 21)⟩]))))))
def b33_0 : XC := c33_0
@[go_sem] theorem e33_0 (L : Lib) (cx : Cx) (env : Env) (h : Heap) : runC L cx b33_0 (env, h) = runC L cx c33_0 (env, h) := rfl

def x33 : XFn := { np := 1, isOpen := false, ns := 0, res := [.tmp 2], code :=
  (.seq (.reg false [0] [] [⟨some 2,none,[],.mov (.c (.bool false))⟩])
 (.seq (.seq (.reg false [0, 11] [] [⟨some 4,none,[],.mov (.t 0)⟩,
⟨some 5,none,[],.len true (.t 4)⟩,
⟨some 6,none,[],.bin .gtr (.t 5) (.c (.int .i64 0))⟩,
⟨some 7,none,[],.mov (.t 6)⟩,
⟨some 8, some (7, true), [], .mov (.t 0)⟩,
⟨some 9, some (7, true), [], .ixStr (.t 8) (.c (.int .i64 0))⟩,
⟨some 10, some (7, true), [], .bin .eql (.t 9) (.c (.int .u8 45))⟩,
⟨some 11,none,[],.pick (.t 7) (.t 10) (.c (.bool false))⟩])
 (.cond (.t 11)
 (.seq (.reg false [0] [] [⟨some 12,none,[],.mov (.t 0)⟩,
⟨some 13,none,[],.slice none (.t 12) (some (.c (.int .i64 1))) none⟩,
⟨some 0,none,[],.mov (.t 13)⟩])
 (.seq (.reg false [0, 15] [] [⟨some 14,none,[],.mov (.t 0)⟩,
⟨some 15,none,[],.bin .eql (.t 14) (.c (.str [48]))⟩])
 (.cond (.t 15)
 (.seq (.reg false [2] [] [⟨some 2,none,[],.mov (.c (.bool false))⟩])
 (.pre [2] .ret))
 .skip)))
 .skip))
 (.pre [0] (.seq (.seq (.reg false [0, 3] [] [⟨some 3,none,[],.mov (.c (.int .i64 0))⟩])
 (.blk 0
 (.loop b33_0)))
 (.pre [0] (.seq (.reg false [2] [] [⟨some 32,none,[],.mov (.t 0)⟩,
⟨some 33,none,[],.len true (.t 32)⟩,
⟨some 34,none,[],.bin .gtr (.t 33) (.c (.int .i64 0))⟩,
⟨some 35,none,[],.mov (.t 34)⟩,
⟨some 36, some (35, true), [], .mov (.t 0)⟩,
⟨some 37, some (35, true), [], .len true (.t 36)⟩,
⟨some 38, some (35, true), [], .bin .leq (.t 37) (.c (.int .i64 200))⟩,
⟨some 39,none,[],.pick (.t 35) (.t 38) (.c (.bool false))⟩,
⟨some 40,none,[],.mov (.t 39)⟩,
⟨some 41, some (40, true), [], .mov (.t 0)⟩,
⟨some 42, some (40, true), [], .bin .eql (.t 41) (.c (.str [48]))⟩,
⟨some 43, some (40, true), [], .mov (.t 42)⟩,
⟨some 44, some (43, false), [], .mov (.t 0)⟩,
⟨some 45, some (43, false), [], .ixStr (.t 44) (.c (.int .i64 0))⟩,
⟨some 46, some (43, false), [], .bin .neq (.t 45) (.c (.int .u8 48))⟩,
⟨some 47, some (40, true), [], .pick (.t 43) (.c (.bool true)) (.t 46)⟩,
⟨some 48,none,[],.pick (.t 40) (.t 47) (.c (.bool false))⟩,
⟨some 2,none,[],.mov (.t 48)⟩])
 (.pre [2] .ret))))))) }

def x34 : XFn := { np := 2, isOpen := false, ns := 0, res := [.tmp 4], code :=
  (.seq (.reg false [0, 1] [] [⟨some 4,none,[],.mov (.c (.int .i64 0))⟩])
 (.seq (.seq (.reg false [0, 1, 16] [] [⟨some 9,none,[],.mov (.t 0)⟩,
⟨some 10,none,[],.call (.c (.fn 33 [])) [(.t 9)] []⟩,
⟨some 11,none,[],.un .not (.t 10)⟩,
⟨some 12,none,[],.mov (.t 11)⟩,
⟨some 13, some (12, false), [], .mov (.t 1)⟩,
⟨some 14, some (12, false), [], .call (.c (.fn 33 [])) [(.t 13)] []⟩,
⟨some 15, some (12, false), [], .un .not (.t 14)⟩,
⟨some 16,none,[],.pick (.t 12) (.c (.bool true)) (.t 15)⟩])
 (.cond (.t 16)
 (.seq (.reg false [4] [] [⟨some 4,none,[],.mov (.c (.int .i64 0))⟩])
 (.pre [4] .ret))
 .skip))
 (.pre [0, 1] (.seq (.reg false [1, 5, 6] [] [⟨some 18,none,[],.mov (.t 0)⟩,
⟨some 19,none,[],.call (.c (.fn 48 [])) [(.t 18)] []⟩,
⟨some 17,none,[],.mov (.t 19)⟩,
⟨some 20,none,[],.ext (.t 17) 0⟩,
⟨some 21,none,[],.ext (.t 17) 1⟩,
⟨some 5,none,[],.mov (.t 20)⟩,
⟨some 6,none,[],.mov (.t 21)⟩])
 (.seq (.reg false [5, 6, 7, 8] [] [⟨some 23,none,[],.mov (.t 1)⟩,
⟨some 24,none,[],.call (.c (.fn 48 [])) [(.t 23)] []⟩,
⟨some 22,none,[],.mov (.t 24)⟩,
⟨some 25,none,[],.ext (.t 22) 0⟩,
⟨some 26,none,[],.ext (.t 22) 1⟩,
⟨some 7,none,[],.mov (.t 25)⟩,
⟨some 8,none,[],.mov (.t 26)⟩])
 (.seq (.seq (.reg false [5, 6, 8, 29] [] [⟨some 27,none,[],.mov (.t 5)⟩,
⟨some 28,none,[],.mov (.t 7)⟩,
⟨some 29,none,[],.eqv true [] (.t 27) (.t 28)⟩])
 (.cond (.t 29)
 (.seq (.seq (.reg false [30] [] [⟨some 30,none,[],.mov (.t 5)⟩])
 (.cond (.t 30)
 (.seq (.reg false [4] [] [⟨some 4,none,[],.mov (.c (.int .i64 (-1)))⟩])
 (.pre [4] .ret))
 .skip))
 (.pre [] (.seq (.reg false [4] [] [⟨some 4,none,[],.mov (.c (.int .i64 1))⟩])
 (.pre [4] .ret))))
 .skip))
 (.pre [5, 6, 8] (.seq (.seq (.reg false [6, 8, 31] [] [⟨some 31,none,[],.mov (.t 5)⟩])
 (.cond (.t 31)
 (.seq (.reg false [4] [] [⟨some 32,none,[],.mov (.t 8)⟩,
⟨some 33,none,[],.mov (.t 6)⟩,
⟨some 34,none,[],.call (.c (.fn 55 [])) [(.t 32), (.t 33)] []⟩,
⟨some 4,none,[],.mov (.t 34)⟩])
 (.pre [4] .ret))
 .skip))
 (.pre [6, 8] (.seq (.reg false [4] [] [⟨some 35,none,[],.mov (.t 6)⟩,
⟨some 36,none,[],.mov (.t 8)⟩,
⟨some 37,none,[],.call (.c (.fn 55 [])) [(.t 35), (.t 36)] []⟩,
⟨some 4,none,[],.mov (.t 37)⟩])
 (.pre [4] .ret))))))))))) }

def x35 : XFn := { np := 1, isOpen := false, ns := 0, res := [.tmp 2], code :=
  (.seq (.reg false [0] [] [⟨some 2,none,[],.mov (.c (.str []))⟩])
 (.seq (.reg false [2] [] [⟨some 3,none,[],.mov (.t 0)⟩,
⟨some 4,none,[],.call (.c (.fn 58 [])) [(.t 3)] []⟩,
⟨some 2,none,[],.mov (.t 4)⟩])
 (.pre [2] .ret))) }

@[go_sem] def c36_0 : XC := (.pre [1, 6, 7]
  (.seq (.seq (.reg false [1, 6, 7, 19] [] [⟨some 18,none,[],.mov (.t 7)⟩,
⟨some 19,none,[],.bin .geq (.t 18) (.c (.int .i64 0))⟩])
 (.cond (.t 19)
 .skip
 (.pre [1, 6] (.exit 0))))
 (.pre [1, 6, 7] (.seq (.blk 1
 (.reg false [1, 6, 7] [] [⟨some 22,none,[],.mov (.t 6)⟩,
⟨some 23,none,[],.mov (.t 1)⟩,
⟨some 24,none,[],.mov (.t 7)⟩,
⟨some 25,none,[],.ixS 1 (.t 23) (.t 24)⟩,
⟨some 26,none,[],.load .one (.t 25)⟩,
⟨some 27,none,[],.bin .add (.c (.int .i64 48)) (.t 26)⟩,
⟨some 28,none,[],.conv .u8 (.t 27)⟩,
⟨some 29,none,[],.bslice 1 (.int .u8 0) 1 [(0, (.t 28))]⟩,
⟨some 30,none,[],.app 0 1 140737488355328 (.t 22) (.t 29)⟩,
⟨some 6,none,[],.mov (.t 30)⟩]))
 (.pre [1, 6, 7] (.reg false [1, 6, 7] [] [⟨some 20,none,[],.mov (.t 7)⟩,
⟨some 21,none,[],.bin .sub (.t 20) (.c (.int .i64 1))⟩,
⟨some 7,none,[],.mov (.t 21)⟩]))))))
def b36_0 : XC := c36_0
@[go_sem] theorem e36_0 (L : Lib) (cx : Cx) (env : Env) (h : Heap) : runC L cx b36_0 (env, h) = runC L cx c36_0 (env, h) := rfl

def x36 : XFn := { np := 2, isOpen := false, ns := 2, res := [.tmp 4, .tmp 5], code :=
  (.seq (.reg false [0, 1] [] [⟨some 4,none,[],.mov (.c (.str []))⟩,
⟨some 5,none,[],.mov (.c (.bool false))⟩])
 (.seq (.seq (.reg false [0, 1, 10] [] [⟨some 8,none,[],.mov (.t 1)⟩,
⟨some 9,none,[],.len false (.t 8)⟩,
⟨some 10,none,[],.bin .eql (.t 9) (.c (.int .i64 0))⟩])
 (.cond (.t 10)
 (.seq (.reg false [4, 5] [] [⟨some 4,none,[],.mov (.c (.str [48]))⟩,
⟨some 5,none,[],.mov (.c (.bool true))⟩])
 (.pre [4, 5] .ret))
 .skip))
 (.pre [0, 1] (.seq (.reg false [0, 1, 6] [] [⟨some 6,none,[],.mov (.c .nilSl)⟩])
 (.seq (.seq (.reg false [1, 6, 11] [] [⟨some 11,none,[],.mov (.t 0)⟩])
 (.cond (.t 11)
 (.reg false [1, 6] [] [⟨some 12,none,[],.mov (.t 6)⟩,
⟨some 13,none,[],.bslice 1 (.int .u8 0) 1 [(0, (.c (.int .u8 45)))]⟩,
⟨some 14,none,[],.app 1 1 140737488355328 (.t 12) (.t 13)⟩,
⟨some 6,none,[],.mov (.t 14)⟩])
 .skip))
 (.pre [1, 6] (.seq (.seq (.reg false [1, 6, 7] [] [⟨some 15,none,[],.mov (.t 1)⟩,
⟨some 16,none,[],.len false (.t 15)⟩,
⟨some 17,none,[],.bin .sub (.t 16) (.c (.int .i64 1))⟩,
⟨some 7,none,[],.mov (.t 17)⟩])
 (.blk 0
 (.loop b36_0)))
 (.pre [1, 6] (.seq (.reg false [4, 5] [] [⟨some 31,none,[],.mov (.t 6)⟩,
⟨some 32,none,[],.toStr (.t 31)⟩,
⟨some 33,none,[],.mov (.t 1)⟩,
⟨some 34,none,[],.len false (.t 33)⟩,
⟨some 35,none,[],.bin .leq (.t 34) (.c (.int .i64 200))⟩,
⟨some 4,none,[],.mov (.t 32)⟩,
⟨some 5,none,[],.mov (.t 35)⟩])
 (.pre [4, 5] .ret)))))))))) }

@[go_sem] def c37_0 : XC := (.pre [0]
  (.seq (.seq (.reg false [0, 14] [] [⟨some 3,none,[],.mov (.t 0)⟩,
⟨some 4,none,[],.len false (.t 3)⟩,
⟨some 5,none,[],.bin .gtr (.t 4) (.c (.int .i64 0))⟩,
⟨some 6,none,[],.mov (.t 5)⟩,
⟨some 7, some (6, true), [], .mov (.t 0)⟩,
⟨some 8, some (6, true), [], .mov (.t 0)⟩,
⟨some 9, some (6, true), [], .len false (.t 8)⟩,
⟨some 10, some (6, true), [], .bin .sub (.t 9) (.c (.int .i64 1))⟩,
⟨some 11, some (6, true), [], .ixS 1 (.t 7) (.t 10)⟩,
⟨some 12, some (6, true), [], .load .one (.t 11)⟩,
⟨some 13, some (6, true), [], .bin .eql (.t 12) (.c (.int .i64 0))⟩,
⟨some 14,none,[],.pick (.t 6) (.t 13) (.c (.bool false))⟩])
 (.cond (.t 14)
 .skip
 (.pre [0] (.exit 0))))
 (.pre [0] (.blk 1
 (.reg false [0] [] [⟨some 15,none,[],.mov (.t 0)⟩,
⟨some 16,none,[],.mov (.t 0)⟩,
⟨some 17,none,[],.len false (.t 16)⟩,
⟨some 18,none,[],.bin .sub (.t 17) (.c (.int .i64 1))⟩,
⟨some 19,none,[],.slice (some 1) (.t 15) none (some (.t 18))⟩,
⟨some 0,none,[],.mov (.t 19)⟩])))))
def b37_0 : XC := c37_0
@[go_sem] theorem e37_0 (L : Lib) (cx : Cx) (env : Env) (h : Heap) : runC L cx b37_0 (env, h) = runC L cx c37_0 (env, h) := rfl

def x37 : XFn := { np := 1, isOpen := false, ns := 0, res := [.tmp 2], code :=
  (.seq (.reg false [0] [] [⟨some 2,none,[],.mov (.c .nilSl)⟩])
 (.seq (.blk 0
 (.loop b37_0))
 (.pre [0] (.seq (.reg false [2] [] [⟨some 20,none,[],.mov (.t 0)⟩,
⟨some 2,none,[],.mov (.t 20)⟩])
 (.pre [2] .ret))))) }

def x38 : XFn := { np := 2, isOpen := false, ns := 2, res := [.cell 4 (.agg 2), .cell 5 (.agg 2), .tmp 6], code :=
  (.seq (.reg false [0, 1, 4, 5] [] [⟨some 4,none,[],.alloc 0 [.bool false, .nilSl]⟩,
⟨some 5,none,[],.alloc 1 [.bool false, .nilSl]⟩,
⟨some 6,none,[],.mov (.c (.bool false))⟩])
 (.seq (.seq (.reg false [0, 1, 4, 5, 14] [] [⟨some 7,none,[],.mov (.t 0)⟩,
⟨some 8,none,[],.call (.c (.fn 47 [])) [(.t 7)] []⟩,
⟨some 9,none,[],.un .not (.t 8)⟩,
⟨some 10,none,[],.mov (.t 9)⟩,
⟨some 11, some (10, false), [], .mov (.t 1)⟩,
⟨some 12, some (10, false), [], .call (.c (.fn 47 [])) [(.t 11)] []⟩,
⟨some 13, some (10, false), [], .un .not (.t 12)⟩,
⟨some 14,none,[],.pick (.t 10) (.c (.bool true)) (.t 13)⟩])
 (.cond (.t 14)
 (.seq (.reg false [4, 5, 6] [] [⟨some 15,none,[],.build [.bool false, .nilSl] []⟩,
⟨some 16,none,[],.build [.bool false, .nilSl] []⟩,
⟨none,none,[],.store 2 (.t 4) (.t 15)⟩,
⟨none,none,[],.store 2 (.t 5) (.t 16)⟩,
⟨some 6,none,[],.mov (.c (.bool false))⟩])
 (.pre [4, 5, 6] .ret))
 .skip))
 (.pre [0, 1, 4, 5] (.seq (.reg false [4, 5, 6] [] [⟨some 17,none,[],.mov (.t 0)⟩,
⟨some 18,none,[],.call (.c (.fn 59 [])) [(.t 17)] []⟩,
⟨some 19,none,[],.mov (.t 1)⟩,
⟨some 20,none,[],.call (.c (.fn 59 [])) [(.t 19)] []⟩,
⟨none,none,[],.store 2 (.t 4) (.t 18)⟩,
⟨none,none,[],.store 2 (.t 5) (.t 20)⟩,
⟨some 6,none,[],.mov (.c (.bool true))⟩])
 (.pre [4, 5, 6] .ret))))) }

def x39 : XFn := { np := 2, isOpen := false, ns := 1, res := [.cell 4 (.agg 2)], code :=
  (.seq (.reg false [2, 3, 4] [] [⟨some 2,none,[],.boxR (.t 0)⟩,
⟨some 3,none,[],.boxR (.t 1)⟩,
⟨some 4,none,[],.alloc 0 [.bool false, .nilSl]⟩])
 (.seq (.blk 0
 (.seq (.reg false [2, 3, 4, 5] [] [⟨some 6,none,[],.padd (.t 2) 0⟩,
⟨some 7,none,[],.load .one (.t 6)⟩,
⟨some 8,none,[],.padd (.t 3) 0⟩,
⟨some 9,none,[],.load .one (.t 8)⟩,
⟨some 10,none,[],.eqv false [] (.t 7) (.t 9)⟩,
⟨some 5,none,[],.mov (.t 10)⟩])
 (.cond (.t 5)
 (.seq (.reg true [4] [] [⟨some 11,none,[],.padd (.t 2) 0⟩,
⟨some 12,none,[.box 11], .load .one (.t 11)⟩,
⟨some 13,none,[],.padd (.t 2) 1⟩,
⟨some 14,none,[.box 13], .load .one (.t 13)⟩,
⟨some 15,none,[],.padd (.t 3) 1⟩,
⟨some 16,none,[.box 15], .load .one (.t 15)⟩,
⟨some 17,none,[],.call (.c (.fn 43 [])) [(.t 14), (.t 16)] []⟩,
⟨some 18,none,[],.build [.bool false, .nilSl] [(0, 1, (.t 12)), (1, 1, (.t 17))]⟩,
⟨none,none,[.box 4], .store 2 (.t 4) (.t 18)⟩])
 (.pre [4] .ret))
 (.seq (.reg false [2, 3, 4, 19] [] [⟨some 20,none,[],.padd (.t 2) 1⟩,
⟨some 21,none,[],.load .one (.t 20)⟩,
⟨some 22,none,[],.padd (.t 3) 1⟩,
⟨some 23,none,[],.load .one (.t 22)⟩,
⟨some 24,none,[],.call (.c (.fn 46 [])) [(.t 21), (.t 23)] []⟩,
⟨some 25,none,[],.bin .geq (.t 24) (.c (.int .i64 0))⟩,
⟨some 19,none,[],.mov (.t 25)⟩])
 (.cond (.t 19)
 (.seq (.reg true [4] [] [⟨some 26,none,[],.padd (.t 2) 0⟩,
⟨some 27,none,[.box 26], .load .one (.t 26)⟩,
⟨some 28,none,[],.padd (.t 2) 1⟩,
⟨some 29,none,[.box 28], .load .one (.t 28)⟩,
⟨some 30,none,[],.padd (.t 3) 1⟩,
⟨some 31,none,[.box 30], .load .one (.t 30)⟩,
⟨some 32,none,[],.call (.c (.fn 45 [])) [(.t 29), (.t 31)] []⟩,
⟨some 33,none,[],.build [.bool false, .nilSl] [(0, 1, (.t 27)), (1, 1, (.t 32))]⟩,
⟨none,none,[.box 4], .store 2 (.t 4) (.t 33)⟩])
 (.pre [4] .ret))
 .skip)))))
 (.pre [2, 3, 4] (.seq (.reg true [4] [] [⟨some 34,none,[],.padd (.t 3) 0⟩,
⟨some 35,none,[.box 34], .load .one (.t 34)⟩,
⟨some 36,none,[],.padd (.t 3) 1⟩,
⟨some 37,none,[.box 36], .load .one (.t 36)⟩,
⟨some 38,none,[],.padd (.t 2) 1⟩,
⟨some 39,none,[.box 38], .load .one (.t 38)⟩,
⟨some 40,none,[],.call (.c (.fn 45 [])) [(.t 37), (.t 39)] []⟩,
⟨some 41,none,[],.build [.bool false, .nilSl] [(0, 1, (.t 35)), (1, 1, (.t 40))]⟩,
⟨none,none,[.box 4], .store 2 (.t 4) (.t 41)⟩])
 (.pre [4] .ret))))) }

def r0 : XRnd := { ps := [16, 17], asg := (.seq (.reg false [1, 4, 5, 17] [] [⟨some 5,none,[],.mov (.t 16)⟩])
 (.reg false [1, 4, 5, 6] [] [⟨some 6,none,[],.mov (.t 17)⟩])), body :=
  (.blk 1
 (.seq (.reg false [1, 4, 5, 7] [] [⟨some 18,none,[],.mov (.t 6)⟩,
⟨some 19,none,[],.call (.c (.fn 58 [])) [(.t 18)] []⟩,
⟨some 7,none,[],.mov (.t 19)⟩])
 (.seq (.seq (.reg false [4, 7, 25] [] [⟨some 20,none,[],.mov (.t 5)⟩,
⟨some 21,none,[],.padd (.t 1) 1⟩,
⟨some 22,none,[],.load .one (.t 21)⟩,
⟨some 23,none,[],.len false (.t 22)⟩,
⟨some 24,none,[],.bin .sub (.t 23) (.c (.int .i64 1))⟩,
⟨some 25,none,[],.bin .lss (.t 20) (.t 24)⟩])
 (.cond (.t 25)
 (.reg false [4, 7] [] [⟨some 26,none,[],.mov (.t 7)⟩,
⟨some 27,none,[],.len true (.t 26)⟩,
⟨some 28,none,[],.bin .sub (.c (.int .i64 4)) (.t 27)⟩,
⟨some 29,none,[],.call (.c (.fn 61 [])) [(.c (.str [48])), (.t 28)] []⟩,
⟨some 30,none,[],.mov (.t 7)⟩,
⟨some 31,none,[],.bin .add (.t 29) (.t 30)⟩,
⟨some 7,none,[],.mov (.t 31)⟩])
 .skip))
 (.pre [4, 7] (.reg false [] [] [⟨some 32,none,[],.mov (.t 7)⟩,
⟨some 33,none,[],.bwr 1 62 (.t 4) (.t 32)⟩]))))) }

def x40 : XFn := { np := 1, isOpen := false, ns := 3, res := [.tmp 2, .tmp 3], code :=
  (.seq (.reg false [1, 2, 3] [] [⟨some 1,none,[],.boxR (.t 0)⟩,
⟨some 2,none,[],.mov (.c (.str []))⟩,
⟨some 3,none,[],.mov (.c (.int .i64 0))⟩])
 (.seq (.seq (.reg false [1, 2, 3, 12] [] [⟨some 9,none,[],.padd (.t 1) 1⟩,
⟨some 10,none,[],.load .one (.t 9)⟩,
⟨some 11,none,[],.len false (.t 10)⟩,
⟨some 12,none,[],.bin .eql (.t 11) (.c (.int .i64 0))⟩])
 (.cond (.t 12)
 (.seq (.reg false [2, 3] [] [⟨some 2,none,[],.mov (.c (.str [48]))⟩,
⟨some 3,none,[],.mov (.c (.int .i64 0))⟩])
 (.pre [2, 3] .ret))
 .skip))
 (.pre [1, 2, 3] (.seq (.reg false [1, 2, 3, 4] [] [⟨some 4,none,[],.mkbld 2⟩])
 (.seq (.seq (.reg false [1, 2, 3, 4, 15] [] [⟨some 13,none,[],.padd (.t 1) 1⟩,
⟨some 14,none,[],.load .one (.t 13)⟩,
⟨some 15,none,[],.call (.c (.fn 60 [])) [(.t 14)] []⟩])
 (.blk 0
 (.rfn 0 (.t 15) 0)))
 (.pre [1, 4] (.seq (.reg false [1, 8] [] [⟨some 34,none,[],.bstr 63 (.t 4)⟩,
⟨some 8,none,[],.mov (.t 34)⟩])
 (.seq (.seq (.reg false [1, 8, 37] [] [⟨some 35,none,[],.mov (.t 8)⟩,
⟨some 36,none,[],.len true (.t 35)⟩,
⟨some 37,none,[],.bin .gtr (.t 36) (.c (.int .i64 200))⟩])
 (.cond (.t 37)
 (.seq (.reg false [2, 3] [] [⟨some 2,none,[],.mov (.c (.str []))⟩,
⟨some 3,none,[],.mov (.c (.int .i64 30))⟩])
 (.pre [2, 3] .ret))
 .skip))
 (.pre [1, 8] (.seq (.seq (.reg false [8, 39] [] [⟨some 38,none,[],.padd (.t 1) 0⟩,
⟨some 39,none,[],.load .one (.t 38)⟩])
 (.cond (.t 39)
 (.seq (.reg false [2, 3] [] [⟨some 40,none,[],.mov (.t 8)⟩,
⟨some 41,none,[],.bin .add (.c (.str [45])) (.t 40)⟩,
⟨some 2,none,[],.mov (.t 41)⟩,
⟨some 3,none,[],.mov (.c (.int .i64 0))⟩])
 (.pre [2, 3] .ret))
 .skip))
 (.pre [8] (.seq (.reg false [2, 3] [] [⟨some 42,none,[],.mov (.t 8)⟩,
⟨some 2,none,[],.mov (.t 42)⟩,
⟨some 3,none,[],.mov (.c (.int .i64 0))⟩])
 (.pre [2, 3] .ret))))))))))))) }

def r1 : XRnd := { ps := [10, 11], asg := (.reg false [2, 5, 7] [] [⟨some 7,none,[],.mov (.t 11)⟩]), body :=
  (.blk 1
 (.seq (.seq (.reg false [2, 5, 7, 14] [] [⟨some 12,none,[],.load .one (.t 5)⟩,
⟨some 13,none,[],.len false (.t 12)⟩,
⟨some 14,none,[],.bin .gtr (.t 13) (.c (.int .i64 0))⟩])
 (.cond (.t 14)
 (.reg false [2, 5, 7] [] [⟨some 15,none,[],.bslice 1 (.int .i64 0) 1 [(0, (.c (.int .i64 0)))]⟩,
⟨some 16,none,[],.load .one (.t 5)⟩,
⟨some 17,none,[],.app 1001 1 17592186044416 (.t 15) (.t 16)⟩,
⟨none,none,[],.store 1 (.t 5) (.t 17)⟩])
 .skip))
 (.pre [2, 5, 7] (.reg true [] [] [⟨some 18,none,[.box 5], .load .one (.t 5)⟩,
⟨some 19,none,[.box 2], .load .one (.t 2)⟩,
⟨some 20,none,[],.mov (.t 7)⟩,
⟨some 21,none,[],.call (.c (.fn 64 [])) [(.t 19), (.t 20)] []⟩,
⟨some 22,none,[],.call (.c (.fn 43 [])) [(.t 18), (.t 21)] []⟩,
⟨none,none,[.box 5], .store 1 (.t 5) (.t 22)⟩])))) }

def x41 : XFn := { np := 2, isOpen := false, ns := 3, res := [.tmp 4], code :=
  (.seq (.reg false [1, 2, 4] [] [⟨some 2,none,[],.boxR (.t 0)⟩,
⟨some 4,none,[],.mov (.c .nilSl)⟩])
 (.seq (.reg false [1, 2, 4, 5] [] [⟨some 5,none,[],.alloc 2 [.nilSl]⟩])
 (.seq (.seq (.reg false [2, 4, 5, 9] [] [⟨some 8,none,[],.mov (.t 1)⟩,
⟨some 9,none,[],.call (.c (.fn 60 [])) [(.t 8)] []⟩])
 (.blk 0
 (.rfn 0 (.t 9) 1)))
 (.pre [5] (.seq (.reg false [4] [] [⟨some 23,none,[],.load .one (.t 5)⟩,
⟨some 4,none,[],.mov (.t 23)⟩])
 (.pre [4] .ret)))))) }

def r2 : XRnd := { ps := [15, 16], asg := (.seq (.reg false [3, 4, 5, 6, 16] [] [⟨some 6,none,[],.mov (.t 15)⟩])
 (.reg false [3, 4, 5, 6, 7] [] [⟨some 7,none,[],.mov (.t 16)⟩])), body :=
  (.blk 1
 (.seq (.reg false [3, 4, 5, 6] [] [⟨some 17,none,[],.mov (.t 7)⟩,
⟨some 18,none,[],.bslice 1 (.int .i64 0) 1 [(0, (.t 17))]⟩,
⟨some 19,none,[],.load .one (.t 5)⟩,
⟨some 20,none,[],.app 1002 1 17592186044416 (.t 18) (.t 19)⟩,
⟨some 21,none,[],.call (.c (.fn 65 [])) [(.t 20)] []⟩,
⟨none,none,[],.store 1 (.t 5) (.t 21)⟩])
 (.seq (.reg false [4, 5, 6, 8] [] [⟨some 22,none,[],.load .one (.t 3)⟩,
⟨some 23,none,[],.mkfn 1064 [(.t 22)]⟩,
⟨some 8,none,[],.alloc 1 [.nilFn]⟩,
⟨none,none,[],.store 1 (.t 8) (.t 23)⟩])
 (.seq (.reg false [4, 5, 6, 8, 9] [] [⟨some 24,none,[],.mkfn 66 [(.t 8), (.t 5)]⟩,
⟨some 9,none,[],.mov (.t 24)⟩])
 (.seq (.reg true [4, 5, 6, 8] [] [⟨some 25,none,[.box 4], .load .one (.t 4)⟩,
⟨some 26,none,[],.mov (.t 6)⟩,
⟨some 27,none,[],.mov (.t 9)⟩,
⟨some 28,none,[],.call (.c (.fn 67 [])) [(.c (.int .i64 9999)), (.t 27)] []⟩,
⟨some 29,none,[],.ixS 1 (.t 25) (.t 26)⟩,
⟨none,none,[.elem 29, .closed 28], .store 1 (.t 29) (.t 28)⟩])
 (.reg true [] [] [⟨some 30,none,[.box 5], .load .one (.t 5)⟩,
⟨some 31,none,[.box 8, .ne 8 5], .load .one (.t 8)⟩,
⟨some 32,none,[.box 4, .ne 4 5], .load .one (.t 4)⟩,
⟨some 33,none,[],.mov (.t 6)⟩,
⟨some 34,none,[],.ixS 1 (.t 32) (.t 33)⟩,
⟨some 35,none,[.elem 34], .load .one (.t 34)⟩,
⟨some 36,none,[.fn 31 [22, 24, 35, 66, 69, 71, 84, 85, 1064]], .call (.t 31) [(.t 35)] []⟩,
⟨some 37,none,[],.call (.c (.fn 45 [])) [(.t 30), (.t 36)] []⟩,
⟨none,none,[.box 5], .store 1 (.t 5) (.t 37)⟩])))))) }

def x42 : XFn := { np := 2, isOpen := false, ns := 6, res := [.cell 4 .one, .cell 5 .one], code :=
  (.seq (.reg false [0, 3, 4, 5] [] [⟨some 3,none,[],.boxR (.t 1)⟩,
⟨some 4,none,[],.alloc 4 [.nilSl]⟩,
⟨some 5,none,[],.alloc 5 [.nilSl]⟩])
 (.seq (.reg false [0, 3, 4, 5] [] [⟨some 10,none,[],.mov (.t 0)⟩,
⟨some 11,none,[],.len false (.t 10)⟩,
⟨some 12,none,[],.mk 3 1 (.int .i64 0) 17592186044416 (.t 11) (.t 11)⟩,
⟨none,none,[],.store 1 (.t 4) (.t 12)⟩])
 (.seq (.seq (.reg false [3, 4, 5, 14] [] [⟨some 13,none,[],.mov (.t 0)⟩,
⟨some 14,none,[],.call (.c (.fn 60 [])) [(.t 13)] []⟩])
 (.blk 0
 (.rfn 0 (.t 14) 2)))
 (.pre [4, 5] (.seq (.reg true [4, 5] [] [⟨some 38,none,[.box 4, .ne 4 5], .load .one (.t 4)⟩,
⟨some 39,none,[],.call (.c (.fn 65 [])) [(.t 38)] []⟩,
⟨some 40,none,[.box 5, .ne 5 4], .load .one (.t 5)⟩,
⟨none,none,[.box 4], .store 1 (.t 4) (.t 39)⟩,
⟨none,none,[.box 5], .store 1 (.t 5) (.t 40)⟩])
 (.pre [4, 5] .ret)))))) }

def x43 : XFn := { np := 2, isOpen := false, ns := 1, res := [.tmp 4], code :=
  (.seq (.reg false [2, 3] [] [⟨some 2,none,[],.boxR (.t 0)⟩,
⟨some 3,none,[],.boxR (.t 1)⟩,
⟨some 4,none,[],.mov (.c .nilSl)⟩])
 (.seq (.reg false [4] [] [⟨some 5,none,[],.load .one (.t 2)⟩,
⟨some 6,none,[],.len false (.t 5)⟩,
⟨some 7,none,[],.load .one (.t 3)⟩,
⟨some 8,none,[],.len false (.t 7)⟩,
⟨some 9,none,[],.minmax true [(.t 6), (.t 8)]⟩,
⟨some 10,none,[],.mkfn 69 [(.t 2), (.t 3)]⟩,
⟨some 11,none,[],.call (.c (.fn 68 [])) [(.t 9), (.c (.int .i64 0)), (.t 10)] []⟩,
⟨some 12,none,[],.call (.c (.fn 65 [])) [(.t 11)] [(0, 0)]⟩,
⟨some 4,none,[],.mov (.t 12)⟩])
 (.pre [4] .ret))) }

def x44 : XFn := { np := 0, isOpen := false, ns := 0, res := [.tmp 0], code :=
  (.seq (.reg false [] [] [⟨some 0,none,[],.mov (.c .nilSl)⟩])
 (.seq (.reg false [0] [] [⟨some 1,none,[],.bslice 1 (.int .i64 0) 1 [(0, (.c (.int .i64 1)))]⟩,
⟨some 0,none,[],.mov (.t 1)⟩])
 (.pre [0] .ret))) }

def x45 : XFn := { np := 2, isOpen := false, ns := 1, res := [.tmp 4], code :=
  (.seq (.reg false [2, 3] [] [⟨some 2,none,[],.boxR (.t 0)⟩,
⟨some 3,none,[],.boxR (.t 1)⟩,
⟨some 4,none,[],.mov (.c .nilSl)⟩])
 (.seq (.reg false [4] [] [⟨some 5,none,[],.load .one (.t 2)⟩,
⟨some 6,none,[],.len false (.t 5)⟩,
⟨some 7,none,[],.mkfn 71 [(.t 2), (.t 3)]⟩,
⟨some 8,none,[],.call (.c (.fn 68 [])) [(.t 6), (.c (.int .i64 0)), (.t 7)] []⟩,
⟨some 9,none,[],.call (.c (.fn 65 [])) [(.t 8)] [(0, 0)]⟩,
⟨some 4,none,[],.mov (.t 9)⟩])
 (.pre [4] .ret))) }

def r3 : XRnd := { ps := [19, 20], asg := (.seq (.reg false [3, 4, 5, 20] [] [⟨some 5,none,[],.mov (.t 19)⟩])
 (.reg false [3, 4, 5, 6] [] [⟨some 6,none,[],.mov (.t 20)⟩])), body :=
  (.blk 1
 (.seq (.reg false [3, 4, 5, 6, 26] [] [⟨some 21,none,[],.mov (.t 6)⟩,
⟨some 22,none,[],.load .one (.t 3)⟩,
⟨some 23,none,[],.mov (.t 5)⟩,
⟨some 24,none,[],.ixS 1 (.t 22) (.t 23)⟩,
⟨some 25,none,[],.load .one (.t 24)⟩,
⟨some 26,none,[],.bin .neq (.t 21) (.t 25)⟩])
 (.cond (.t 26)
 (.seq (.reg false [] [] [⟨some 27,none,[],.mov (.t 6)⟩,
⟨some 28,none,[],.load .one (.t 3)⟩,
⟨some 29,none,[],.mov (.t 5)⟩,
⟨some 30,none,[],.ixS 1 (.t 28) (.t 29)⟩,
⟨some 31,none,[],.load .one (.t 30)⟩,
⟨some 32,none,[],.call (.c (.fn 72 [])) [(.t 27), (.t 31)] []⟩,
⟨none,none,[],.store 1 (.t 4) (.t 32)⟩])
 (.pre [] .ret))
 .skip))) }

def x46 : XFn := { np := 2, isOpen := false, ns := 2, res := [.cell 4 .one], code :=
  (.seq (.reg false [0, 3, 4] [] [⟨some 3,none,[],.boxR (.t 1)⟩,
⟨some 4,none,[],.alloc 1 [.int .i64 0]⟩])
 (.seq (.seq (.reg false [0, 3, 4, 11] [] [⟨some 7,none,[],.mov (.t 0)⟩,
⟨some 8,none,[],.len false (.t 7)⟩,
⟨some 9,none,[],.load .one (.t 3)⟩,
⟨some 10,none,[],.len false (.t 9)⟩,
⟨some 11,none,[],.bin .neq (.t 8) (.t 10)⟩])
 (.cond (.t 11)
 (.seq (.reg false [4] [] [⟨some 12,none,[],.mov (.t 0)⟩,
⟨some 13,none,[],.len false (.t 12)⟩,
⟨some 14,none,[],.load .one (.t 3)⟩,
⟨some 15,none,[],.len false (.t 14)⟩,
⟨some 16,none,[],.call (.c (.fn 72 [])) [(.t 13), (.t 15)] []⟩,
⟨none,none,[],.store 1 (.t 4) (.t 16)⟩])
 (.pre [4] .ret))
 .skip))
 (.pre [0, 3, 4] (.seq (.seq (.reg false [3, 4, 18] [] [⟨some 17,none,[],.mov (.t 0)⟩,
⟨some 18,none,[],.call (.c (.fn 60 [])) [(.t 17)] []⟩])
 (.blk 0
 (.rfn 0 (.t 18) 3)))
 (.pre [4] (.seq (.reg false [4] [] [⟨none,none,[],.store 1 (.t 4) (.c (.int .i64 0))⟩])
 (.pre [4] .ret))))))) }

def x47 : XFn := { np := 1, isOpen := false, ns := 0, res := [.tmp 2], code :=
  (.seq (.reg false [0] [] [⟨some 2,none,[],.mov (.c (.bool false))⟩])
 (.seq (.reg false [0, 3] [] [⟨some 4,none,[],.mov (.t 0)⟩,
⟨some 5,none,[],.call (.c (.fn 73 [])) [(.t 4), (.c (.str [45]))] []⟩,
⟨some 3,none,[],.mov (.t 5)⟩])
 (.seq (.seq (.reg false [0, 3, 17] [] [⟨some 6,none,[],.mov (.t 3)⟩,
⟨some 7,none,[],.bin .eql (.t 6) (.c (.str []))⟩,
⟨some 8,none,[],.mov (.t 7)⟩,
⟨some 9, some (8, false), [], .mov (.t 3)⟩,
⟨some 10, some (8, false), [], .len true (.t 9)⟩,
⟨some 11, some (8, false), [], .bin .gtr (.t 10) (.c (.int .i64 200))⟩,
⟨some 12,none,[],.pick (.t 8) (.c (.bool true)) (.t 11)⟩,
⟨some 13,none,[],.mov (.t 12)⟩,
⟨some 14, some (13, false), [], .mov (.t 3)⟩,
⟨some 15, some (13, false), [], .call (.c (.fn 74 [])) [(.t 14), (.c (.str [48, 49, 50, 51, 52, 53, 54, 55, 56, 57]))] []⟩,
⟨some 16, some (13, false), [], .bin .neq (.t 15) (.c (.str []))⟩,
⟨some 17,none,[],.pick (.t 13) (.c (.bool true)) (.t 16)⟩])
 (.cond (.t 17)
 (.seq (.reg false [2] [] [⟨some 2,none,[],.mov (.c (.bool false))⟩])
 (.pre [2] .ret))
 .skip))
 (.pre [0, 3] (.seq (.reg false [2] [] [⟨some 18,none,[],.mov (.t 0)⟩,
⟨some 19,none,[],.bin .eql (.t 18) (.c (.str [48]))⟩,
⟨some 20,none,[],.mov (.t 19)⟩,
⟨some 21, some (20, false), [], .mov (.t 3)⟩,
⟨some 22, some (20, false), [], .ixStr (.t 21) (.c (.int .i64 0))⟩,
⟨some 23, some (20, false), [], .bin .neq (.t 22) (.c (.int .u8 48))⟩,
⟨some 24,none,[],.pick (.t 20) (.c (.bool true)) (.t 23)⟩,
⟨some 2,none,[],.mov (.t 24)⟩])
 (.pre [2] .ret)))))) }

@[go_sem] def c48_0 : XC := (.pre [0, 4, 5, 6]
  (.seq (.seq (.reg false [0, 4, 5, 6, 21] [] [⟨some 16,none,[],.mov (.t 6)⟩,
⟨some 17,none,[],.bin .geq (.t 16) (.c (.int .i64 0))⟩,
⟨some 18,none,[],.mov (.t 17)⟩,
⟨some 19, some (18, true), [], .mov (.t 0)⟩,
⟨some 20, some (18, true), [], .bin .neq (.t 19) (.c (.str [48]))⟩,
⟨some 21,none,[],.pick (.t 18) (.t 20) (.c (.bool false))⟩])
 (.cond (.t 21)
 .skip
 (.pre [4, 5] (.exit 0))))
 (.pre [0, 4, 5, 6] (.seq (.blk 1
 (.reg false [0, 4, 5, 6] [] [⟨some 24,none,[],.mov (.t 5)⟩,
⟨some 25,none,[],.mov (.t 0)⟩,
⟨some 26,none,[],.mov (.t 6)⟩,
⟨some 27,none,[],.ixStr (.t 25) (.t 26)⟩,
⟨some 28,none,[],.bin .sub (.t 27) (.c (.int .u8 48))⟩,
⟨some 29,none,[],.conv .i64 (.t 28)⟩,
⟨some 30,none,[],.bslice 1 (.int .i64 0) 1 [(0, (.t 29))]⟩,
⟨some 31,none,[],.app 0 1 17592186044416 (.t 24) (.t 30)⟩,
⟨some 5,none,[],.mov (.t 31)⟩]))
 (.pre [0, 4, 5, 6] (.reg false [0, 4, 5, 6] [] [⟨some 22,none,[],.mov (.t 6)⟩,
⟨some 23,none,[],.bin .sub (.t 22) (.c (.int .i64 1))⟩,
⟨some 6,none,[],.mov (.t 23)⟩]))))))
def b48_0 : XC := c48_0
@[go_sem] theorem e48_0 (L : Lib) (cx : Cx) (env : Env) (h : Heap) : runC L cx b48_0 (env, h) = runC L cx c48_0 (env, h) := rfl

def x48 : XFn := { np := 1, isOpen := false, ns := 1, res := [.tmp 2, .tmp 3], code :=
  (.seq (.reg false [0] [] [⟨some 2,none,[],.mov (.c (.bool false))⟩,
⟨some 3,none,[],.mov (.c .nilSl)⟩])
 (.seq (.reg false [0, 4] [] [⟨some 7,none,[],.mov (.t 0)⟩,
⟨some 8,none,[],.ixStr (.t 7) (.c (.int .i64 0))⟩,
⟨some 9,none,[],.bin .eql (.t 8) (.c (.int .u8 45))⟩,
⟨some 4,none,[],.mov (.t 9)⟩])
 (.seq (.seq (.reg false [0, 4, 10] [] [⟨some 10,none,[],.mov (.t 4)⟩])
 (.cond (.t 10)
 (.reg false [0, 4] [] [⟨some 11,none,[],.mov (.t 0)⟩,
⟨some 12,none,[],.slice none (.t 11) (some (.c (.int .i64 1))) none⟩,
⟨some 0,none,[],.mov (.t 12)⟩])
 .skip))
 (.pre [0, 4] (.seq (.reg false [0, 4, 5] [] [⟨some 5,none,[],.mov (.c .nilSl)⟩])
 (.seq (.seq (.reg false [0, 4, 5, 6] [] [⟨some 13,none,[],.mov (.t 0)⟩,
⟨some 14,none,[],.len true (.t 13)⟩,
⟨some 15,none,[],.bin .sub (.t 14) (.c (.int .i64 1))⟩,
⟨some 6,none,[],.mov (.t 15)⟩])
 (.blk 0
 (.loop b48_0)))
 (.pre [4, 5] (.seq (.reg false [2, 3] [] [⟨some 32,none,[],.mov (.t 4)⟩,
⟨some 33,none,[],.mov (.t 5)⟩,
⟨some 2,none,[],.mov (.t 32)⟩,
⟨some 3,none,[],.mov (.t 33)⟩])
 (.pre [2, 3] .ret))))))))) }

def x49 : XFn := { np := 4, isOpen := false, ns := 0, res := [.tmp 8, .tmp 9], code :=
  (.seq (.reg false [0, 1, 2, 3] [] [⟨some 8,none,[],.mov (.c (.str []))⟩,
⟨some 9,none,[],.mov (.c (.int .i64 0))⟩])
 (.seq (.reg false [0, 1, 2, 3, 10] [] [⟨some 12,none,[],.mov (.t 0)⟩,
⟨some 10,none,[],.mov (.t 12)⟩])
 (.seq (.reg false [0, 1, 2, 3, 10] [] [⟨some 11,none,[],.mov (.c .nilSl)⟩])
 (.seq (.seq (.reg false [1, 2, 3, 10, 15] [] [⟨some 13,none,[],.mov (.t 0)⟩,
⟨some 14,none,[],.mov (.t 2)⟩,
⟨some 15,none,[],.eqv false [] (.t 13) (.t 14)⟩])
 (.cond (.t 15)
 (.reg false [10, 11] [] [⟨some 16,none,[],.mov (.t 1)⟩,
⟨some 17,none,[],.mov (.t 3)⟩,
⟨some 18,none,[],.call (.c (.fn 53 [])) [(.t 16), (.t 17)] []⟩,
⟨some 11,none,[],.mov (.t 18)⟩])
 (.seq (.reg false [1, 2, 3, 10, 22] [] [⟨some 19,none,[],.mov (.t 1)⟩,
⟨some 20,none,[],.mov (.t 3)⟩,
⟨some 21,none,[],.call (.c (.fn 55 [])) [(.t 19), (.t 20)] []⟩,
⟨some 22,none,[],.bin .geq (.t 21) (.c (.int .i64 0))⟩])
 (.cond (.t 22)
 (.reg false [10, 11] [] [⟨some 23,none,[],.mov (.t 1)⟩,
⟨some 24,none,[],.mov (.t 3)⟩,
⟨some 25,none,[],.call (.c (.fn 54 [])) [(.t 23), (.t 24)] []⟩,
⟨some 11,none,[],.mov (.t 25)⟩])
 (.seq (.reg false [1, 3, 10] [] [⟨some 26,none,[],.mov (.t 2)⟩,
⟨some 10,none,[],.mov (.t 26)⟩])
 (.reg false [10, 11] [] [⟨some 27,none,[],.mov (.t 3)⟩,
⟨some 28,none,[],.mov (.t 1)⟩,
⟨some 29,none,[],.call (.c (.fn 54 [])) [(.t 27), (.t 28)] []⟩,
⟨some 11,none,[],.mov (.t 29)⟩]))))))
 (.pre [10, 11] (.seq (.reg false [8, 9] [] [⟨some 30,none,[],.mov (.t 10)⟩,
⟨some 31,none,[],.mov (.t 11)⟩,
⟨some 32,none,[],.call (.c (.fn 50 [])) [(.t 30), (.t 31)] []⟩,
⟨some 33,none,[],.ext (.t 32) 0⟩,
⟨some 34,none,[],.ext (.t 32) 1⟩,
⟨some 8,none,[],.mov (.t 33)⟩,
⟨some 9,none,[],.mov (.t 34)⟩])
 (.pre [8, 9] .ret))))))) }

def x50 : XFn := { np := 2, isOpen := false, ns := 0, res := [.tmp 4, .tmp 5], code :=
  (.seq (.reg false [0, 1] [] [⟨some 4,none,[],.mov (.c (.str []))⟩,
⟨some 5,none,[],.mov (.c (.int .i64 0))⟩])
 (.seq (.reg false [6, 7] [] [⟨some 9,none,[],.mov (.t 0)⟩,
⟨some 10,none,[],.mov (.t 1)⟩,
⟨some 11,none,[],.call (.c (.fn 36 [])) [(.t 9), (.t 10)] []⟩,
⟨some 8,none,[],.mov (.t 11)⟩,
⟨some 12,none,[],.ext (.t 8) 0⟩,
⟨some 13,none,[],.ext (.t 8) 1⟩,
⟨some 6,none,[],.mov (.t 12)⟩,
⟨some 7,none,[],.mov (.t 13)⟩])
 (.seq (.seq (.reg false [6, 15] [] [⟨some 14,none,[],.mov (.t 7)⟩,
⟨some 15,none,[],.un .not (.t 14)⟩])
 (.cond (.t 15)
 (.seq (.reg false [4, 5] [] [⟨some 4,none,[],.mov (.c (.str []))⟩,
⟨some 5,none,[],.mov (.c (.int .i64 30))⟩])
 (.pre [4, 5] .ret))
 .skip))
 (.pre [6] (.seq (.reg false [4, 5] [] [⟨some 16,none,[],.mov (.t 6)⟩,
⟨some 4,none,[],.mov (.t 16)⟩,
⟨some 5,none,[],.mov (.c (.int .i64 0))⟩])
 (.pre [4, 5] .ret)))))) }

@[go_sem] def c51_1 : XC := (.pre [0, 1, 5, 6, 7, 8]
  (.seq (.seq (.reg false [0, 1, 5, 6, 7, 8, 29] [] [⟨some 22,none,[],.mov (.t 8)⟩,
⟨some 23,none,[],.mov (.t 1)⟩,
⟨some 24,none,[],.len false (.t 23)⟩,
⟨some 25,none,[],.bin .lss (.t 22) (.t 24)⟩,
⟨some 26,none,[],.mov (.t 25)⟩,
⟨some 27, some (26, false), [], .mov (.t 7)⟩,
⟨some 28, some (26, false), [], .bin .gtr (.t 27) (.c (.int .i64 0))⟩,
⟨some 29,none,[],.pick (.t 26) (.c (.bool true)) (.t 28)⟩])
 (.cond (.t 29)
 .skip
 (.pre [0, 1, 5, 6] (.exit 2))))
 (.pre [0, 1, 5, 6, 7, 8] (.seq (.blk 3
 (.seq (.reg false [0, 1, 5, 6, 8, 9] [] [⟨some 32,none,[],.mov (.t 5)⟩,
⟨some 33,none,[],.mov (.t 6)⟩,
⟨some 34,none,[],.mov (.t 8)⟩,
⟨some 35,none,[],.bin .add (.t 33) (.t 34)⟩,
⟨some 36,none,[],.ixS 1 (.t 32) (.t 35)⟩,
⟨some 37,none,[],.load .one (.t 36)⟩,
⟨some 38,none,[],.mov (.t 7)⟩,
⟨some 39,none,[],.bin .add (.t 37) (.t 38)⟩,
⟨some 9,none,[],.mov (.t 39)⟩])
 (.seq (.seq (.reg false [0, 1, 5, 6, 8, 9, 43] [] [⟨some 40,none,[],.mov (.t 8)⟩,
⟨some 41,none,[],.mov (.t 1)⟩,
⟨some 42,none,[],.len false (.t 41)⟩,
⟨some 43,none,[],.bin .lss (.t 40) (.t 42)⟩])
 (.cond (.t 43)
 (.reg true [0, 1, 5, 6, 8, 9] [] [⟨some 44,none,[],.mov (.t 9)⟩,
⟨some 45,none,[],.mov (.t 0)⟩,
⟨some 46,none,[],.mov (.t 6)⟩,
⟨some 47,none,[],.ixS 1 (.t 45) (.t 46)⟩,
⟨some 48,none,[.elem 47], .load .one (.t 47)⟩,
⟨some 49,none,[],.mov (.t 1)⟩,
⟨some 50,none,[],.mov (.t 8)⟩,
⟨some 51,none,[],.ixS 1 (.t 49) (.t 50)⟩,
⟨some 52,none,[.elem 51], .load .one (.t 51)⟩,
⟨some 53,none,[],.bin .mul (.t 48) (.t 52)⟩,
⟨some 54,none,[],.bin .add (.t 44) (.t 53)⟩,
⟨some 9,none,[],.mov (.t 54)⟩])
 .skip))
 (.pre [0, 1, 5, 6, 8, 9] (.seq (.reg false [0, 1, 5, 6, 8, 9] [] [⟨some 55,none,[],.mov (.t 5)⟩,
⟨some 56,none,[],.mov (.t 6)⟩,
⟨some 57,none,[],.mov (.t 8)⟩,
⟨some 58,none,[],.bin .add (.t 56) (.t 57)⟩,
⟨some 59,none,[],.mov (.t 9)⟩,
⟨some 60,none,[],.bin .rem (.t 59) (.c (.int .i64 10))⟩,
⟨some 61,none,[],.ixS 1 (.t 55) (.t 58)⟩,
⟨none,none,[],.store 1 (.t 61) (.t 60)⟩])
 (.reg false [0, 1, 5, 6, 7, 8] [] [⟨some 62,none,[],.mov (.t 9)⟩,
⟨some 63,none,[],.bin .quo (.t 62) (.c (.int .i64 10))⟩,
⟨some 7,none,[],.mov (.t 63)⟩]))))))
 (.pre [0, 1, 5, 6, 7, 8] (.reg false [0, 1, 5, 6, 7, 8] [] [⟨some 30,none,[],.mov (.t 8)⟩,
⟨some 31,none,[],.bin .add (.t 30) (.c (.int .i64 1))⟩,
⟨some 8,none,[],.mov (.t 31)⟩]))))))
def b51_1 : XC := c51_1
@[go_sem] theorem e51_1 (L : Lib) (cx : Cx) (env : Env) (h : Heap) : runC L cx b51_1 (env, h) = runC L cx c51_1 (env, h) := rfl

@[go_sem] def c51_0 : XC := (.pre [0, 1, 5, 6]
  (.seq (.seq (.reg false [0, 1, 5, 6, 19] [] [⟨some 16,none,[],.mov (.t 6)⟩,
⟨some 17,none,[],.mov (.t 0)⟩,
⟨some 18,none,[],.len false (.t 17)⟩,
⟨some 19,none,[],.bin .lss (.t 16) (.t 18)⟩])
 (.cond (.t 19)
 .skip
 (.pre [5] (.exit 0))))
 (.pre [0, 1, 5, 6] (.seq (.blk 1
 (.seq (.reg false [0, 1, 5, 6, 7] [] [⟨some 7,none,[],.mov (.c (.int .i64 0))⟩])
 (.seq (.reg false [0, 1, 5, 6, 7, 8] [] [⟨some 8,none,[],.mov (.c (.int .i64 0))⟩])
 (.blk 2
 (.loop b51_1)))))
 (.pre [0, 1, 5, 6] (.reg false [0, 1, 5, 6] [] [⟨some 20,none,[],.mov (.t 6)⟩,
⟨some 21,none,[],.bin .add (.t 20) (.c (.int .i64 1))⟩,
⟨some 6,none,[],.mov (.t 21)⟩]))))))
def b51_0 : XC := c51_0
@[go_sem] theorem e51_0 (L : Lib) (cx : Cx) (env : Env) (h : Heap) : runC L cx b51_0 (env, h) = runC L cx c51_0 (env, h) := rfl

def x51 : XFn := { np := 2, isOpen := false, ns := 2, res := [.tmp 4], code :=
  (.seq (.reg false [0, 1] [] [⟨some 4,none,[],.mov (.c .nilSl)⟩])
 (.seq (.reg false [0, 1, 5] [] [⟨some 10,none,[],.mov (.t 0)⟩,
⟨some 11,none,[],.len false (.t 10)⟩,
⟨some 12,none,[],.mov (.t 1)⟩,
⟨some 13,none,[],.len false (.t 12)⟩,
⟨some 14,none,[],.bin .add (.t 11) (.t 13)⟩,
⟨some 15,none,[],.mk 1 1 (.int .i64 0) 17592186044416 (.t 14) (.t 14)⟩,
⟨some 5,none,[],.mov (.t 15)⟩])
 (.seq (.seq (.reg false [0, 1, 5, 6] [] [⟨some 6,none,[],.mov (.c (.int .i64 0))⟩])
 (.blk 0
 (.loop b51_0)))
 (.pre [5] (.seq (.reg false [4] [] [⟨some 64,none,[],.mov (.t 5)⟩,
⟨some 65,none,[],.call (.c (.fn 37 [])) [(.t 64)] []⟩,
⟨some 4,none,[],.mov (.t 65)⟩])
 (.pre [4] .ret)))))) }

@[go_sem] def c52_1 : XC := (.pre [0, 1, 6, 7, 8]
  (.seq (.seq (.reg false [0, 1, 6, 7, 8, 30] [] [⟨some 27,none,[],.mov (.t 7)⟩,
⟨some 28,none,[],.mov (.t 1)⟩,
⟨some 29,none,[],.call (.c (.fn 55 [])) [(.t 27), (.t 28)] []⟩,
⟨some 30,none,[],.bin .geq (.t 29) (.c (.int .i64 0))⟩])
 (.cond (.t 30)
 .skip
 (.pre [0, 1, 6, 7, 8] (.exit 2))))
 (.pre [0, 1, 6, 7, 8] (.blk 3
 (.seq (.reg false [0, 1, 6, 7, 8] [] [⟨some 31,none,[],.mov (.t 7)⟩,
⟨some 32,none,[],.mov (.t 1)⟩,
⟨some 33,none,[],.call (.c (.fn 54 [])) [(.t 31), (.t 32)] []⟩,
⟨some 7,none,[],.mov (.t 33)⟩])
 (.reg false [0, 1, 6, 7, 8] [] [⟨some 34,none,[],.mov (.t 6)⟩,
⟨some 35,none,[],.mov (.t 8)⟩,
⟨some 36,none,[],.ixS 1 (.t 34) (.t 35)⟩,
⟨some 37,none,[],.load .one (.t 36)⟩,
⟨some 38,none,[],.bin .add (.t 37) (.c (.int .i64 1))⟩,
⟨some 39,none,[],.ixS 1 (.t 34) (.t 35)⟩,
⟨none,none,[],.store 1 (.t 39) (.t 38)⟩]))))))
def b52_1 : XC := c52_1
@[go_sem] theorem e52_1 (L : Lib) (cx : Cx) (env : Env) (h : Heap) : runC L cx b52_1 (env, h) = runC L cx c52_1 (env, h) := rfl

@[go_sem] def c52_0 : XC := (.pre [0, 1, 6, 7, 8]
  (.seq (.seq (.reg false [0, 1, 6, 7, 8, 16] [] [⟨some 15,none,[],.mov (.t 8)⟩,
⟨some 16,none,[],.bin .geq (.t 15) (.c (.int .i64 0))⟩])
 (.cond (.t 16)
 .skip
 (.pre [6, 7] (.exit 0))))
 (.pre [0, 1, 6, 7, 8] (.seq (.blk 1
 (.seq (.reg false [0, 1, 6, 7, 8] [] [⟨some 19,none,[],.mov (.t 0)⟩,
⟨some 20,none,[],.mov (.t 8)⟩,
⟨some 21,none,[],.ixS 1 (.t 19) (.t 20)⟩,
⟨some 22,none,[],.load .one (.t 21)⟩,
⟨some 23,none,[],.bslice 1 (.int .i64 0) 1 [(0, (.t 22))]⟩,
⟨some 24,none,[],.mov (.t 7)⟩,
⟨some 25,none,[],.app 1002 1 17592186044416 (.t 23) (.t 24)⟩,
⟨some 26,none,[],.call (.c (.fn 37 [])) [(.t 25)] []⟩,
⟨some 7,none,[],.mov (.t 26)⟩])
 (.blk 2
 (.loop b52_1))))
 (.pre [0, 1, 6, 7, 8] (.reg false [0, 1, 6, 7, 8] [] [⟨some 17,none,[],.mov (.t 8)⟩,
⟨some 18,none,[],.bin .sub (.t 17) (.c (.int .i64 1))⟩,
⟨some 8,none,[],.mov (.t 18)⟩]))))))
def b52_0 : XC := c52_0
@[go_sem] theorem e52_0 (L : Lib) (cx : Cx) (env : Env) (h : Heap) : runC L cx b52_0 (env, h) = runC L cx c52_0 (env, h) := rfl

def x52 : XFn := { np := 2, isOpen := false, ns := 5, res := [.tmp 4, .tmp 5], code :=
  (.seq (.reg false [0, 1] [] [⟨some 4,none,[],.mov (.c .nilSl)⟩,
⟨some 5,none,[],.mov (.c .nilSl)⟩])
 (.seq (.reg false [0, 1, 6] [] [⟨some 9,none,[],.mov (.t 0)⟩,
⟨some 10,none,[],.len false (.t 9)⟩,
⟨some 11,none,[],.mk 4 1 (.int .i64 0) 17592186044416 (.t 10) (.t 10)⟩,
⟨some 6,none,[],.mov (.t 11)⟩])
 (.seq (.reg false [0, 1, 6, 7] [] [⟨some 7,none,[],.mov (.c .nilSl)⟩])
 (.seq (.seq (.reg false [0, 1, 6, 7, 8] [] [⟨some 12,none,[],.mov (.t 0)⟩,
⟨some 13,none,[],.len false (.t 12)⟩,
⟨some 14,none,[],.bin .sub (.t 13) (.c (.int .i64 1))⟩,
⟨some 8,none,[],.mov (.t 14)⟩])
 (.blk 0
 (.loop b52_0)))
 (.pre [6, 7] (.seq (.reg false [4, 5] [] [⟨some 40,none,[],.mov (.t 6)⟩,
⟨some 41,none,[],.call (.c (.fn 37 [])) [(.t 40)] []⟩,
⟨some 42,none,[],.mov (.t 7)⟩,
⟨some 4,none,[],.mov (.t 41)⟩,
⟨some 5,none,[],.mov (.t 42)⟩])
 (.pre [4, 5] .ret))))))) }

@[go_sem] def c53_0 : XC := (.pre [0, 1, 5, 6, 7]
  (.seq (.seq (.reg false [0, 1, 5, 6, 7, 22] [] [⟨some 9,none,[],.mov (.t 7)⟩,
⟨some 10,none,[],.mov (.t 0)⟩,
⟨some 11,none,[],.len false (.t 10)⟩,
⟨some 12,none,[],.bin .lss (.t 9) (.t 11)⟩,
⟨some 13,none,[],.mov (.t 12)⟩,
⟨some 14, some (13, false), [], .mov (.t 7)⟩,
⟨some 15, some (13, false), [], .mov (.t 1)⟩,
⟨some 16, some (13, false), [], .len false (.t 15)⟩,
⟨some 17, some (13, false), [], .bin .lss (.t 14) (.t 16)⟩,
⟨some 18,none,[],.pick (.t 13) (.c (.bool true)) (.t 17)⟩,
⟨some 19,none,[],.mov (.t 18)⟩,
⟨some 20, some (19, false), [], .mov (.t 6)⟩,
⟨some 21, some (19, false), [], .bin .gtr (.t 20) (.c (.int .i64 0))⟩,
⟨some 22,none,[],.pick (.t 19) (.c (.bool true)) (.t 21)⟩])
 (.cond (.t 22)
 .skip
 (.pre [5] (.exit 0))))
 (.pre [0, 1, 5, 6, 7] (.seq (.blk 1
 (.seq (.reg false [0, 1, 5, 7, 8] [] [⟨some 25,none,[],.mov (.t 6)⟩,
⟨some 8,none,[],.mov (.t 25)⟩])
 (.seq (.seq (.reg false [0, 1, 5, 7, 8, 29] [] [⟨some 26,none,[],.mov (.t 7)⟩,
⟨some 27,none,[],.mov (.t 0)⟩,
⟨some 28,none,[],.len false (.t 27)⟩,
⟨some 29,none,[],.bin .lss (.t 26) (.t 28)⟩])
 (.cond (.t 29)
 (.reg false [0, 1, 5, 7, 8] [] [⟨some 30,none,[],.mov (.t 8)⟩,
⟨some 31,none,[],.mov (.t 0)⟩,
⟨some 32,none,[],.mov (.t 7)⟩,
⟨some 33,none,[],.ixS 1 (.t 31) (.t 32)⟩,
⟨some 34,none,[],.load .one (.t 33)⟩,
⟨some 35,none,[],.bin .add (.t 30) (.t 34)⟩,
⟨some 8,none,[],.mov (.t 35)⟩])
 .skip))
 (.pre [0, 1, 5, 7, 8] (.seq (.seq (.reg false [0, 1, 5, 7, 8, 39] [] [⟨some 36,none,[],.mov (.t 7)⟩,
⟨some 37,none,[],.mov (.t 1)⟩,
⟨some 38,none,[],.len false (.t 37)⟩,
⟨some 39,none,[],.bin .lss (.t 36) (.t 38)⟩])
 (.cond (.t 39)
 (.reg false [0, 1, 5, 7, 8] [] [⟨some 40,none,[],.mov (.t 8)⟩,
⟨some 41,none,[],.mov (.t 1)⟩,
⟨some 42,none,[],.mov (.t 7)⟩,
⟨some 43,none,[],.ixS 1 (.t 41) (.t 42)⟩,
⟨some 44,none,[],.load .one (.t 43)⟩,
⟨some 45,none,[],.bin .add (.t 40) (.t 44)⟩,
⟨some 8,none,[],.mov (.t 45)⟩])
 .skip))
 (.pre [0, 1, 5, 7, 8] (.seq (.reg false [0, 1, 5, 7, 8] [] [⟨some 46,none,[],.mov (.t 5)⟩,
⟨some 47,none,[],.mov (.t 8)⟩,
⟨some 48,none,[],.bin .rem (.t 47) (.c (.int .i64 10))⟩,
⟨some 49,none,[],.bslice 1 (.int .i64 0) 1 [(0, (.t 48))]⟩,
⟨some 50,none,[],.app 0 1 17592186044416 (.t 46) (.t 49)⟩,
⟨some 5,none,[],.mov (.t 50)⟩])
 (.reg false [0, 1, 5, 6, 7] [] [⟨some 51,none,[],.mov (.t 8)⟩,
⟨some 52,none,[],.bin .quo (.t 51) (.c (.int .i64 10))⟩,
⟨some 6,none,[],.mov (.t 52)⟩]))))))))
 (.pre [0, 1, 5, 6, 7] (.reg false [0, 1, 5, 6, 7] [] [⟨some 23,none,[],.mov (.t 7)⟩,
⟨some 24,none,[],.bin .add (.t 23) (.c (.int .i64 1))⟩,
⟨some 7,none,[],.mov (.t 24)⟩]))))))
def b53_0 : XC := c53_0
@[go_sem] theorem e53_0 (L : Lib) (cx : Cx) (env : Env) (h : Heap) : runC L cx b53_0 (env, h) = runC L cx c53_0 (env, h) := rfl

def x53 : XFn := { np := 2, isOpen := false, ns := 1, res := [.tmp 4], code :=
  (.seq (.reg false [0, 1] [] [⟨some 4,none,[],.mov (.c .nilSl)⟩])
 (.seq (.reg false [0, 1, 5] [] [⟨some 5,none,[],.mov (.c .nilSl)⟩])
 (.seq (.reg false [0, 1, 5, 6] [] [⟨some 6,none,[],.mov (.c (.int .i64 0))⟩])
 (.seq (.seq (.reg false [0, 1, 5, 6, 7] [] [⟨some 7,none,[],.mov (.c (.int .i64 0))⟩])
 (.blk 0
 (.loop b53_0)))
 (.pre [5] (.seq (.reg false [4] [] [⟨some 53,none,[],.mov (.t 5)⟩,
⟨some 4,none,[],.mov (.t 53)⟩])
 (.pre [4] .ret))))))) }

@[go_sem] def c54_0 : XC := (.pre [0, 1, 5, 6, 7]
  (.seq (.seq (.reg false [0, 1, 5, 6, 7, 12] [] [⟨some 9,none,[],.mov (.t 7)⟩,
⟨some 10,none,[],.mov (.t 0)⟩,
⟨some 11,none,[],.len false (.t 10)⟩,
⟨some 12,none,[],.bin .lss (.t 9) (.t 11)⟩])
 (.cond (.t 12)
 .skip
 (.pre [5] (.exit 0))))
 (.pre [0, 1, 5, 6, 7] (.seq (.blk 1
 (.seq (.reg false [0, 1, 5, 7, 8] [] [⟨some 15,none,[],.mov (.t 0)⟩,
⟨some 16,none,[],.mov (.t 7)⟩,
⟨some 17,none,[],.ixS 1 (.t 15) (.t 16)⟩,
⟨some 18,none,[],.load .one (.t 17)⟩,
⟨some 19,none,[],.mov (.t 6)⟩,
⟨some 20,none,[],.bin .sub (.t 18) (.t 19)⟩,
⟨some 8,none,[],.mov (.t 20)⟩])
 (.seq (.seq (.reg false [0, 1, 5, 7, 8, 24] [] [⟨some 21,none,[],.mov (.t 7)⟩,
⟨some 22,none,[],.mov (.t 1)⟩,
⟨some 23,none,[],.len false (.t 22)⟩,
⟨some 24,none,[],.bin .lss (.t 21) (.t 23)⟩])
 (.cond (.t 24)
 (.reg false [0, 1, 5, 7, 8] [] [⟨some 25,none,[],.mov (.t 8)⟩,
⟨some 26,none,[],.mov (.t 1)⟩,
⟨some 27,none,[],.mov (.t 7)⟩,
⟨some 28,none,[],.ixS 1 (.t 26) (.t 27)⟩,
⟨some 29,none,[],.load .one (.t 28)⟩,
⟨some 30,none,[],.bin .sub (.t 25) (.t 29)⟩,
⟨some 8,none,[],.mov (.t 30)⟩])
 .skip))
 (.pre [0, 1, 5, 7, 8] (.seq (.reg false [0, 1, 5, 6, 7, 8] [] [⟨some 6,none,[],.mov (.c (.int .i64 0))⟩])
 (.seq (.seq (.reg false [0, 1, 5, 6, 7, 8, 32] [] [⟨some 31,none,[],.mov (.t 8)⟩,
⟨some 32,none,[],.bin .lss (.t 31) (.c (.int .i64 0))⟩])
 (.cond (.t 32)
 (.seq (.reg false [0, 1, 5, 7, 8] [] [⟨some 33,none,[],.mov (.t 8)⟩,
⟨some 34,none,[],.bin .add (.t 33) (.c (.int .i64 10))⟩,
⟨some 8,none,[],.mov (.t 34)⟩])
 (.reg false [0, 1, 5, 6, 7, 8] [] [⟨some 6,none,[],.mov (.c (.int .i64 1))⟩]))
 .skip))
 (.pre [0, 1, 5, 6, 7, 8] (.reg false [0, 1, 5, 6, 7] [] [⟨some 35,none,[],.mov (.t 5)⟩,
⟨some 36,none,[],.mov (.t 8)⟩,
⟨some 37,none,[],.bslice 1 (.int .i64 0) 1 [(0, (.t 36))]⟩,
⟨some 38,none,[],.app 1 1 17592186044416 (.t 35) (.t 37)⟩,
⟨some 5,none,[],.mov (.t 38)⟩]))))))))
 (.pre [0, 1, 5, 6, 7] (.reg false [0, 1, 5, 6, 7] [] [⟨some 13,none,[],.mov (.t 7)⟩,
⟨some 14,none,[],.bin .add (.t 13) (.c (.int .i64 1))⟩,
⟨some 7,none,[],.mov (.t 14)⟩]))))))
def b54_0 : XC := c54_0
@[go_sem] theorem e54_0 (L : Lib) (cx : Cx) (env : Env) (h : Heap) : runC L cx b54_0 (env, h) = runC L cx c54_0 (env, h) := rfl

def x54 : XFn := { np := 2, isOpen := false, ns := 2, res := [.tmp 4], code :=
  (.seq (.reg false [0, 1] [] [⟨some 4,none,[],.mov (.c .nilSl)⟩])
 (.seq (.reg false [0, 1, 5] [] [⟨some 5,none,[],.mov (.c .nilSl)⟩])
 (.seq (.reg false [0, 1, 5, 6] [] [⟨some 6,none,[],.mov (.c (.int .i64 0))⟩])
 (.seq (.seq (.reg false [0, 1, 5, 6, 7] [] [⟨some 7,none,[],.mov (.c (.int .i64 0))⟩])
 (.blk 0
 (.loop b54_0)))
 (.pre [5] (.seq (.reg false [4] [] [⟨some 39,none,[],.mov (.t 5)⟩,
⟨some 40,none,[],.call (.c (.fn 37 [])) [(.t 39)] []⟩,
⟨some 4,none,[],.mov (.t 40)⟩])
 (.pre [4] .ret))))))) }

@[go_sem] def c55_0 : XC := (.pre [0, 1, 5]
  (.seq (.seq (.reg false [0, 1, 5, 20] [] [⟨some 19,none,[],.mov (.t 5)⟩,
⟨some 20,none,[],.bin .geq (.t 19) (.c (.int .i64 0))⟩])
 (.cond (.t 20)
 .skip
 (.pre [] (.exit 0))))
 (.pre [0, 1, 5] (.seq (.blk 1
 (.seq (.reg true [0, 1, 5, 31] [] [⟨some 23,none,[],.mov (.t 0)⟩,
⟨some 24,none,[],.mov (.t 5)⟩,
⟨some 25,none,[],.ixS 1 (.t 23) (.t 24)⟩,
⟨some 26,none,[.elem 25], .load .one (.t 25)⟩,
⟨some 27,none,[],.mov (.t 1)⟩,
⟨some 28,none,[],.mov (.t 5)⟩,
⟨some 29,none,[],.ixS 1 (.t 27) (.t 28)⟩,
⟨some 30,none,[.elem 29], .load .one (.t 29)⟩,
⟨some 31,none,[],.bin .neq (.t 26) (.t 30)⟩])
 (.cond (.t 31)
 (.seq (.seq (.reg true [40] [] [⟨some 32,none,[],.mov (.t 0)⟩,
⟨some 33,none,[],.mov (.t 5)⟩,
⟨some 34,none,[],.ixS 1 (.t 32) (.t 33)⟩,
⟨some 35,none,[.elem 34], .load .one (.t 34)⟩,
⟨some 36,none,[],.mov (.t 1)⟩,
⟨some 37,none,[],.mov (.t 5)⟩,
⟨some 38,none,[],.ixS 1 (.t 36) (.t 37)⟩,
⟨some 39,none,[.elem 38], .load .one (.t 38)⟩,
⟨some 40,none,[],.bin .lss (.t 35) (.t 39)⟩])
 (.cond (.t 40)
 (.seq (.reg false [4] [] [⟨some 4,none,[],.mov (.c (.int .i64 (-1)))⟩])
 (.pre [4] .ret))
 .skip))
 (.pre [] (.seq (.reg false [4] [] [⟨some 4,none,[],.mov (.c (.int .i64 1))⟩])
 (.pre [4] .ret))))
 .skip)))
 (.pre [0, 1, 5] (.reg false [0, 1, 5] [] [⟨some 21,none,[],.mov (.t 5)⟩,
⟨some 22,none,[],.bin .sub (.t 21) (.c (.int .i64 1))⟩,
⟨some 5,none,[],.mov (.t 22)⟩]))))))
def b55_0 : XC := c55_0
@[go_sem] theorem e55_0 (L : Lib) (cx : Cx) (env : Env) (h : Heap) : runC L cx b55_0 (env, h) = runC L cx c55_0 (env, h) := rfl

def x55 : XFn := { np := 2, isOpen := false, ns := 0, res := [.tmp 4], code :=
  (.seq (.reg false [0, 1] [] [⟨some 4,none,[],.mov (.c (.int .i64 0))⟩])
 (.seq (.seq (.reg false [0, 1, 10] [] [⟨some 6,none,[],.mov (.t 0)⟩,
⟨some 7,none,[],.len false (.t 6)⟩,
⟨some 8,none,[],.mov (.t 1)⟩,
⟨some 9,none,[],.len false (.t 8)⟩,
⟨some 10,none,[],.bin .neq (.t 7) (.t 9)⟩])
 (.cond (.t 10)
 (.seq (.seq (.reg false [15] [] [⟨some 11,none,[],.mov (.t 0)⟩,
⟨some 12,none,[],.len false (.t 11)⟩,
⟨some 13,none,[],.mov (.t 1)⟩,
⟨some 14,none,[],.len false (.t 13)⟩,
⟨some 15,none,[],.bin .lss (.t 12) (.t 14)⟩])
 (.cond (.t 15)
 (.seq (.reg false [4] [] [⟨some 4,none,[],.mov (.c (.int .i64 (-1)))⟩])
 (.pre [4] .ret))
 .skip))
 (.pre [] (.seq (.reg false [4] [] [⟨some 4,none,[],.mov (.c (.int .i64 1))⟩])
 (.pre [4] .ret))))
 .skip))
 (.pre [0, 1] (.seq (.seq (.reg false [0, 1, 5] [] [⟨some 16,none,[],.mov (.t 0)⟩,
⟨some 17,none,[],.len false (.t 16)⟩,
⟨some 18,none,[],.bin .sub (.t 17) (.c (.int .i64 1))⟩,
⟨some 5,none,[],.mov (.t 18)⟩])
 (.blk 0
 (.loop b55_0)))
 (.pre [] (.seq (.reg false [4] [] [⟨some 4,none,[],.mov (.c (.int .i64 0))⟩])
 (.pre [4] .ret))))))) }

def x56 : XFn := { np := 1, isOpen := false, ns := 2, res := [.tmp 2], code :=
  (.seq (.reg false [0] [] [⟨some 2,none,[],.mov (.c .nilSl)⟩])
 (.seq (.reg false [2] [] [⟨some 3,none,[],.bslice 1 (.int .i64 0) 0 []⟩,
⟨some 4,none,[],.mov (.t 0)⟩,
⟨some 5,none,[],.app 1000 1 17592186044416 (.t 3) (.t 4)⟩,
⟨some 6,none,[],.call (.c (.fn 37 [])) [(.t 5)] []⟩,
⟨some 2,none,[],.mov (.t 6)⟩])
 (.pre [2] .ret))) }

@[go_sem] def c59_0 : XC := (.pre [2, 3, 4]
  (.seq (.seq (.reg false [2, 3, 4, 18] [] [⟨some 16,none,[],.mov (.t 3)⟩,
⟨some 17,none,[],.len true (.t 16)⟩,
⟨some 18,none,[],.bin .gtr (.t 17) (.c (.int .i64 0))⟩])
 (.cond (.t 18)
 .skip
 (.pre [2, 4] (.exit 0))))
 (.pre [2, 3, 4] (.blk 1
 (.seq (.reg false [2, 3, 4, 5] [] [⟨some 19,none,[],.mov (.t 3)⟩,
⟨some 20,none,[],.len true (.t 19)⟩,
⟨some 21,none,[],.bin .sub (.t 20) (.c (.int .i64 4))⟩,
⟨some 22,none,[],.minmax true [(.c (.int .i64 0)), (.t 21)]⟩,
⟨some 5,none,[],.mov (.t 22)⟩])
 (.seq (.reg false [2, 3, 4, 5, 6] [] [⟨some 24,none,[],.mov (.t 3)⟩,
⟨some 25,none,[],.mov (.t 5)⟩,
⟨some 26,none,[],.slice none (.t 24) (some (.t 25)) none⟩,
⟨some 27,none,[],.call (.c (.fn 57 [])) [(.t 26)] []⟩,
⟨some 23,none,[],.mov (.t 27)⟩,
⟨some 28,none,[],.ext (.t 23) 0⟩,
⟨some 29,none,[],.ext (.t 23) 1⟩,
⟨some 6,none,[],.mov (.t 28)⟩,
⟨some 7,none,[],.mov (.t 29)⟩])
 (.seq (.reg false [2, 3, 4, 5] [] [⟨some 30,none,[],.padd (.t 4) 1⟩,
⟨some 31,none,[],.load .one (.t 30)⟩,
⟨some 32,none,[],.mov (.t 6)⟩,
⟨some 33,none,[],.bslice 1 (.int .i64 0) 1 [(0, (.t 32))]⟩,
⟨some 34,none,[],.app 0 1 17592186044416 (.t 31) (.t 33)⟩,
⟨some 35,none,[],.padd (.t 4) 1⟩,
⟨none,none,[],.store 1 (.t 35) (.t 34)⟩])
 (.reg false [2, 3, 4] [] [⟨some 36,none,[],.mov (.t 3)⟩,
⟨some 37,none,[],.mov (.t 5)⟩,
⟨some 38,none,[],.slice none (.t 36) none (some (.t 37))⟩,
⟨some 3,none,[],.mov (.t 38)⟩]))))))))
def b59_0 : XC := c59_0
@[go_sem] theorem e59_0 (L : Lib) (cx : Cx) (env : Env) (h : Heap) : runC L cx b59_0 (env, h) = runC L cx c59_0 (env, h) := rfl

def x59 : XFn := { np := 1, isOpen := false, ns := 3, res := [.cell 2 (.agg 2)], code :=
  (.seq (.reg false [0, 2] [] [⟨some 2,none,[],.alloc 2 [.bool false, .nilSl]⟩])
 (.seq (.reg false [0, 2, 3] [] [⟨some 8,none,[],.mov (.t 0)⟩,
⟨some 9,none,[],.call (.c (.fn 73 [])) [(.t 8), (.c (.str [45]))] []⟩,
⟨some 3,none,[],.mov (.t 9)⟩])
 (.seq (.reg false [2, 3, 4] [] [⟨some 10,none,[],.mov (.t 3)⟩,
⟨some 11,none,[],.len true (.t 10)⟩,
⟨some 12,none,[],.mov (.t 0)⟩,
⟨some 13,none,[],.len true (.t 12)⟩,
⟨some 14,none,[],.bin .lss (.t 11) (.t 13)⟩,
⟨some 15,none,[],.build [.bool false, .nilSl] [(0, 1, (.t 14))]⟩,
⟨some 4,none,[],.alloc 1 [.bool false, .nilSl]⟩,
⟨none,none,[],.store 2 (.t 4) (.t 15)⟩])
 (.seq (.blk 0
 (.loop b59_0))
 (.pre [2, 4] (.seq (.reg false [2, 4] [] [⟨some 39,none,[],.padd (.t 4) 1⟩,
⟨some 40,none,[],.load .one (.t 39)⟩,
⟨some 41,none,[],.call (.c (.fn 65 [])) [(.t 40)] []⟩,
⟨some 42,none,[],.padd (.t 4) 1⟩,
⟨none,none,[],.store 1 (.t 42) (.t 41)⟩])
 (.seq (.reg false [2] [] [⟨some 43,none,[],.load (.agg 2) (.t 4)⟩,
⟨none,none,[],.store 2 (.t 2) (.t 43)⟩])
 (.pre [2] .ret)))))))) }

def x60 : XFn := { np := 1, isOpen := false, ns := 0, res := [.tmp 2], code :=
  (.seq (.reg false [1] [] [⟨some 1,none,[],.boxR (.t 0)⟩,
⟨some 2,none,[],.mov (.c .nilFn)⟩])
 (.seq (.reg false [2] [] [⟨some 3,none,[],.mkfn 78 [(.t 1)]⟩,
⟨some 2,none,[],.mov (.t 3)⟩])
 (.pre [2] .ret))) }

def x64 : XFn := { np := 2, isOpen := false, ns := 1, res := [.tmp 4], code :=
  (.seq (.reg false [2, 3] [] [⟨some 2,none,[],.boxR (.t 0)⟩,
⟨some 3,none,[],.boxR (.t 1)⟩,
⟨some 4,none,[],.mov (.c .nilSl)⟩])
 (.seq (.reg false [4] [] [⟨some 5,none,[],.load .one (.t 2)⟩,
⟨some 6,none,[],.len false (.t 5)⟩,
⟨some 7,none,[],.mkfn 84 [(.t 2), (.t 3)]⟩,
⟨some 8,none,[],.call (.c (.fn 68 [])) [(.t 6), (.c (.int .i64 0)), (.t 7)] []⟩,
⟨some 9,none,[],.call (.c (.fn 65 [])) [(.t 8)] [(0, 0)]⟩,
⟨some 4,none,[],.mov (.t 9)⟩])
 (.pre [4] .ret))) }

@[go_sem] def c65_0 : XC := (.pre [0]
  (.seq (.seq (.reg false [0, 14] [] [⟨some 3,none,[],.mov (.t 0)⟩,
⟨some 4,none,[],.len false (.t 3)⟩,
⟨some 5,none,[],.bin .gtr (.t 4) (.c (.int .i64 0))⟩,
⟨some 6,none,[],.mov (.t 5)⟩,
⟨some 7, some (6, true), [], .mov (.t 0)⟩,
⟨some 8, some (6, true), [], .mov (.t 0)⟩,
⟨some 9, some (6, true), [], .len false (.t 8)⟩,
⟨some 10, some (6, true), [], .bin .sub (.t 9) (.c (.int .i64 1))⟩,
⟨some 11, some (6, true), [], .ixS 1 (.t 7) (.t 10)⟩,
⟨some 12, some (6, true), [], .load .one (.t 11)⟩,
⟨some 13, some (6, true), [], .bin .eql (.t 12) (.c (.int .i64 0))⟩,
⟨some 14,none,[],.pick (.t 6) (.t 13) (.c (.bool false))⟩])
 (.cond (.t 14)
 .skip
 (.pre [0] (.exit 0))))
 (.pre [0] (.blk 1
 (.reg false [0] [] [⟨some 15,none,[],.mov (.t 0)⟩,
⟨some 16,none,[],.mov (.t 0)⟩,
⟨some 17,none,[],.len false (.t 16)⟩,
⟨some 18,none,[],.bin .sub (.t 17) (.c (.int .i64 1))⟩,
⟨some 19,none,[],.slice (some 1) (.t 15) none (some (.t 18))⟩,
⟨some 0,none,[],.mov (.t 19)⟩])))))
def b65_0 : XC := c65_0
@[go_sem] theorem e65_0 (L : Lib) (cx : Cx) (env : Env) (h : Heap) : runC L cx b65_0 (env, h) = runC L cx c65_0 (env, h) := rfl

def x65 : XFn := { np := 1, isOpen := false, ns := 0, res := [.tmp 2], code :=
  (.seq (.reg false [0] [] [⟨some 2,none,[],.mov (.c .nilSl)⟩])
 (.seq (.blk 0
 (.loop b65_0))
 (.pre [0] (.seq (.reg false [2] [] [⟨some 20,none,[],.mov (.t 0)⟩,
⟨some 2,none,[],.mov (.t 20)⟩])
 (.pre [2] .ret))))) }

def x66 : XFn := { np := 3, isOpen := false, ns := 0, res := [.tmp 4], code :=
  (.seq (.reg false [0, 1, 2] [] [⟨some 4,none,[],.mov (.c (.bool false))⟩])
 (.seq (.reg true [4] [] [⟨some 5,none,[.box 1], .load .one (.t 1)⟩,
⟨some 6,none,[],.mov (.t 0)⟩,
⟨some 7,none,[],.bin .add (.t 6) (.c (.int .i64 1))⟩,
⟨some 8,none,[.fn 5 [22, 24, 35, 66, 69, 71, 84, 85, 1064]], .call (.t 5) [(.t 7)] []⟩,
⟨some 9,none,[.box 2], .load .one (.t 2)⟩,
⟨some 10,none,[],.call (.c (.fn 46 [])) [(.t 8), (.t 9)] []⟩,
⟨some 11,none,[],.bin .gtr (.t 10) (.c (.int .i64 0))⟩,
⟨some 4,none,[],.mov (.t 11)⟩])
 (.pre [4] .ret))) }

@[go_sem] def c67_0 : XC := (.pre [1, 5, 6]
  (.seq (.seq (.reg false [1, 5, 6, 11] [] [⟨some 9,none,[],.mov (.t 5)⟩,
⟨some 10,none,[],.mov (.t 6)⟩,
⟨some 11,none,[],.bin .lss (.t 9) (.t 10)⟩])
 (.cond (.t 11)
 .skip
 (.pre [5] (.exit 0))))
 (.pre [1, 5, 6] (.blk 1
 (.seq (.reg false [1, 5, 6, 7] [] [⟨some 12,none,[],.mov (.t 5)⟩,
⟨some 13,none,[],.mov (.t 6)⟩,
⟨some 14,none,[],.bin .add (.t 12) (.t 13)⟩,
⟨some 15,none,[],.conv .u64 (.t 14)⟩,
⟨some 16,none,[],.bin .shr (.t 15) (.c (.int .u64 1))⟩,
⟨some 17,none,[],.conv .i64 (.t 16)⟩,
⟨some 7,none,[],.mov (.t 17)⟩])
 (.seq (.reg false [1, 5, 6, 7, 21] [] [⟨some 18,none,[],.mov (.t 1)⟩,
⟨some 19,none,[],.mov (.t 7)⟩,
⟨some 20,none,[],.call (.t 18) [(.t 19)] []⟩,
⟨some 21,none,[],.un .not (.t 20)⟩])
 (.cond (.t 21)
 (.reg false [1, 5, 6] [] [⟨some 22,none,[],.mov (.t 7)⟩,
⟨some 23,none,[],.bin .add (.t 22) (.c (.int .i64 1))⟩,
⟨some 5,none,[],.mov (.t 23)⟩])
 (.reg false [1, 5, 6] [] [⟨some 24,none,[],.mov (.t 7)⟩,
⟨some 6,none,[],.mov (.t 24)⟩]))))))))
def b67_0 : XC := c67_0
@[go_sem] theorem e67_0 (L : Lib) (cx : Cx) (env : Env) (h : Heap) : runC L cx b67_0 (env, h) = runC L cx c67_0 (env, h) := rfl

def x67 : XFn := { np := 2, isOpen := false, ns := 0, res := [.tmp 4], code :=
  (.seq (.reg false [0, 1] [] [⟨some 4,none,[],.mov (.c (.int .i64 0))⟩])
 (.seq (.reg false [1, 5, 6] [] [⟨some 8,none,[],.mov (.t 0)⟩,
⟨some 5,none,[],.mov (.c (.int .i64 0))⟩,
⟨some 6,none,[],.mov (.t 8)⟩])
 (.seq (.blk 0
 (.loop b67_0))
 (.pre [5] (.seq (.reg false [4] [] [⟨some 25,none,[],.mov (.t 5)⟩,
⟨some 4,none,[],.mov (.t 25)⟩])
 (.pre [4] .ret)))))) }

@[go_sem] def c68_0 : XC := (.pre [0, 1, 2, 7, 8]
  (.seq (.seq (.reg false [0, 1, 2, 7, 8, 19] [] [⟨some 13,none,[],.mov (.t 8)⟩,
⟨some 14,none,[],.mov (.t 0)⟩,
⟨some 15,none,[],.bin .lss (.t 13) (.t 14)⟩,
⟨some 16,none,[],.mov (.t 15)⟩,
⟨some 17, some (16, false), [], .mov (.t 1)⟩,
⟨some 18, some (16, false), [], .bin .neq (.t 17) (.c (.int .i64 0))⟩,
⟨some 19,none,[],.pick (.t 16) (.c (.bool true)) (.t 18)⟩])
 (.cond (.t 19)
 .skip
 (.pre [7] (.exit 0))))
 (.pre [0, 1, 2, 7, 8] (.seq (.blk 1
 (.seq (.reg false [0, 2, 7, 8, 9] [] [⟨some 22,none,[],.mov (.t 2)⟩,
⟨some 23,none,[],.mov (.t 8)⟩,
⟨some 24,none,[],.call (.t 22) [(.t 23)] []⟩,
⟨some 25,none,[],.mov (.t 1)⟩,
⟨some 26,none,[],.bin .add (.t 24) (.t 25)⟩,
⟨some 9,none,[],.mov (.t 26)⟩])
 (.seq (.reg false [0, 1, 2, 7, 8, 9] [] [⟨some 1,none,[],.mov (.c (.int .i64 0))⟩])
 (.seq (.seq (.reg false [0, 1, 2, 7, 8, 9, 28] [] [⟨some 27,none,[],.mov (.t 9)⟩,
⟨some 28,none,[],.bin .lss (.t 27) (.c (.int .i64 0))⟩])
 (.cond (.t 28)
 (.seq (.reg false [0, 2, 7, 8, 9] [] [⟨some 29,none,[],.mov (.t 9)⟩,
⟨some 30,none,[],.bin .add (.t 29) (.c (.int .i64 10000))⟩,
⟨some 9,none,[],.mov (.t 30)⟩])
 (.reg false [0, 1, 2, 7, 8, 9] [] [⟨some 1,none,[],.mov (.c (.int .i64 (-1)))⟩]))
 (.seq (.reg false [0, 1, 2, 7, 8, 9, 32] [] [⟨some 31,none,[],.mov (.t 9)⟩,
⟨some 32,none,[],.bin .geq (.t 31) (.c (.int .i64 10000))⟩])
 (.cond (.t 32)
 (.seq (.reg false [0, 1, 2, 7, 8, 9] [] [⟨some 33,none,[],.mov (.t 9)⟩,
⟨some 34,none,[],.bin .quo (.t 33) (.c (.int .i64 10000))⟩,
⟨some 1,none,[],.mov (.t 34)⟩])
 (.reg false [0, 1, 2, 7, 8, 9] [] [⟨some 35,none,[],.mov (.t 9)⟩,
⟨some 36,none,[],.bin .rem (.t 35) (.c (.int .i64 10000))⟩,
⟨some 9,none,[],.mov (.t 36)⟩]))
 .skip))))
 (.pre [0, 1, 2, 7, 8, 9] (.reg false [0, 1, 2, 7, 8] [] [⟨some 37,none,[],.mov (.t 7)⟩,
⟨some 38,none,[],.mov (.t 9)⟩,
⟨some 39,none,[],.bslice 1 (.int .i64 0) 1 [(0, (.t 38))]⟩,
⟨some 40,none,[],.app 0 1 17592186044416 (.t 37) (.t 39)⟩,
⟨some 7,none,[],.mov (.t 40)⟩]))))))
 (.pre [0, 1, 2, 7, 8] (.reg false [0, 1, 2, 7, 8] [] [⟨some 20,none,[],.mov (.t 8)⟩,
⟨some 21,none,[],.bin .add (.t 20) (.c (.int .i64 1))⟩,
⟨some 8,none,[],.mov (.t 21)⟩]))))))
def b68_0 : XC := c68_0
@[go_sem] theorem e68_0 (L : Lib) (cx : Cx) (env : Env) (h : Heap) : runC L cx b68_0 (env, h) = runC L cx c68_0 (env, h) := rfl

def x68 : XFn := { np := 3, isOpen := false, ns := 2, res := [.tmp 6], code :=
  (.seq (.reg false [0, 1, 2] [] [⟨some 6,none,[],.mov (.c .nilSl)⟩])
 (.seq (.reg false [0, 1, 2, 7] [] [⟨some 10,none,[],.mov (.t 0)⟩,
⟨some 11,none,[],.bin .add (.t 10) (.c (.int .i64 1))⟩,
⟨some 12,none,[],.mk 1 1 (.int .i64 0) 17592186044416 (.c (.int .i64 0)) (.t 11)⟩,
⟨some 7,none,[],.mov (.t 12)⟩])
 (.seq (.seq (.reg false [0, 1, 2, 7, 8] [] [⟨some 8,none,[],.mov (.c (.int .i64 0))⟩])
 (.blk 0
 (.loop b68_0)))
 (.pre [7] (.seq (.reg false [6] [] [⟨some 41,none,[],.mov (.t 7)⟩,
⟨some 6,none,[],.mov (.t 41)⟩])
 (.pre [6] .ret)))))) }

def x69 : XFn := { np := 3, isOpen := false, ns := 0, res := [.tmp 4], code :=
  (.seq (.reg false [0, 1, 2] [] [⟨some 4,none,[],.mov (.c (.int .i64 0))⟩])
 (.seq (.reg true [4] [] [⟨some 5,none,[.box 1], .load .one (.t 1)⟩,
⟨some 6,none,[],.mov (.t 0)⟩,
⟨some 7,none,[],.call (.c (.fn 70 [])) [(.t 5), (.t 6)] []⟩,
⟨some 8,none,[.box 2], .load .one (.t 2)⟩,
⟨some 9,none,[],.mov (.t 0)⟩,
⟨some 10,none,[],.call (.c (.fn 70 [])) [(.t 8), (.t 9)] []⟩,
⟨some 11,none,[],.bin .add (.t 7) (.t 10)⟩,
⟨some 4,none,[],.mov (.t 11)⟩])
 (.pre [4] .ret))) }

def x70 : XFn := { np := 2, isOpen := false, ns := 0, res := [.tmp 4], code :=
  (.seq (.reg false [0, 1] [] [⟨some 4,none,[],.mov (.c (.int .i64 0))⟩])
 (.seq (.seq (.reg false [0, 1, 8] [] [⟨some 5,none,[],.mov (.t 1)⟩,
⟨some 6,none,[],.mov (.t 0)⟩,
⟨some 7,none,[],.len false (.t 6)⟩,
⟨some 8,none,[],.bin .lss (.t 5) (.t 7)⟩])
 (.cond (.t 8)
 (.seq (.reg false [4] [] [⟨some 9,none,[],.mov (.t 0)⟩,
⟨some 10,none,[],.mov (.t 1)⟩,
⟨some 11,none,[],.ixS 1 (.t 9) (.t 10)⟩,
⟨some 12,none,[],.load .one (.t 11)⟩,
⟨some 4,none,[],.mov (.t 12)⟩])
 (.pre [4] .ret))
 .skip))
 (.pre [] (.seq (.reg false [4] [] [⟨some 4,none,[],.mov (.c (.int .i64 0))⟩])
 (.pre [4] .ret))))) }

def x71 : XFn := { np := 3, isOpen := false, ns := 0, res := [.tmp 4], code :=
  (.seq (.reg false [0, 1, 2] [] [⟨some 4,none,[],.mov (.c (.int .i64 0))⟩])
 (.seq (.reg true [4] [] [⟨some 5,none,[.box 1], .load .one (.t 1)⟩,
⟨some 6,none,[],.mov (.t 0)⟩,
⟨some 7,none,[],.call (.c (.fn 70 [])) [(.t 5), (.t 6)] []⟩,
⟨some 8,none,[.box 2], .load .one (.t 2)⟩,
⟨some 9,none,[],.mov (.t 0)⟩,
⟨some 10,none,[],.call (.c (.fn 70 [])) [(.t 8), (.t 9)] []⟩,
⟨some 11,none,[],.bin .sub (.t 7) (.t 10)⟩,
⟨some 4,none,[],.mov (.t 11)⟩])
 (.pre [4] .ret))) }

def x72 : XFn := { np := 2, isOpen := false, ns := 0, res := [.tmp 4], code :=
  (.seq (.reg false [0, 1] [] [⟨some 4,none,[],.mov (.c (.int .i64 0))⟩])
 (.seq (.reg false [0, 1, 5] [] [⟨some 7,none,[],.mov (.t 0)⟩,
⟨some 8,none,[],.call (.c (.fn 85 [])) [(.t 7)] []⟩,
⟨some 5,none,[],.mov (.t 8)⟩])
 (.seq (.reg false [0, 1, 5, 6] [] [⟨some 9,none,[],.mov (.t 1)⟩,
⟨some 10,none,[],.call (.c (.fn 85 [])) [(.t 9)] []⟩,
⟨some 6,none,[],.mov (.t 10)⟩])
 (.seq (.seq (.reg false [0, 1, 6, 11] [] [⟨some 11,none,[],.mov (.t 5)⟩])
 (.cond (.t 11)
 (.seq (.seq (.reg false [12] [] [⟨some 12,none,[],.mov (.t 6)⟩])
 (.cond (.t 12)
 (.seq (.reg false [4] [] [⟨some 4,none,[],.mov (.c (.int .i64 0))⟩])
 (.pre [4] .ret))
 .skip))
 (.pre [] (.seq (.reg false [4] [] [⟨some 4,none,[],.mov (.c (.int .i64 (-1)))⟩])
 (.pre [4] .ret))))
 .skip))
 (.pre [0, 1, 6] (.seq (.seq (.reg false [0, 1, 13] [] [⟨some 13,none,[],.mov (.t 6)⟩])
 (.cond (.t 13)
 (.seq (.reg false [4] [] [⟨some 4,none,[],.mov (.c (.int .i64 1))⟩])
 (.pre [4] .ret))
 .skip))
 (.pre [0, 1] (.seq (.seq (.reg false [0, 1, 16] [] [⟨some 14,none,[],.mov (.t 0)⟩,
⟨some 15,none,[],.mov (.t 1)⟩,
⟨some 16,none,[],.bin .lss (.t 14) (.t 15)⟩])
 (.cond (.t 16)
 (.seq (.reg false [4] [] [⟨some 4,none,[],.mov (.c (.int .i64 (-1)))⟩])
 (.pre [4] .ret))
 .skip))
 (.pre [0, 1] (.seq (.seq (.reg false [19] [] [⟨some 17,none,[],.mov (.t 0)⟩,
⟨some 18,none,[],.mov (.t 1)⟩,
⟨some 19,none,[],.bin .gtr (.t 17) (.t 18)⟩])
 (.cond (.t 19)
 (.seq (.reg false [4] [] [⟨some 4,none,[],.mov (.c (.int .i64 1))⟩])
 (.pre [4] .ret))
 .skip))
 (.pre [] (.seq (.reg false [4] [] [⟨some 4,none,[],.mov (.c (.int .i64 0))⟩])
 (.pre [4] .ret))))))))))))) }

@[go_sem] def c78_0 : XC := (.pre [0, 1, 3]
  (.seq (.seq (.reg false [0, 1, 3, 8] [] [⟨some 7,none,[],.mov (.t 3)⟩,
⟨some 8,none,[],.bin .geq (.t 7) (.c (.int .i64 0))⟩])
 (.cond (.t 8)
 .skip
 (.pre [] (.exit 0))))
 (.pre [0, 1, 3] (.seq (.blk 1
 (.seq (.reg false [0, 1, 3, 18] [] [⟨some 11,none,[],.mov (.t 0)⟩,
⟨some 12,none,[],.mov (.t 3)⟩,
⟨some 13,none,[],.load .one (.t 1)⟩,
⟨some 14,none,[],.mov (.t 3)⟩,
⟨some 15,none,[],.ixS 1 (.t 13) (.t 14)⟩,
⟨some 16,none,[],.load .one (.t 15)⟩,
⟨some 17,none,[],.call (.t 11) [(.t 12), (.t 16)] []⟩,
⟨some 18,none,[],.un .not (.t 17)⟩])
 (.cond (.t 18)
 (.pre [] .ret)
 .skip)))
 (.pre [0, 1, 3] (.reg false [0, 1, 3] [] [⟨some 9,none,[],.mov (.t 3)⟩,
⟨some 10,none,[],.bin .sub (.t 9) (.c (.int .i64 1))⟩,
⟨some 3,none,[],.mov (.t 10)⟩]))))))
def b78_0 : XC := c78_0
@[go_sem] theorem e78_0 (L : Lib) (cx : Cx) (env : Env) (h : Heap) : runC L cx b78_0 (env, h) = runC L cx c78_0 (env, h) := rfl

def x78 : XFn := { np := 2, isOpen := true, ns := 0, res := [], code :=
  (.seq (.reg false [0, 1, 3] [] [⟨some 4,none,[],.load .one (.t 1)⟩,
⟨some 5,none,[],.len false (.t 4)⟩,
⟨some 6,none,[],.bin .sub (.t 5) (.c (.int .i64 1))⟩,
⟨some 3,none,[],.mov (.t 6)⟩])
 (.blk 0
 (.loop b78_0))) }

def x84 : XFn := { np := 3, isOpen := false, ns := 0, res := [.tmp 4], code :=
  (.seq (.reg false [0, 1, 2] [] [⟨some 4,none,[],.mov (.c (.int .i64 0))⟩])
 (.seq (.reg true [4] [] [⟨some 5,none,[.box 1], .load .one (.t 1)⟩,
⟨some 6,none,[],.mov (.t 0)⟩,
⟨some 7,none,[],.call (.c (.fn 70 [])) [(.t 5), (.t 6)] []⟩,
⟨some 8,none,[.box 2], .load .one (.t 2)⟩,
⟨some 9,none,[],.bin .mul (.t 7) (.t 8)⟩,
⟨some 4,none,[],.mov (.t 9)⟩])
 (.pre [4] .ret))) }

def x85 : XFn := { np := 1, isOpen := false, ns := 0, res := [.tmp 2], code :=
  (.seq (.reg false [0] [] [⟨some 2,none,[],.mov (.c (.bool false))⟩])
 (.seq (.reg false [2] [] [⟨some 3,none,[],.mov (.t 0)⟩,
⟨some 4,none,[],.mov (.t 0)⟩,
⟨some 5,none,[],.bin .neq (.t 3) (.t 4)⟩,
⟨some 2,none,[],.mov (.t 5)⟩])
 (.pre [2] .ret))) }

def rdT : List (Option XRnd) := [some r0, some r1, some r2, some r3]
def rds (g : Nat) : Option XRnd := (rdT[g]?).getD none
def fnT : List (Option XFn) := [none, none, none, none, none, none, none, none, none, some x9, none, none, some x12, some x13, some x14, some x15, some x16, some x17, some x18, some x19, some x20, some x21, none, none, some x24, some x25, some x26, some x27, some x28, some x29, some x30, some x31, some x32, some x33, some x34, some x35, some x36, some x37, some x38, some x39, some x40, some x41, some x42, some x43, some x44, some x45, some x46, some x47, some x48, some x49, some x50, some x51, some x52, some x53, some x54, some x55, some x56, none, none, some x59, some x60, none, none, none, some x64, some x65, some x66, some x67, some x68, some x69, some x70, some x71, some x72, none, none, none, none, none, some x78, none, none, none, none, none, some x84, some x85]
def fns (f : Nat) : Option XFn := (fnT[f]?).getD none
def clo (f : Nat) : Bool := [3, 4, 5, 6, 7, 8, 9, 10, 11, 12, 13, 14, 15, 16, 17, 18, 19, 20, 21, 22, 23, 24, 25, 26, 27, 28, 29, 30, 31, 32, 33, 34, 35, 36, 37, 38, 39, 40, 41, 42, 43, 44, 45, 46, 47, 48, 49, 50, 51, 52, 53, 54, 55, 56, 59, 60, 64, 65, 66, 67, 68, 69, 70, 71, 72, 84, 85, 57, 58, 61, 73, 74].contains f
def kinds (f : Nat) : Option OK := match f with | 57 => some (.atoi 105) | 58 => some .itoa | 61 => some .repeat_ | 73 => some .trimPrefix | 74 => some .trim | _ => none

def lib : Lib := { fns := fns, rds := rds, orc := orcT kinds, brw := fun f => ([] : List Nat).contains f }
end Go.VI.Integer
