/- the functions of week for the own evaluator -/
import Derived.Test.YtdlbiebhkminjaaDoorVSO
namespace Go.VI.Week
set_option linter.unusedVariables false
def g0 : List AV := [(.str [109, 111, 110]), (.str [116, 117, 101]), (.str [119, 101, 100]), (.str [116, 104, 117]), (.str [102, 114, 105]), (.str [115, 97, 116]), (.str [115, 117, 110])]
def g4 : List AV := [(.int .u64 1), (.int .u64 10), (.int .u64 100), (.int .u64 1000), (.int .u64 10000), (.int .u64 100000), (.int .u64 1000000), (.int .u64 10000000), (.int .u64 100000000), (.int .u64 1000000000), (.int .u64 10000000000), (.int .u64 100000000000), (.int .u64 1000000000000), (.int .u64 10000000000000), (.int .u64 100000000000000), (.int .u64 1000000000000000), (.int .u64 10000000000000000), (.int .u64 100000000000000000), (.int .u64 1000000000000000000), (.int .u64 10000000000000000000)]
def g6 : List AV := [(.int .u8 128), (.int .u8 191), (.int .u8 160), (.int .u8 191), (.int .u8 128), (.int .u8 159), (.int .u8 144), (.int .u8 191), (.int .u8 128), (.int .u8 143), (.int .u8 0), (.int .u8 0), (.int .u8 0), (.int .u8 0), (.int .u8 0), (.int .u8 0), (.int .u8 0), (.int .u8 0), (.int .u8 0), (.int .u8 0), (.int .u8 0), (.int .u8 0), (.int .u8 0), (.int .u8 0), (.int .u8 0), (.int .u8 0), (.int .u8 0), (.int .u8 0), (.int .u8 0), (.int .u8 0), (.int .u8 0), (.int .u8 0)]
def g7 : List AV := [(.int .u8 0), (.int .u8 1), (.int .u8 28), (.int .u8 2), (.int .u8 29), (.int .u8 14), (.int .u8 24), (.int .u8 3), (.int .u8 30), (.int .u8 22), (.int .u8 20), (.int .u8 15), (.int .u8 25), (.int .u8 17), (.int .u8 4), (.int .u8 8), (.int .u8 31), (.int .u8 27), (.int .u8 13), (.int .u8 23), (.int .u8 21), (.int .u8 19), (.int .u8 16), (.int .u8 7), (.int .u8 26), (.int .u8 12), (.int .u8 18), (.int .u8 6), (.int .u8 11), (.int .u8 5), (.int .u8 10), (.int .u8 9)]
def g8 : List AV := [(.int .u8 0), (.int .u8 1), (.int .u8 56), (.int .u8 2), (.int .u8 57), (.int .u8 49), (.int .u8 28), (.int .u8 3), (.int .u8 61), (.int .u8 58), (.int .u8 42), (.int .u8 50), (.int .u8 38), (.int .u8 29), (.int .u8 17), (.int .u8 4), (.int .u8 62), (.int .u8 47), (.int .u8 59), (.int .u8 36), (.int .u8 45), (.int .u8 43), (.int .u8 51), (.int .u8 22), (.int .u8 53), (.int .u8 39), (.int .u8 33), (.int .u8 30), (.int .u8 24), (.int .u8 18), (.int .u8 12), (.int .u8 5), (.int .u8 63), (.int .u8 55), (.int .u8 48), (.int .u8 27), (.int .u8 60), (.int .u8 41), (.int .u8 37), (.int .u8 16), (.int .u8 46), (.int .u8 35), (.int .u8 44), (.int .u8 21), (.int .u8 52), (.int .u8 32), (.int .u8 23), (.int .u8 11), (.int .u8 54), (.int .u8 26), (.int .u8 40), (.int .u8 15), (.int .u8 34), (.int .u8 20), (.int .u8 31), (.int .u8 10), (.int .u8 25), (.int .u8 14), (.int .u8 19), (.int .u8 9), (.int .u8 13), (.int .u8 8), (.int .u8 7), (.int .u8 6)]
@[go_sem] def c4_0 : XC := (.pre [9, 10, 11, 12, 14, 16, 17, 18, 19, 20]
  (.seq (.seq (.reg false [9, 10, 11, 12, 14, 16, 17, 18, 19, 20, 62] [] [⟨some 59, none, [], .mov (.t 20)⟩,
 ⟨some 60, none, [], .mov (.t 12)⟩,
 ⟨some 61, none, [], .len false (.t 60)⟩,
 ⟨some 62, none, [], .bin .lss (.t 59) (.t 61)⟩])
 (.cond (.t 62)
 .skip
 (.pre [9, 10, 14, 17, 18, 19] (.exit 0))))
 (.pre [9, 10, 11, 12, 14, 16, 17, 18, 19, 20] (.seq (.blk 1
 (.seq (.seq (.reg true [9, 10, 11, 12, 14, 17, 18, 19, 20, 107] [] [⟨some 65, none, [], .mov (.t 12)⟩,
 ⟨some 66, none, [], .mov (.t 20)⟩,
 ⟨some 67, none, [], .ixS 2 (.t 65) (.t 66)⟩,
 ⟨some 68, none, [], .padd (.t 67) 0⟩,
 ⟨some 69, none, [.elem 68], .load .one (.t 68)⟩,
 ⟨some 70, none, [], .mov (.t 16)⟩,
 ⟨some 71, none, [], .bin .lss (.t 69) (.t 70)⟩,
 ⟨some 72, none, [], .mov (.t 71)⟩,
 ⟨some 73, some (72, false), [], .mov (.t 12)⟩,
 ⟨some 74, some (72, false), [], .mov (.t 20)⟩,
 ⟨some 75, some (72, false), [], .ixS 2 (.t 73) (.t 74)⟩,
 ⟨some 76, some (72, false), [], .padd (.t 75) 1⟩,
 ⟨some 77, some (72, false), [.elem 76], .load .one (.t 76)⟩,
 ⟨some 78, some (72, false), [], .mov (.t 12)⟩,
 ⟨some 79, some (72, false), [], .mov (.t 20)⟩,
 ⟨some 80, some (72, false), [], .ixS 2 (.t 78) (.t 79)⟩,
 ⟨some 81, some (72, false), [], .padd (.t 80) 0⟩,
 ⟨some 82, some (72, false), [.elem 81], .load .one (.t 81)⟩,
 ⟨some 83, some (72, false), [], .bin .leq (.t 77) (.t 82)⟩,
 ⟨some 84, none, [], .pick (.t 72) (.c (.bool true)) (.t 83)⟩,
 ⟨some 85, none, [], .mov (.t 84)⟩,
 ⟨some 86, some (85, false), [], .mov (.t 12)⟩,
 ⟨some 87, some (85, false), [], .mov (.t 20)⟩,
 ⟨some 88, some (85, false), [], .ixS 2 (.t 86) (.t 87)⟩,
 ⟨some 89, some (85, false), [], .padd (.t 88) 1⟩,
 ⟨some 90, some (85, false), [.elem 89], .load .one (.t 89)⟩,
 ⟨some 91, some (85, false), [], .padd (.t 11) 1⟩,
 ⟨some 92, some (85, false), [.box 91], .load .one (.t 91)⟩,
 ⟨some 93, some (85, false), [], .bin .gtr (.t 90) (.t 92)⟩,
 ⟨some 94, none, [], .pick (.t 85) (.c (.bool true)) (.t 93)⟩,
 ⟨some 95, none, [], .mov (.t 94)⟩,
 ⟨some 96, some (95, false), [], .mov (.t 20)⟩,
 ⟨some 97, some (95, false), [], .bin .gtr (.t 96) (.c (.int .i64 0))⟩,
 ⟨some 98, some (95, false), [], .mov (.t 97)⟩,
 ⟨some 99, some (98, true), [], .mov (.t 12)⟩,
 ⟨some 100, some (98, true), [], .mov (.t 20)⟩,
 ⟨some 101, some (98, true), [], .ixS 2 (.t 99) (.t 100)⟩,
 ⟨some 102, some (98, true), [], .padd (.t 101) 0⟩,
 ⟨some 103, some (98, true), [.elem 102], .load .one (.t 102)⟩,
 ⟨some 104, some (98, true), [], .mov (.t 16)⟩,
 ⟨some 105, some (98, true), [], .bin .eql (.t 103) (.t 104)⟩,
 ⟨some 106, some (95, false), [], .pick (.t 98) (.t 105) (.c (.bool false))⟩,
 ⟨some 107, none, [], .pick (.t 95) (.c (.bool true)) (.t 106)⟩])
 (.cond (.t 107)
 (.seq (.reg false [8] [] [⟨some 8, none, [], .mov (.c (.bool false))⟩])
 (.pre [8] .ret))
 .skip))
 (.pre [9, 10, 11, 12, 14, 17, 18, 19, 20] (.seq (.seq (.reg true [9, 10, 11, 12, 14, 17, 18, 19, 20, 165] [] [⟨some 108, none, [], .mov (.t 12)⟩,
 ⟨some 109, none, [], .mov (.t 20)⟩,
 ⟨some 110, none, [], .ixS 2 (.t 108) (.t 109)⟩,
 ⟨some 111, none, [], .padd (.t 110) 0⟩,
 ⟨some 112, none, [.elem 111], .load .one (.t 111)⟩,
 ⟨some 113, none, [], .padd (.t 11) 0⟩,
 ⟨some 114, none, [.box 113], .load .one (.t 113)⟩,
 ⟨some 115, none, [], .bin .gtr (.t 112) (.t 114)⟩,
 ⟨some 116, none, [], .mov (.t 115)⟩,
 ⟨some 117, some (116, true), [.box 10], .load (.agg 7) (.t 10)⟩,
 ⟨some 118, some (116, true), [], .mov (.t 12)⟩,
 ⟨some 119, some (116, true), [], .mov (.t 20)⟩,
 ⟨some 120, some (116, true), [], .ixS 2 (.t 118) (.t 119)⟩,
 ⟨some 121, some (116, true), [], .padd (.t 120) 0⟩,
 ⟨some 122, some (116, true), [.elem 121], .load .one (.t 121)⟩,
 ⟨some 123, some (116, true), [], .bin .sub (.t 122) (.c (.int .i64 1))⟩,
 ⟨some 124, some (116, true), [], .call (.c (.fn 17 [])) [(.t 117), (.t 123)] []⟩,
 ⟨some 125, none, [], .pick (.t 116) (.t 124) (.c (.bool false))⟩,
 ⟨some 126, none, [], .mov (.t 125)⟩,
 ⟨some 127, some (126, false), [], .mov (.t 12)⟩,
 ⟨some 128, some (126, false), [], .mov (.t 20)⟩,
 ⟨some 129, some (126, false), [], .ixS 2 (.t 127) (.t 128)⟩,
 ⟨some 130, some (126, false), [], .padd (.t 129) 1⟩,
 ⟨some 131, some (126, false), [.elem 130], .load .one (.t 130)⟩,
 ⟨some 132, some (126, false), [], .padd (.t 11) 1⟩,
 ⟨some 133, some (126, false), [.box 132], .load .one (.t 132)⟩,
 ⟨some 134, some (126, false), [], .bin .lss (.t 131) (.t 133)⟩,
 ⟨some 135, some (126, false), [], .mov (.t 134)⟩,
 ⟨some 136, some (135, true), [.box 10], .load (.agg 7) (.t 10)⟩,
 ⟨some 137, some (135, true), [], .mov (.t 12)⟩,
 ⟨some 138, some (135, true), [], .mov (.t 20)⟩,
 ⟨some 139, some (135, true), [], .ixS 2 (.t 137) (.t 138)⟩,
 ⟨some 140, some (135, true), [], .padd (.t 139) 1⟩,
 ⟨some 141, some (135, true), [.elem 140], .load .one (.t 140)⟩,
 ⟨some 142, some (135, true), [], .call (.c (.fn 17 [])) [(.t 136), (.t 141)] []⟩,
 ⟨some 143, some (126, false), [], .pick (.t 135) (.t 142) (.c (.bool false))⟩,
 ⟨some 144, none, [], .pick (.t 126) (.c (.bool true)) (.t 143)⟩,
 ⟨some 145, none, [], .mov (.t 144)⟩,
 ⟨some 146, some (145, false), [.box 10], .load (.agg 7) (.t 10)⟩,
 ⟨some 147, some (145, false), [], .mov (.t 12)⟩,
 ⟨some 148, some (145, false), [], .mov (.t 20)⟩,
 ⟨some 149, some (145, false), [], .ixS 2 (.t 147) (.t 148)⟩,
 ⟨some 150, some (145, false), [], .padd (.t 149) 0⟩,
 ⟨some 151, some (145, false), [.elem 150], .load .one (.t 150)⟩,
 ⟨some 152, some (145, false), [], .call (.c (.fn 17 [])) [(.t 146), (.t 151)] []⟩,
 ⟨some 153, some (145, false), [], .un .not (.t 152)⟩,
 ⟨some 154, none, [], .pick (.t 145) (.c (.bool true)) (.t 153)⟩,
 ⟨some 155, none, [], .mov (.t 154)⟩,
 ⟨some 156, some (155, false), [.box 10], .load (.agg 7) (.t 10)⟩,
 ⟨some 157, some (155, false), [], .mov (.t 12)⟩,
 ⟨some 158, some (155, false), [], .mov (.t 20)⟩,
 ⟨some 159, some (155, false), [], .ixS 2 (.t 157) (.t 158)⟩,
 ⟨some 160, some (155, false), [], .padd (.t 159) 1⟩,
 ⟨some 161, some (155, false), [.elem 160], .load .one (.t 160)⟩,
 ⟨some 162, some (155, false), [], .bin .sub (.t 161) (.c (.int .i64 1))⟩,
 ⟨some 163, some (155, false), [], .call (.c (.fn 17 [])) [(.t 156), (.t 162)] []⟩,
 ⟨some 164, some (155, false), [], .un .not (.t 163)⟩,
 ⟨some 165, none, [], .pick (.t 155) (.c (.bool true)) (.t 164)⟩])
 (.cond (.t 165)
 (.seq (.reg false [8] [] [⟨some 8, none, [], .mov (.c (.bool false))⟩])
 (.pre [8] .ret))
 .skip))
 (.pre [9, 10, 11, 12, 14, 17, 18, 19, 20] (.seq (.reg false [9, 10, 11, 12, 14, 17, 18, 19, 20] [] [⟨some 166, none, [], .mov (.t 19)⟩,
 ⟨some 167, none, [], .mov (.t 166)⟩,
 ⟨some 168, some (167, false), [], .mov (.t 18)⟩,
 ⟨some 169, some (167, false), [], .mov (.t 12)⟩,
 ⟨some 170, some (167, false), [], .mov (.t 20)⟩,
 ⟨some 171, some (167, false), [], .ixS 2 (.t 169) (.t 170)⟩,
 ⟨some 172, some (167, false), [], .padd (.t 171) 0⟩,
 ⟨some 173, some (167, false), [], .load .one (.t 172)⟩,
 ⟨some 174, some (167, false), [], .bin .geq (.t 168) (.t 173)⟩,
 ⟨some 175, some (167, false), [], .mov (.t 174)⟩,
 ⟨some 176, some (175, true), [], .mov (.t 18)⟩,
 ⟨some 177, some (175, true), [], .mov (.t 12)⟩,
 ⟨some 178, some (175, true), [], .mov (.t 20)⟩,
 ⟨some 179, some (175, true), [], .ixS 2 (.t 177) (.t 178)⟩,
 ⟨some 180, some (175, true), [], .padd (.t 179) 1⟩,
 ⟨some 181, some (175, true), [], .load .one (.t 180)⟩,
 ⟨some 182, some (175, true), [], .bin .lss (.t 176) (.t 181)⟩,
 ⟨some 183, some (167, false), [], .pick (.t 175) (.t 182) (.c (.bool false))⟩,
 ⟨some 184, none, [], .pick (.t 167) (.c (.bool true)) (.t 183)⟩,
 ⟨some 19, none, [], .mov (.t 184)⟩])
 (.seq (.reg true [9, 10, 11, 12, 14, 17, 18, 19, 20] [] [⟨some 185, none, [], .mov (.t 17)⟩,
 ⟨some 186, none, [], .mov (.t 12)⟩,
 ⟨some 187, none, [], .mov (.t 20)⟩,
 ⟨some 188, none, [], .ixS 2 (.t 186) (.t 187)⟩,
 ⟨some 189, none, [], .padd (.t 188) 1⟩,
 ⟨some 190, none, [.elem 189], .load .one (.t 189)⟩,
 ⟨some 191, none, [], .bin .add (.t 185) (.t 190)⟩,
 ⟨some 192, none, [], .mov (.t 12)⟩,
 ⟨some 193, none, [], .mov (.t 20)⟩,
 ⟨some 194, none, [], .ixS 2 (.t 192) (.t 193)⟩,
 ⟨some 195, none, [], .padd (.t 194) 0⟩,
 ⟨some 196, none, [.elem 195], .load .one (.t 195)⟩,
 ⟨some 197, none, [], .bin .sub (.t 191) (.t 196)⟩,
 ⟨some 17, none, [], .mov (.t 197)⟩])
 (.reg false [9, 10, 11, 12, 14, 16, 17, 18, 19, 20] [] [⟨some 198, none, [], .mov (.t 12)⟩,
 ⟨some 199, none, [], .mov (.t 20)⟩,
 ⟨some 200, none, [], .ixS 2 (.t 198) (.t 199)⟩,
 ⟨some 201, none, [], .padd (.t 200) 1⟩,
 ⟨some 202, none, [], .load .one (.t 201)⟩,
 ⟨some 16, none, [], .mov (.t 202)⟩]))))))))
 (.pre [9, 10, 11, 12, 14, 16, 17, 18, 19, 20] (.reg false [9, 10, 11, 12, 14, 16, 17, 18, 19, 20] [] [⟨some 63, none, [], .mov (.t 20)⟩,
 ⟨some 64, none, [], .bin .add (.t 63) (.c (.int .i64 1))⟩,
 ⟨some 20, none, [], .mov (.t 64)⟩]))))))
def b4_0 : XC := c4_0
@[go_sem] theorem e4_0 (L : Lib) (cx : Cx) (env : Env) (h : Heap) : runC L cx b4_0 (env, h) = runC L cx c4_0 (env, h) := rfl

/-- "aircheck/airchecklaw06.WeekSpells" -/
def x4 : XFn := { np := 4, isOpen := false, ns := 2, res := [.tmp 8], code :=
  (.seq (.reg false [1, 2, 3, 4] [] [⟨some 4, none, [], .boxR (.t 0)⟩,
 ⟨some 8, none, [], .mov (.c (.bool false))⟩])
 (.seq (.reg false [1, 2, 3, 4, 9] [] [⟨some 21, none, [], .call (.c (.fn 9 [])) [] []⟩,
 ⟨some 9, none, [], .mov (.t 21)⟩])
 (.seq (.seq (.reg false [1, 2, 3, 4, 9, 23] [] [⟨some 22, none, [], .mov (.t 9)⟩,
 ⟨some 23, none, [], .un .not (.t 22)⟩])
 (.cond (.t 23)
 (.seq (.reg false [8] [] [⟨some 8, none, [], .mov (.c (.bool false))⟩])
 (.pre [8] .ret))
 .skip))
 (.pre [1, 2, 3, 4, 9] (.seq (.reg false [1, 2, 3, 9, 10] [] [⟨some 24, none, [], .load (.agg 7) (.t 4)⟩,
 ⟨some 25, none, [], .call (.c (.fn 10 [])) [(.t 24)] []⟩,
 ⟨some 10, none, [], .alloc 1 [.int .i64 0, .int .i64 0, .int .i64 0, .int .i64 0, .int .i64 0, .int .i64 0, .int .i64 0]⟩,
 ⟨none, none, [], .store 7 (.t 10) (.t 25)⟩])
 (.seq (.reg false [3, 9, 10, 11] [] [⟨some 26, none, [], .mov (.t 1)⟩,
 ⟨some 27, none, [], .mov (.t 2)⟩,
 ⟨some 28, none, [], .call (.c (.fn 14 [])) [(.t 26), (.t 27)] []⟩,
 ⟨some 11, none, [], .alloc 0 [.int .i64 0, .int .i64 0]⟩,
 ⟨none, none, [], .store 2 (.t 11) (.t 28)⟩])
 (.seq (.reg false [3, 9, 10, 11, 12, 13] [] [⟨some 30, none, [], .load (.agg 7) (.t 10)⟩,
 ⟨some 31, none, [], .load (.agg 2) (.t 11)⟩,
 ⟨some 32, none, [], .call (.c (.fn 15 [])) [(.t 30), (.t 31)] []⟩,
 ⟨some 29, none, [], .mov (.t 32)⟩,
 ⟨some 33, none, [], .ext (.t 29) 0⟩,
 ⟨some 34, none, [], .ext (.t 29) 1⟩,
 ⟨some 12, none, [], .mov (.t 33)⟩,
 ⟨some 13, none, [], .mov (.t 34)⟩])
 (.seq (.reg false [3, 9, 10, 11, 12, 13, 14, 15] [] [⟨some 36, none, [], .load (.agg 7) (.t 10)⟩,
 ⟨some 37, none, [], .load (.agg 2) (.t 11)⟩,
 ⟨some 38, none, [], .call (.c (.fn 16 [])) [(.t 36), (.t 37)] []⟩,
 ⟨some 35, none, [], .mov (.t 38)⟩,
 ⟨some 39, none, [], .ext (.t 35) 0⟩,
 ⟨some 40, none, [], .ext (.t 35) 1⟩,
 ⟨some 14, none, [], .mov (.t 39)⟩,
 ⟨some 15, none, [], .mov (.t 40)⟩])
 (.seq (.seq (.reg false [3, 9, 10, 11, 12, 14, 46] [] [⟨some 41, none, [], .mov (.t 13)⟩,
 ⟨some 42, none, [], .bin .neq (.t 41) (.c (.int .i64 0))⟩,
 ⟨some 43, none, [], .mov (.t 42)⟩,
 ⟨some 44, some (43, false), [], .mov (.t 15)⟩,
 ⟨some 45, some (43, false), [], .bin .neq (.t 44) (.c (.int .i64 0))⟩,
 ⟨some 46, none, [], .pick (.t 43) (.c (.bool true)) (.t 45)⟩])
 (.cond (.t 46)
 (.seq (.reg false [8] [] [⟨some 8, none, [], .mov (.c (.bool false))⟩])
 (.pre [8] .ret))
 .skip))
 (.pre [3, 9, 10, 11, 12, 14] (.seq (.reg false [3, 9, 10, 11, 12, 14, 16] [] [⟨some 47, none, [], .padd (.t 11) 0⟩,
 ⟨some 48, none, [], .load .one (.t 47)⟩,
 ⟨some 16, none, [], .mov (.t 48)⟩])
 (.seq (.reg false [3, 9, 10, 11, 12, 14, 16, 17] [] [⟨some 17, none, [], .mov (.c (.int .i64 0))⟩])
 (.seq (.reg true [9, 10, 11, 12, 14, 16, 17, 18] [] [⟨some 49, none, [], .padd (.t 11) 0⟩,
 ⟨some 50, none, [.box 49], .load .one (.t 49)⟩,
 ⟨some 51, none, [], .mov (.t 3)⟩,
 ⟨some 52, none, [], .padd (.t 11) 1⟩,
 ⟨some 53, none, [.box 52], .load .one (.t 52)⟩,
 ⟨some 54, none, [], .padd (.t 11) 0⟩,
 ⟨some 55, none, [.box 54], .load .one (.t 54)⟩,
 ⟨some 56, none, [], .bin .sub (.t 53) (.t 55)⟩,
 ⟨some 57, none, [], .call (.c (.fn 13 [])) [(.t 51), (.t 56)] []⟩,
 ⟨some 58, none, [], .bin .add (.t 50) (.t 57)⟩,
 ⟨some 18, none, [], .mov (.t 58)⟩])
 (.seq (.reg false [9, 10, 11, 12, 14, 16, 17, 18, 19] [] [⟨some 19, none, [], .mov (.c (.bool false))⟩])
 (.seq (.seq (.reg false [9, 10, 11, 12, 14, 16, 17, 18, 19, 20] [] [⟨some 20, none, [], .mov (.c (.int .i64 0))⟩])
 (.blk 0
 (.loop b4_0)))
 (.pre [9, 10, 14, 17, 18, 19] (.seq (.reg false [8] [] [⟨some 203, none, [], .mov (.t 9)⟩,
 ⟨some 204, none, [], .mov (.t 203)⟩,
 ⟨some 205, some (204, true), [], .mov (.t 17)⟩,
 ⟨some 206, some (204, true), [], .mov (.t 14)⟩,
 ⟨some 207, some (204, true), [], .bin .eql (.t 205) (.t 206)⟩,
 ⟨some 208, none, [], .pick (.t 204) (.t 207) (.c (.bool false))⟩,
 ⟨some 209, none, [], .mov (.t 208)⟩,
 ⟨some 210, some (209, true), [], .mov (.t 19)⟩,
 ⟨some 211, some (209, true), [], .load (.agg 7) (.t 10)⟩,
 ⟨some 212, some (209, true), [], .mov (.t 18)⟩,
 ⟨some 213, some (209, true), [], .call (.c (.fn 17 [])) [(.t 211), (.t 212)] []⟩,
 ⟨some 214, some (209, true), [], .eqv false [] (.t 210) (.t 213)⟩,
 ⟨some 215, none, [], .pick (.t 209) (.t 214) (.c (.bool false))⟩,
 ⟨some 8, none, [], .mov (.t 215)⟩])
 (.pre [8] .ret)))))))))))))))))) }

/-- "aircheck/airchecklaw06.WeekDivides" -/
def x5 : XFn := { np := 4, isOpen := false, ns := 3, res := [.tmp 8], code :=
  (.seq (.reg false [1, 2, 3, 4] [] [⟨some 4, none, [], .boxR (.t 0)⟩,
 ⟨some 8, none, [], .mov (.c (.bool false))⟩])
 (.seq (.reg false [1, 2, 3, 4, 9] [] [⟨some 23, none, [], .call (.c (.fn 9 [])) [] []⟩,
 ⟨some 9, none, [], .mov (.t 23)⟩])
 (.seq (.seq (.reg false [1, 2, 3, 4, 9, 25] [] [⟨some 24, none, [], .mov (.t 9)⟩,
 ⟨some 25, none, [], .un .not (.t 24)⟩])
 (.cond (.t 25)
 (.seq (.reg false [8] [] [⟨some 8, none, [], .mov (.c (.bool false))⟩])
 (.pre [8] .ret))
 .skip))
 (.pre [1, 2, 3, 4, 9] (.seq (.reg false [1, 2, 3, 9, 10] [] [⟨some 26, none, [], .load (.agg 7) (.t 4)⟩,
 ⟨some 27, none, [], .call (.c (.fn 10 [])) [(.t 26)] []⟩,
 ⟨some 10, none, [], .alloc 2 [.int .i64 0, .int .i64 0, .int .i64 0, .int .i64 0, .int .i64 0, .int .i64 0, .int .i64 0]⟩,
 ⟨none, none, [], .store 7 (.t 10) (.t 27)⟩])
 (.seq (.reg false [3, 9, 10, 11] [] [⟨some 28, none, [], .mov (.t 1)⟩,
 ⟨some 29, none, [], .mov (.t 2)⟩,
 ⟨some 30, none, [], .call (.c (.fn 14 [])) [(.t 28), (.t 29)] []⟩,
 ⟨some 11, none, [], .alloc 1 [.int .i64 0, .int .i64 0]⟩,
 ⟨none, none, [], .store 2 (.t 11) (.t 30)⟩])
 (.seq (.reg false [3, 9, 10, 11, 12, 13] [] [⟨some 32, none, [], .load (.agg 7) (.t 10)⟩,
 ⟨some 33, none, [], .load (.agg 2) (.t 11)⟩,
 ⟨some 34, none, [], .call (.c (.fn 16 [])) [(.t 32), (.t 33)] []⟩,
 ⟨some 31, none, [], .mov (.t 34)⟩,
 ⟨some 35, none, [], .ext (.t 31) 0⟩,
 ⟨some 36, none, [], .ext (.t 31) 1⟩,
 ⟨some 12, none, [], .mov (.t 35)⟩,
 ⟨some 13, none, [], .mov (.t 36)⟩])
 (.seq (.reg false [3, 9, 10, 11, 12, 13, 14, 15] [] [⟨some 38, none, [], .load (.agg 7) (.t 10)⟩,
 ⟨some 39, none, [], .call (.c (.fn 18 [])) [(.t 38)] []⟩,
 ⟨some 37, none, [], .mov (.t 39)⟩,
 ⟨some 40, none, [], .ext (.t 37) 0⟩,
 ⟨some 41, none, [], .ext (.t 37) 1⟩,
 ⟨some 14, none, [], .alloc 0 [.int .i64 0, .int .i64 0, .int .i64 0, .int .i64 0, .int .i64 0, .int .i64 0, .int .i64 0]⟩,
 ⟨none, none, [], .store 7 (.t 14) (.t 40)⟩,
 ⟨some 15, none, [], .mov (.t 41)⟩])
 (.seq (.reg false [3, 9, 10, 11, 12, 13, 15, 16, 17] [] [⟨some 43, none, [], .load (.agg 7) (.t 14)⟩,
 ⟨some 44, none, [], .load (.agg 2) (.t 11)⟩,
 ⟨some 45, none, [], .call (.c (.fn 16 [])) [(.t 43), (.t 44)] []⟩,
 ⟨some 42, none, [], .mov (.t 45)⟩,
 ⟨some 46, none, [], .ext (.t 42) 0⟩,
 ⟨some 47, none, [], .ext (.t 42) 1⟩,
 ⟨some 16, none, [], .mov (.t 46)⟩,
 ⟨some 17, none, [], .mov (.t 47)⟩])
 (.seq (.seq (.reg false [3, 9, 10, 11, 12, 68] [] [⟨some 48, none, [], .mov (.t 13)⟩,
 ⟨some 49, none, [], .bin .neq (.t 48) (.c (.int .i64 0))⟩,
 ⟨some 50, none, [], .mov (.t 49)⟩,
 ⟨some 51, some (50, false), [], .mov (.t 15)⟩,
 ⟨some 52, some (50, false), [], .bin .neq (.t 51) (.c (.int .i64 0))⟩,
 ⟨some 53, none, [], .pick (.t 50) (.c (.bool true)) (.t 52)⟩,
 ⟨some 54, none, [], .mov (.t 53)⟩,
 ⟨some 55, some (54, false), [], .mov (.t 17)⟩,
 ⟨some 56, some (54, false), [], .bin .neq (.t 55) (.c (.int .i64 0))⟩,
 ⟨some 57, none, [], .pick (.t 54) (.c (.bool true)) (.t 56)⟩,
 ⟨some 58, none, [], .mov (.t 57)⟩,
 ⟨some 59, some (58, false), [], .mov (.t 12)⟩,
 ⟨some 60, some (58, false), [], .mov (.t 16)⟩,
 ⟨some 61, some (58, false), [], .bin .add (.t 59) (.t 60)⟩,
 ⟨some 62, some (58, false), [], .padd (.t 11) 1⟩,
 ⟨some 63, some (58, false), [], .load .one (.t 62)⟩,
 ⟨some 64, some (58, false), [], .padd (.t 11) 0⟩,
 ⟨some 65, some (58, false), [], .load .one (.t 64)⟩,
 ⟨some 66, some (58, false), [], .bin .sub (.t 63) (.t 65)⟩,
 ⟨some 67, some (58, false), [], .bin .neq (.t 61) (.t 66)⟩,
 ⟨some 68, none, [], .pick (.t 58) (.c (.bool true)) (.t 67)⟩])
 (.cond (.t 68)
 (.seq (.reg false [8] [] [⟨some 8, none, [], .mov (.c (.bool false))⟩])
 (.pre [8] .ret))
 .skip))
 (.pre [3, 9, 10, 11, 12] (.seq (.seq (.reg false [3, 9, 10, 11, 12, 74] [] [⟨some 69, none, [], .padd (.t 11) 1⟩,
 ⟨some 70, none, [], .load .one (.t 69)⟩,
 ⟨some 71, none, [], .padd (.t 11) 0⟩,
 ⟨some 72, none, [], .load .one (.t 71)⟩,
 ⟨some 73, none, [], .bin .sub (.t 70) (.t 72)⟩,
 ⟨some 74, none, [], .bin .lss (.t 73) (.c (.int .i64 2))⟩])
 (.cond (.t 74)
 (.seq (.reg false [8] [] [⟨some 75, none, [], .mov (.t 9)⟩,
 ⟨some 8, none, [], .mov (.t 75)⟩])
 (.pre [8] .ret))
 .skip))
 (.pre [3, 9, 10, 11, 12] (.seq (.reg true [9, 10, 11, 12, 18] [] [⟨some 76, none, [], .padd (.t 11) 0⟩,
 ⟨some 77, none, [.box 76], .load .one (.t 76)⟩,
 ⟨some 78, none, [], .bin .add (.t 77) (.c (.int .i64 1))⟩,
 ⟨some 79, none, [], .mov (.t 3)⟩,
 ⟨some 80, none, [], .padd (.t 11) 1⟩,
 ⟨some 81, none, [.box 80], .load .one (.t 80)⟩,
 ⟨some 82, none, [], .padd (.t 11) 0⟩,
 ⟨some 83, none, [.box 82], .load .one (.t 82)⟩,
 ⟨some 84, none, [], .bin .sub (.t 81) (.t 83)⟩,
 ⟨some 85, none, [], .bin .sub (.t 84) (.c (.int .i64 1))⟩,
 ⟨some 86, none, [], .call (.c (.fn 13 [])) [(.t 79), (.t 85)] []⟩,
 ⟨some 87, none, [], .bin .add (.t 78) (.t 86)⟩,
 ⟨some 18, none, [], .mov (.t 87)⟩])
 (.seq (.reg false [9, 10, 11, 12, 18, 19, 20] [] [⟨some 89, none, [], .load (.agg 7) (.t 10)⟩,
 ⟨some 90, none, [], .padd (.t 11) 0⟩,
 ⟨some 91, none, [], .load .one (.t 90)⟩,
 ⟨some 92, none, [], .mov (.t 18)⟩,
 ⟨some 93, none, [], .build [.int .i64 0, .int .i64 0] [(0, 1, (.t 91)), (1, 1, (.t 92))]⟩,
 ⟨some 94, none, [], .call (.c (.fn 16 [])) [(.t 89), (.t 93)] []⟩,
 ⟨some 88, none, [], .mov (.t 94)⟩,
 ⟨some 95, none, [], .ext (.t 88) 0⟩,
 ⟨some 96, none, [], .ext (.t 88) 1⟩,
 ⟨some 19, none, [], .mov (.t 95)⟩,
 ⟨some 20, none, [], .mov (.t 96)⟩])
 (.seq (.reg false [9, 12, 19, 20, 21, 22] [] [⟨some 98, none, [], .load (.agg 7) (.t 10)⟩,
 ⟨some 99, none, [], .mov (.t 18)⟩,
 ⟨some 100, none, [], .padd (.t 11) 1⟩,
 ⟨some 101, none, [], .load .one (.t 100)⟩,
 ⟨some 102, none, [], .build [.int .i64 0, .int .i64 0] [(0, 1, (.t 99)), (1, 1, (.t 101))]⟩,
 ⟨some 103, none, [], .call (.c (.fn 16 [])) [(.t 98), (.t 102)] []⟩,
 ⟨some 97, none, [], .mov (.t 103)⟩,
 ⟨some 104, none, [], .ext (.t 97) 0⟩,
 ⟨some 105, none, [], .ext (.t 97) 1⟩,
 ⟨some 21, none, [], .mov (.t 104)⟩,
 ⟨some 22, none, [], .mov (.t 105)⟩])
 (.seq (.reg false [8] [] [⟨some 106, none, [], .mov (.t 9)⟩,
 ⟨some 107, none, [], .mov (.t 106)⟩,
 ⟨some 108, some (107, true), [], .mov (.t 20)⟩,
 ⟨some 109, some (107, true), [], .bin .eql (.t 108) (.c (.int .i64 0))⟩,
 ⟨some 110, none, [], .pick (.t 107) (.t 109) (.c (.bool false))⟩,
 ⟨some 111, none, [], .mov (.t 110)⟩,
 ⟨some 112, some (111, true), [], .mov (.t 22)⟩,
 ⟨some 113, some (111, true), [], .bin .eql (.t 112) (.c (.int .i64 0))⟩,
 ⟨some 114, none, [], .pick (.t 111) (.t 113) (.c (.bool false))⟩,
 ⟨some 115, none, [], .mov (.t 114)⟩,
 ⟨some 116, some (115, true), [], .mov (.t 19)⟩,
 ⟨some 117, some (115, true), [], .mov (.t 21)⟩,
 ⟨some 118, some (115, true), [], .bin .add (.t 116) (.t 117)⟩,
 ⟨some 119, some (115, true), [], .mov (.t 12)⟩,
 ⟨some 120, some (115, true), [], .bin .eql (.t 118) (.t 119)⟩,
 ⟨some 121, none, [], .pick (.t 115) (.t 120) (.c (.bool false))⟩,
 ⟨some 8, none, [], .mov (.t 121)⟩])
 (.pre [8] .ret)))))))))))))))))) }

/-- "aircheck/airchecklaw06.WeekNext" -/
def x6 : XFn := { np := 2, isOpen := false, ns := 1, res := [.tmp 4], code :=
  (.seq (.reg false [1, 2] [] [⟨some 2, none, [], .boxR (.t 0)⟩,
 ⟨some 4, none, [], .mov (.c (.bool false))⟩])
 (.seq (.reg false [1, 2, 5] [] [⟨some 14, none, [], .call (.c (.fn 9 [])) [] []⟩,
 ⟨some 5, none, [], .mov (.t 14)⟩])
 (.seq (.seq (.reg false [1, 2, 5, 16] [] [⟨some 15, none, [], .mov (.t 5)⟩,
 ⟨some 16, none, [], .un .not (.t 15)⟩])
 (.cond (.t 16)
 (.seq (.reg false [4] [] [⟨some 4, none, [], .mov (.c (.bool false))⟩])
 (.pre [4] .ret))
 .skip))
 (.pre [1, 2, 5] (.seq (.reg false [1, 5, 6] [] [⟨some 17, none, [], .load (.agg 7) (.t 2)⟩,
 ⟨some 18, none, [], .call (.c (.fn 10 [])) [(.t 17)] []⟩,
 ⟨some 6, none, [], .alloc 0 [.int .i64 0, .int .i64 0, .int .i64 0, .int .i64 0, .int .i64 0, .int .i64 0, .int .i64 0]⟩,
 ⟨none, none, [], .store 7 (.t 6) (.t 18)⟩])
 (.seq (.reg false [5, 6, 7] [] [⟨some 19, none, [], .mov (.t 1)⟩,
 ⟨some 20, none, [], .call (.c (.fn 13 [])) [(.t 19), (.c (.int .i64 10000000))] []⟩,
 ⟨some 7, none, [], .mov (.t 20)⟩])
 (.seq (.reg false [5, 6, 7, 8, 9] [] [⟨some 22, none, [], .load (.agg 7) (.t 6)⟩,
 ⟨some 23, none, [], .mov (.t 7)⟩,
 ⟨some 24, none, [], .call (.c (.fn 19 [])) [(.t 22), (.t 23)] []⟩,
 ⟨some 21, none, [], .mov (.t 24)⟩,
 ⟨some 25, none, [], .ext (.t 21) 0⟩,
 ⟨some 26, none, [], .ext (.t 21) 1⟩,
 ⟨some 8, none, [], .mov (.t 25)⟩,
 ⟨some 9, none, [], .mov (.t 26)⟩])
 (.seq (.seq (.reg false [5, 6, 7, 8, 28] [] [⟨some 27, none, [], .mov (.t 9)⟩,
 ⟨some 28, none, [], .un .not (.t 27)⟩])
 (.cond (.t 28)
 (.seq (.reg false [5, 8, 10, 11] [] [⟨some 30, none, [], .load (.agg 7) (.t 6)⟩,
 ⟨some 31, none, [], .mov (.t 7)⟩,
 ⟨some 32, none, [], .build [.int .i64 0, .int .i64 0] [(0, 1, (.t 31)), (1, 1, (.c (.int .i64 10000000)))]⟩,
 ⟨some 33, none, [], .call (.c (.fn 16 [])) [(.t 30), (.t 32)] []⟩,
 ⟨some 29, none, [], .mov (.t 33)⟩,
 ⟨some 34, none, [], .ext (.t 29) 0⟩,
 ⟨some 35, none, [], .ext (.t 29) 1⟩,
 ⟨some 10, none, [], .mov (.t 34)⟩,
 ⟨some 11, none, [], .mov (.t 35)⟩])
 (.seq (.reg false [4] [] [⟨some 36, none, [], .mov (.t 5)⟩,
 ⟨some 37, none, [], .mov (.t 36)⟩,
 ⟨some 38, some (37, true), [], .mov (.t 11)⟩,
 ⟨some 39, some (37, true), [], .bin .eql (.t 38) (.c (.int .i64 0))⟩,
 ⟨some 40, none, [], .pick (.t 37) (.t 39) (.c (.bool false))⟩,
 ⟨some 41, none, [], .mov (.t 40)⟩,
 ⟨some 42, some (41, true), [], .mov (.t 10)⟩,
 ⟨some 43, some (41, true), [], .bin .eql (.t 42) (.c (.int .i64 0))⟩,
 ⟨some 44, none, [], .pick (.t 41) (.t 43) (.c (.bool false))⟩,
 ⟨some 45, none, [], .mov (.t 44)⟩,
 ⟨some 46, some (45, true), [], .mov (.t 8)⟩,
 ⟨some 47, some (45, true), [], .bin .eql (.t 46) (.c (.int .i64 0))⟩,
 ⟨some 48, none, [], .pick (.t 45) (.t 47) (.c (.bool false))⟩,
 ⟨some 4, none, [], .mov (.t 48)⟩])
 (.pre [4] .ret)))
 .skip))
 (.pre [5, 6, 7, 8] (.seq (.seq (.reg false [5, 6, 7, 8, 57] [] [⟨some 49, none, [], .mov (.t 8)⟩,
 ⟨some 50, none, [], .mov (.t 7)⟩,
 ⟨some 51, none, [], .bin .lss (.t 49) (.t 50)⟩,
 ⟨some 52, none, [], .mov (.t 51)⟩,
 ⟨some 53, some (52, false), [], .load (.agg 7) (.t 6)⟩,
 ⟨some 54, some (52, false), [], .mov (.t 8)⟩,
 ⟨some 55, some (52, false), [], .call (.c (.fn 17 [])) [(.t 53), (.t 54)] []⟩,
 ⟨some 56, some (52, false), [], .un .not (.t 55)⟩,
 ⟨some 57, none, [], .pick (.t 52) (.c (.bool true)) (.t 56)⟩])
 (.cond (.t 57)
 (.seq (.reg false [4] [] [⟨some 4, none, [], .mov (.c (.bool false))⟩])
 (.pre [4] .ret))
 .skip))
 (.pre [5, 6, 7, 8] (.seq (.seq (.reg false [5, 6, 7, 8, 60] [] [⟨some 58, none, [], .mov (.t 8)⟩,
 ⟨some 59, none, [], .mov (.t 7)⟩,
 ⟨some 60, none, [], .bin .eql (.t 58) (.t 59)⟩])
 (.cond (.t 60)
 (.seq (.reg false [4] [] [⟨some 61, none, [], .mov (.t 5)⟩,
 ⟨some 4, none, [], .mov (.t 61)⟩])
 (.pre [4] .ret))
 .skip))
 (.pre [5, 6, 7, 8] (.seq (.reg false [5, 12, 13] [] [⟨some 63, none, [], .load (.agg 7) (.t 6)⟩,
 ⟨some 64, none, [], .mov (.t 7)⟩,
 ⟨some 65, none, [], .mov (.t 8)⟩,
 ⟨some 66, none, [], .build [.int .i64 0, .int .i64 0] [(0, 1, (.t 64)), (1, 1, (.t 65))]⟩,
 ⟨some 67, none, [], .call (.c (.fn 16 [])) [(.t 63), (.t 66)] []⟩,
 ⟨some 62, none, [], .mov (.t 67)⟩,
 ⟨some 68, none, [], .ext (.t 62) 0⟩,
 ⟨some 69, none, [], .ext (.t 62) 1⟩,
 ⟨some 12, none, [], .mov (.t 68)⟩,
 ⟨some 13, none, [], .mov (.t 69)⟩])
 (.seq (.reg false [4] [] [⟨some 70, none, [], .mov (.t 5)⟩,
 ⟨some 71, none, [], .mov (.t 70)⟩,
 ⟨some 72, some (71, true), [], .mov (.t 13)⟩,
 ⟨some 73, some (71, true), [], .bin .eql (.t 72) (.c (.int .i64 0))⟩,
 ⟨some 74, none, [], .pick (.t 71) (.t 73) (.c (.bool false))⟩,
 ⟨some 75, none, [], .mov (.t 74)⟩,
 ⟨some 76, some (75, true), [], .mov (.t 12)⟩,
 ⟨some 77, some (75, true), [], .bin .eql (.t 76) (.c (.int .i64 0))⟩,
 ⟨some 78, none, [], .pick (.t 75) (.t 77) (.c (.bool false))⟩,
 ⟨some 4, none, [], .mov (.t 78)⟩])
 (.pre [4] .ret)))))))))))))))) }

@[go_sem] def c7_1 : XC := (.pre [5, 6, 7, 8, 9, 10]
  (.seq (.seq (.reg false [5, 6, 7, 8, 9, 10, 25] [] [⟨some 24, none, [], .mov (.t 10)⟩,
 ⟨some 25, none, [], .bin .lss (.t 24) (.c (.int .i64 24))⟩])
 (.cond (.t 25)
 .skip
 (.pre [5, 6, 7, 8, 9] (.exit 2))))
 (.pre [5, 6, 7, 8, 9, 10] (.seq (.blk 3
 (.reg false [5, 6, 7, 8, 9, 10] [] [⟨some 28, none, [], .mov (.t 8)⟩,
 ⟨some 29, none, [], .mov (.t 9)⟩,
 ⟨some 30, none, [], .ixA 7 1 (.t 6) (.t 29)⟩,
 ⟨some 31, none, [], .load .one (.t 30)⟩,
 ⟨some 32, none, [], .mov (.t 10)⟩,
 ⟨some 33, none, [], .bin .shr (.t 31) (.t 32)⟩,
 ⟨some 34, none, [], .bin .rem (.t 33) (.c (.int .i64 2))⟩,
 ⟨some 35, none, [], .bin .add (.t 28) (.t 34)⟩,
 ⟨some 8, none, [], .mov (.t 35)⟩]))
 (.pre [5, 6, 7, 8, 9, 10] (.reg false [5, 6, 7, 8, 9, 10] [] [⟨some 26, none, [], .mov (.t 10)⟩,
 ⟨some 27, none, [], .bin .add (.t 26) (.c (.int .i64 1))⟩,
 ⟨some 10, none, [], .mov (.t 27)⟩]))))))
def b7_1 : XC := c7_1
@[go_sem] theorem e7_1 (L : Lib) (cx : Cx) (env : Env) (h : Heap) : runC L cx b7_1 (env, h) = runC L cx c7_1 (env, h) := rfl

@[go_sem] def c7_0 : XC := (.pre [5, 6, 7, 8, 9]
  (.seq (.seq (.reg false [5, 6, 7, 8, 9, 21] [] [⟨some 20, none, [], .mov (.t 9)⟩,
 ⟨some 21, none, [], .bin .lss (.t 20) (.c (.int .i64 7))⟩])
 (.cond (.t 21)
 .skip
 (.pre [5, 6, 7, 8] (.exit 0))))
 (.pre [5, 6, 7, 8, 9] (.seq (.blk 1
 (.seq (.reg false [5, 6, 7, 8, 9, 10] [] [⟨some 10, none, [], .mov (.c (.int .i64 0))⟩])
 (.blk 2
 (.loop b7_1))))
 (.pre [5, 6, 7, 8, 9] (.reg false [5, 6, 7, 8, 9] [] [⟨some 22, none, [], .mov (.t 9)⟩,
 ⟨some 23, none, [], .bin .add (.t 22) (.c (.int .i64 1))⟩,
 ⟨some 9, none, [], .mov (.t 23)⟩]))))))
def b7_0 : XC := c7_0
@[go_sem] theorem e7_0 (L : Lib) (cx : Cx) (env : Env) (h : Heap) : runC L cx b7_0 (env, h) = runC L cx c7_0 (env, h) := rfl

/-- "aircheck/airchecklaw06.WeekLater" -/
def x7 : XFn := { np := 2, isOpen := false, ns := 1, res := [.tmp 4], code :=
  (.seq (.reg false [1, 2] [] [⟨some 2, none, [], .boxR (.t 0)⟩,
 ⟨some 4, none, [], .mov (.c (.bool false))⟩])
 (.seq (.reg false [1, 2, 5] [] [⟨some 13, none, [], .call (.c (.fn 9 [])) [] []⟩,
 ⟨some 5, none, [], .mov (.t 13)⟩])
 (.seq (.seq (.reg false [1, 2, 5, 15] [] [⟨some 14, none, [], .mov (.t 5)⟩,
 ⟨some 15, none, [], .un .not (.t 14)⟩])
 (.cond (.t 15)
 (.seq (.reg false [4] [] [⟨some 4, none, [], .mov (.c (.bool false))⟩])
 (.pre [4] .ret))
 .skip))
 (.pre [1, 2, 5] (.seq (.reg false [1, 5, 6] [] [⟨some 16, none, [], .load (.agg 7) (.t 2)⟩,
 ⟨some 17, none, [], .call (.c (.fn 10 [])) [(.t 16)] []⟩,
 ⟨some 6, none, [], .alloc 0 [.int .i64 0, .int .i64 0, .int .i64 0, .int .i64 0, .int .i64 0, .int .i64 0, .int .i64 0]⟩,
 ⟨none, none, [], .store 7 (.t 6) (.t 17)⟩])
 (.seq (.reg false [5, 6, 7] [] [⟨some 18, none, [], .mov (.t 1)⟩,
 ⟨some 19, none, [], .call (.c (.fn 13 [])) [(.t 18), (.c (.int .i64 9395200))] []⟩,
 ⟨some 7, none, [], .mov (.t 19)⟩])
 (.seq (.reg false [5, 6, 7, 8] [] [⟨some 8, none, [], .mov (.c (.int .i64 0))⟩])
 (.seq (.seq (.reg false [5, 6, 7, 8, 9] [] [⟨some 9, none, [], .mov (.c (.int .i64 0))⟩])
 (.blk 0
 (.loop b7_0)))
 (.pre [5, 6, 7, 8] (.seq (.reg false [5, 6, 7, 8, 11, 12] [] [⟨some 37, none, [], .load (.agg 7) (.t 6)⟩,
 ⟨some 38, none, [], .mov (.t 7)⟩,
 ⟨some 39, none, [], .mov (.t 7)⟩,
 ⟨some 40, none, [], .bin .add (.t 39) (.c (.int .i64 604800))⟩,
 ⟨some 41, none, [], .build [.int .i64 0, .int .i64 0] [(0, 1, (.t 38)), (1, 1, (.t 40))]⟩,
 ⟨some 42, none, [], .call (.c (.fn 16 [])) [(.t 37), (.t 41)] []⟩,
 ⟨some 36, none, [], .mov (.t 42)⟩,
 ⟨some 43, none, [], .ext (.t 36) 0⟩,
 ⟨some 44, none, [], .ext (.t 36) 1⟩,
 ⟨some 11, none, [], .mov (.t 43)⟩,
 ⟨some 12, none, [], .mov (.t 44)⟩])
 (.seq (.reg true [4] [] [⟨some 45, none, [], .mov (.t 5)⟩,
 ⟨some 46, none, [], .mov (.t 45)⟩,
 ⟨some 47, some (46, true), [], .mov (.t 12)⟩,
 ⟨some 48, some (46, true), [], .bin .eql (.t 47) (.c (.int .i64 0))⟩,
 ⟨some 49, none, [], .pick (.t 46) (.t 48) (.c (.bool false))⟩,
 ⟨some 50, none, [], .mov (.t 49)⟩,
 ⟨some 51, some (50, true), [], .mov (.t 11)⟩,
 ⟨some 52, some (50, true), [], .mov (.t 8)⟩,
 ⟨some 53, some (50, true), [], .bin .mul (.t 52) (.c (.int .i64 3600))⟩,
 ⟨some 54, some (50, true), [], .bin .eql (.t 51) (.t 53)⟩,
 ⟨some 55, none, [], .pick (.t 50) (.t 54) (.c (.bool false))⟩,
 ⟨some 56, none, [], .mov (.t 55)⟩,
 ⟨some 57, some (56, true), [.box 6], .load (.agg 7) (.t 6)⟩,
 ⟨some 58, some (56, true), [], .mov (.t 7)⟩,
 ⟨some 59, some (56, true), [], .call (.c (.fn 17 [])) [(.t 57), (.t 58)] []⟩,
 ⟨some 60, some (56, true), [.box 6], .load (.agg 7) (.t 6)⟩,
 ⟨some 61, some (56, true), [], .mov (.t 7)⟩,
 ⟨some 62, some (56, true), [], .bin .add (.t 61) (.c (.int .i64 604800))⟩,
 ⟨some 63, some (56, true), [], .call (.c (.fn 17 [])) [(.t 60), (.t 62)] []⟩,
 ⟨some 64, some (56, true), [], .eqv false [] (.t 59) (.t 63)⟩,
 ⟨some 65, none, [], .pick (.t 56) (.t 64) (.c (.bool false))⟩,
 ⟨some 4, none, [], .mov (.t 65)⟩])
 (.pre [4] .ret)))))))))))) }

/-- "aircheck/airchecklaw06.WeekAlgebra" -/
def x8 : XFn := { np := 4, isOpen := false, ns := 14, res := [.tmp 8], code :=
  (.seq (.reg false [3, 4, 5, 6] [] [⟨some 4, none, [], .boxR (.t 0)⟩,
 ⟨some 5, none, [], .boxR (.t 1)⟩,
 ⟨some 6, none, [], .boxR (.t 2)⟩,
 ⟨some 8, none, [], .mov (.c (.bool false))⟩])
 (.seq (.reg false [3, 4, 5, 6, 9] [] [⟨some 38, none, [], .call (.c (.fn 9 [])) [] []⟩,
 ⟨some 9, none, [], .mov (.t 38)⟩])
 (.seq (.seq (.reg false [3, 4, 5, 6, 9, 40] [] [⟨some 39, none, [], .mov (.t 9)⟩,
 ⟨some 40, none, [], .un .not (.t 39)⟩])
 (.cond (.t 40)
 (.seq (.reg false [8] [] [⟨some 8, none, [], .mov (.c (.bool false))⟩])
 (.pre [8] .ret))
 .skip))
 (.pre [3, 4, 5, 6, 9] (.seq (.reg false [3, 5, 6, 9, 10] [] [⟨some 41, none, [], .load (.agg 7) (.t 4)⟩,
 ⟨some 42, none, [], .call (.c (.fn 10 [])) [(.t 41)] []⟩,
 ⟨some 10, none, [], .alloc 13 [.int .i64 0, .int .i64 0, .int .i64 0, .int .i64 0, .int .i64 0, .int .i64 0, .int .i64 0]⟩,
 ⟨none, none, [], .store 7 (.t 10) (.t 42)⟩])
 (.seq (.reg false [3, 6, 9, 10, 11] [] [⟨some 43, none, [], .load (.agg 7) (.t 5)⟩,
 ⟨some 44, none, [], .call (.c (.fn 10 [])) [(.t 43)] []⟩,
 ⟨some 11, none, [], .alloc 12 [.int .i64 0, .int .i64 0, .int .i64 0, .int .i64 0, .int .i64 0, .int .i64 0, .int .i64 0]⟩,
 ⟨none, none, [], .store 7 (.t 11) (.t 44)⟩])
 (.seq (.reg false [3, 9, 10, 11, 12] [] [⟨some 45, none, [], .load (.agg 7) (.t 6)⟩,
 ⟨some 46, none, [], .call (.c (.fn 10 [])) [(.t 45)] []⟩,
 ⟨some 12, none, [], .alloc 11 [.int .i64 0, .int .i64 0, .int .i64 0, .int .i64 0, .int .i64 0, .int .i64 0, .int .i64 0]⟩,
 ⟨none, none, [], .store 7 (.t 12) (.t 46)⟩])
 (.seq (.reg false [3, 9, 10, 11, 12, 13, 14] [] [⟨some 48, none, [], .load (.agg 7) (.t 10)⟩,
 ⟨some 49, none, [], .load (.agg 7) (.t 11)⟩,
 ⟨some 50, none, [], .call (.c (.fn 20 [])) [(.t 48), (.t 49)] []⟩,
 ⟨some 47, none, [], .mov (.t 50)⟩,
 ⟨some 51, none, [], .ext (.t 47) 0⟩,
 ⟨some 52, none, [], .ext (.t 47) 1⟩,
 ⟨some 13, none, [], .alloc 10 [.int .i64 0, .int .i64 0, .int .i64 0, .int .i64 0, .int .i64 0, .int .i64 0, .int .i64 0]⟩,
 ⟨none, none, [], .store 7 (.t 13) (.t 51)⟩,
 ⟨some 14, none, [], .mov (.t 52)⟩])
 (.seq (.reg false [3, 9, 10, 11, 12, 13, 14, 15, 16] [] [⟨some 54, none, [], .load (.agg 7) (.t 10)⟩,
 ⟨some 55, none, [], .load (.agg 7) (.t 11)⟩,
 ⟨some 56, none, [], .call (.c (.fn 21 [])) [(.t 54), (.t 55)] []⟩,
 ⟨some 53, none, [], .mov (.t 56)⟩,
 ⟨some 57, none, [], .ext (.t 53) 0⟩,
 ⟨some 58, none, [], .ext (.t 53) 1⟩,
 ⟨some 15, none, [], .alloc 9 [.int .i64 0, .int .i64 0, .int .i64 0, .int .i64 0, .int .i64 0, .int .i64 0, .int .i64 0]⟩,
 ⟨none, none, [], .store 7 (.t 15) (.t 57)⟩,
 ⟨some 16, none, [], .mov (.t 58)⟩])
 (.seq (.reg false [3, 9, 10, 11, 12, 13, 14, 15, 16, 17, 18] [] [⟨some 60, none, [], .load (.agg 7) (.t 10)⟩,
 ⟨some 61, none, [], .call (.c (.fn 18 [])) [(.t 60)] []⟩,
 ⟨some 59, none, [], .mov (.t 61)⟩,
 ⟨some 62, none, [], .ext (.t 59) 0⟩,
 ⟨some 63, none, [], .ext (.t 59) 1⟩,
 ⟨some 17, none, [], .alloc 8 [.int .i64 0, .int .i64 0, .int .i64 0, .int .i64 0, .int .i64 0, .int .i64 0, .int .i64 0]⟩,
 ⟨none, none, [], .store 7 (.t 17) (.t 62)⟩,
 ⟨some 18, none, [], .mov (.t 63)⟩])
 (.seq (.seq (.reg false [3, 9, 10, 11, 12, 13, 15, 17, 73] [] [⟨some 64, none, [], .mov (.t 14)⟩,
 ⟨some 65, none, [], .bin .neq (.t 64) (.c (.int .i64 0))⟩,
 ⟨some 66, none, [], .mov (.t 65)⟩,
 ⟨some 67, some (66, false), [], .mov (.t 16)⟩,
 ⟨some 68, some (66, false), [], .bin .neq (.t 67) (.c (.int .i64 0))⟩,
 ⟨some 69, none, [], .pick (.t 66) (.c (.bool true)) (.t 68)⟩,
 ⟨some 70, none, [], .mov (.t 69)⟩,
 ⟨some 71, some (70, false), [], .mov (.t 18)⟩,
 ⟨some 72, some (70, false), [], .bin .neq (.t 71) (.c (.int .i64 0))⟩,
 ⟨some 73, none, [], .pick (.t 70) (.c (.bool true)) (.t 72)⟩])
 (.cond (.t 73)
 (.seq (.reg false [8] [] [⟨some 8, none, [], .mov (.c (.bool false))⟩])
 (.pre [8] .ret))
 .skip))
 (.pre [3, 9, 10, 11, 12, 13, 15, 17] (.seq (.reg false [9, 10, 11, 12, 13, 15, 17, 19] [] [⟨some 74, none, [], .mov (.t 3)⟩,
 ⟨some 75, none, [], .call (.c (.fn 13 [])) [(.t 74), (.c (.int .i64 10000000))] []⟩,
 ⟨some 19, none, [], .mov (.t 75)⟩])
 (.seq (.reg false [9, 10, 11, 12, 13, 15, 17, 19, 20] [] [⟨some 76, none, [], .load (.agg 7) (.t 10)⟩,
 ⟨some 77, none, [], .mov (.t 19)⟩,
 ⟨some 78, none, [], .call (.c (.fn 17 [])) [(.t 76), (.t 77)] []⟩,
 ⟨some 20, none, [], .mov (.t 78)⟩])
 (.seq (.reg false [9, 10, 11, 12, 13, 15, 17, 19, 20, 21] [] [⟨some 79, none, [], .load (.agg 7) (.t 11)⟩,
 ⟨some 80, none, [], .mov (.t 19)⟩,
 ⟨some 81, none, [], .call (.c (.fn 17 [])) [(.t 79), (.t 80)] []⟩,
 ⟨some 21, none, [], .mov (.t 81)⟩])
 (.seq (.seq (.reg false [9, 10, 11, 12, 13, 17, 106] [] [⟨some 82, none, [], .load (.agg 7) (.t 13)⟩,
 ⟨some 83, none, [], .mov (.t 19)⟩,
 ⟨some 84, none, [], .call (.c (.fn 17 [])) [(.t 82), (.t 83)] []⟩,
 ⟨some 85, none, [], .mov (.t 20)⟩,
 ⟨some 86, none, [], .mov (.t 85)⟩,
 ⟨some 87, some (86, true), [], .mov (.t 21)⟩,
 ⟨some 88, none, [], .pick (.t 86) (.t 87) (.c (.bool false))⟩,
 ⟨some 89, none, [], .eqv true [] (.t 84) (.t 88)⟩,
 ⟨some 90, none, [], .mov (.t 89)⟩,
 ⟨some 91, some (90, false), [], .load (.agg 7) (.t 15)⟩,
 ⟨some 92, some (90, false), [], .mov (.t 19)⟩,
 ⟨some 93, some (90, false), [], .call (.c (.fn 17 [])) [(.t 91), (.t 92)] []⟩,
 ⟨some 94, some (90, false), [], .mov (.t 20)⟩,
 ⟨some 95, some (90, false), [], .mov (.t 94)⟩,
 ⟨some 96, some (95, false), [], .mov (.t 21)⟩,
 ⟨some 97, some (90, false), [], .pick (.t 95) (.c (.bool true)) (.t 96)⟩,
 ⟨some 98, some (90, false), [], .eqv true [] (.t 93) (.t 97)⟩,
 ⟨some 99, none, [], .pick (.t 90) (.c (.bool true)) (.t 98)⟩,
 ⟨some 100, none, [], .mov (.t 99)⟩,
 ⟨some 101, some (100, false), [], .load (.agg 7) (.t 17)⟩,
 ⟨some 102, some (100, false), [], .mov (.t 19)⟩,
 ⟨some 103, some (100, false), [], .call (.c (.fn 17 [])) [(.t 101), (.t 102)] []⟩,
 ⟨some 104, some (100, false), [], .mov (.t 20)⟩,
 ⟨some 105, some (100, false), [], .eqv false [] (.t 103) (.t 104)⟩,
 ⟨some 106, none, [], .pick (.t 100) (.c (.bool true)) (.t 105)⟩])
 (.cond (.t 106)
 (.seq (.reg false [8] [] [⟨some 8, none, [], .mov (.c (.bool false))⟩])
 (.pre [8] .ret))
 .skip))
 (.pre [9, 10, 11, 12, 13, 17] (.seq (.reg false [9, 10, 11, 12, 13, 17, 22, 23] [] [⟨some 108, none, [], .load (.agg 7) (.t 11)⟩,
 ⟨some 109, none, [], .load (.agg 7) (.t 12)⟩,
 ⟨some 110, none, [], .call (.c (.fn 21 [])) [(.t 108), (.t 109)] []⟩,
 ⟨some 107, none, [], .mov (.t 110)⟩,
 ⟨some 111, none, [], .ext (.t 107) 0⟩,
 ⟨some 112, none, [], .ext (.t 107) 1⟩,
 ⟨some 22, none, [], .alloc 7 [.int .i64 0, .int .i64 0, .int .i64 0, .int .i64 0, .int .i64 0, .int .i64 0, .int .i64 0]⟩,
 ⟨none, none, [], .store 7 (.t 22) (.t 111)⟩,
 ⟨some 23, none, [], .mov (.t 112)⟩])
 (.seq (.reg false [9, 10, 11, 12, 13, 17, 23, 24, 25] [] [⟨some 114, none, [], .load (.agg 7) (.t 10)⟩,
 ⟨some 115, none, [], .load (.agg 7) (.t 22)⟩,
 ⟨some 116, none, [], .call (.c (.fn 20 [])) [(.t 114), (.t 115)] []⟩,
 ⟨some 113, none, [], .mov (.t 116)⟩,
 ⟨some 117, none, [], .ext (.t 113) 0⟩,
 ⟨some 118, none, [], .ext (.t 113) 1⟩,
 ⟨some 24, none, [], .alloc 6 [.int .i64 0, .int .i64 0, .int .i64 0, .int .i64 0, .int .i64 0, .int .i64 0, .int .i64 0]⟩,
 ⟨none, none, [], .store 7 (.t 24) (.t 117)⟩,
 ⟨some 25, none, [], .mov (.t 118)⟩])
 (.seq (.reg false [9, 10, 11, 13, 17, 23, 24, 25, 26, 27] [] [⟨some 120, none, [], .load (.agg 7) (.t 10)⟩,
 ⟨some 121, none, [], .load (.agg 7) (.t 12)⟩,
 ⟨some 122, none, [], .call (.c (.fn 20 [])) [(.t 120), (.t 121)] []⟩,
 ⟨some 119, none, [], .mov (.t 122)⟩,
 ⟨some 123, none, [], .ext (.t 119) 0⟩,
 ⟨some 124, none, [], .ext (.t 119) 1⟩,
 ⟨some 26, none, [], .alloc 5 [.int .i64 0, .int .i64 0, .int .i64 0, .int .i64 0, .int .i64 0, .int .i64 0, .int .i64 0]⟩,
 ⟨none, none, [], .store 7 (.t 26) (.t 123)⟩,
 ⟨some 27, none, [], .mov (.t 124)⟩])
 (.seq (.reg false [9, 10, 11, 13, 17, 23, 24, 25, 27, 28, 29] [] [⟨some 126, none, [], .load (.agg 7) (.t 13)⟩,
 ⟨some 127, none, [], .load (.agg 7) (.t 26)⟩,
 ⟨some 128, none, [], .call (.c (.fn 21 [])) [(.t 126), (.t 127)] []⟩,
 ⟨some 125, none, [], .mov (.t 128)⟩,
 ⟨some 129, none, [], .ext (.t 125) 0⟩,
 ⟨some 130, none, [], .ext (.t 125) 1⟩,
 ⟨some 28, none, [], .alloc 4 [.int .i64 0, .int .i64 0, .int .i64 0, .int .i64 0, .int .i64 0, .int .i64 0, .int .i64 0]⟩,
 ⟨none, none, [], .store 7 (.t 28) (.t 129)⟩,
 ⟨some 29, none, [], .mov (.t 130)⟩])
 (.seq (.reg false [9, 10, 11, 13, 17, 23, 24, 25, 27, 28, 29, 30, 31] [] [⟨some 132, none, [], .load (.agg 7) (.t 17)⟩,
 ⟨some 133, none, [], .call (.c (.fn 18 [])) [(.t 132)] []⟩,
 ⟨some 131, none, [], .mov (.t 133)⟩,
 ⟨some 134, none, [], .ext (.t 131) 0⟩,
 ⟨some 135, none, [], .ext (.t 131) 1⟩,
 ⟨some 30, none, [], .alloc 3 [.int .i64 0, .int .i64 0, .int .i64 0, .int .i64 0, .int .i64 0, .int .i64 0, .int .i64 0]⟩,
 ⟨none, none, [], .store 7 (.t 30) (.t 134)⟩,
 ⟨some 31, none, [], .mov (.t 135)⟩])
 (.seq (.reg false [9, 10, 11, 17, 23, 24, 25, 27, 28, 29, 30, 31, 32, 33] [] [⟨some 137, none, [], .load (.agg 7) (.t 13)⟩,
 ⟨some 138, none, [], .call (.c (.fn 18 [])) [(.t 137)] []⟩,
 ⟨some 136, none, [], .mov (.t 138)⟩,
 ⟨some 139, none, [], .ext (.t 136) 0⟩,
 ⟨some 140, none, [], .ext (.t 136) 1⟩,
 ⟨some 32, none, [], .alloc 2 [.int .i64 0, .int .i64 0, .int .i64 0, .int .i64 0, .int .i64 0, .int .i64 0, .int .i64 0]⟩,
 ⟨none, none, [], .store 7 (.t 32) (.t 139)⟩,
 ⟨some 33, none, [], .mov (.t 140)⟩])
 (.seq (.reg false [9, 10, 17, 23, 24, 25, 27, 28, 29, 30, 31, 32, 33, 34, 35] [] [⟨some 142, none, [], .load (.agg 7) (.t 11)⟩,
 ⟨some 143, none, [], .call (.c (.fn 18 [])) [(.t 142)] []⟩,
 ⟨some 141, none, [], .mov (.t 143)⟩,
 ⟨some 144, none, [], .ext (.t 141) 0⟩,
 ⟨some 145, none, [], .ext (.t 141) 1⟩,
 ⟨some 34, none, [], .alloc 1 [.int .i64 0, .int .i64 0, .int .i64 0, .int .i64 0, .int .i64 0, .int .i64 0, .int .i64 0]⟩,
 ⟨none, none, [], .store 7 (.t 34) (.t 144)⟩,
 ⟨some 35, none, [], .mov (.t 145)⟩])
 (.seq (.reg false [9, 10, 23, 24, 25, 27, 28, 29, 30, 31, 32, 33, 35, 36, 37] [] [⟨some 147, none, [], .load (.agg 7) (.t 17)⟩,
 ⟨some 148, none, [], .load (.agg 7) (.t 34)⟩,
 ⟨some 149, none, [], .call (.c (.fn 21 [])) [(.t 147), (.t 148)] []⟩,
 ⟨some 146, none, [], .mov (.t 149)⟩,
 ⟨some 150, none, [], .ext (.t 146) 0⟩,
 ⟨some 151, none, [], .ext (.t 146) 1⟩,
 ⟨some 36, none, [], .alloc 0 [.int .i64 0, .int .i64 0, .int .i64 0, .int .i64 0, .int .i64 0, .int .i64 0, .int .i64 0]⟩,
 ⟨none, none, [], .store 7 (.t 36) (.t 150)⟩,
 ⟨some 37, none, [], .mov (.t 151)⟩])
 (.seq (.seq (.reg false [9, 10, 24, 28, 30, 32, 36, 181] [] [⟨some 152, none, [], .mov (.t 23)⟩,
 ⟨some 153, none, [], .bin .neq (.t 152) (.c (.int .i64 0))⟩,
 ⟨some 154, none, [], .mov (.t 153)⟩,
 ⟨some 155, some (154, false), [], .mov (.t 25)⟩,
 ⟨some 156, some (154, false), [], .bin .neq (.t 155) (.c (.int .i64 0))⟩,
 ⟨some 157, none, [], .pick (.t 154) (.c (.bool true)) (.t 156)⟩,
 ⟨some 158, none, [], .mov (.t 157)⟩,
 ⟨some 159, some (158, false), [], .mov (.t 27)⟩,
 ⟨some 160, some (158, false), [], .bin .neq (.t 159) (.c (.int .i64 0))⟩,
 ⟨some 161, none, [], .pick (.t 158) (.c (.bool true)) (.t 160)⟩,
 ⟨some 162, none, [], .mov (.t 161)⟩,
 ⟨some 163, some (162, false), [], .mov (.t 29)⟩,
 ⟨some 164, some (162, false), [], .bin .neq (.t 163) (.c (.int .i64 0))⟩,
 ⟨some 165, none, [], .pick (.t 162) (.c (.bool true)) (.t 164)⟩,
 ⟨some 166, none, [], .mov (.t 165)⟩,
 ⟨some 167, some (166, false), [], .mov (.t 31)⟩,
 ⟨some 168, some (166, false), [], .bin .neq (.t 167) (.c (.int .i64 0))⟩,
 ⟨some 169, none, [], .pick (.t 166) (.c (.bool true)) (.t 168)⟩,
 ⟨some 170, none, [], .mov (.t 169)⟩,
 ⟨some 171, some (170, false), [], .mov (.t 33)⟩,
 ⟨some 172, some (170, false), [], .bin .neq (.t 171) (.c (.int .i64 0))⟩,
 ⟨some 173, none, [], .pick (.t 170) (.c (.bool true)) (.t 172)⟩,
 ⟨some 174, none, [], .mov (.t 173)⟩,
 ⟨some 175, some (174, false), [], .mov (.t 35)⟩,
 ⟨some 176, some (174, false), [], .bin .neq (.t 175) (.c (.int .i64 0))⟩,
 ⟨some 177, none, [], .pick (.t 174) (.c (.bool true)) (.t 176)⟩,
 ⟨some 178, none, [], .mov (.t 177)⟩,
 ⟨some 179, some (178, false), [], .mov (.t 37)⟩,
 ⟨some 180, some (178, false), [], .bin .neq (.t 179) (.c (.int .i64 0))⟩,
 ⟨some 181, none, [], .pick (.t 178) (.c (.bool true)) (.t 180)⟩])
 (.cond (.t 181)
 (.seq (.reg false [8] [] [⟨some 8, none, [], .mov (.c (.bool false))⟩])
 (.pre [8] .ret))
 .skip))
 (.pre [9, 10, 24, 28, 30, 32, 36] (.seq (.reg false [8] [] [⟨some 182, none, [], .mov (.t 9)⟩,
 ⟨some 183, none, [], .mov (.t 182)⟩,
 ⟨some 184, some (183, true), [], .load (.agg 7) (.t 24)⟩,
 ⟨some 185, some (183, true), [], .load (.agg 7) (.t 28)⟩,
 ⟨some 186, some (183, true), [], .eqv false [.i .i64, .i .i64, .i .i64, .i .i64, .i .i64, .i .i64, .i .i64] (.t 184) (.t 185)⟩,
 ⟨some 187, none, [], .pick (.t 183) (.t 186) (.c (.bool false))⟩,
 ⟨some 188, none, [], .mov (.t 187)⟩,
 ⟨some 189, some (188, true), [], .load (.agg 7) (.t 30)⟩,
 ⟨some 190, some (188, true), [], .load (.agg 7) (.t 10)⟩,
 ⟨some 191, some (188, true), [], .eqv false [.i .i64, .i .i64, .i .i64, .i .i64, .i .i64, .i .i64, .i .i64] (.t 189) (.t 190)⟩,
 ⟨some 192, none, [], .pick (.t 188) (.t 191) (.c (.bool false))⟩,
 ⟨some 193, none, [], .mov (.t 192)⟩,
 ⟨some 194, some (193, true), [], .load (.agg 7) (.t 32)⟩,
 ⟨some 195, some (193, true), [], .load (.agg 7) (.t 36)⟩,
 ⟨some 196, some (193, true), [], .eqv false [.i .i64, .i .i64, .i .i64, .i .i64, .i .i64, .i .i64, .i .i64] (.t 194) (.t 195)⟩,
 ⟨some 197, none, [], .pick (.t 193) (.t 196) (.c (.bool false))⟩,
 ⟨some 8, none, [], .mov (.t 197)⟩])
 (.pre [8] .ret))))))))))))))))))))))))))))) }

/-- "aircheck/airchecklaw06.sane" -/
def x9 : XFn := { np := 0, isOpen := false, ns := 5, res := [.tmp 0], code :=
  (.seq (.reg false [] [] [⟨some 0, none, [], .mov (.c (.bool false))⟩])
 (.seq (.reg false [1] [] [⟨some 26, none, [], .build [.int .i64 0, .int .i64 0, .int .i64 0, .int .i64 0, .int .i64 0, .int .i64 0, .int .i64 0] [(0, 1, (.c (.int .i64 787392))), (1, 1, (.c (.int .i64 787392))), (2, 1, (.c (.int .i64 787392))), (3, 1, (.c (.int .i64 787392))), (4, 1, (.c (.int .i64 787392))), (5, 1, (.c (.int .i64 3840))), (6, 1, (.c (.int .i64 0)))]⟩,
 ⟨some 1, none, [], .alloc 4 [.int .i64 0, .int .i64 0, .int .i64 0, .int .i64 0, .int .i64 0, .int .i64 0, .int .i64 0]⟩,
 ⟨none, none, [], .store 7 (.t 1) (.t 26)⟩])
 (.seq (.reg false [1, 2, 3] [] [⟨some 28, none, [], .load (.agg 7) (.t 1)⟩,
 ⟨some 29, none, [], .call (.c (.fn 11 [])) [(.t 28)] []⟩,
 ⟨some 27, none, [], .mov (.t 29)⟩,
 ⟨some 30, none, [], .ext (.t 27) 0⟩,
 ⟨some 31, none, [], .ext (.t 27) 1⟩,
 ⟨some 2, none, [], .mov (.t 30)⟩,
 ⟨some 3, none, [], .mov (.t 31)⟩])
 (.seq (.reg false [1, 2, 3, 4, 5, 6] [] [⟨some 33, none, [], .call (.c (.fn 12 [])) [(.c (.str [109, 111, 110, 45, 102, 114, 105, 32, 54, 45, 49, 48, 32, 49, 56, 45, 50, 48, 59, 32, 115, 97, 116, 32, 56, 45, 49, 50]))] []⟩,
 ⟨some 32, none, [], .mov (.t 33)⟩,
 ⟨some 34, none, [], .ext (.t 32) 0⟩,
 ⟨some 35, none, [], .ext (.t 32) 1⟩,
 ⟨some 36, none, [], .ext (.t 32) 2⟩,
 ⟨some 4, none, [], .alloc 3 [.int .i64 0, .int .i64 0, .int .i64 0, .int .i64 0, .int .i64 0, .int .i64 0, .int .i64 0]⟩,
 ⟨none, none, [], .store 7 (.t 4) (.t 34)⟩,
 ⟨some 5, none, [], .mov (.t 35)⟩,
 ⟨some 6, none, [], .mov (.t 36)⟩])
 (.seq (.reg false [1, 2, 3, 4, 5, 6, 8, 9] [] [⟨some 38, none, [], .call (.c (.fn 12 [])) [(.c (.str [109, 111, 110, 32, 54, 45, 49, 48, 59, 32, 116, 117, 101, 32, 54, 45, 49, 48]))] []⟩,
 ⟨some 37, none, [], .mov (.t 38)⟩,
 ⟨some 39, none, [], .ext (.t 37) 0⟩,
 ⟨some 40, none, [], .ext (.t 37) 1⟩,
 ⟨some 41, none, [], .ext (.t 37) 2⟩,
 ⟨some 7, none, [], .alloc 2 [.int .i64 0, .int .i64 0, .int .i64 0, .int .i64 0, .int .i64 0, .int .i64 0, .int .i64 0]⟩,
 ⟨none, none, [], .store 7 (.t 7) (.t 39)⟩,
 ⟨some 8, none, [], .mov (.t 40)⟩,
 ⟨some 9, none, [], .mov (.t 41)⟩])
 (.seq (.reg false [1, 2, 3, 4, 5, 6, 8, 9, 11, 12] [] [⟨some 43, none, [], .call (.c (.fn 12 [])) [(.c (.str [109, 111, 110, 32, 54, 45, 56, 32, 56, 45, 49, 48]))] []⟩,
 ⟨some 42, none, [], .mov (.t 43)⟩,
 ⟨some 44, none, [], .ext (.t 42) 0⟩,
 ⟨some 45, none, [], .ext (.t 42) 1⟩,
 ⟨some 46, none, [], .ext (.t 42) 2⟩,
 ⟨some 10, none, [], .alloc 1 [.int .i64 0, .int .i64 0, .int .i64 0, .int .i64 0, .int .i64 0, .int .i64 0, .int .i64 0]⟩,
 ⟨none, none, [], .store 7 (.t 10) (.t 44)⟩,
 ⟨some 11, none, [], .mov (.t 45)⟩,
 ⟨some 12, none, [], .mov (.t 46)⟩])
 (.seq (.reg false [1, 2, 3, 4, 5, 6, 8, 9, 11, 12, 13, 14] [] [⟨some 48, none, [], .load (.agg 7) (.t 1)⟩,
 ⟨some 49, none, [], .call (.c (.fn 19 [])) [(.t 48), (.c (.int .i64 36000))] []⟩,
 ⟨some 47, none, [], .mov (.t 49)⟩,
 ⟨some 50, none, [], .ext (.t 47) 0⟩,
 ⟨some 51, none, [], .ext (.t 47) 1⟩,
 ⟨some 13, none, [], .mov (.t 50)⟩,
 ⟨some 14, none, [], .mov (.t 51)⟩])
 (.seq (.reg false [1, 2, 3, 4, 5, 6, 8, 9, 11, 12, 13, 14, 15, 16] [] [⟨some 53, none, [], .load (.agg 7) (.t 1)⟩,
 ⟨some 54, none, [], .call (.c (.fn 19 [])) [(.t 53), (.c (.int .i64 417600))] []⟩,
 ⟨some 52, none, [], .mov (.t 54)⟩,
 ⟨some 55, none, [], .ext (.t 52) 0⟩,
 ⟨some 56, none, [], .ext (.t 52) 1⟩,
 ⟨some 15, none, [], .mov (.t 55)⟩,
 ⟨some 16, none, [], .mov (.t 56)⟩])
 (.seq (.reg false [1, 2, 3, 4, 5, 6, 8, 9, 11, 12, 13, 14, 15, 16, 18] [] [⟨some 58, none, [], .build [.int .i64 0, .int .i64 0, .int .i64 0, .int .i64 0, .int .i64 0, .int .i64 0, .int .i64 0] []⟩,
 ⟨some 59, none, [], .call (.c (.fn 19 [])) [(.t 58), (.c (.int .i64 0))] []⟩,
 ⟨some 57, none, [], .mov (.t 59)⟩,
 ⟨some 60, none, [], .ext (.t 57) 0⟩,
 ⟨some 61, none, [], .ext (.t 57) 1⟩,
 ⟨some 17, none, [], .mov (.t 60)⟩,
 ⟨some 18, none, [], .mov (.t 61)⟩])
 (.seq (.reg false [1, 2, 3, 4, 5, 6, 8, 9, 11, 12, 13, 14, 15, 16, 18, 19, 20] [] [⟨some 63, none, [], .load (.agg 7) (.t 1)⟩,
 ⟨some 64, none, [], .build [.int .i64 0, .int .i64 0] [(0, 1, (.c (.int .i64 30000))), (1, 1, (.c (.int .i64 70000)))]⟩,
 ⟨some 65, none, [], .call (.c (.fn 15 [])) [(.t 63), (.t 64)] []⟩,
 ⟨some 62, none, [], .mov (.t 65)⟩,
 ⟨some 66, none, [], .ext (.t 62) 0⟩,
 ⟨some 67, none, [], .ext (.t 62) 1⟩,
 ⟨some 19, none, [], .mov (.t 66)⟩,
 ⟨some 20, none, [], .mov (.t 67)⟩])
 (.seq (.reg false [1, 2, 3, 4, 5, 6, 8, 9, 11, 12, 13, 14, 15, 16, 18, 19, 20, 21, 22] [] [⟨some 69, none, [], .load (.agg 7) (.t 1)⟩,
 ⟨some 70, none, [], .build [.int .i64 0, .int .i64 0] [(1, 1, (.c (.int .i64 604800)))]⟩,
 ⟨some 71, none, [], .call (.c (.fn 16 [])) [(.t 69), (.t 70)] []⟩,
 ⟨some 68, none, [], .mov (.t 71)⟩,
 ⟨some 72, none, [], .ext (.t 68) 0⟩,
 ⟨some 73, none, [], .ext (.t 68) 1⟩,
 ⟨some 21, none, [], .mov (.t 72)⟩,
 ⟨some 22, none, [], .mov (.t 73)⟩])
 (.seq (.reg false [1, 2, 3, 4, 5, 6, 8, 9, 11, 12, 13, 14, 15, 16, 18, 19, 20, 21, 22, 24] [] [⟨some 75, none, [], .build [.int .i64 0, .int .i64 0, .int .i64 0, .int .i64 0, .int .i64 0, .int .i64 0, .int .i64 0] [(0, 1, (.c (.int .i64 (-1))))]⟩,
 ⟨some 76, none, [], .call (.c (.fn 18 [])) [(.t 75)] []⟩,
 ⟨some 74, none, [], .mov (.t 76)⟩,
 ⟨some 77, none, [], .ext (.t 74) 0⟩,
 ⟨some 78, none, [], .ext (.t 74) 1⟩,
 ⟨some 23, none, [], .alloc 0 [.int .i64 0, .int .i64 0, .int .i64 0, .int .i64 0, .int .i64 0, .int .i64 0, .int .i64 0]⟩,
 ⟨none, none, [], .store 7 (.t 23) (.t 77)⟩,
 ⟨some 24, none, [], .mov (.t 78)⟩])
 (.seq (.seq (.reg false [1, 2, 4, 5, 8, 11, 13, 15, 19, 21, 115] [] [⟨some 79, none, [], .mov (.t 3)⟩,
 ⟨some 80, none, [], .bin .neq (.t 79) (.c (.int .i64 0))⟩,
 ⟨some 81, none, [], .mov (.t 80)⟩,
 ⟨some 82, some (81, false), [], .mov (.t 6)⟩,
 ⟨some 83, some (81, false), [], .bin .neq (.t 82) (.c (.int .i64 0))⟩,
 ⟨some 84, none, [], .pick (.t 81) (.c (.bool true)) (.t 83)⟩,
 ⟨some 85, none, [], .mov (.t 84)⟩,
 ⟨some 86, some (85, false), [], .mov (.t 9)⟩,
 ⟨some 87, some (85, false), [], .bin .neq (.t 86) (.c (.int .i64 60))⟩,
 ⟨some 88, none, [], .pick (.t 85) (.c (.bool true)) (.t 87)⟩,
 ⟨some 89, none, [], .mov (.t 88)⟩,
 ⟨some 90, some (89, false), [], .mov (.t 12)⟩,
 ⟨some 91, some (89, false), [], .bin .neq (.t 90) (.c (.int .i64 60))⟩,
 ⟨some 92, none, [], .pick (.t 89) (.c (.bool true)) (.t 91)⟩,
 ⟨some 93, none, [], .mov (.t 92)⟩,
 ⟨some 94, some (93, false), [], .mov (.t 20)⟩,
 ⟨some 95, some (93, false), [], .bin .neq (.t 94) (.c (.int .i64 0))⟩,
 ⟨some 96, none, [], .pick (.t 93) (.c (.bool true)) (.t 95)⟩,
 ⟨some 97, none, [], .mov (.t 96)⟩,
 ⟨some 98, some (97, false), [], .mov (.t 22)⟩,
 ⟨some 99, some (97, false), [], .bin .neq (.t 98) (.c (.int .i64 0))⟩,
 ⟨some 100, none, [], .pick (.t 97) (.c (.bool true)) (.t 99)⟩,
 ⟨some 101, none, [], .mov (.t 100)⟩,
 ⟨some 102, some (101, false), [], .mov (.t 24)⟩,
 ⟨some 103, some (101, false), [], .bin .neq (.t 102) (.c (.int .i64 60))⟩,
 ⟨some 104, none, [], .pick (.t 101) (.c (.bool true)) (.t 103)⟩,
 ⟨some 105, none, [], .mov (.t 104)⟩,
 ⟨some 106, some (105, false), [], .mov (.t 14)⟩,
 ⟨some 107, some (105, false), [], .un .not (.t 106)⟩,
 ⟨some 108, none, [], .pick (.t 105) (.c (.bool true)) (.t 107)⟩,
 ⟨some 109, none, [], .mov (.t 108)⟩,
 ⟨some 110, some (109, false), [], .mov (.t 16)⟩,
 ⟨some 111, some (109, false), [], .un .not (.t 110)⟩,
 ⟨some 112, none, [], .pick (.t 109) (.c (.bool true)) (.t 111)⟩,
 ⟨some 113, none, [], .mov (.t 112)⟩,
 ⟨some 114, some (113, false), [], .mov (.t 18)⟩,
 ⟨some 115, none, [], .pick (.t 113) (.c (.bool true)) (.t 114)⟩])
 (.cond (.t 115)
 (.seq (.reg false [0] [] [⟨some 0, none, [], .mov (.c (.bool false))⟩])
 (.pre [0] .ret))
 .skip))
 (.pre [1, 2, 4, 5, 8, 11, 13, 15, 19, 21] (.seq (.reg false [1, 13, 15, 19, 21, 25] [] [⟨some 116, none, [], .mov (.t 2)⟩,
 ⟨some 117, none, [], .bin .eql (.t 116) (.c (.str [109, 111, 110, 45, 102, 114, 105, 32, 54, 45, 49, 48, 32, 49, 56, 45, 50, 48, 59, 32, 115, 97, 116, 32, 56, 45, 49, 50]))⟩,
 ⟨some 118, none, [], .mov (.t 117)⟩,
 ⟨some 119, some (118, true), [], .load (.agg 7) (.t 4)⟩,
 ⟨some 120, some (118, true), [], .load (.agg 7) (.t 1)⟩,
 ⟨some 121, some (118, true), [], .eqv false [.i .i64, .i .i64, .i .i64, .i .i64, .i .i64, .i .i64, .i .i64] (.t 119) (.t 120)⟩,
 ⟨some 122, none, [], .pick (.t 118) (.t 121) (.c (.bool false))⟩,
 ⟨some 123, none, [], .mov (.t 122)⟩,
 ⟨some 124, some (123, true), [], .mov (.t 5)⟩,
 ⟨some 125, some (123, true), [], .bin .eql (.t 124) (.c (.int .i64 2))⟩,
 ⟨some 126, none, [], .pick (.t 123) (.t 125) (.c (.bool false))⟩,
 ⟨some 127, none, [], .mov (.t 126)⟩,
 ⟨some 128, some (127, true), [], .mov (.t 8)⟩,
 ⟨some 129, some (127, true), [], .bin .eql (.t 128) (.c (.int .i64 1))⟩,
 ⟨some 130, none, [], .pick (.t 127) (.t 129) (.c (.bool false))⟩,
 ⟨some 131, none, [], .mov (.t 130)⟩,
 ⟨some 132, some (131, true), [], .mov (.t 11)⟩,
 ⟨some 133, some (131, true), [], .bin .eql (.t 132) (.c (.int .i64 0))⟩,
 ⟨some 134, none, [], .pick (.t 131) (.t 133) (.c (.bool false))⟩,
 ⟨some 25, none, [], .mov (.t 134)⟩])
 (.seq (.reg false [0] [] [⟨some 135, none, [], .mov (.t 25)⟩,
 ⟨some 136, none, [], .mov (.t 135)⟩,
 ⟨some 137, some (136, true), [], .mov (.t 13)⟩,
 ⟨some 138, some (136, true), [], .bin .eql (.t 137) (.c (.int .i64 64800))⟩,
 ⟨some 139, none, [], .pick (.t 136) (.t 138) (.c (.bool false))⟩,
 ⟨some 140, none, [], .mov (.t 139)⟩,
 ⟨some 141, some (140, true), [], .mov (.t 15)⟩,
 ⟨some 142, some (140, true), [], .bin .eql (.t 141) (.c (.int .i64 460800))⟩,
 ⟨some 143, none, [], .pick (.t 140) (.t 142) (.c (.bool false))⟩,
 ⟨some 144, none, [], .mov (.t 143)⟩,
 ⟨some 145, some (144, true), [], .mov (.t 21)⟩,
 ⟨some 146, some (144, true), [], .bin .eql (.t 145) (.c (.int .i64 122400))⟩,
 ⟨some 147, none, [], .pick (.t 144) (.t 146) (.c (.bool false))⟩,
 ⟨some 148, none, [], .mov (.t 147)⟩,
 ⟨some 149, some (148, true), [], .load (.agg 7) (.t 1)⟩,
 ⟨some 150, some (148, true), [], .call (.c (.fn 22 [])) [(.t 149)] []⟩,
 ⟨some 151, none, [], .pick (.t 148) (.t 150) (.c (.bool false))⟩,
 ⟨some 152, none, [], .mov (.t 151)⟩,
 ⟨some 153, some (152, true), [], .load (.agg 7) (.t 1)⟩,
 ⟨some 154, some (152, true), [], .call (.c (.fn 17 [])) [(.t 153), (.c (.int .i64 21600))] []⟩,
 ⟨some 155, none, [], .pick (.t 152) (.t 154) (.c (.bool false))⟩,
 ⟨some 156, none, [], .mov (.t 155)⟩,
 ⟨some 157, some (156, true), [], .load (.agg 7) (.t 1)⟩,
 ⟨some 158, some (156, true), [], .call (.c (.fn 17 [])) [(.t 157), (.c (.int .i64 36000))] []⟩,
 ⟨some 159, some (156, true), [], .un .not (.t 158)⟩,
 ⟨some 160, none, [], .pick (.t 156) (.t 159) (.c (.bool false))⟩,
 ⟨some 161, none, [], .mov (.t 160)⟩,
 ⟨some 162, some (161, true), [], .mov (.t 19)⟩,
 ⟨some 163, some (161, true), [], .build [.int .i64 0, .int .i64 0] [(0, 1, (.c (.int .i64 30000))), (1, 1, (.c (.int .i64 36000)))]⟩,
 ⟨some 164, some (161, true), [], .build [.int .i64 0, .int .i64 0] [(0, 1, (.c (.int .i64 64800))), (1, 1, (.c (.int .i64 70000)))]⟩,
 ⟨some 165, some (161, true), [], .bslice 2 (.agg [.int .i64 0, .int .i64 0]) 2 [(0, (.t 163)), (1, (.t 164))]⟩,
 ⟨some 166, some (161, true), [], .call (.c (.fn 23 [])) [(.t 162), (.t 165)] []⟩,
 ⟨some 167, none, [], .pick (.t 161) (.t 166) (.c (.bool false))⟩,
 ⟨some 0, none, [], .mov (.t 167)⟩])
 (.pre [0] .ret))))))))))))))))) }

@[go_sem] def c10_0 : XC := (.pre [1, 2, 3, 4]
  (.seq (.seq (.reg false [1, 2, 3, 4, 6] [] [⟨some 5, none, [], .mov (.t 4)⟩,
 ⟨some 6, none, [], .bin .lss (.t 5) (.c (.int .i64 7))⟩])
 (.cond (.t 6)
 .skip
 (.pre [2, 3] (.exit 0))))
 (.pre [1, 2, 3, 4] (.seq (.blk 1
 (.seq (.reg false [1, 2, 3, 4] [] [⟨some 9, none, [], .mov (.t 4)⟩,
 ⟨some 10, none, [], .mov (.t 4)⟩,
 ⟨some 11, none, [], .ixA 7 1 (.t 1) (.t 10)⟩,
 ⟨some 12, none, [], .load .one (.t 11)⟩,
 ⟨some 13, none, [], .call (.c (.fn 24 [])) [(.t 12), (.c (.int .i64 16777216))] []⟩,
 ⟨some 14, none, [], .ixA 7 1 (.t 3) (.t 9)⟩,
 ⟨none, none, [], .store 1 (.t 14) (.t 13)⟩])
 (.seq (.reg false [1, 2, 3, 4, 23] [] [⟨some 15, none, [], .mov (.t 4)⟩,
 ⟨some 16, none, [], .ixA 7 1 (.t 1) (.t 15)⟩,
 ⟨some 17, none, [], .load .one (.t 16)⟩,
 ⟨some 18, none, [], .call (.c (.fn 24 [])) [(.t 17), (.c (.int .i64 5))] []⟩,
 ⟨some 19, none, [], .bin .eql (.t 18) (.c (.int .i64 0))⟩,
 ⟨some 20, none, [], .mov (.t 19)⟩,
 ⟨some 21, some (20, true), [], .mov (.t 4)⟩,
 ⟨some 22, some (20, true), [], .bin .gtr (.t 21) (.c (.int .i64 0))⟩,
 ⟨some 23, none, [], .pick (.t 20) (.t 22) (.c (.bool false))⟩])
 (.cond (.t 23)
 (.reg false [1, 2, 3, 4] [] [⟨some 24, none, [], .mov (.t 4)⟩,
 ⟨some 25, none, [], .mov (.t 4)⟩,
 ⟨some 26, none, [], .bin .sub (.t 25) (.c (.int .i64 1))⟩,
 ⟨some 27, none, [], .minmax true [(.t 26), (.c (.int .i64 0))]⟩,
 ⟨some 28, none, [], .ixA 7 1 (.t 3) (.t 27)⟩,
 ⟨some 29, none, [], .load .one (.t 28)⟩,
 ⟨some 30, none, [], .ixA 7 1 (.t 3) (.t 24)⟩,
 ⟨none, none, [], .store 1 (.t 30) (.t 29)⟩])
 (.seq (.reg false [1, 2, 3, 4, 35] [] [⟨some 31, none, [], .mov (.t 4)⟩,
 ⟨some 32, none, [], .ixA 7 1 (.t 1) (.t 31)⟩,
 ⟨some 33, none, [], .load .one (.t 32)⟩,
 ⟨some 34, none, [], .call (.c (.fn 24 [])) [(.t 33), (.c (.int .i64 7))] []⟩,
 ⟨some 35, none, [], .bin .eql (.t 34) (.c (.int .i64 0))⟩])
 (.cond (.t 35)
 (.reg false [1, 2, 3, 4] [] [⟨some 36, none, [], .mov (.t 4)⟩,
 ⟨some 37, none, [], .ixA 7 1 (.t 3) (.t 36)⟩,
 ⟨none, none, [], .store 1 (.t 37) (.c (.int .i64 0))⟩])
 .skip))))))
 (.pre [1, 2, 3, 4] (.reg false [1, 2, 3, 4] [] [⟨some 7, none, [], .mov (.t 4)⟩,
 ⟨some 8, none, [], .bin .add (.t 7) (.c (.int .i64 1))⟩,
 ⟨some 4, none, [], .mov (.t 8)⟩]))))))
def b10_0 : XC := c10_0
@[go_sem] theorem e10_0 (L : Lib) (cx : Cx) (env : Env) (h : Heap) : runC L cx b10_0 (env, h) = runC L cx c10_0 (env, h) := rfl

/-- "aircheck/aircheckref06.Made" -/
def x10 : XFn := { np := 1, isOpen := false, ns := 2, res := [.cell 2 (.agg 7)], code :=
  (.seq (.reg false [1, 2] [] [⟨some 1, none, [], .boxR (.t 0)⟩,
 ⟨some 2, none, [], .alloc 1 [.int .i64 0, .int .i64 0, .int .i64 0, .int .i64 0, .int .i64 0, .int .i64 0, .int .i64 0]⟩])
 (.seq (.reg false [1, 2, 3] [] [⟨some 3, none, [], .alloc 0 [.int .i64 0, .int .i64 0, .int .i64 0, .int .i64 0, .int .i64 0, .int .i64 0, .int .i64 0]⟩])
 (.seq (.seq (.reg false [1, 2, 3, 4] [] [⟨some 4, none, [], .mov (.c (.int .i64 0))⟩])
 (.blk 0
 (.loop b10_0)))
 (.pre [2, 3] (.seq (.reg false [2] [] [⟨some 38, none, [], .load (.agg 7) (.t 3)⟩,
 ⟨none, none, [], .store 7 (.t 2) (.t 38)⟩])
 (.pre [2] .ret)))))) }

@[go_sem] def c11_0 : XC := (.pre [4, 7, 28, 29]
  (.seq (.reg false [4, 7, 28, 29, 30] [] [⟨some 30, none, [], .bin .lss (.t 29) (.c (.int .i64 7))⟩])
 (.seq (.cond (.t 30)
 .skip
 (.pre [7] (.exit 2)))
 (.pre [4, 7, 28, 29] (.seq (.blk 3
 (.seq (.reg false [4, 7, 9, 28, 29] [] [⟨some 31, none, [], .ixV 7 1 .one (.t 28) (.t 29)⟩,
 ⟨some 9, none, [], .mov (.t 31)⟩])
 (.seq (.reg false [4, 7, 9, 10, 28, 29] [] [⟨some 32, none, [], .mov (.t 4)⟩,
 ⟨some 33, none, [], .mov (.t 9)⟩,
 ⟨some 34, none, [], .mget (.int .i64 0) false (.t 32) (.t 33)⟩,
 ⟨some 10, none, [], .mov (.t 34)⟩])
 (.seq (.reg false [4, 7, 9, 10, 28, 29, 36] [] [⟨some 35, none, [], .mov (.t 10)⟩,
 ⟨some 36, none, [], .bin .neq (.t 35) (.c (.int .i64 0))⟩])
 (.cond (.t 36)
 (.seq (.reg false [4, 7, 9, 28, 29] [] [⟨some 37, none, [], .mov (.t 7)⟩,
 ⟨some 38, none, [], .mov (.t 10)⟩,
 ⟨some 39, none, [], .mov (.t 9)⟩,
 ⟨some 40, none, [], .call (.c (.fn 25 [])) [(.t 38), (.t 39)] []⟩,
 ⟨some 41, none, [], .bslice 1 (.str []) 1 [(0, (.t 40))]⟩,
 ⟨some 42, none, [], .app 0 1 8796093022208 (.t 37) (.t 41)⟩,
 ⟨some 7, none, [], .mov (.t 42)⟩])
 (.reg false [4, 7, 28, 29] [] [⟨some 43, none, [], .mov (.t 4)⟩,
 ⟨some 44, none, [], .mov (.t 9)⟩,
 ⟨none, none, [], .mdel (.t 43) (.t 44)⟩]))
 .skip)))))
 (.pre [4, 7, 28, 29] (.reg false [4, 7, 28, 29] [] [⟨some 45, none, [], .bin .add (.t 29) (.c (.int .i64 1))⟩,
 ⟨some 29, none, [], .mov (.t 45)⟩])))))))
def b11_0 : XC := c11_0
@[go_sem] theorem e11_0 (L : Lib) (cx : Cx) (env : Env) (h : Heap) : runC L cx b11_0 (env, h) = runC L cx c11_0 (env, h) := rfl

@[go_sem] def c11_1 : XC := (.pre [1, 4, 15, 16]
  (.seq (.reg false [1, 4, 15, 16, 17] [] [⟨some 17, none, [], .bin .lss (.t 16) (.c (.int .i64 7))⟩])
 (.seq (.cond (.t 17)
 .skip
 (.pre [1, 4] (.exit 0)))
 (.pre [1, 4, 15, 16] (.seq (.blk 1
 (.seq (.reg false [1, 4, 5, 6, 15, 16] [] [⟨some 18, none, [], .mov (.t 16)⟩,
 ⟨some 19, none, [], .ixV 7 1 .one (.t 15) (.t 16)⟩,
 ⟨some 5, none, [], .mov (.t 18)⟩,
 ⟨some 6, none, [], .mov (.t 19)⟩])
 (.reg true [1, 4, 15, 16] [] [⟨some 20, none, [], .mov (.t 4)⟩,
 ⟨some 21, none, [], .mov (.t 6)⟩,
 ⟨some 22, none, [], .mget (.int .i64 0) false (.t 20) (.t 21)⟩,
 ⟨some 23, none, [], .mov (.t 5)⟩,
 ⟨some 24, none, [], .bin .shl (.c (.int .i64 1)) (.t 23)⟩,
 ⟨some 25, none, [], .bin .or (.t 22) (.t 24)⟩,
 ⟨none, none, [], .mput (.t 20) (.t 21) (.t 25)⟩])))
 (.pre [1, 4, 15, 16] (.reg false [1, 4, 15, 16] [] [⟨some 26, none, [], .bin .add (.t 16) (.c (.int .i64 1))⟩,
 ⟨some 16, none, [], .mov (.t 26)⟩])))))))
def b11_1 : XC := c11_1
@[go_sem] theorem e11_1 (L : Lib) (cx : Cx) (env : Env) (h : Heap) : runC L cx b11_1 (env, h) = runC L cx c11_1 (env, h) := rfl

/-- "aircheck/week.Print" -/
def x11 : XFn := { np := 1, isOpen := false, ns := 2, res := [.tmp 2, .tmp 3], code :=
  (.seq (.reg false [1] [] [⟨some 1, none, [], .boxR (.t 0)⟩,
 ⟨some 2, none, [], .mov (.c (.str []))⟩,
 ⟨some 3, none, [], .mov (.c (.int .i64 0))⟩])
 (.seq (.seq (.reg false [1, 13] [] [⟨some 11, none, [], .load (.agg 7) (.t 1)⟩,
 ⟨some 12, none, [], .call (.c (.fn 22 [])) [(.t 11)] []⟩,
 ⟨some 13, none, [], .un .not (.t 12)⟩])
 (.cond (.t 13)
 (.seq (.reg false [2, 3] [] [⟨some 2, none, [], .mov (.c (.str []))⟩,
 ⟨some 3, none, [], .mov (.c (.int .i64 60))⟩])
 (.pre [2, 3] .ret))
 .skip))
 (.pre [1] (.seq (.reg false [1, 4] [] [⟨some 14, none, [], .mkmap 1 .i64⟩,
 ⟨some 4, none, [], .mov (.t 14)⟩])
 (.seq (.seq (.reg false [1, 4, 15, 16] [] [⟨some 15, none, [], .load (.agg 7) (.t 1)⟩,
 ⟨some 16, none, [], .mov (.c (.int .i64 0))⟩])
 (.blk 0
 (.loop b11_1)))
 (.pre [1, 4] (.seq (.reg false [1, 4] [] [⟨some 27, none, [], .mov (.t 4)⟩,
 ⟨none, none, [], .mdel (.t 27) (.c (.int .i64 0))⟩])
 (.seq (.reg false [1, 4, 7] [] [⟨some 7, none, [], .mov (.c .nilSl)⟩])
 (.seq (.seq (.reg false [4, 7, 28, 29] [] [⟨some 28, none, [], .load (.agg 7) (.t 1)⟩,
 ⟨some 29, none, [], .mov (.c (.int .i64 0))⟩])
 (.blk 2
 (.loop b11_0)))
 (.pre [7] (.seq (.seq (.reg false [7, 47] [] [⟨some 46, none, [], .mov (.t 7)⟩,
 ⟨some 47, none, [], .isnil false (.t 46)⟩])
 (.cond (.t 47)
 (.seq (.reg false [2, 3] [] [⟨some 2, none, [], .mov (.c (.str [110, 101, 118, 101, 114]))⟩,
 ⟨some 3, none, [], .mov (.c (.int .i64 0))⟩])
 (.pre [2, 3] .ret))
 .skip))
 (.pre [7] (.seq (.reg false [2, 3] [] [⟨some 48, none, [], .mov (.t 7)⟩,
 ⟨some 49, none, [], .call (.c (.fn 26 [])) [(.t 48), (.c (.str [59, 32]))] []⟩,
 ⟨some 2, none, [], .mov (.t 49)⟩,
 ⟨some 3, none, [], .mov (.c (.int .i64 0))⟩])
 (.pre [2, 3] .ret)))))))))))))) }

@[go_sem] def c12_1 : XC := (.pre [2, 5, 6, 8, 9, 11, 12, 13, 22, 23, 24, 59]
  (.seq (.reg false [2, 5, 6, 8, 9, 11, 12, 13, 22, 23, 24, 59, 60] [] [⟨some 60, none, [], .bin .lss (.t 59) (.c (.int .i64 7))⟩])
 (.seq (.cond (.t 60)
 .skip
 (.pre [2, 5, 6, 8, 12, 13, 22, 23, 24] (.exit 2)))
 (.pre [2, 5, 6, 8, 9, 11, 12, 13, 22, 23, 24, 59] (.seq (.blk 3
 (.seq (.reg false [2, 5, 6, 8, 9, 11, 12, 13, 14, 22, 23, 24, 59] [] [⟨some 61, none, [], .mov (.t 59)⟩,
 ⟨some 14, none, [], .mov (.t 61)⟩])
 (.seq (.seq (.reg false [2, 5, 6, 8, 9, 11, 12, 13, 14, 22, 23, 24, 59, 66] [] [⟨some 62, none, [], .mov (.t 11)⟩,
 ⟨some 63, none, [], .mov (.t 14)⟩,
 ⟨some 64, none, [], .bin .shr (.t 62) (.t 63)⟩,
 ⟨some 65, none, [], .bin .and (.t 64) (.c (.int .i64 1))⟩,
 ⟨some 66, none, [], .bin .eql (.t 65) (.c (.int .i64 0))⟩])
 (.cond (.t 66)
 (.pre [2, 5, 6, 8, 9, 11, 12, 13, 22, 23, 24, 59] (.exit 3))
 .skip))
 (.pre [2, 5, 6, 8, 9, 11, 12, 13, 14, 22, 23, 24, 59] (.seq (.seq (.reg false [2, 5, 6, 8, 9, 11, 12, 13, 14, 22, 23, 24, 59, 70] [] [⟨some 67, none, [], .mov (.t 14)⟩,
 ⟨some 68, none, [], .ixA 7 1 (.t 5) (.t 67)⟩,
 ⟨some 69, none, [], .load .one (.t 68)⟩,
 ⟨some 70, none, [], .bin .neq (.t 69) (.c (.int .i64 0))⟩])
 (.cond (.t 70)
 (.seq (.reg false [2, 3, 4] [] [⟨some 71, none, [], .build [.int .i64 0, .int .i64 0, .int .i64 0, .int .i64 0, .int .i64 0, .int .i64 0, .int .i64 0] []⟩,
 ⟨some 72, none, [], .mov (.t 9)⟩,
 ⟨none, none, [], .store 7 (.t 2) (.t 71)⟩,
 ⟨some 3, none, [], .mov (.t 72)⟩,
 ⟨some 4, none, [], .mov (.c (.int .i64 60))⟩])
 (.pre [2, 3, 4] .ret))
 .skip))
 (.pre [2, 5, 6, 8, 9, 11, 12, 13, 14, 22, 23, 24, 59] (.reg false [2, 5, 6, 8, 9, 11, 12, 13, 22, 23, 24, 59] [] [⟨some 73, none, [], .mov (.t 14)⟩,
 ⟨some 74, none, [], .mov (.t 12)⟩,
 ⟨some 75, none, [], .ixA 7 1 (.t 5) (.t 73)⟩,
 ⟨none, none, [], .store 1 (.t 75) (.t 74)⟩])))))))
 (.pre [2, 5, 6, 8, 9, 11, 12, 13, 22, 23, 24, 59] (.reg false [2, 5, 6, 8, 9, 11, 12, 13, 22, 23, 24, 59] [] [⟨some 76, none, [], .bin .add (.t 59) (.c (.int .i64 1))⟩,
 ⟨some 59, none, [], .mov (.t 76)⟩])))))))
def b12_1 : XC := c12_1
@[go_sem] theorem e12_1 (L : Lib) (cx : Cx) (env : Env) (h : Heap) : runC L cx b12_1 (env, h) = runC L cx c12_1 (env, h) := rfl

@[go_sem] def c12_0 : XC := (.pre [2, 5, 6, 7, 8, 22, 23, 24]
  (.seq (.reg false [2, 5, 6, 7, 8, 22, 23, 24, 25] [] [⟨some 25, none, [], .bin .lss (.t 24) (.t 23)⟩])
 (.seq (.cond (.t 25)
 .skip
 (.pre [2, 5, 8] (.exit 0)))
 (.pre [2, 5, 6, 7, 8, 22, 23, 24] (.seq (.blk 1
 (.seq (.reg false [2, 5, 6, 7, 8, 9, 10, 22, 23, 24] [] [⟨some 26, none, [], .mov (.t 24)⟩,
 ⟨some 27, none, [], .ixS 1 (.t 22) (.t 24)⟩,
 ⟨some 28, none, [], .load .one (.t 27)⟩,
 ⟨some 9, none, [], .mov (.t 26)⟩,
 ⟨some 10, none, [], .mov (.t 28)⟩])
 (.seq (.reg false [2, 5, 6, 7, 8, 9, 10, 11, 12, 22, 23, 24] [] [⟨some 30, none, [], .mov (.t 10)⟩,
 ⟨some 31, none, [], .call (.c (.fn 28 [])) [(.t 30)] []⟩,
 ⟨some 29, none, [], .mov (.t 31)⟩,
 ⟨some 32, none, [], .ext (.t 29) 0⟩,
 ⟨some 33, none, [], .ext (.t 29) 1⟩,
 ⟨some 11, none, [], .mov (.t 32)⟩,
 ⟨some 12, none, [], .mov (.t 33)⟩])
 (.seq (.reg false [2, 5, 6, 7, 8, 9, 10, 11, 12, 13, 22, 23, 24] [] [⟨some 34, none, [], .mov (.t 11)⟩,
 ⟨some 35, none, [], .mov (.t 11)⟩,
 ⟨some 36, none, [], .un .neg (.t 35)⟩,
 ⟨some 37, none, [], .bin .and (.t 34) (.t 36)⟩,
 ⟨some 13, none, [], .mov (.t 37)⟩])
 (.seq (.seq (.reg false [2, 5, 6, 8, 9, 11, 12, 13, 22, 23, 24, 56] [] [⟨some 38, none, [], .mov (.t 11)⟩,
 ⟨some 39, none, [], .bin .eql (.t 38) (.c (.int .i64 0))⟩,
 ⟨some 40, none, [], .mov (.t 39)⟩,
 ⟨some 41, some (40, false), [], .mov (.t 6)⟩,
 ⟨some 42, some (40, false), [], .mov (.t 12)⟩,
 ⟨some 43, some (40, false), [], .mget (.bool false) false (.t 41) (.t 42)⟩,
 ⟨some 44, none, [], .pick (.t 40) (.c (.bool true)) (.t 43)⟩,
 ⟨some 45, none, [], .mov (.t 44)⟩,
 ⟨some 46, some (45, false), [], .mov (.t 13)⟩,
 ⟨some 47, some (45, false), [], .mov (.t 7)⟩,
 ⟨some 48, some (45, false), [], .bin .leq (.t 46) (.t 47)⟩,
 ⟨some 49, none, [], .pick (.t 45) (.c (.bool true)) (.t 48)⟩,
 ⟨some 50, none, [], .mov (.t 49)⟩,
 ⟨some 51, some (50, false), [], .mov (.t 11)⟩,
 ⟨some 52, some (50, false), [], .mov (.t 12)⟩,
 ⟨some 53, some (50, false), [], .call (.c (.fn 25 [])) [(.t 51), (.t 52)] []⟩,
 ⟨some 54, some (50, false), [], .mov (.t 10)⟩,
 ⟨some 55, some (50, false), [], .bin .neq (.t 53) (.t 54)⟩,
 ⟨some 56, none, [], .pick (.t 50) (.c (.bool true)) (.t 55)⟩])
 (.cond (.t 56)
 (.seq (.reg false [2, 3, 4] [] [⟨some 57, none, [], .build [.int .i64 0, .int .i64 0, .int .i64 0, .int .i64 0, .int .i64 0, .int .i64 0, .int .i64 0] []⟩,
 ⟨some 58, none, [], .mov (.t 9)⟩,
 ⟨none, none, [], .store 7 (.t 2) (.t 57)⟩,
 ⟨some 3, none, [], .mov (.t 58)⟩,
 ⟨some 4, none, [], .mov (.c (.int .i64 60))⟩])
 (.pre [2, 3, 4] .ret))
 .skip))
 (.pre [2, 5, 6, 8, 9, 11, 12, 13, 22, 23, 24] (.seq (.seq (.reg false [2, 5, 6, 8, 9, 11, 12, 13, 22, 23, 24, 59] [] [⟨some 59, none, [], .mov (.c (.int .i64 0))⟩])
 (.blk 2
 (.loop b12_1)))
 (.pre [2, 5, 6, 8, 12, 13, 22, 23, 24] (.reg false [2, 5, 6, 7, 8, 22, 23, 24] [] [⟨some 77, none, [], .mov (.t 6)⟩,
 ⟨some 78, none, [], .mov (.t 12)⟩,
 ⟨some 79, none, [], .mov (.t 13)⟩,
 ⟨none, none, [], .mput (.t 77) (.t 78) (.c (.bool true))⟩,
 ⟨some 7, none, [], .mov (.t 79)⟩])))))))))
 (.pre [2, 5, 6, 7, 8, 22, 23, 24] (.reg false [2, 5, 6, 7, 8, 22, 23, 24] [] [⟨some 80, none, [], .bin .add (.t 24) (.c (.int .i64 1))⟩,
 ⟨some 24, none, [], .mov (.t 80)⟩])))))))
def b12_0 : XC := c12_0
@[go_sem] theorem e12_0 (L : Lib) (cx : Cx) (env : Env) (h : Heap) : runC L cx b12_0 (env, h) = runC L cx c12_0 (env, h) := rfl

/-- "aircheck/week.Parse" -/
def x12 : XFn := { np := 1, isOpen := false, ns := 3, res := [.cell 2 (.agg 7), .tmp 3, .tmp 4], code :=
  (.seq (.reg false [0, 2] [] [⟨some 2, none, [], .alloc 2 [.int .i64 0, .int .i64 0, .int .i64 0, .int .i64 0, .int .i64 0, .int .i64 0, .int .i64 0]⟩,
 ⟨some 3, none, [], .mov (.c (.int .i64 0))⟩,
 ⟨some 4, none, [], .mov (.c (.int .i64 0))⟩])
 (.seq (.reg false [0, 2, 5] [] [⟨some 5, none, [], .alloc 1 [.int .i64 0, .int .i64 0, .int .i64 0, .int .i64 0, .int .i64 0, .int .i64 0, .int .i64 0]⟩])
 (.seq (.seq (.reg false [0, 2, 5, 16] [] [⟨some 15, none, [], .mov (.t 0)⟩,
 ⟨some 16, none, [], .bin .eql (.t 15) (.c (.str [110, 101, 118, 101, 114]))⟩])
 (.cond (.t 16)
 (.seq (.reg false [2, 3, 4] [] [⟨some 17, none, [], .load (.agg 7) (.t 5)⟩,
 ⟨none, none, [], .store 7 (.t 2) (.t 17)⟩,
 ⟨some 3, none, [], .mov (.c (.int .i64 0))⟩,
 ⟨some 4, none, [], .mov (.c (.int .i64 0))⟩])
 (.pre [2, 3, 4] .ret))
 .skip))
 (.pre [0, 2, 5] (.seq (.reg false [0, 2, 5, 6, 7] [] [⟨some 18, none, [], .mkmap 0 .i64⟩,
 ⟨none, none, [], .mput (.t 18) (.c (.int .i64 0)) (.c (.bool true))⟩,
 ⟨some 19, none, [], .mov (.t 18)⟩,
 ⟨some 6, none, [], .mov (.t 19)⟩,
 ⟨some 7, none, [], .mov (.c (.int .i64 0))⟩])
 (.seq (.reg false [2, 5, 6, 7, 8] [] [⟨some 20, none, [], .mov (.t 0)⟩,
 ⟨some 21, none, [], .call (.c (.fn 27 [])) [(.t 20), (.c (.str [59, 32]))] []⟩,
 ⟨some 8, none, [], .mov (.t 21)⟩])
 (.seq (.seq (.reg false [2, 5, 6, 7, 8, 22, 23, 24] [] [⟨some 22, none, [], .mov (.t 8)⟩,
 ⟨some 23, none, [], .len false (.t 22)⟩,
 ⟨some 24, none, [], .mov (.c (.int .i64 0))⟩])
 (.blk 0
 (.loop b12_0)))
 (.pre [2, 5, 8] (.seq (.reg false [2, 3, 4] [] [⟨some 81, none, [], .load (.agg 7) (.t 5)⟩,
 ⟨some 82, none, [], .mov (.t 8)⟩,
 ⟨some 83, none, [], .len false (.t 82)⟩,
 ⟨none, none, [], .store 7 (.t 2) (.t 81)⟩,
 ⟨some 3, none, [], .mov (.t 83)⟩,
 ⟨some 4, none, [], .mov (.c (.int .i64 0))⟩])
 (.pre [2, 3, 4] .ret)))))))))) }

/-- "aircheck/airchecklaw06.pick" -/
def x13 : XFn := { np := 2, isOpen := false, ns := 0, res := [.tmp 4], code :=
  (.seq (.reg false [0, 1] [] [⟨some 4, none, [], .mov (.c (.int .i64 0))⟩])
 (.seq (.seq (.reg false [0, 1, 6] [] [⟨some 5, none, [], .mov (.t 0)⟩,
 ⟨some 6, none, [], .bin .lss (.t 5) (.c (.int .i64 0))⟩])
 (.cond (.t 6)
 (.reg false [0, 1] [] [⟨some 7, none, [], .mov (.t 0)⟩,
 ⟨some 8, none, [], .bin .add (.t 7) (.c (.int .i64 1))⟩,
 ⟨some 9, none, [], .un .neg (.t 8)⟩,
 ⟨some 0, none, [], .mov (.t 9)⟩])
 .skip))
 (.pre [0, 1] (.seq (.reg false [4] [] [⟨some 10, none, [], .mov (.t 0)⟩,
 ⟨some 11, none, [], .mov (.t 1)⟩,
 ⟨some 12, none, [], .bin .rem (.t 10) (.t 11)⟩,
 ⟨some 4, none, [], .mov (.t 12)⟩])
 (.pre [4] .ret))))) }

/-- "aircheck/aircheckref06.Spell" -/
def x14 : XFn := { np := 2, isOpen := false, ns := 1, res := [.cell 4 (.agg 2)], code :=
  (.seq (.reg false [0, 1, 4] [] [⟨some 4, none, [], .alloc 0 [.int .i64 0, .int .i64 0]⟩])
 (.seq (.reg false [1, 4, 5] [] [⟨some 6, none, [], .mov (.t 0)⟩,
 ⟨some 7, none, [], .call (.c (.fn 24 [])) [(.t 6), (.c (.int .i64 10000000))] []⟩,
 ⟨some 5, none, [], .mov (.t 7)⟩])
 (.seq (.reg false [4] [] [⟨some 8, none, [], .mov (.t 5)⟩,
 ⟨some 9, none, [], .mov (.t 5)⟩,
 ⟨some 10, none, [], .bin .add (.t 9) (.c (.int .i64 1))⟩,
 ⟨some 11, none, [], .mov (.t 1)⟩,
 ⟨some 12, none, [], .mov (.t 5)⟩,
 ⟨some 13, none, [], .bin .sub (.c (.int .i64 10000000)) (.t 12)⟩,
 ⟨some 14, none, [], .call (.c (.fn 24 [])) [(.t 11), (.t 13)] []⟩,
 ⟨some 15, none, [], .bin .add (.t 10) (.t 14)⟩,
 ⟨some 16, none, [], .build [.int .i64 0, .int .i64 0] [(0, 1, (.t 8)), (1, 1, (.t 15))]⟩,
 ⟨none, none, [], .store 2 (.t 4) (.t 16)⟩])
 (.pre [4] .ret)))) }

/-- a round of "aircheck/week.Spells" -/
def r0 : XRnd := { ps := [15], asg := (.reg false [6, 7] [] [⟨some 7, none, [], .alloc 1 [.int .i64 0, .int .i64 0]⟩,
 ⟨none, none, [], .store 2 (.t 7) (.t 15)⟩]), body :=
  (.blk 1
 (.reg false [] [] [⟨some 16, none, [], .load .one (.t 6)⟩,
 ⟨some 17, none, [], .load (.agg 2) (.t 7)⟩,
 ⟨some 18, none, [], .bslice 2 (.agg [.int .i64 0, .int .i64 0]) 1 [(0, (.t 17))]⟩,
 ⟨some 19, none, [], .app 2 2 8796093022208 (.t 16) (.t 18)⟩,
 ⟨none, none, [], .store 1 (.t 6) (.t 19)⟩])) }

/-- "aircheck/week.Spells" -/
def x15 : XFn := { np := 2, isOpen := false, ns := 4, res := [.tmp 4, .tmp 5], code :=
  (.seq (.reg false [2, 3, 4, 5] [] [⟨some 2, none, [], .boxR (.t 0)⟩,
 ⟨some 3, none, [], .boxR (.t 1)⟩,
 ⟨some 4, none, [], .mov (.c .nilSl)⟩,
 ⟨some 5, none, [], .mov (.c (.int .i64 0))⟩])
 (.seq (.seq (.reg false [2, 3, 4, 5, 11] [] [⟨some 8, none, [], .load (.agg 7) (.t 2)⟩,
 ⟨some 9, none, [], .load (.agg 2) (.t 3)⟩,
 ⟨some 10, none, [], .call (.c (.fn 29 [])) [(.t 8), (.t 9)] []⟩,
 ⟨some 11, none, [], .un .not (.t 10)⟩])
 (.cond (.t 11)
 (.seq (.reg false [4, 5] [] [⟨some 4, none, [], .mov (.c .nilSl)⟩,
 ⟨some 5, none, [], .mov (.c (.int .i64 60))⟩])
 (.pre [4, 5] .ret))
 .skip))
 (.pre [2, 3, 4, 5] (.seq (.reg false [2, 3, 4, 5, 6] [] [⟨some 6, none, [], .alloc 3 [.nilSl]⟩])
 (.seq (.seq (.reg false [4, 5, 6, 14] [] [⟨some 12, none, [], .load (.agg 7) (.t 2)⟩,
 ⟨some 13, none, [], .load (.agg 2) (.t 3)⟩,
 ⟨some 14, none, [], .call (.c (.fn 30 [])) [(.t 12), (.t 13)] []⟩])
 (.blk 0
 (.rfn 0 (.t 14) 0)))
 (.pre [6] (.seq (.reg false [4, 5] [] [⟨some 20, none, [], .load .one (.t 6)⟩,
 ⟨some 4, none, [], .mov (.t 20)⟩,
 ⟨some 5, none, [], .mov (.c (.int .i64 0))⟩])
 (.pre [4, 5] .ret)))))))) }

/-- a round of "aircheck/week.Seconds" -/
def r1 : XRnd := { ps := [15], asg := (.reg false [6, 7] [] [⟨some 7, none, [], .alloc 1 [.int .i64 0, .int .i64 0]⟩,
 ⟨none, none, [], .store 2 (.t 7) (.t 15)⟩]), body :=
  (.blk 1
 (.reg false [] [] [⟨some 16, none, [], .load .one (.t 6)⟩,
 ⟨some 17, none, [], .padd (.t 7) 1⟩,
 ⟨some 18, none, [], .load .one (.t 17)⟩,
 ⟨some 19, none, [], .padd (.t 7) 0⟩,
 ⟨some 20, none, [], .load .one (.t 19)⟩,
 ⟨some 21, none, [], .bin .sub (.t 18) (.t 20)⟩,
 ⟨some 22, none, [], .bin .add (.t 16) (.t 21)⟩,
 ⟨none, none, [], .store 1 (.t 6) (.t 22)⟩])) }

/-- "aircheck/week.Seconds" -/
def x16 : XFn := { np := 2, isOpen := false, ns := 3, res := [.tmp 4, .tmp 5], code :=
  (.seq (.reg false [2, 3, 4, 5] [] [⟨some 2, none, [], .boxR (.t 0)⟩,
 ⟨some 3, none, [], .boxR (.t 1)⟩,
 ⟨some 4, none, [], .mov (.c (.int .i64 0))⟩,
 ⟨some 5, none, [], .mov (.c (.int .i64 0))⟩])
 (.seq (.seq (.reg false [2, 3, 4, 5, 11] [] [⟨some 8, none, [], .load (.agg 7) (.t 2)⟩,
 ⟨some 9, none, [], .load (.agg 2) (.t 3)⟩,
 ⟨some 10, none, [], .call (.c (.fn 29 [])) [(.t 8), (.t 9)] []⟩,
 ⟨some 11, none, [], .un .not (.t 10)⟩])
 (.cond (.t 11)
 (.seq (.reg false [4, 5] [] [⟨some 4, none, [], .mov (.c (.int .i64 0))⟩,
 ⟨some 5, none, [], .mov (.c (.int .i64 60))⟩])
 (.pre [4, 5] .ret))
 .skip))
 (.pre [2, 3, 4, 5] (.seq (.reg false [2, 3, 4, 5, 6] [] [⟨some 6, none, [], .alloc 2 [.int .i64 0]⟩,
 ⟨none, none, [], .store 1 (.t 6) (.c (.int .i64 0))⟩])
 (.seq (.seq (.reg false [4, 5, 6, 14] [] [⟨some 12, none, [], .load (.agg 7) (.t 2)⟩,
 ⟨some 13, none, [], .load (.agg 2) (.t 3)⟩,
 ⟨some 14, none, [], .call (.c (.fn 30 [])) [(.t 12), (.t 13)] []⟩])
 (.blk 0
 (.rfn 0 (.t 14) 1)))
 (.pre [6] (.seq (.reg false [4, 5] [] [⟨some 23, none, [], .load .one (.t 6)⟩,
 ⟨some 4, none, [], .mov (.t 23)⟩,
 ⟨some 5, none, [], .mov (.c (.int .i64 0))⟩])
 (.pre [4, 5] .ret)))))))) }

/-- "aircheck/week.In" -/
def x17 : XFn := { np := 2, isOpen := false, ns := 0, res := [.tmp 4], code :=
  (.seq (.reg false [1, 2] [] [⟨some 2, none, [], .boxR (.t 0)⟩,
 ⟨some 4, none, [], .mov (.c (.bool false))⟩])
 (.seq (.reg false [4] [] [⟨some 5, none, [], .load (.agg 7) (.t 2)⟩,
 ⟨some 6, none, [], .call (.c (.fn 22 [])) [(.t 5)] []⟩,
 ⟨some 7, none, [], .mov (.t 6)⟩,
 ⟨some 8, some (7, true), [], .mov (.t 1)⟩,
 ⟨some 9, some (7, true), [], .bin .geq (.t 8) (.c (.int .i64 0))⟩,
 ⟨some 10, none, [], .pick (.t 7) (.t 9) (.c (.bool false))⟩,
 ⟨some 11, none, [], .mov (.t 10)⟩,
 ⟨some 12, some (11, true), [], .mov (.t 1)⟩,
 ⟨some 13, some (11, true), [], .bin .lss (.t 12) (.c (.int .i64 10000000))⟩,
 ⟨some 14, none, [], .pick (.t 11) (.t 13) (.c (.bool false))⟩,
 ⟨some 15, none, [], .mov (.t 14)⟩,
 ⟨some 16, some (15, true), [], .load (.agg 7) (.t 2)⟩,
 ⟨some 17, some (15, true), [], .mov (.t 1)⟩,
 ⟨some 18, some (15, true), [], .bin .quo (.t 17) (.c (.int .i64 3600))⟩,
 ⟨some 19, some (15, true), [], .call (.c (.fn 31 [])) [(.t 16), (.t 18)] []⟩,
 ⟨some 20, none, [], .pick (.t 15) (.t 19) (.c (.bool false))⟩,
 ⟨some 4, none, [], .mov (.t 20)⟩])
 (.pre [4] .ret))) }

@[go_sem] def c18_0 : XC := (.pre [1, 2, 9]
  (.seq (.reg false [1, 2, 9, 10] [] [⟨some 10, none, [], .bin .lss (.t 9) (.c (.int .i64 7))⟩])
 (.seq (.cond (.t 10)
 .skip
 (.pre [1, 2] (.exit 0)))
 (.pre [1, 2, 9] (.seq (.blk 1
 (.seq (.reg false [1, 2, 4, 9] [] [⟨some 11, none, [], .mov (.t 9)⟩,
 ⟨some 4, none, [], .mov (.t 11)⟩])
 (.reg false [1, 2, 9] [] [⟨some 12, none, [], .mov (.t 4)⟩,
 ⟨some 13, none, [], .ixA 7 1 (.t 1) (.t 12)⟩,
 ⟨some 14, none, [], .load .one (.t 13)⟩,
 ⟨some 15, none, [], .bin .xor (.t 14) (.c (.int .i64 16777215))⟩,
 ⟨some 16, none, [], .ixA 7 1 (.t 1) (.t 12)⟩,
 ⟨none, none, [], .store 1 (.t 16) (.t 15)⟩])))
 (.pre [1, 2, 9] (.reg false [1, 2, 9] [] [⟨some 17, none, [], .bin .add (.t 9) (.c (.int .i64 1))⟩,
 ⟨some 9, none, [], .mov (.t 17)⟩])))))))
def b18_0 : XC := c18_0
@[go_sem] theorem e18_0 (L : Lib) (cx : Cx) (env : Env) (h : Heap) : runC L cx b18_0 (env, h) = runC L cx c18_0 (env, h) := rfl

/-- "aircheck/week.Not" -/
def x18 : XFn := { np := 1, isOpen := false, ns := 2, res := [.cell 2 (.agg 7), .tmp 3], code :=
  (.seq (.reg false [1, 2] [] [⟨some 1, none, [], .box 0 (.t 0)⟩,
 ⟨some 2, none, [], .alloc 1 [.int .i64 0, .int .i64 0, .int .i64 0, .int .i64 0, .int .i64 0, .int .i64 0, .int .i64 0]⟩,
 ⟨some 3, none, [], .mov (.c (.int .i64 0))⟩])
 (.seq (.seq (.reg false [1, 2, 7] [] [⟨some 5, none, [], .load (.agg 7) (.t 1)⟩,
 ⟨some 6, none, [], .call (.c (.fn 22 [])) [(.t 5)] []⟩,
 ⟨some 7, none, [], .un .not (.t 6)⟩])
 (.cond (.t 7)
 (.seq (.reg false [2, 3] [] [⟨some 8, none, [], .build [.int .i64 0, .int .i64 0, .int .i64 0, .int .i64 0, .int .i64 0, .int .i64 0, .int .i64 0] []⟩,
 ⟨none, none, [], .store 7 (.t 2) (.t 8)⟩,
 ⟨some 3, none, [], .mov (.c (.int .i64 60))⟩])
 (.pre [2, 3] .ret))
 .skip))
 (.pre [1, 2] (.seq (.seq (.reg false [1, 2, 9] [] [⟨some 9, none, [], .mov (.c (.int .i64 0))⟩])
 (.blk 0
 (.loop b18_0)))
 (.pre [1, 2] (.seq (.reg false [2, 3] [] [⟨some 18, none, [], .load (.agg 7) (.t 1)⟩,
 ⟨none, none, [], .store 7 (.t 2) (.t 18)⟩,
 ⟨some 3, none, [], .mov (.c (.int .i64 0))⟩])
 (.pre [2, 3] .ret))))))) }

@[go_sem] def c19_0 : XC := (.pre [1, 2, 6]
  (.seq (.seq (.reg false [1, 2, 6, 22] [] [⟨some 20, none, [], .mov (.t 6)⟩,
 ⟨some 21, none, [], .bin .mul (.t 20) (.c (.int .i64 3600))⟩,
 ⟨some 22, none, [], .bin .lss (.t 21) (.c (.int .i64 10000000))⟩])
 (.cond (.t 22)
 .skip
 (.pre [] (.exit 0))))
 (.pre [1, 2, 6] (.seq (.blk 1
 (.seq (.reg false [1, 2, 6, 27] [] [⟨some 25, none, [], .load (.agg 7) (.t 2)⟩,
 ⟨some 26, none, [], .mov (.t 6)⟩,
 ⟨some 27, none, [], .call (.c (.fn 31 [])) [(.t 25), (.t 26)] []⟩])
 (.cond (.t 27)
 (.seq (.reg false [4, 5] [] [⟨some 28, none, [], .mov (.t 1)⟩,
 ⟨some 29, none, [], .mov (.t 6)⟩,
 ⟨some 30, none, [], .bin .mul (.t 29) (.c (.int .i64 3600))⟩,
 ⟨some 31, none, [], .minmax true [(.t 28), (.t 30)]⟩,
 ⟨some 4, none, [], .mov (.t 31)⟩,
 ⟨some 5, none, [], .mov (.c (.bool true))⟩])
 (.pre [4, 5] .ret))
 .skip)))
 (.pre [1, 2, 6] (.reg false [1, 2, 6] [] [⟨some 23, none, [], .mov (.t 6)⟩,
 ⟨some 24, none, [], .bin .add (.t 23) (.c (.int .i64 1))⟩,
 ⟨some 6, none, [], .mov (.t 24)⟩]))))))
def b19_0 : XC := c19_0
@[go_sem] theorem e19_0 (L : Lib) (cx : Cx) (env : Env) (h : Heap) : runC L cx b19_0 (env, h) = runC L cx c19_0 (env, h) := rfl

/-- "aircheck/week.Next" -/
def x19 : XFn := { np := 2, isOpen := false, ns := 0, res := [.tmp 4, .tmp 5], code :=
  (.seq (.reg false [1, 2] [] [⟨some 2, none, [], .boxR (.t 0)⟩,
 ⟨some 4, none, [], .mov (.c (.int .i64 0))⟩,
 ⟨some 5, none, [], .mov (.c (.bool false))⟩])
 (.seq (.seq (.reg false [1, 2, 17] [] [⟨some 7, none, [], .load (.agg 7) (.t 2)⟩,
 ⟨some 8, none, [], .call (.c (.fn 22 [])) [(.t 7)] []⟩,
 ⟨some 9, none, [], .un .not (.t 8)⟩,
 ⟨some 10, none, [], .mov (.t 9)⟩,
 ⟨some 11, some (10, false), [], .mov (.t 1)⟩,
 ⟨some 12, some (10, false), [], .bin .lss (.t 11) (.c (.int .i64 0))⟩,
 ⟨some 13, none, [], .pick (.t 10) (.c (.bool true)) (.t 12)⟩,
 ⟨some 14, none, [], .mov (.t 13)⟩,
 ⟨some 15, some (14, false), [], .mov (.t 1)⟩,
 ⟨some 16, some (14, false), [], .bin .geq (.t 15) (.c (.int .i64 10000000))⟩,
 ⟨some 17, none, [], .pick (.t 14) (.c (.bool true)) (.t 16)⟩])
 (.cond (.t 17)
 (.seq (.reg false [4, 5] [] [⟨some 4, none, [], .mov (.c (.int .i64 0))⟩,
 ⟨some 5, none, [], .mov (.c (.bool false))⟩])
 (.pre [4, 5] .ret))
 .skip))
 (.pre [1, 2] (.seq (.seq (.reg false [1, 2, 6] [] [⟨some 18, none, [], .mov (.t 1)⟩,
 ⟨some 19, none, [], .bin .quo (.t 18) (.c (.int .i64 3600))⟩,
 ⟨some 6, none, [], .mov (.t 19)⟩])
 (.blk 0
 (.loop b19_0)))
 (.pre [] (.seq (.reg false [4, 5] [] [⟨some 4, none, [], .mov (.c (.int .i64 0))⟩,
 ⟨some 5, none, [], .mov (.c (.bool false))⟩])
 (.pre [4, 5] .ret))))))) }

@[go_sem] def c20_0 : XC := (.pre [2, 3, 4, 16]
  (.seq (.reg false [2, 3, 4, 16, 17] [] [⟨some 17, none, [], .bin .lss (.t 16) (.c (.int .i64 7))⟩])
 (.seq (.cond (.t 17)
 .skip
 (.pre [2, 4] (.exit 0)))
 (.pre [2, 3, 4, 16] (.seq (.blk 1
 (.seq (.reg false [2, 3, 4, 6, 16] [] [⟨some 18, none, [], .mov (.t 16)⟩,
 ⟨some 6, none, [], .mov (.t 18)⟩])
 (.reg true [2, 3, 4, 16] [] [⟨some 19, none, [], .mov (.t 6)⟩,
 ⟨some 20, none, [], .ixA 7 1 (.t 2) (.t 19)⟩,
 ⟨some 21, none, [.box 20], .load .one (.t 20)⟩,
 ⟨some 22, none, [], .mov (.t 6)⟩,
 ⟨some 23, none, [], .ixA 7 1 (.t 3) (.t 22)⟩,
 ⟨some 24, none, [.box 23], .load .one (.t 23)⟩,
 ⟨some 25, none, [], .bin .and (.t 21) (.t 24)⟩,
 ⟨some 26, none, [], .ixA 7 1 (.t 2) (.t 19)⟩,
 ⟨none, none, [.box 26], .store 1 (.t 26) (.t 25)⟩])))
 (.pre [2, 3, 4, 16] (.reg false [2, 3, 4, 16] [] [⟨some 27, none, [], .bin .add (.t 16) (.c (.int .i64 1))⟩,
 ⟨some 16, none, [], .mov (.t 27)⟩])))))))
def b20_0 : XC := c20_0
@[go_sem] theorem e20_0 (L : Lib) (cx : Cx) (env : Env) (h : Heap) : runC L cx b20_0 (env, h) = runC L cx c20_0 (env, h) := rfl

/-- "aircheck/week.And" -/
def x20 : XFn := { np := 2, isOpen := false, ns := 2, res := [.cell 4 (.agg 7), .tmp 5], code :=
  (.seq (.reg false [2, 3, 4] [] [⟨some 2, none, [], .box 0 (.t 0)⟩,
 ⟨some 3, none, [], .boxR (.t 1)⟩,
 ⟨some 4, none, [], .alloc 1 [.int .i64 0, .int .i64 0, .int .i64 0, .int .i64 0, .int .i64 0, .int .i64 0, .int .i64 0]⟩,
 ⟨some 5, none, [], .mov (.c (.int .i64 0))⟩])
 (.seq (.seq (.reg false [2, 3, 4, 14] [] [⟨some 7, none, [], .load (.agg 7) (.t 2)⟩,
 ⟨some 8, none, [], .call (.c (.fn 22 [])) [(.t 7)] []⟩,
 ⟨some 9, none, [], .un .not (.t 8)⟩,
 ⟨some 10, none, [], .mov (.t 9)⟩,
 ⟨some 11, some (10, false), [], .load (.agg 7) (.t 3)⟩,
 ⟨some 12, some (10, false), [], .call (.c (.fn 22 [])) [(.t 11)] []⟩,
 ⟨some 13, some (10, false), [], .un .not (.t 12)⟩,
 ⟨some 14, none, [], .pick (.t 10) (.c (.bool true)) (.t 13)⟩])
 (.cond (.t 14)
 (.seq (.reg false [4, 5] [] [⟨some 15, none, [], .build [.int .i64 0, .int .i64 0, .int .i64 0, .int .i64 0, .int .i64 0, .int .i64 0, .int .i64 0] []⟩,
 ⟨none, none, [], .store 7 (.t 4) (.t 15)⟩,
 ⟨some 5, none, [], .mov (.c (.int .i64 60))⟩])
 (.pre [4, 5] .ret))
 .skip))
 (.pre [2, 3, 4] (.seq (.seq (.reg false [2, 3, 4, 16] [] [⟨some 16, none, [], .mov (.c (.int .i64 0))⟩])
 (.blk 0
 (.loop b20_0)))
 (.pre [2, 4] (.seq (.reg false [4, 5] [] [⟨some 28, none, [], .load (.agg 7) (.t 2)⟩,
 ⟨none, none, [], .store 7 (.t 4) (.t 28)⟩,
 ⟨some 5, none, [], .mov (.c (.int .i64 0))⟩])
 (.pre [4, 5] .ret))))))) }

@[go_sem] def c21_0 : XC := (.pre [2, 3, 4, 16]
  (.seq (.reg false [2, 3, 4, 16, 17] [] [⟨some 17, none, [], .bin .lss (.t 16) (.c (.int .i64 7))⟩])
 (.seq (.cond (.t 17)
 .skip
 (.pre [2, 4] (.exit 0)))
 (.pre [2, 3, 4, 16] (.seq (.blk 1
 (.seq (.reg false [2, 3, 4, 6, 16] [] [⟨some 18, none, [], .mov (.t 16)⟩,
 ⟨some 6, none, [], .mov (.t 18)⟩])
 (.reg true [2, 3, 4, 16] [] [⟨some 19, none, [], .mov (.t 6)⟩,
 ⟨some 20, none, [], .ixA 7 1 (.t 2) (.t 19)⟩,
 ⟨some 21, none, [.box 20], .load .one (.t 20)⟩,
 ⟨some 22, none, [], .mov (.t 6)⟩,
 ⟨some 23, none, [], .ixA 7 1 (.t 3) (.t 22)⟩,
 ⟨some 24, none, [.box 23], .load .one (.t 23)⟩,
 ⟨some 25, none, [], .bin .or (.t 21) (.t 24)⟩,
 ⟨some 26, none, [], .ixA 7 1 (.t 2) (.t 19)⟩,
 ⟨none, none, [.box 26], .store 1 (.t 26) (.t 25)⟩])))
 (.pre [2, 3, 4, 16] (.reg false [2, 3, 4, 16] [] [⟨some 27, none, [], .bin .add (.t 16) (.c (.int .i64 1))⟩,
 ⟨some 16, none, [], .mov (.t 27)⟩])))))))
def b21_0 : XC := c21_0
@[go_sem] theorem e21_0 (L : Lib) (cx : Cx) (env : Env) (h : Heap) : runC L cx b21_0 (env, h) = runC L cx c21_0 (env, h) := rfl

/-- "aircheck/week.Or" -/
def x21 : XFn := { np := 2, isOpen := false, ns := 2, res := [.cell 4 (.agg 7), .tmp 5], code :=
  (.seq (.reg false [2, 3, 4] [] [⟨some 2, none, [], .box 0 (.t 0)⟩,
 ⟨some 3, none, [], .boxR (.t 1)⟩,
 ⟨some 4, none, [], .alloc 1 [.int .i64 0, .int .i64 0, .int .i64 0, .int .i64 0, .int .i64 0, .int .i64 0, .int .i64 0]⟩,
 ⟨some 5, none, [], .mov (.c (.int .i64 0))⟩])
 (.seq (.seq (.reg false [2, 3, 4, 14] [] [⟨some 7, none, [], .load (.agg 7) (.t 2)⟩,
 ⟨some 8, none, [], .call (.c (.fn 22 [])) [(.t 7)] []⟩,
 ⟨some 9, none, [], .un .not (.t 8)⟩,
 ⟨some 10, none, [], .mov (.t 9)⟩,
 ⟨some 11, some (10, false), [], .load (.agg 7) (.t 3)⟩,
 ⟨some 12, some (10, false), [], .call (.c (.fn 22 [])) [(.t 11)] []⟩,
 ⟨some 13, some (10, false), [], .un .not (.t 12)⟩,
 ⟨some 14, none, [], .pick (.t 10) (.c (.bool true)) (.t 13)⟩])
 (.cond (.t 14)
 (.seq (.reg false [4, 5] [] [⟨some 15, none, [], .build [.int .i64 0, .int .i64 0, .int .i64 0, .int .i64 0, .int .i64 0, .int .i64 0, .int .i64 0] []⟩,
 ⟨none, none, [], .store 7 (.t 4) (.t 15)⟩,
 ⟨some 5, none, [], .mov (.c (.int .i64 60))⟩])
 (.pre [4, 5] .ret))
 .skip))
 (.pre [2, 3, 4] (.seq (.seq (.reg false [2, 3, 4, 16] [] [⟨some 16, none, [], .mov (.c (.int .i64 0))⟩])
 (.blk 0
 (.loop b21_0)))
 (.pre [2, 4] (.seq (.reg false [4, 5] [] [⟨some 28, none, [], .load (.agg 7) (.t 2)⟩,
 ⟨none, none, [], .store 7 (.t 4) (.t 28)⟩,
 ⟨some 5, none, [], .mov (.c (.int .i64 0))⟩])
 (.pre [4, 5] .ret))))))) }

@[go_sem] def c22_0 : XC := (.pre [5, 6]
  (.seq (.reg false [5, 6, 7] [] [⟨some 7, none, [], .bin .lss (.t 6) (.c (.int .i64 7))⟩])
 (.seq (.cond (.t 7)
 .skip
 (.pre [] (.exit 0)))
 (.pre [5, 6] (.seq (.blk 1
 (.seq (.reg false [4, 5, 6] [] [⟨some 8, none, [], .ixV 7 1 .one (.t 5) (.t 6)⟩,
 ⟨some 4, none, [], .mov (.t 8)⟩])
 (.seq (.reg false [5, 6, 14] [] [⟨some 9, none, [], .mov (.t 4)⟩,
 ⟨some 10, none, [], .bin .lss (.t 9) (.c (.int .i64 0))⟩,
 ⟨some 11, none, [], .mov (.t 10)⟩,
 ⟨some 12, some (11, false), [], .mov (.t 4)⟩,
 ⟨some 13, some (11, false), [], .bin .gtr (.t 12) (.c (.int .i64 16777215))⟩,
 ⟨some 14, none, [], .pick (.t 11) (.c (.bool true)) (.t 13)⟩])
 (.cond (.t 14)
 (.seq (.reg false [2] [] [⟨some 2, none, [], .mov (.c (.bool false))⟩])
 (.pre [2] .ret))
 .skip))))
 (.pre [5, 6] (.reg false [5, 6] [] [⟨some 15, none, [], .bin .add (.t 6) (.c (.int .i64 1))⟩,
 ⟨some 6, none, [], .mov (.t 15)⟩])))))))
def b22_0 : XC := c22_0
@[go_sem] theorem e22_0 (L : Lib) (cx : Cx) (env : Env) (h : Heap) : runC L cx b22_0 (env, h) = runC L cx c22_0 (env, h) := rfl

/-- "aircheck/week.Valid" -/
def x22 : XFn := { np := 1, isOpen := false, ns := 0, res := [.tmp 2], code :=
  (.seq (.reg false [1] [] [⟨some 1, none, [], .boxR (.t 0)⟩,
 ⟨some 2, none, [], .mov (.c (.bool false))⟩])
 (.seq (.seq (.reg false [5, 6] [] [⟨some 5, none, [], .load (.agg 7) (.t 1)⟩,
 ⟨some 6, none, [], .mov (.c (.int .i64 0))⟩])
 (.blk 0
 (.loop b22_0)))
 (.pre [] (.seq (.reg false [2] [] [⟨some 2, none, [], .mov (.c (.bool true))⟩])
 (.pre [2] .ret))))) }

@[go_sem] def c23_0 : XC := (.pre [0, 1, 5]
  (.seq (.seq (.reg false [0, 1, 5, 14] [] [⟨some 11, none, [], .mov (.t 5)⟩,
 ⟨some 12, none, [], .mov (.t 0)⟩,
 ⟨some 13, none, [], .len false (.t 12)⟩,
 ⟨some 14, none, [], .bin .lss (.t 11) (.t 13)⟩])
 (.cond (.t 14)
 .skip
 (.pre [] (.exit 0))))
 (.pre [0, 1, 5] (.seq (.blk 1
 (.seq (.reg true [0, 1, 5, 25] [] [⟨some 17, none, [], .mov (.t 0)⟩,
 ⟨some 18, none, [], .mov (.t 5)⟩,
 ⟨some 19, none, [], .ixS 2 (.t 17) (.t 18)⟩,
 ⟨some 20, none, [.elem 19], .load (.agg 2) (.t 19)⟩,
 ⟨some 21, none, [], .mov (.t 1)⟩,
 ⟨some 22, none, [], .mov (.t 5)⟩,
 ⟨some 23, none, [], .ixS 2 (.t 21) (.t 22)⟩,
 ⟨some 24, none, [.elem 23], .load (.agg 2) (.t 23)⟩,
 ⟨some 25, none, [], .eqv true [.i .i64, .i .i64] (.t 20) (.t 24)⟩])
 (.cond (.t 25)
 (.seq (.reg false [4] [] [⟨some 4, none, [], .mov (.c (.bool false))⟩])
 (.pre [4] .ret))
 .skip)))
 (.pre [0, 1, 5] (.reg false [0, 1, 5] [] [⟨some 15, none, [], .mov (.t 5)⟩,
 ⟨some 16, none, [], .bin .add (.t 15) (.c (.int .i64 1))⟩,
 ⟨some 5, none, [], .mov (.t 16)⟩]))))))
def b23_0 : XC := c23_0
@[go_sem] theorem e23_0 (L : Lib) (cx : Cx) (env : Env) (h : Heap) : runC L cx b23_0 (env, h) = runC L cx c23_0 (env, h) := rfl

/-- "aircheck/aircheckref06.Same" -/
def x23 : XFn := { np := 2, isOpen := false, ns := 0, res := [.tmp 4], code :=
  (.seq (.reg false [0, 1] [] [⟨some 4, none, [], .mov (.c (.bool false))⟩])
 (.seq (.seq (.reg false [0, 1, 10] [] [⟨some 6, none, [], .mov (.t 0)⟩,
 ⟨some 7, none, [], .len false (.t 6)⟩,
 ⟨some 8, none, [], .mov (.t 1)⟩,
 ⟨some 9, none, [], .len false (.t 8)⟩,
 ⟨some 10, none, [], .bin .neq (.t 7) (.t 9)⟩])
 (.cond (.t 10)
 (.seq (.reg false [4] [] [⟨some 4, none, [], .mov (.c (.bool false))⟩])
 (.pre [4] .ret))
 .skip))
 (.pre [0, 1] (.seq (.seq (.reg false [0, 1, 5] [] [⟨some 5, none, [], .mov (.c (.int .i64 0))⟩])
 (.blk 0
 (.loop b23_0)))
 (.pre [] (.seq (.reg false [4] [] [⟨some 4, none, [], .mov (.c (.bool true))⟩])
 (.pre [4] .ret))))))) }

/-- "aircheck/aircheckref06.pick" -/
def x24 : XFn := { np := 2, isOpen := false, ns := 0, res := [.tmp 4], code :=
  (.seq (.reg false [0, 1] [] [⟨some 4, none, [], .mov (.c (.int .i64 0))⟩])
 (.seq (.seq (.reg false [0, 1, 6] [] [⟨some 5, none, [], .mov (.t 0)⟩,
 ⟨some 6, none, [], .bin .lss (.t 5) (.c (.int .i64 0))⟩])
 (.cond (.t 6)
 (.reg false [0, 1] [] [⟨some 7, none, [], .mov (.t 0)⟩,
 ⟨some 8, none, [], .bin .add (.t 7) (.c (.int .i64 1))⟩,
 ⟨some 9, none, [], .un .neg (.t 8)⟩,
 ⟨some 0, none, [], .mov (.t 9)⟩])
 .skip))
 (.pre [0, 1] (.seq (.reg false [4] [] [⟨some 10, none, [], .mov (.t 0)⟩,
 ⟨some 11, none, [], .mov (.t 1)⟩,
 ⟨some 12, none, [], .bin .rem (.t 10) (.t 11)⟩,
 ⟨some 4, none, [], .mov (.t 12)⟩])
 (.pre [4] .ret))))) }

/-- a round of "aircheck/week.text" -/
def r2 : XRnd := { ps := [36, 37], asg := (.seq (.reg false [6, 10, 37] [] [⟨some 10, none, [], .mov (.t 36)⟩])
 (.reg false [6, 10, 11] [] [⟨some 11, none, [], .mov (.t 37)⟩])), body :=
  (.blk 3
 (.reg true [] [] [⟨some 38, none, [.box 6], .load .one (.t 6)⟩,
 ⟨some 39, none, [], .mov (.t 10)⟩,
 ⟨some 40, none, [], .call (.c (.fn 33 [])) [(.t 39)] []⟩,
 ⟨some 41, none, [], .bin .add (.t 40) (.c (.str [45]))⟩,
 ⟨some 42, none, [], .mov (.t 11)⟩,
 ⟨some 43, none, [], .call (.c (.fn 33 [])) [(.t 42)] []⟩,
 ⟨some 44, none, [], .bin .add (.t 41) (.t 43)⟩,
 ⟨some 45, none, [.closed 44], .bslice 1 (.str []) 1 [(0, (.t 44))]⟩,
 ⟨some 46, none, [.nobox 1], .app 1 1 8796093022208 (.t 38) (.t 45)⟩,
 ⟨none, none, [.box 6], .store 1 (.t 6) (.t 46)⟩])) }

/-- a round of "aircheck/week.text" -/
def r3 : XRnd := { ps := [14, 15], asg := (.seq (.reg false [5, 7, 15] [] [⟨some 7, none, [], .mov (.t 14)⟩])
 (.reg false [5, 7, 8] [] [⟨some 8, none, [], .mov (.t 15)⟩])), body :=
  (.blk 1
 (.seq (.reg false [5, 7, 8, 9] [] [⟨some 16, none, [], .mov (.t 7)⟩,
 ⟨some 17, none, [], .ixA 7 1 (.c (.cptr g0)) (.t 16)⟩,
 ⟨some 18, none, [], .load .one (.t 17)⟩,
 ⟨some 9, none, [], .mov (.t 18)⟩])
 (.seq (.seq (.reg false [5, 8, 9, 22] [] [⟨some 19, none, [], .mov (.t 8)⟩,
 ⟨some 20, none, [], .mov (.t 7)⟩,
 ⟨some 21, none, [], .bin .add (.t 20) (.c (.int .i64 1))⟩,
 ⟨some 22, none, [], .bin .gtr (.t 19) (.t 21)⟩])
 (.cond (.t 22)
 (.reg false [5, 9] [] [⟨some 23, none, [], .mov (.t 9)⟩,
 ⟨some 24, none, [], .mov (.t 8)⟩,
 ⟨some 25, none, [], .bin .sub (.t 24) (.c (.int .i64 1))⟩,
 ⟨some 26, none, [], .ixA 7 1 (.c (.cptr g0)) (.t 25)⟩,
 ⟨some 27, none, [], .load .one (.t 26)⟩,
 ⟨some 28, none, [], .bin .add (.c (.str [45])) (.t 27)⟩,
 ⟨some 29, none, [], .bin .add (.t 23) (.t 28)⟩,
 ⟨some 9, none, [], .mov (.t 29)⟩])
 .skip))
 (.pre [5, 9] (.reg false [] [] [⟨some 30, none, [], .load .one (.t 5)⟩,
 ⟨some 31, none, [], .mov (.t 9)⟩,
 ⟨some 32, none, [], .bslice 1 (.str []) 1 [(0, (.t 31))]⟩,
 ⟨some 33, none, [], .app 3 1 8796093022208 (.t 30) (.t 32)⟩,
 ⟨none, none, [], .store 1 (.t 5) (.t 33)⟩]))))) }

/-- "aircheck/week.text" -/
def x25 : XFn := { np := 2, isOpen := false, ns := 6, res := [.tmp 4], code :=
  (.seq (.reg false [0, 1, 4] [] [⟨some 4, none, [], .mov (.c (.str []))⟩])
 (.seq (.reg false [0, 1, 4, 5, 6] [] [⟨some 5, none, [], .alloc 4 [.nilSl]⟩,
 ⟨some 6, none, [], .alloc 5 [.nilSl]⟩])
 (.seq (.seq (.reg false [1, 4, 5, 6, 13] [] [⟨some 12, none, [], .mov (.t 0)⟩,
 ⟨some 13, none, [], .call (.c (.fn 32 [])) [(.t 12)] []⟩])
 (.blk 0
 (.rfn 2 (.t 13) 3)))
 (.pre [1, 4, 5, 6] (.seq (.seq (.reg false [4, 5, 6, 35] [] [⟨some 34, none, [], .mov (.t 1)⟩,
 ⟨some 35, none, [], .call (.c (.fn 32 [])) [(.t 34)] []⟩])
 (.blk 2
 (.rfn 0 (.t 35) 2)))
 (.pre [5, 6] (.seq (.reg true [4] [] [⟨some 47, none, [.box 5], .load .one (.t 5)⟩,
 ⟨some 48, none, [], .call (.c (.fn 26 [])) [(.t 47), (.c (.str [44]))] []⟩,
 ⟨some 49, none, [], .bin .add (.t 48) (.c (.str [32]))⟩,
 ⟨some 50, none, [.box 6], .load .one (.t 6)⟩,
 ⟨some 51, none, [], .call (.c (.fn 26 [])) [(.t 50), (.c (.str [32]))] []⟩,
 ⟨some 52, none, [], .bin .add (.t 49) (.t 51)⟩,
 ⟨some 4, none, [], .mov (.t 52)⟩])
 (.pre [4] .ret)))))))) }

@[go_sem] def c28_0 : XC := (.pre [4, 5, 68, 69, 70]
  (.seq (.reg false [4, 5, 68, 69, 70, 71] [] [⟨some 71, none, [], .bin .lss (.t 70) (.t 69)⟩])
 (.seq (.cond (.t 71)
 .skip
 (.pre [4, 5] (.exit 2)))
 (.pre [4, 5, 68, 69, 70] (.seq (.blk 3
 (.seq (.reg false [4, 5, 17, 68, 69, 70] [] [⟨some 72, none, [], .ixS 1 (.t 68) (.t 70)⟩,
 ⟨some 73, none, [], .load .one (.t 72)⟩,
 ⟨some 17, none, [], .mov (.t 73)⟩])
 (.seq (.reg false [4, 5, 18, 19, 68, 69, 70] [] [⟨some 75, none, [], .mov (.t 17)⟩,
 ⟨some 76, none, [], .call (.c (.fn 38 [])) [(.t 75), (.c (.str [45]))] []⟩,
 ⟨some 74, none, [], .mov (.t 76)⟩,
 ⟨some 77, none, [], .ext (.t 74) 0⟩,
 ⟨some 78, none, [], .ext (.t 74) 1⟩,
 ⟨some 79, none, [], .ext (.t 74) 2⟩,
 ⟨some 18, none, [], .mov (.t 77)⟩,
 ⟨some 19, none, [], .mov (.t 78)⟩,
 ⟨some 20, none, [], .mov (.t 79)⟩])
 (.seq (.reg false [4, 5, 19, 21, 22, 68, 69, 70] [] [⟨some 81, none, [], .mov (.t 18)⟩,
 ⟨some 82, none, [], .call (.c (.fn 40 [])) [(.t 81)] []⟩,
 ⟨some 80, none, [], .mov (.t 82)⟩,
 ⟨some 83, none, [], .ext (.t 80) 0⟩,
 ⟨some 84, none, [], .ext (.t 80) 1⟩,
 ⟨some 21, none, [], .mov (.t 83)⟩,
 ⟨some 22, none, [], .mov (.t 84)⟩])
 (.seq (.reg false [4, 5, 21, 22, 23, 24, 68, 69, 70] [] [⟨some 86, none, [], .mov (.t 19)⟩,
 ⟨some 87, none, [], .call (.c (.fn 40 [])) [(.t 86)] []⟩,
 ⟨some 85, none, [], .mov (.t 87)⟩,
 ⟨some 88, none, [], .ext (.t 85) 0⟩,
 ⟨some 89, none, [], .ext (.t 85) 1⟩,
 ⟨some 23, none, [], .mov (.t 88)⟩,
 ⟨some 24, none, [], .mov (.t 89)⟩])
 (.seq (.reg false [4, 5, 21, 23, 68, 69, 70, 108] [] [⟨some 90, none, [], .mov (.t 22)⟩,
 ⟨some 91, none, [], .isnif false (.t 90)⟩,
 ⟨some 92, none, [], .mov (.t 91)⟩,
 ⟨some 93, some (92, true), [], .mov (.t 24)⟩,
 ⟨some 94, some (92, true), [], .isnif false (.t 93)⟩,
 ⟨some 95, none, [], .pick (.t 92) (.t 94) (.c (.bool false))⟩,
 ⟨some 96, none, [], .mov (.t 95)⟩,
 ⟨some 97, some (96, true), [], .mov (.t 21)⟩,
 ⟨some 98, some (96, true), [], .bin .geq (.t 97) (.c (.int .i64 0))⟩,
 ⟨some 99, none, [], .pick (.t 96) (.t 98) (.c (.bool false))⟩,
 ⟨some 100, none, [], .mov (.t 99)⟩,
 ⟨some 101, some (100, true), [], .mov (.t 21)⟩,
 ⟨some 102, some (100, true), [], .mov (.t 23)⟩,
 ⟨some 103, some (100, true), [], .bin .lss (.t 101) (.t 102)⟩,
 ⟨some 104, none, [], .pick (.t 100) (.t 103) (.c (.bool false))⟩,
 ⟨some 105, none, [], .mov (.t 104)⟩,
 ⟨some 106, some (105, true), [], .mov (.t 23)⟩,
 ⟨some 107, some (105, true), [], .bin .leq (.t 106) (.c (.int .i64 24))⟩,
 ⟨some 108, none, [], .pick (.t 105) (.t 107) (.c (.bool false))⟩])
 (.cond (.t 108)
 (.reg true [4, 5, 68, 69, 70] [] [⟨some 109, none, [], .mov (.t 5)⟩,
 ⟨some 110, none, [], .mov (.t 23)⟩,
 ⟨some 111, none, [], .bin .shl (.c (.int .i64 1)) (.t 110)⟩,
 ⟨some 112, none, [], .mov (.t 21)⟩,
 ⟨some 113, none, [], .bin .shl (.c (.int .i64 1)) (.t 112)⟩,
 ⟨some 114, none, [], .bin .sub (.t 111) (.t 113)⟩,
 ⟨some 115, none, [], .bin .or (.t 109) (.t 114)⟩,
 ⟨some 5, none, [], .mov (.t 115)⟩])
 .skip)))))))
 (.pre [4, 5, 68, 69, 70] (.reg false [4, 5, 68, 69, 70] [] [⟨some 116, none, [], .bin .add (.t 70) (.c (.int .i64 1))⟩,
 ⟨some 70, none, [], .mov (.t 116)⟩])))))))
def b28_0 : XC := c28_0
@[go_sem] theorem e28_0 (L : Lib) (cx : Cx) (env : Env) (h : Heap) : runC L cx b28_0 (env, h) = runC L cx c28_0 (env, h) := rfl

@[go_sem] def c28_1 : XC := (.pre [4, 5, 7, 32, 33, 34]
  (.seq (.reg false [4, 5, 7, 32, 33, 34, 35] [] [⟨some 35, none, [], .bin .lss (.t 34) (.t 33)⟩])
 (.seq (.cond (.t 35)
 .skip
 (.pre [4, 5, 7] (.exit 0)))
 (.pre [4, 5, 7, 32, 33, 34] (.seq (.blk 1
 (.seq (.reg false [4, 5, 7, 10, 32, 33, 34] [] [⟨some 36, none, [], .ixS 1 (.t 32) (.t 34)⟩,
 ⟨some 37, none, [], .load .one (.t 36)⟩,
 ⟨some 10, none, [], .mov (.t 37)⟩])
 (.seq (.reg false [4, 5, 7, 11, 12, 13, 32, 33, 34] [] [⟨some 39, none, [], .mov (.t 10)⟩,
 ⟨some 40, none, [], .call (.c (.fn 38 [])) [(.t 39), (.c (.str [45]))] []⟩,
 ⟨some 38, none, [], .mov (.t 40)⟩,
 ⟨some 41, none, [], .ext (.t 38) 0⟩,
 ⟨some 42, none, [], .ext (.t 38) 1⟩,
 ⟨some 43, none, [], .ext (.t 38) 2⟩,
 ⟨some 11, none, [], .mov (.t 41)⟩,
 ⟨some 12, none, [], .mov (.t 42)⟩,
 ⟨some 13, none, [], .mov (.t 43)⟩])
 (.seq (.seq (.reg false [4, 5, 7, 11, 12, 32, 33, 34, 45] [] [⟨some 44, none, [], .mov (.t 13)⟩,
 ⟨some 45, none, [], .un .not (.t 44)⟩])
 (.cond (.t 45)
 (.reg false [4, 5, 7, 11, 12, 32, 33, 34] [] [⟨some 46, none, [], .mov (.t 11)⟩,
 ⟨some 12, none, [], .mov (.t 46)⟩])
 .skip))
 (.pre [4, 5, 7, 11, 12, 32, 33, 34] (.seq (.reg false [4, 5, 7, 14, 15, 32, 33, 34] [] [⟨some 47, none, [], .mov (.t 11)⟩,
 ⟨some 48, none, [], .call (.c (.fn 39 [])) [(.t 47)] []⟩,
 ⟨some 49, none, [], .mov (.t 12)⟩,
 ⟨some 50, none, [], .call (.c (.fn 39 [])) [(.t 49)] []⟩,
 ⟨some 14, none, [], .mov (.t 48)⟩,
 ⟨some 15, none, [], .mov (.t 50)⟩])
 (.seq (.reg false [4, 5, 7, 14, 15, 32, 33, 34, 57] [] [⟨some 51, none, [], .mov (.t 14)⟩,
 ⟨some 52, none, [], .mov (.t 15)⟩,
 ⟨some 53, none, [], .bin .leq (.t 51) (.t 52)⟩,
 ⟨some 54, none, [], .mov (.t 53)⟩,
 ⟨some 55, some (54, true), [], .mov (.t 15)⟩,
 ⟨some 56, some (54, true), [], .bin .lss (.t 55) (.c (.int .i64 7))⟩,
 ⟨some 57, none, [], .pick (.t 54) (.t 56) (.c (.bool false))⟩])
 (.cond (.t 57)
 (.reg true [4, 5, 7, 32, 33, 34] [] [⟨some 58, none, [], .mov (.t 4)⟩,
 ⟨some 59, none, [], .mov (.t 15)⟩,
 ⟨some 60, none, [], .bin .add (.t 59) (.c (.int .i64 1))⟩,
 ⟨some 61, none, [], .bin .shl (.c (.int .i64 1)) (.t 60)⟩,
 ⟨some 62, none, [], .mov (.t 14)⟩,
 ⟨some 63, none, [], .bin .shl (.c (.int .i64 1)) (.t 62)⟩,
 ⟨some 64, none, [], .bin .sub (.t 61) (.t 63)⟩,
 ⟨some 65, none, [], .bin .or (.t 58) (.t 64)⟩,
 ⟨some 4, none, [], .mov (.t 65)⟩])
 .skip))))))))
 (.pre [4, 5, 7, 32, 33, 34] (.reg false [4, 5, 7, 32, 33, 34] [] [⟨some 66, none, [], .bin .add (.t 34) (.c (.int .i64 1))⟩,
 ⟨some 34, none, [], .mov (.t 66)⟩])))))))
def b28_1 : XC := c28_1
@[go_sem] theorem e28_1 (L : Lib) (cx : Cx) (env : Env) (h : Heap) : runC L cx b28_1 (env, h) = runC L cx c28_1 (env, h) := rfl

/-- "aircheck/week.meant" -/
def x28 : XFn := { np := 1, isOpen := false, ns := 0, res := [.tmp 2, .tmp 3], code :=
  (.seq (.reg false [0] [] [⟨some 2, none, [], .mov (.c (.int .i64 0))⟩,
 ⟨some 3, none, [], .mov (.c (.int .i64 0))⟩])
 (.seq (.reg false [0, 4, 5] [] [⟨some 4, none, [], .mov (.c (.int .i64 0))⟩,
 ⟨some 5, none, [], .mov (.c (.int .i64 0))⟩])
 (.seq (.reg false [4, 5, 6, 7] [] [⟨some 26, none, [], .mov (.t 0)⟩,
 ⟨some 27, none, [], .call (.c (.fn 38 [])) [(.t 26), (.c (.str [32]))] []⟩,
 ⟨some 25, none, [], .mov (.t 27)⟩,
 ⟨some 28, none, [], .ext (.t 25) 0⟩,
 ⟨some 29, none, [], .ext (.t 25) 1⟩,
 ⟨some 30, none, [], .ext (.t 25) 2⟩,
 ⟨some 6, none, [], .mov (.t 28)⟩,
 ⟨some 7, none, [], .mov (.t 29)⟩,
 ⟨some 8, none, [], .mov (.t 30)⟩])
 (.seq (.seq (.reg false [4, 5, 7, 32, 33, 34] [] [⟨some 31, none, [], .mov (.t 6)⟩,
 ⟨some 32, none, [], .call (.c (.fn 27 [])) [(.t 31), (.c (.str [44]))] []⟩,
 ⟨some 33, none, [], .len false (.t 32)⟩,
 ⟨some 34, none, [], .mov (.c (.int .i64 0))⟩])
 (.blk 0
 (.loop b28_1)))
 (.pre [4, 5, 7] (.seq (.seq (.reg false [4, 5, 68, 69, 70] [] [⟨some 67, none, [], .mov (.t 7)⟩,
 ⟨some 68, none, [], .call (.c (.fn 27 [])) [(.t 67), (.c (.str [32]))] []⟩,
 ⟨some 69, none, [], .len false (.t 68)⟩,
 ⟨some 70, none, [], .mov (.c (.int .i64 0))⟩])
 (.blk 2
 (.loop b28_0)))
 (.pre [4, 5] (.seq (.reg false [2, 3] [] [⟨some 117, none, [], .mov (.t 4)⟩,
 ⟨some 118, none, [], .mov (.t 5)⟩,
 ⟨some 2, none, [], .mov (.t 117)⟩,
 ⟨some 3, none, [], .mov (.t 118)⟩])
 (.pre [2, 3] .ret))))))))) }

/-- "aircheck/week.right" -/
def x29 : XFn := { np := 2, isOpen := false, ns := 0, res := [.tmp 4], code :=
  (.seq (.reg false [2, 3] [] [⟨some 2, none, [], .boxR (.t 0)⟩,
 ⟨some 3, none, [], .boxR (.t 1)⟩,
 ⟨some 4, none, [], .mov (.c (.bool false))⟩])
 (.seq (.reg false [4] [] [⟨some 5, none, [], .load (.agg 7) (.t 2)⟩,
 ⟨some 6, none, [], .call (.c (.fn 22 [])) [(.t 5)] []⟩,
 ⟨some 7, none, [], .mov (.t 6)⟩,
 ⟨some 8, some (7, true), [], .padd (.t 3) 0⟩,
 ⟨some 9, some (7, true), [], .load .one (.t 8)⟩,
 ⟨some 10, some (7, true), [], .bin .geq (.t 9) (.c (.int .i64 0))⟩,
 ⟨some 11, none, [], .pick (.t 7) (.t 10) (.c (.bool false))⟩,
 ⟨some 12, none, [], .mov (.t 11)⟩,
 ⟨some 13, some (12, true), [], .padd (.t 3) 0⟩,
 ⟨some 14, some (12, true), [], .load .one (.t 13)⟩,
 ⟨some 15, some (12, true), [], .padd (.t 3) 1⟩,
 ⟨some 16, some (12, true), [], .load .one (.t 15)⟩,
 ⟨some 17, some (12, true), [], .bin .lss (.t 14) (.t 16)⟩,
 ⟨some 18, none, [], .pick (.t 12) (.t 17) (.c (.bool false))⟩,
 ⟨some 19, none, [], .mov (.t 18)⟩,
 ⟨some 20, some (19, true), [], .padd (.t 3) 1⟩,
 ⟨some 21, some (19, true), [], .load .one (.t 20)⟩,
 ⟨some 22, some (19, true), [], .bin .leq (.t 21) (.c (.int .i64 10000000))⟩,
 ⟨some 23, none, [], .pick (.t 19) (.t 22) (.c (.bool false))⟩,
 ⟨some 4, none, [], .mov (.t 23)⟩])
 (.pre [4] .ret))) }

/-- "aircheck/week.spells" -/
def x30 : XFn := { np := 2, isOpen := false, ns := 0, res := [.tmp 4], code :=
  (.seq (.reg false [2, 3] [] [⟨some 2, none, [], .boxR (.t 0)⟩,
 ⟨some 3, none, [], .boxR (.t 1)⟩,
 ⟨some 4, none, [], .mov (.c .nilFn)⟩])
 (.seq (.reg false [4] [] [⟨some 5, none, [], .mkfn 41 [(.t 3), (.t 2)]⟩,
 ⟨some 4, none, [], .mov (.t 5)⟩])
 (.pre [4] .ret))) }

/-- "aircheck/week.has" -/
def x31 : XFn := { np := 2, isOpen := false, ns := 0, res := [.tmp 4], code :=
  (.seq (.reg false [1, 2] [] [⟨some 2, none, [], .boxR (.t 0)⟩,
 ⟨some 4, none, [], .mov (.c (.bool false))⟩])
 (.seq (.reg false [4] [] [⟨some 5, none, [], .mov (.t 1)⟩,
 ⟨some 6, none, [], .bin .quo (.t 5) (.c (.int .i64 24))⟩,
 ⟨some 7, none, [], .bin .rem (.t 6) (.c (.int .i64 7))⟩,
 ⟨some 8, none, [], .ixA 7 1 (.t 2) (.t 7)⟩,
 ⟨some 9, none, [], .load .one (.t 8)⟩,
 ⟨some 10, none, [], .mov (.t 1)⟩,
 ⟨some 11, none, [], .bin .rem (.t 10) (.c (.int .i64 24))⟩,
 ⟨some 12, none, [], .bin .shr (.t 9) (.t 11)⟩,
 ⟨some 13, none, [], .bin .and (.t 12) (.c (.int .i64 1))⟩,
 ⟨some 14, none, [], .bin .eql (.t 13) (.c (.int .i64 1))⟩,
 ⟨some 4, none, [], .mov (.t 14)⟩])
 (.pre [4] .ret))) }

/-- "aircheck/week.runs" -/
def x32 : XFn := { np := 1, isOpen := false, ns := 0, res := [.tmp 2], code :=
  (.seq (.reg false [1] [] [⟨some 1, none, [], .boxR (.t 0)⟩,
 ⟨some 2, none, [], .mov (.c .nilFn)⟩])
 (.seq (.reg false [2] [] [⟨some 3, none, [], .mkfn 42 [(.t 1)]⟩,
 ⟨some 2, none, [], .mov (.t 3)⟩])
 (.pre [2] .ret))) }

@[go_sem] def c39_0 : XC := (.pre [0, 5, 6]
  (.seq (.reg false [0, 5, 6, 7] [] [⟨some 7, none, [], .bin .lss (.t 6) (.c (.int .i64 7))⟩])
 (.seq (.cond (.t 7)
 .skip
 (.pre [] (.exit 0)))
 (.pre [0, 5, 6] (.seq (.blk 1
 (.seq (.reg false [0, 3, 4, 5, 6] [] [⟨some 8, none, [], .mov (.t 6)⟩,
 ⟨some 9, none, [], .ixV 7 1 .one (.t 5) (.t 6)⟩,
 ⟨some 3, none, [], .mov (.t 8)⟩,
 ⟨some 4, none, [], .mov (.t 9)⟩])
 (.seq (.reg false [0, 3, 5, 6, 12] [] [⟨some 10, none, [], .mov (.t 4)⟩,
 ⟨some 11, none, [], .mov (.t 0)⟩,
 ⟨some 12, none, [], .bin .eql (.t 10) (.t 11)⟩])
 (.cond (.t 12)
 (.seq (.reg false [2] [] [⟨some 13, none, [], .mov (.t 3)⟩,
 ⟨some 2, none, [], .mov (.t 13)⟩])
 (.pre [2] .ret))
 .skip))))
 (.pre [0, 5, 6] (.reg false [0, 5, 6] [] [⟨some 14, none, [], .bin .add (.t 6) (.c (.int .i64 1))⟩,
 ⟨some 6, none, [], .mov (.t 14)⟩])))))))
def b39_0 : XC := c39_0
@[go_sem] theorem e39_0 (L : Lib) (cx : Cx) (env : Env) (h : Heap) : runC L cx b39_0 (env, h) = runC L cx c39_0 (env, h) := rfl

/-- "aircheck/week.find" -/
def x39 : XFn := { np := 1, isOpen := false, ns := 0, res := [.tmp 2], code :=
  (.seq (.reg false [0] [] [⟨some 2, none, [], .mov (.c (.int .i64 0))⟩])
 (.seq (.seq (.reg false [0, 5, 6] [] [⟨some 5, none, [], .load (.agg 7) (.c (.cptr g0))⟩,
 ⟨some 6, none, [], .mov (.c (.int .i64 0))⟩])
 (.blk 0
 (.loop b39_0)))
 (.pre [] (.seq (.reg false [2] [] [⟨some 2, none, [], .mov (.c (.int .i64 7))⟩])
 (.pre [2] .ret))))) }

@[go_sem] def c41_0 : XC := (.pre [0, 1, 2, 4, 5]
  (.seq (.seq (.reg false [0, 1, 2, 4, 5, 15] [] [⟨some 11, none, [], .mov (.t 5)⟩,
 ⟨some 12, none, [], .bin .mul (.t 11) (.c (.int .i64 3600))⟩,
 ⟨some 13, none, [], .padd (.t 1) 1⟩,
 ⟨some 14, none, [], .load .one (.t 13)⟩,
 ⟨some 15, none, [], .bin .lss (.t 12) (.t 14)⟩])
 (.cond (.t 15)
 .skip
 (.pre [0, 1, 4] (.exit 0))))
 (.pre [0, 1, 2, 4, 5] (.seq (.blk 1
 (.seq (.reg false [0, 1, 2, 4, 5, 6] [] [⟨some 18, none, [], .padd (.t 1) 0⟩,
 ⟨some 19, none, [], .load .one (.t 18)⟩,
 ⟨some 20, none, [], .mov (.t 5)⟩,
 ⟨some 21, none, [], .bin .mul (.t 20) (.c (.int .i64 3600))⟩,
 ⟨some 22, none, [], .minmax true [(.t 19), (.t 21)]⟩,
 ⟨some 6, none, [], .mov (.t 22)⟩])
 (.blk 2
 (.seq (.reg false [0, 1, 2, 4, 5, 6, 23] [] [⟨some 24, none, [], .load (.agg 7) (.t 2)⟩,
 ⟨some 25, none, [], .mov (.t 5)⟩,
 ⟨some 26, none, [], .call (.c (.fn 31 [])) [(.t 24), (.t 25)] []⟩,
 ⟨some 27, none, [], .mov (.t 26)⟩,
 ⟨some 28, some (27, true), [], .padd (.t 4) 0⟩,
 ⟨some 29, some (27, true), [], .load .one (.t 28)⟩,
 ⟨some 30, some (27, true), [], .bin .lss (.t 29) (.c (.int .i64 0))⟩,
 ⟨some 31, none, [], .pick (.t 27) (.t 30) (.c (.bool false))⟩,
 ⟨some 23, none, [], .mov (.t 31)⟩])
 (.cond (.t 23)
 (.reg false [0, 1, 2, 4, 5] [] [⟨some 32, none, [], .mov (.t 6)⟩,
 ⟨some 33, none, [], .padd (.t 4) 0⟩,
 ⟨none, none, [], .store 1 (.t 33) (.t 32)⟩])
 (.seq (.reg false [0, 1, 2, 4, 5, 6, 34] [] [⟨some 35, none, [], .load (.agg 7) (.t 2)⟩,
 ⟨some 36, none, [], .mov (.t 5)⟩,
 ⟨some 37, none, [], .call (.c (.fn 31 [])) [(.t 35), (.t 36)] []⟩,
 ⟨some 38, none, [], .un .not (.t 37)⟩,
 ⟨some 39, none, [], .mov (.t 38)⟩,
 ⟨some 40, some (39, true), [], .padd (.t 4) 0⟩,
 ⟨some 41, some (39, true), [], .load .one (.t 40)⟩,
 ⟨some 42, some (39, true), [], .bin .geq (.t 41) (.c (.int .i64 0))⟩,
 ⟨some 43, none, [], .pick (.t 39) (.t 42) (.c (.bool false))⟩,
 ⟨some 34, none, [], .mov (.t 43)⟩])
 (.cond (.t 34)
 (.seq (.reg false [0, 1, 2, 4, 5] [] [⟨some 44, none, [], .mov (.t 6)⟩,
 ⟨some 45, none, [], .padd (.t 4) 1⟩,
 ⟨none, none, [], .store 1 (.t 45) (.t 44)⟩])
 (.seq (.seq (.reg false [0, 1, 2, 4, 5, 49] [] [⟨some 46, none, [], .mov (.t 0)⟩,
 ⟨some 47, none, [], .load (.agg 2) (.t 4)⟩,
 ⟨some 48, none, [], .call (.t 46) [(.t 47)] []⟩,
 ⟨some 49, none, [], .un .not (.t 48)⟩])
 (.cond (.t 49)
 (.pre [] .ret)
 .skip))
 (.pre [0, 1, 2, 4, 5] (.reg false [0, 1, 2, 4, 5] [] [⟨some 50, none, [], .padd (.t 4) 0⟩,
 ⟨none, none, [], .store 1 (.t 50) (.c (.int .i64 (-1)))⟩]))))
 .skip)))))))
 (.pre [0, 1, 2, 4, 5] (.reg false [0, 1, 2, 4, 5] [] [⟨some 16, none, [], .mov (.t 5)⟩,
 ⟨some 17, none, [], .bin .add (.t 16) (.c (.int .i64 1))⟩,
 ⟨some 5, none, [], .mov (.t 17)⟩]))))))
def b41_0 : XC := c41_0
@[go_sem] theorem e41_0 (L : Lib) (cx : Cx) (env : Env) (h : Heap) : runC L cx b41_0 (env, h) = runC L cx c41_0 (env, h) := rfl

/-- "aircheck/week.spells$1" -/
def x41 : XFn := { np := 3, isOpen := true, ns := 1, res := [], code :=
  (.seq (.reg false [0, 1, 2, 4] [] [⟨some 7, none, [], .build [.int .i64 0, .int .i64 0] [(0, 1, (.c (.int .i64 (-1))))]⟩,
 ⟨some 4, none, [], .alloc 0 [.int .i64 0, .int .i64 0]⟩,
 ⟨none, none, [], .store 2 (.t 4) (.t 7)⟩])
 (.seq (.seq (.reg false [0, 1, 2, 4, 5] [] [⟨some 8, none, [], .padd (.t 1) 0⟩,
 ⟨some 9, none, [], .load .one (.t 8)⟩,
 ⟨some 10, none, [], .bin .quo (.t 9) (.c (.int .i64 3600))⟩,
 ⟨some 5, none, [], .mov (.t 10)⟩])
 (.blk 0
 (.loop b41_0)))
 (.pre [0, 1, 4] (.seq (.reg false [0, 1, 4, 53] [] [⟨some 51, none, [], .padd (.t 4) 0⟩,
 ⟨some 52, none, [], .load .one (.t 51)⟩,
 ⟨some 53, none, [], .bin .geq (.t 52) (.c (.int .i64 0))⟩])
 (.cond (.t 53)
 (.reg false [] [] [⟨some 54, none, [], .mov (.t 0)⟩,
 ⟨some 55, none, [], .padd (.t 4) 0⟩,
 ⟨some 56, none, [], .load .one (.t 55)⟩,
 ⟨some 57, none, [], .padd (.t 1) 1⟩,
 ⟨some 58, none, [], .load .one (.t 57)⟩,
 ⟨some 59, none, [], .build [.int .i64 0, .int .i64 0] [(0, 1, (.t 56)), (1, 1, (.t 58))]⟩,
 ⟨some 60, none, [], .call (.t 54) [(.t 59)] []⟩])
 .skip))))) }

@[go_sem] def c42_1 : XC := (.pre [0, 1, 3, 4]
  (.seq (.seq (.reg false [0, 1, 3, 4, 21] [] [⟨some 17, none, [], .load .one (.t 1)⟩,
 ⟨some 18, none, [], .mov (.t 4)⟩,
 ⟨some 19, none, [], .bin .shr (.t 17) (.t 18)⟩,
 ⟨some 20, none, [], .bin .and (.t 19) (.c (.int .i64 1))⟩,
 ⟨some 21, none, [], .bin .eql (.t 20) (.c (.int .i64 1))⟩])
 (.cond (.t 21)
 .skip
 (.pre [0, 1, 3, 4] (.exit 4))))
 (.pre [0, 1, 3, 4] (.blk 5
 (.reg false [0, 1, 3, 4] [] [⟨some 22, none, [], .mov (.t 4)⟩,
 ⟨some 23, none, [], .bin .add (.t 22) (.c (.int .i64 1))⟩,
 ⟨some 4, none, [], .mov (.t 23)⟩])))))
def b42_1 : XC := c42_1
@[go_sem] theorem e42_1 (L : Lib) (cx : Cx) (env : Env) (h : Heap) : runC L cx b42_1 (env, h) = runC L cx c42_1 (env, h) := rfl

@[go_sem] def c42_2 : XC := (.pre [0, 1, 3]
  (.seq (.seq (.reg false [0, 1, 3, 13] [] [⟨some 9, none, [], .load .one (.t 1)⟩,
 ⟨some 10, none, [], .mov (.t 3)⟩,
 ⟨some 11, none, [], .bin .shr (.t 9) (.t 10)⟩,
 ⟨some 12, none, [], .bin .and (.t 11) (.c (.int .i64 1))⟩,
 ⟨some 13, none, [], .bin .eql (.t 12) (.c (.int .i64 0))⟩])
 (.cond (.t 13)
 .skip
 (.pre [0, 1, 3] (.exit 2))))
 (.pre [0, 1, 3] (.blk 3
 (.reg false [0, 1, 3] [] [⟨some 14, none, [], .mov (.t 3)⟩,
 ⟨some 15, none, [], .bin .add (.t 14) (.c (.int .i64 1))⟩,
 ⟨some 3, none, [], .mov (.t 15)⟩])))))
def b42_2 : XC := c42_2
@[go_sem] theorem e42_2 (L : Lib) (cx : Cx) (env : Env) (h : Heap) : runC L cx b42_2 (env, h) = runC L cx c42_2 (env, h) := rfl

@[go_sem] def c42_0 : XC := (.pre [0, 1, 3]
  (.seq (.seq (.reg false [0, 1, 3, 8] [] [⟨some 5, none, [], .load .one (.t 1)⟩,
 ⟨some 6, none, [], .mov (.t 3)⟩,
 ⟨some 7, none, [], .bin .shr (.t 5) (.t 6)⟩,
 ⟨some 8, none, [], .bin .neq (.t 7) (.c (.int .i64 0))⟩])
 (.cond (.t 8)
 .skip
 (.pre [] (.exit 0))))
 (.pre [0, 1, 3] (.blk 1
 (.seq (.blk 2
 (.loop b42_2))
 (.pre [0, 1, 3] (.seq (.reg false [0, 1, 3, 4] [] [⟨some 16, none, [], .mov (.t 3)⟩,
 ⟨some 4, none, [], .mov (.t 16)⟩])
 (.seq (.blk 4
 (.loop b42_1))
 (.pre [0, 1, 3, 4] (.seq (.seq (.reg false [0, 1, 4, 28] [] [⟨some 24, none, [], .mov (.t 0)⟩,
 ⟨some 25, none, [], .mov (.t 3)⟩,
 ⟨some 26, none, [], .mov (.t 4)⟩,
 ⟨some 27, none, [], .call (.t 24) [(.t 25), (.t 26)] []⟩,
 ⟨some 28, none, [], .un .not (.t 27)⟩])
 (.cond (.t 28)
 (.pre [] .ret)
 .skip))
 (.pre [0, 1, 4] (.reg false [0, 1, 3] [] [⟨some 29, none, [], .mov (.t 4)⟩,
 ⟨some 3, none, [], .mov (.t 29)⟩]))))))))))))
def b42_0 : XC := c42_0
@[go_sem] theorem e42_0 (L : Lib) (cx : Cx) (env : Env) (h : Heap) : runC L cx b42_0 (env, h) = runC L cx c42_0 (env, h) := rfl

/-- "aircheck/week.runs$1" -/
def x42 : XFn := { np := 2, isOpen := true, ns := 0, res := [], code :=
  (.seq (.reg false [0, 1, 3] [] [⟨some 3, none, [], .mov (.c (.int .i64 0))⟩])
 (.blk 0
 (.loop b42_0))) }

def rdT : List (Option XRnd) := [some r0, some r1, some r2, some r3]
def rds (g : Nat) : Option XRnd := (rdT[g]?).getD none
def fnT : List (Option XFn) := [none, none, none, none, some x4, some x5, some x6, some x7, some x8, some x9, some x10, some x11, some x12, some x13, some x14, some x15, some x16, some x17, some x18, some x19, some x20, some x21, some x22, some x23, some x24, some x25, none, none, some x28, some x29, some x30, some x31, some x32, none, none, none, none, none, none, some x39, none, some x41, some x42]
def fns (f : Nat) : Option XFn := (fnT[f]?).getD none
def clo (f : Nat) : Bool := [4, 5, 6, 7, 8, 9, 10, 11, 12, 13, 14, 15, 16, 17, 18, 19, 20, 21, 22, 23, 24, 25, 28, 29, 30, 31, 32, 39, 26, 27, 33, 38, 40].contains f
def kinds (f : Nat) : Option OK := match f with | 26 => some .join | 27 => some .split | 33 => some .itoa | 38 => some .cut | 40 => some (.atoi 99) | _ => none

def lib : Lib := { fns := fns, rds := rds, orc := orcT kinds, brw := fun f => ([11,12,23] : List Nat).contains f }
end Go.VI.Week
