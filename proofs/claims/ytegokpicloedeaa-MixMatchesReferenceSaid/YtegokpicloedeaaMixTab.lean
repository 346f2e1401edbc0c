/- the functions of mix for the own evaluator -/
import Derived.Test.YtegokpicloedeaaVIZ
namespace Go.VI.Mix
set_option linter.unusedVariables false
/-- "gosem.cut.init" -/
def x2 : XFn := { np := 0, isOpen := false, ns := 0, res := [], code :=
  (.reg false [] [] [⟨some 0, none, [], .call (.c (.fn 1 [])) [] []⟩]) }

@[go_sem] def c3_1 : XC := (.pre [8, 19, 21, 23, 48, 50, 238, 239, 240, 279, 280, 281]
  (.seq (.reg false [8, 19, 21, 23, 48, 50, 238, 239, 240, 279, 280, 281, 282] [] [⟨some 282, none, [], .bin .lss (.t 281) (.t 280)⟩])
  (.seq (.cond (.t 282)
    .skip
    (.pre [8, 19, 21, 23, 48, 238, 239, 240] (.exit 10)))
  (.pre [8, 19, 21, 23, 48, 50, 238, 239, 240, 279, 280, 281] (.seq (.blk 11
    (.seq (.reg false [8, 19, 21, 23, 48, 50, 58, 238, 239, 240, 279, 280, 281] [] [⟨some 283, none, [], .ixS 4 (.t 279) (.t 281)⟩,
      ⟨some 284, none, [], .load (.agg 4) (.t 283)⟩,
      ⟨some 58, none, [], .alloc 0 [.int .i64 0, .int .i64 0, .int .i64 0, .int .i64 0]⟩,
      ⟨none, none, [], .store 4 (.t 58) (.t 284)⟩])
    (.seq (.reg false [8, 19, 21, 23, 48, 50, 58, 59, 60, 238, 239, 240, 279, 280, 281] [] [⟨some 286, none, [], .mov (.t 50)⟩,
      ⟨some 287, none, [], .ixA 4 1 (.t 58) (.c (.int .i64 0))⟩,
      ⟨some 288, none, [], .load .one (.t 287)⟩,
      ⟨some 289, none, [], .ixA 4 1 (.t 58) (.c (.int .i64 1))⟩,
      ⟨some 290, none, [], .load .one (.t 289)⟩,
      ⟨some 291, none, [], .ixA 4 1 (.t 58) (.c (.int .i64 2))⟩,
      ⟨some 292, none, [], .load .one (.t 291)⟩,
      ⟨some 293, none, [], .ixA 4 1 (.t 58) (.c (.int .i64 3))⟩,
      ⟨some 294, none, [], .load .one (.t 293)⟩,
      ⟨some 295, none, [], .call (.c (.fn 27 [])) [(.t 286), (.t 288), (.t 290), (.t 292), (.t 294)] []⟩,
      ⟨some 285, none, [], .mov (.t 295)⟩,
      ⟨some 296, none, [], .ext (.t 285) 0⟩,
      ⟨some 297, none, [], .ext (.t 285) 1⟩,
      ⟨some 59, none, [], .mov (.t 296)⟩,
      ⟨some 60, none, [], .mov (.t 297)⟩])
    (.seq (.reg false [8, 19, 21, 23, 48, 50, 58, 59, 60, 61, 62, 238, 239, 240, 279, 280, 281] [] [⟨some 299, none, [], .mov (.t 50)⟩,
      ⟨some 300, none, [], .ixA 4 1 (.t 58) (.c (.int .i64 0))⟩,
      ⟨some 301, none, [], .load .one (.t 300)⟩,
      ⟨some 302, none, [], .ixA 4 1 (.t 58) (.c (.int .i64 1))⟩,
      ⟨some 303, none, [], .load .one (.t 302)⟩,
      ⟨some 304, none, [], .ixA 4 1 (.t 58) (.c (.int .i64 2))⟩,
      ⟨some 305, none, [], .load .one (.t 304)⟩,
      ⟨some 306, none, [], .ixA 4 1 (.t 58) (.c (.int .i64 3))⟩,
      ⟨some 307, none, [], .load .one (.t 306)⟩,
      ⟨some 308, none, [], .call (.c (.fn 28 [])) [(.t 299), (.t 301), (.t 303), (.t 305), (.t 307)] []⟩,
      ⟨some 298, none, [], .mov (.t 308)⟩,
      ⟨some 309, none, [], .ext (.t 298) 0⟩,
      ⟨some 310, none, [], .ext (.t 298) 1⟩,
      ⟨some 61, none, [], .mov (.t 309)⟩,
      ⟨some 62, none, [], .mov (.t 310)⟩])
    (.seq (.reg false [8, 19, 21, 23, 48, 50, 58, 59, 60, 61, 62, 63, 64, 238, 239, 240, 279, 280, 281] [] [⟨some 312, none, [], .mov (.t 50)⟩,
      ⟨some 313, none, [], .mov (.t 23)⟩,
      ⟨some 314, none, [], .ixA 4 1 (.t 58) (.c (.int .i64 0))⟩,
      ⟨some 315, none, [], .load .one (.t 314)⟩,
      ⟨some 316, none, [], .ixA 4 1 (.t 58) (.c (.int .i64 1))⟩,
      ⟨some 317, none, [], .load .one (.t 316)⟩,
      ⟨some 318, none, [], .ixA 4 1 (.t 58) (.c (.int .i64 2))⟩,
      ⟨some 319, none, [], .load .one (.t 318)⟩,
      ⟨some 320, none, [], .ixA 4 1 (.t 58) (.c (.int .i64 3))⟩,
      ⟨some 321, none, [], .load .one (.t 320)⟩,
      ⟨some 322, none, [], .call (.c (.fn 29 [])) [(.t 312), (.t 313), (.t 315), (.t 317), (.t 319), (.t 321)] []⟩,
      ⟨some 311, none, [], .mov (.t 322)⟩,
      ⟨some 323, none, [], .ext (.t 311) 0⟩,
      ⟨some 324, none, [], .ext (.t 311) 1⟩,
      ⟨some 63, none, [], .mov (.t 323)⟩,
      ⟨some 64, none, [], .mov (.t 324)⟩])
    (.seq (.reg false [8, 19, 21, 23, 48, 50, 59, 60, 61, 62, 63, 64, 65, 66, 238, 239, 240, 279, 280, 281] [] [⟨some 326, none, [], .mov (.t 50)⟩,
      ⟨some 327, none, [], .mov (.t 23)⟩,
      ⟨some 328, none, [], .ixA 4 1 (.t 58) (.c (.int .i64 0))⟩,
      ⟨some 329, none, [], .load .one (.t 328)⟩,
      ⟨some 330, none, [], .ixA 4 1 (.t 58) (.c (.int .i64 1))⟩,
      ⟨some 331, none, [], .load .one (.t 330)⟩,
      ⟨some 332, none, [], .ixA 4 1 (.t 58) (.c (.int .i64 2))⟩,
      ⟨some 333, none, [], .load .one (.t 332)⟩,
      ⟨some 334, none, [], .ixA 4 1 (.t 58) (.c (.int .i64 3))⟩,
      ⟨some 335, none, [], .load .one (.t 334)⟩,
      ⟨some 336, none, [], .call (.c (.fn 30 [])) [(.t 326), (.t 327), (.t 329), (.t 331), (.t 333), (.t 335)] []⟩,
      ⟨some 325, none, [], .mov (.t 336)⟩,
      ⟨some 337, none, [], .ext (.t 325) 0⟩,
      ⟨some 338, none, [], .ext (.t 325) 1⟩,
      ⟨some 65, none, [], .mov (.t 337)⟩,
      ⟨some 66, none, [], .mov (.t 338)⟩])
    (.seq (.reg false [8, 19, 21, 23, 48, 50, 238, 239, 240, 279, 280, 281, 358] [] [⟨some 339, none, [], .mov (.t 60)⟩,
      ⟨some 340, none, [], .mov (.t 62)⟩,
      ⟨some 341, none, [], .bin .neq (.t 339) (.t 340)⟩,
      ⟨some 342, none, [], .mov (.t 341)⟩,
      ⟨some 343, some (342, false), [], .mov (.t 64)⟩,
      ⟨some 344, some (342, false), [], .mov (.t 66)⟩,
      ⟨some 345, some (342, false), [], .bin .neq (.t 343) (.t 344)⟩,
      ⟨some 346, none, [], .pick (.t 342) (.c (.bool true)) (.t 345)⟩,
      ⟨some 347, none, [], .mov (.t 346)⟩,
      ⟨some 348, some (347, false), [], .mov (.t 59)⟩,
      ⟨some 349, some (347, false), [], .mov (.t 61)⟩,
      ⟨some 350, some (347, false), [], .call (.c (.fn 24 [])) [(.t 348), (.t 349)] []⟩,
      ⟨some 351, some (347, false), [], .un .not (.t 350)⟩,
      ⟨some 352, none, [], .pick (.t 347) (.c (.bool true)) (.t 351)⟩,
      ⟨some 353, none, [], .mov (.t 352)⟩,
      ⟨some 354, some (353, false), [], .mov (.t 63)⟩,
      ⟨some 355, some (353, false), [], .mov (.t 65)⟩,
      ⟨some 356, some (353, false), [], .call (.c (.fn 24 [])) [(.t 354), (.t 355)] []⟩,
      ⟨some 357, some (353, false), [], .un .not (.t 356)⟩,
      ⟨some 358, none, [], .pick (.t 353) (.c (.bool true)) (.t 357)⟩])
    (.cond (.t 358)
      (.seq (.reg false [20] [] [⟨some 20, none, [], .mov (.c (.bool false))⟩])
      (.pre [20] .ret))
      .skip))))))))
  (.pre [8, 19, 21, 23, 48, 50, 238, 239, 240, 279, 280, 281] (.reg false [8, 19, 21, 23, 48, 50, 238, 239, 240, 279, 280, 281] [] [⟨some 359, none, [], .bin .add (.t 281) (.c (.int .i64 1))⟩,
    ⟨some 281, none, [], .mov (.t 359)⟩])))))))
def b3_1 : XC := c3_1
@[go_sem] theorem e3_1 (L : Lib) (cx : Cx) (env : Env) (h : Heap) : runC L cx b3_1 (env, h) = runC L cx c3_1 (env, h) := rfl

@[go_sem] def c3_2 : XC := (.pre [8, 19, 21, 23, 48, 50, 238, 239, 240, 247, 248, 249]
  (.seq (.reg false [8, 19, 21, 23, 48, 50, 238, 239, 240, 247, 248, 249, 250] [] [⟨some 250, none, [], .bin .lss (.t 249) (.t 248)⟩])
  (.seq (.cond (.t 250)
    .skip
    (.pre [8, 19, 21, 23, 48, 50, 238, 239, 240] (.exit 8)))
  (.pre [8, 19, 21, 23, 48, 50, 238, 239, 240, 247, 248, 249] (.seq (.blk 9
    (.seq (.reg false [8, 19, 21, 23, 48, 50, 52, 238, 239, 240, 247, 248, 249] [] [⟨some 251, none, [], .ixS 1 (.t 247) (.t 249)⟩,
      ⟨some 252, none, [], .load .one (.t 251)⟩,
      ⟨some 52, none, [], .mov (.t 252)⟩])
    (.seq (.reg false [8, 19, 21, 23, 48, 50, 52, 53, 54, 238, 239, 240, 247, 248, 249] [] [⟨some 254, none, [], .mov (.t 50)⟩,
      ⟨some 255, none, [], .mov (.t 23)⟩,
      ⟨some 256, none, [], .mov (.t 52)⟩,
      ⟨some 257, none, [], .call (.c (.fn 25 [])) [(.t 254), (.t 255), (.t 256)] []⟩,
      ⟨some 253, none, [], .mov (.t 257)⟩,
      ⟨some 258, none, [], .ext (.t 253) 0⟩,
      ⟨some 259, none, [], .ext (.t 253) 1⟩,
      ⟨some 53, none, [], .mov (.t 258)⟩,
      ⟨some 54, none, [], .mov (.t 259)⟩])
    (.seq (.reg false [8, 19, 21, 23, 48, 50, 53, 54, 55, 56, 238, 239, 240, 247, 248, 249] [] [⟨some 261, none, [], .mov (.t 50)⟩,
      ⟨some 262, none, [], .mov (.t 23)⟩,
      ⟨some 263, none, [], .mov (.t 52)⟩,
      ⟨some 264, none, [], .call (.c (.fn 26 [])) [(.t 261), (.t 262), (.t 263)] []⟩,
      ⟨some 260, none, [], .mov (.t 264)⟩,
      ⟨some 265, none, [], .ext (.t 260) 0⟩,
      ⟨some 266, none, [], .ext (.t 260) 1⟩,
      ⟨some 55, none, [], .mov (.t 265)⟩,
      ⟨some 56, none, [], .mov (.t 266)⟩])
    (.seq (.reg false [8, 19, 21, 23, 48, 50, 238, 239, 240, 247, 248, 249, 275] [] [⟨some 267, none, [], .mov (.t 54)⟩,
      ⟨some 268, none, [], .mov (.t 56)⟩,
      ⟨some 269, none, [], .bin .neq (.t 267) (.t 268)⟩,
      ⟨some 270, none, [], .mov (.t 269)⟩,
      ⟨some 271, some (270, false), [], .mov (.t 53)⟩,
      ⟨some 272, some (270, false), [], .mov (.t 55)⟩,
      ⟨some 273, some (270, false), [], .call (.c (.fn 24 [])) [(.t 271), (.t 272)] []⟩,
      ⟨some 274, some (270, false), [], .un .not (.t 273)⟩,
      ⟨some 275, none, [], .pick (.t 270) (.c (.bool true)) (.t 274)⟩])
    (.cond (.t 275)
      (.seq (.reg false [20] [] [⟨some 20, none, [], .mov (.c (.bool false))⟩])
      (.pre [20] .ret))
      .skip))))))
  (.pre [8, 19, 21, 23, 48, 50, 238, 239, 240, 247, 248, 249] (.reg false [8, 19, 21, 23, 48, 50, 238, 239, 240, 247, 248, 249] [] [⟨some 276, none, [], .bin .add (.t 249) (.c (.int .i64 1))⟩,
    ⟨some 249, none, [], .mov (.t 276)⟩])))))))
def b3_2 : XC := c3_2
@[go_sem] theorem e3_2 (L : Lib) (cx : Cx) (env : Env) (h : Heap) : runC L cx b3_2 (env, h) = runC L cx c3_2 (env, h) := rfl

@[go_sem] def c3_0 : XC := (.pre [8, 19, 21, 23, 48, 238, 239, 240]
  (.seq (.reg false [8, 19, 21, 23, 48, 238, 239, 240, 241] [] [⟨some 241, none, [], .bin .lss (.t 240) (.t 239)⟩])
  (.seq (.cond (.t 241)
    .skip
    (.pre [21] (.exit 6)))
  (.pre [8, 19, 21, 23, 48, 238, 239, 240] (.seq (.blk 7
    (.seq (.reg false [8, 19, 21, 23, 48, 50, 238, 239, 240] [] [⟨some 242, none, [], .ixS 1 (.t 238) (.t 240)⟩,
      ⟨some 243, none, [], .load .one (.t 242)⟩,
      ⟨some 50, none, [], .mov (.t 243)⟩])
    (.seq (.seq (.reg false [8, 19, 21, 23, 48, 50, 238, 239, 240, 247, 248, 249] [] [⟨some 244, none, [], .mov (.t 8)⟩,
      ⟨some 245, none, [], .mov (.t 8)⟩,
      ⟨some 246, none, [], .call (.c (.fn 13 [])) [(.t 245), (.c (.int .i64 41))] []⟩,
      ⟨some 247, none, [], .bslice 1 (.int .i64 0) 2 [(0, (.t 244)), (1, (.t 246))]⟩,
      ⟨some 248, none, [], .len false (.t 247)⟩,
      ⟨some 249, none, [], .mov (.c (.int .i64 0))⟩])
    (.blk 8
      (.loop b3_2)))
    (.pre [8, 19, 21, 23, 48, 50, 238, 239, 240] (.seq (.reg false [8, 19, 21, 23, 48, 50, 238, 239, 240, 279, 280, 281] [] [⟨some 277, none, [], .load (.agg 4) (.t 48)⟩,
      ⟨some 278, none, [], .load (.agg 4) (.t 19)⟩,
      ⟨some 279, none, [], .bslice 4 (.agg [.int .i64 0, .int .i64 0, .int .i64 0, .int .i64 0]) 2 [(0, (.t 277)), (1, (.t 278))]⟩,
      ⟨some 280, none, [], .len false (.t 279)⟩,
      ⟨some 281, none, [], .mov (.c (.int .i64 0))⟩])
    (.blk 10
      (.loop b3_1)))))))
  (.pre [8, 19, 21, 23, 48, 238, 239, 240] (.reg false [8, 19, 21, 23, 48, 238, 239, 240] [] [⟨some 360, none, [], .bin .add (.t 240) (.c (.int .i64 1))⟩,
    ⟨some 240, none, [], .mov (.t 360)⟩])))))))
def b3_0 : XC := c3_0
@[go_sem] theorem e3_0 (L : Lib) (cx : Cx) (env : Env) (h : Heap) : runC L cx b3_0 (env, h) = runC L cx c3_0 (env, h) := rfl

@[go_sem] def c3_3 : XC := (.pre [8, 19, 21, 22, 23, 24, 165, 166, 167]
  (.seq (.reg false [8, 19, 21, 22, 23, 24, 165, 166, 167, 168] [] [⟨some 168, none, [], .bin .lss (.t 167) (.t 166)⟩])
  (.seq (.cond (.t 168)
    .skip
    (.pre [8, 19, 21, 22, 23, 24] (.exit 4)))
  (.pre [8, 19, 21, 22, 23, 24, 165, 166, 167] (.seq (.blk 5
    (.seq (.reg false [8, 19, 21, 22, 23, 24, 39, 165, 166, 167] [] [⟨some 169, none, [], .ixS 1 (.t 165) (.t 167)⟩,
      ⟨some 170, none, [], .load .one (.t 169)⟩,
      ⟨some 39, none, [], .mov (.t 170)⟩])
    (.seq (.reg false [8, 19, 21, 22, 23, 24, 39, 40, 41, 165, 166, 167] [] [⟨some 172, none, [], .mov (.t 39)⟩,
      ⟨some 173, none, [], .call (.c (.fn 18 [])) [(.t 172)] []⟩,
      ⟨some 171, none, [], .mov (.t 173)⟩,
      ⟨some 174, none, [], .ext (.t 171) 0⟩,
      ⟨some 175, none, [], .ext (.t 171) 1⟩,
      ⟨some 40, none, [], .mov (.t 174)⟩,
      ⟨some 41, none, [], .mov (.t 175)⟩])
    (.seq (.reg false [8, 19, 21, 22, 23, 24, 39, 40, 41, 42, 43, 165, 166, 167] [] [⟨some 177, none, [], .mov (.t 39)⟩,
      ⟨some 178, none, [], .call (.c (.fn 19 [])) [(.t 177)] []⟩,
      ⟨some 176, none, [], .mov (.t 178)⟩,
      ⟨some 179, none, [], .ext (.t 176) 0⟩,
      ⟨some 180, none, [], .ext (.t 176) 1⟩,
      ⟨some 42, none, [], .mov (.t 179)⟩,
      ⟨some 43, none, [], .mov (.t 180)⟩])
    (.seq (.reg false [8, 19, 21, 22, 23, 24, 39, 40, 41, 42, 43, 44, 45, 165, 166, 167] [] [⟨some 182, none, [], .mov (.t 39)⟩,
      ⟨some 183, none, [], .call (.c (.fn 20 [])) [(.t 182)] []⟩,
      ⟨some 181, none, [], .mov (.t 183)⟩,
      ⟨some 184, none, [], .ext (.t 181) 0⟩,
      ⟨some 185, none, [], .ext (.t 181) 1⟩,
      ⟨some 44, none, [], .mov (.t 184)⟩,
      ⟨some 45, none, [], .mov (.t 185)⟩])
    (.seq (.reg false [8, 19, 21, 22, 23, 24, 39, 40, 41, 42, 43, 44, 45, 46, 47, 165, 166, 167] [] [⟨some 187, none, [], .mov (.t 39)⟩,
      ⟨some 188, none, [], .call (.c (.fn 21 [])) [(.t 187)] []⟩,
      ⟨some 186, none, [], .mov (.t 188)⟩,
      ⟨some 189, none, [], .ext (.t 186) 0⟩,
      ⟨some 190, none, [], .ext (.t 186) 1⟩,
      ⟨some 46, none, [], .mov (.t 189)⟩,
      ⟨some 47, none, [], .mov (.t 190)⟩])
    (.seq (.reg false [8, 19, 21, 22, 23, 24, 165, 166, 167, 217] [] [⟨some 191, none, [], .mov (.t 39)⟩,
      ⟨some 192, none, [], .call (.c (.fn 22 [])) [(.t 191)] []⟩,
      ⟨some 193, none, [], .mov (.t 39)⟩,
      ⟨some 194, none, [], .call (.c (.fn 23 [])) [(.t 193)] []⟩,
      ⟨some 195, none, [], .eqv true (.t 192) (.t 194)⟩,
      ⟨some 196, none, [], .mov (.t 195)⟩,
      ⟨some 197, some (196, false), [], .mov (.t 41)⟩,
      ⟨some 198, some (196, false), [], .mov (.t 43)⟩,
      ⟨some 199, some (196, false), [], .bin .neq (.t 197) (.t 198)⟩,
      ⟨some 200, none, [], .pick (.t 196) (.c (.bool true)) (.t 199)⟩,
      ⟨some 201, none, [], .mov (.t 200)⟩,
      ⟨some 202, some (201, false), [], .mov (.t 45)⟩,
      ⟨some 203, some (201, false), [], .mov (.t 47)⟩,
      ⟨some 204, some (201, false), [], .bin .neq (.t 202) (.t 203)⟩,
      ⟨some 205, none, [], .pick (.t 201) (.c (.bool true)) (.t 204)⟩,
      ⟨some 206, none, [], .mov (.t 205)⟩,
      ⟨some 207, some (206, false), [], .mov (.t 40)⟩,
      ⟨some 208, some (206, false), [], .mov (.t 42)⟩,
      ⟨some 209, some (206, false), [], .call (.c (.fn 24 [])) [(.t 207), (.t 208)] []⟩,
      ⟨some 210, some (206, false), [], .un .not (.t 209)⟩,
      ⟨some 211, none, [], .pick (.t 206) (.c (.bool true)) (.t 210)⟩,
      ⟨some 212, none, [], .mov (.t 211)⟩,
      ⟨some 213, some (212, false), [], .mov (.t 44)⟩,
      ⟨some 214, some (212, false), [], .mov (.t 46)⟩,
      ⟨some 215, some (212, false), [], .call (.c (.fn 24 [])) [(.t 213), (.t 214)] []⟩,
      ⟨some 216, some (212, false), [], .un .not (.t 215)⟩,
      ⟨some 217, none, [], .pick (.t 212) (.c (.bool true)) (.t 216)⟩])
    (.cond (.t 217)
      (.seq (.reg false [20] [] [⟨some 20, none, [], .mov (.c (.bool false))⟩])
      (.pre [20] .ret))
      .skip))))))))
  (.pre [8, 19, 21, 22, 23, 24, 165, 166, 167] (.reg false [8, 19, 21, 22, 23, 24, 165, 166, 167] [] [⟨some 218, none, [], .bin .add (.t 167) (.c (.int .i64 1))⟩,
    ⟨some 167, none, [], .mov (.t 218)⟩])))))))
def b3_3 : XC := c3_3
@[go_sem] theorem e3_3 (L : Lib) (cx : Cx) (env : Env) (h : Heap) : runC L cx b3_3 (env, h) = runC L cx c3_3 (env, h) := rfl

@[go_sem] def c3_5 : XC := (.pre [2, 3, 6, 8, 19, 21, 22, 23, 24, 25, 26, 28, 104, 105, 106, 113, 114, 115]
  (.seq (.reg false [2, 3, 6, 8, 19, 21, 22, 23, 24, 25, 26, 28, 104, 105, 106, 113, 114, 115, 116] [] [⟨some 116, none, [], .bin .lss (.t 115) (.t 114)⟩])
  (.seq (.cond (.t 116)
    .skip
    (.pre [2, 3, 6, 8, 19, 21, 22, 23, 24, 25, 26, 104, 105, 106] (.exit 2)))
  (.pre [2, 3, 6, 8, 19, 21, 22, 23, 24, 25, 26, 28, 104, 105, 106, 113, 114, 115] (.seq (.blk 3
    (.seq (.reg false [2, 3, 6, 8, 19, 21, 22, 23, 24, 25, 26, 28, 30, 104, 105, 106, 113, 114, 115] [] [⟨some 117, none, [], .ixS 1 (.t 113) (.t 115)⟩,
      ⟨some 118, none, [], .load .one (.t 117)⟩,
      ⟨some 30, none, [], .mov (.t 118)⟩])
    (.seq (.reg false [2, 3, 6, 8, 19, 21, 22, 23, 24, 25, 26, 28, 30, 31, 32, 104, 105, 106, 113, 114, 115] [] [⟨some 120, none, [], .mov (.t 28)⟩,
      ⟨some 121, none, [], .mov (.t 30)⟩,
      ⟨some 122, none, [], .call (.c (.fn 15 [])) [(.t 120), (.t 121)] []⟩,
      ⟨some 119, none, [], .mov (.t 122)⟩,
      ⟨some 123, none, [], .ext (.t 119) 0⟩,
      ⟨some 124, none, [], .ext (.t 119) 1⟩,
      ⟨some 31, none, [], .mov (.t 123)⟩,
      ⟨some 32, none, [], .mov (.t 124)⟩])
    (.seq (.reg false [2, 3, 6, 8, 19, 21, 22, 23, 24, 25, 26, 28, 31, 32, 33, 34, 104, 105, 106, 113, 114, 115] [] [⟨some 126, none, [], .mov (.t 28)⟩,
      ⟨some 127, none, [], .mov (.t 30)⟩,
      ⟨some 128, none, [], .call (.c (.fn 16 [])) [(.t 126), (.t 127)] []⟩,
      ⟨some 125, none, [], .mov (.t 128)⟩,
      ⟨some 129, none, [], .ext (.t 125) 0⟩,
      ⟨some 130, none, [], .ext (.t 125) 1⟩,
      ⟨some 33, none, [], .mov (.t 129)⟩,
      ⟨some 34, none, [], .mov (.t 130)⟩])
    (.seq (.reg false [2, 3, 6, 8, 19, 21, 22, 23, 24, 25, 26, 28, 104, 105, 106, 113, 114, 115, 138] [] [⟨some 131, none, [], .mov (.t 31)⟩,
      ⟨some 132, none, [], .mov (.t 33)⟩,
      ⟨some 133, none, [], .bin .neq (.t 131) (.t 132)⟩,
      ⟨some 134, none, [], .mov (.t 133)⟩,
      ⟨some 135, some (134, false), [], .mov (.t 32)⟩,
      ⟨some 136, some (134, false), [], .mov (.t 34)⟩,
      ⟨some 137, some (134, false), [], .bin .neq (.t 135) (.t 136)⟩,
      ⟨some 138, none, [], .pick (.t 134) (.c (.bool true)) (.t 137)⟩])
    (.cond (.t 138)
      (.seq (.reg false [20] [] [⟨some 20, none, [], .mov (.c (.bool false))⟩])
      (.pre [20] .ret))
      .skip))))))
  (.pre [2, 3, 6, 8, 19, 21, 22, 23, 24, 25, 26, 28, 104, 105, 106, 113, 114, 115] (.reg false [2, 3, 6, 8, 19, 21, 22, 23, 24, 25, 26, 28, 104, 105, 106, 113, 114, 115] [] [⟨some 139, none, [], .bin .add (.t 115) (.c (.int .i64 1))⟩,
    ⟨some 115, none, [], .mov (.t 139)⟩])))))))
def b3_5 : XC := c3_5
@[go_sem] theorem e3_5 (L : Lib) (cx : Cx) (env : Env) (h : Heap) : runC L cx b3_5 (env, h) = runC L cx c3_5 (env, h) := rfl

@[go_sem] def c3_4 : XC := (.pre [2, 3, 6, 8, 19, 21, 22, 23, 24, 25, 26, 104, 105, 106]
  (.seq (.reg false [2, 3, 6, 8, 19, 21, 22, 23, 24, 25, 26, 104, 105, 106, 107] [] [⟨some 107, none, [], .bin .lss (.t 106) (.t 105)⟩])
  (.seq (.cond (.t 107)
    .skip
    (.pre [2, 3, 6, 8, 19, 21, 22, 23, 24, 25, 26] (.exit 0)))
  (.pre [2, 3, 6, 8, 19, 21, 22, 23, 24, 25, 26, 104, 105, 106] (.seq (.blk 1
    (.seq (.reg false [2, 3, 6, 8, 19, 21, 22, 23, 24, 25, 26, 28, 104, 105, 106] [] [⟨some 108, none, [], .ixS 1 (.t 104) (.t 106)⟩,
      ⟨some 109, none, [], .load .one (.t 108)⟩,
      ⟨some 28, none, [], .mov (.t 109)⟩])
    (.seq (.reg false [2, 3, 6, 8, 19, 21, 22, 23, 24, 25, 26, 28, 104, 105, 106, 113, 114, 115] [] [⟨some 110, none, [], .mov (.t 8)⟩,
      ⟨some 111, none, [], .mov (.t 8)⟩,
      ⟨some 112, none, [], .call (.c (.fn 13 [])) [(.t 111), (.c (.int .i64 90))] []⟩,
      ⟨some 113, none, [], .bslice 1 (.int .i64 0) 2 [(0, (.t 110)), (1, (.t 112))]⟩,
      ⟨some 114, none, [], .len false (.t 113)⟩,
      ⟨some 115, none, [], .mov (.c (.int .i64 0))⟩])
    (.blk 2
      (.loop b3_5)))))
  (.pre [2, 3, 6, 8, 19, 21, 22, 23, 24, 25, 26, 104, 105, 106] (.reg false [2, 3, 6, 8, 19, 21, 22, 23, 24, 25, 26, 104, 105, 106] [] [⟨some 140, none, [], .bin .add (.t 106) (.c (.int .i64 1))⟩,
    ⟨some 106, none, [], .mov (.t 140)⟩])))))))
def b3_4 : XC := c3_4
@[go_sem] theorem e3_4 (L : Lib) (cx : Cx) (env : Env) (h : Heap) : runC L cx b3_4 (env, h) = runC L cx c3_4 (env, h) := rfl

/-- "aircheck/airchecklaw17.MixMatchesReference" -/
def x3 : XFn := { np := 10, isOpen := false, ns := 10, res := [.tmp 20], code :=
  (.seq (.reg false [0, 1, 2, 3, 4, 6, 7, 8, 15, 19] [] [⟨some 15, none, [], .boxR (.t 5)⟩,
    ⟨some 19, none, [], .boxR (.t 9)⟩,
    ⟨some 20, none, [], .mov (.c (.bool false))⟩])
  (.seq (.reg false [0, 1, 2, 3, 4, 6, 7, 8, 15, 19, 21] [] [⟨some 67, none, [], .call (.c (.fn 11 [])) [] []⟩,
    ⟨some 21, none, [], .mov (.t 67)⟩])
  (.seq (.seq (.reg false [0, 1, 2, 3, 4, 6, 7, 8, 15, 19, 21, 69] [] [⟨some 68, none, [], .mov (.t 21)⟩,
    ⟨some 69, none, [], .un .not (.t 68)⟩])
  (.cond (.t 69)
    (.seq (.reg false [20] [] [⟨some 20, none, [], .mov (.c (.bool false))⟩])
    (.pre [20] .ret))
    .skip))
  (.pre [0, 1, 2, 3, 4, 6, 7, 8, 15, 19, 21] (.seq (.reg false [1, 2, 3, 4, 6, 7, 8, 15, 19, 21, 22] [] [⟨some 70, none, [], .mov (.t 0)⟩,
    ⟨some 71, none, [], .call (.c (.fn 12 [])) [(.t 70)] []⟩,
    ⟨some 22, none, [], .mov (.t 71)⟩])
  (.seq (.reg false [2, 3, 4, 6, 7, 8, 15, 19, 21, 22, 23] [] [⟨some 72, none, [], .mov (.t 1)⟩,
    ⟨some 73, none, [], .call (.c (.fn 12 [])) [(.t 72)] []⟩,
    ⟨some 23, none, [], .mov (.t 73)⟩])
  (.seq (.reg false [2, 3, 4, 6, 7, 8, 15, 19, 21, 22, 23, 24] [] [⟨some 74, none, [], .bslice 1 (.int .i64 0) 0 []⟩,
    ⟨some 75, none, [], .mov (.t 22)⟩,
    ⟨some 76, none, [], .app 8 1 17592186044416 (.t 74) (.t 75)⟩,
    ⟨some 77, none, [], .mov (.t 4)⟩,
    ⟨some 78, none, [], .bslice 1 (.int .i64 0) 1 [(0, (.t 77))]⟩,
    ⟨some 79, none, [], .app 9 1 17592186044416 (.t 76) (.t 78)⟩,
    ⟨some 24, none, [], .mov (.t 79)⟩])
  (.seq (.reg false [2, 3, 6, 7, 8, 15, 19, 21, 22, 23, 24] [] [⟨some 80, none, [], .mov (.t 24)⟩,
    ⟨some 81, none, [], .mov (.t 7)⟩,
    ⟨some 82, none, [], .mov (.t 24)⟩,
    ⟨some 83, none, [], .len false (.t 82)⟩,
    ⟨some 84, none, [], .call (.c (.fn 13 [])) [(.t 81), (.t 83)] []⟩,
    ⟨some 85, none, [], .mov (.t 4)⟩,
    ⟨some 86, none, [], .ixS 1 (.t 80) (.t 84)⟩,
    ⟨none, none, [], .store 1 (.t 86) (.t 85)⟩])
  (.seq (.reg false [2, 3, 6, 7, 8, 15, 19, 21, 22, 23, 24, 25] [] [⟨some 87, none, [], .mov (.t 2)⟩,
    ⟨some 88, none, [], .call (.c (.fn 14 [])) [(.t 87)] []⟩,
    ⟨some 25, none, [], .mov (.t 88)⟩])
  (.seq (.reg true [2, 3, 6, 7, 8, 15, 19, 21, 22, 23, 24, 25, 26] [] [⟨some 89, none, [], .bslice 2 (.agg [.int .i64 0, .int .i64 0]) 0 []⟩,
    ⟨some 90, none, [], .mov (.t 25)⟩,
    ⟨some 91, none, [.nobox 6], .app 6 2 8796093022208 (.t 89) (.t 90)⟩,
    ⟨some 92, none, [.box 15], .load (.agg 2) (.t 15)⟩,
    ⟨some 93, none, [.closed 92], .bslice 2 (.agg [.int .i64 0, .int .i64 0]) 1 [(0, (.t 92))]⟩,
    ⟨some 94, none, [.nobox 7], .app 7 2 8796093022208 (.t 91) (.t 93)⟩,
    ⟨some 26, none, [], .mov (.t 94)⟩])
  (.seq (.reg true [2, 3, 6, 8, 19, 21, 22, 23, 24, 25, 26] [] [⟨some 95, none, [], .mov (.t 26)⟩,
    ⟨some 96, none, [], .mov (.t 7)⟩,
    ⟨some 97, none, [], .mov (.t 26)⟩,
    ⟨some 98, none, [], .len false (.t 97)⟩,
    ⟨some 99, none, [], .call (.c (.fn 13 [])) [(.t 96), (.t 98)] []⟩,
    ⟨some 100, none, [.box 15], .load (.agg 2) (.t 15)⟩,
    ⟨some 101, none, [], .ixS 2 (.t 95) (.t 99)⟩,
    ⟨none, none, [.elem 101, .closed 100], .store 2 (.t 101) (.t 100)⟩])
  (.seq (.seq (.fz 26 (.reg false [2, 3, 6, 8, 19, 21, 22, 23, 24, 25, 26, 104, 105, 106] [] [⟨some 102, none, [], .mov (.t 25)⟩,
    ⟨some 103, none, [], .mov (.t 26)⟩,
    ⟨some 104, none, [], .bslice 1 .nilSl 3 [(0, (.t 102)), (1, (.t 103)), (2, (.c .nilSl))]⟩,
    ⟨some 105, none, [], .len false (.t 104)⟩,
    ⟨some 106, none, [], .mov (.c (.int .i64 0))⟩]))
  (.blk 0
    (.loop b3_4)))
  (.pre [2, 3, 6, 8, 19, 21, 22, 23, 24, 25, 26] (.seq (.reg false [6, 8, 19, 21, 22, 23, 24, 25, 26, 35] [] [⟨some 141, none, [], .mov (.t 22)⟩,
    ⟨some 142, none, [], .mov (.t 2)⟩,
    ⟨some 143, none, [], .mov (.t 3)⟩,
    ⟨some 144, none, [], .call (.c (.fn 17 [])) [(.t 141), (.t 142), (.t 143)] []⟩,
    ⟨some 35, none, [], .mov (.t 144)⟩])
  (.seq (.reg false [8, 19, 21, 22, 23, 24, 25, 35, 36] [] [⟨some 145, none, [], .bslice 3 (.agg [.int .i64 0, .nilSl, .nilSl]) 0 []⟩,
    ⟨some 146, none, [], .mov (.t 35)⟩,
    ⟨some 147, none, [], .app 4 3 2513169434916 (.t 145) (.t 146)⟩,
    ⟨some 148, none, [], .mov (.t 6)⟩,
    ⟨some 149, none, [], .mov (.t 23)⟩,
    ⟨some 150, none, [], .mov (.t 26)⟩,
    ⟨some 151, none, [], .build [.int .i64 0, .nilSl, .nilSl] [(0, 1, (.t 148)), (1, 1, (.t 149)), (2, 1, (.t 150))]⟩,
    ⟨some 152, none, [], .bslice 3 (.agg [.int .i64 0, .nilSl, .nilSl]) 1 [(0, (.t 151))]⟩,
    ⟨some 153, none, [], .app 5 3 2513169434916 (.t 147) (.t 152)⟩,
    ⟨some 36, none, [], .mov (.t 153)⟩])
  (.seq (.fz 24 (.reg false [8, 19, 21, 22, 23, 24, 35, 36, 37] [] [⟨some 154, none, [], .bslice 3 (.agg [.int .i64 0, .nilSl, .nilSl]) 0 []⟩,
    ⟨some 155, none, [], .mov (.t 35)⟩,
    ⟨some 156, none, [], .app 2 3 2513169434916 (.t 154) (.t 155)⟩,
    ⟨some 157, none, [], .mov (.t 24)⟩,
    ⟨some 158, none, [], .mov (.t 25)⟩,
    ⟨some 159, none, [], .build [.int .i64 0, .nilSl, .nilSl] [(0, 1, (.c (.int .i64 5))), (1, 1, (.t 157)), (2, 1, (.t 158))]⟩,
    ⟨some 160, none, [], .bslice 3 (.agg [.int .i64 0, .nilSl, .nilSl]) 1 [(0, (.t 159))]⟩,
    ⟨some 161, none, [], .app 3 3 2513169434916 (.t 156) (.t 160)⟩,
    ⟨some 37, none, [], .mov (.t 161)⟩]))
  (.seq (.seq (.reg false [8, 19, 21, 22, 23, 24, 165, 166, 167] [] [⟨some 162, none, [], .mov (.t 35)⟩,
    ⟨some 163, none, [], .mov (.t 36)⟩,
    ⟨some 164, none, [], .mov (.t 37)⟩,
    ⟨some 165, none, [], .bslice 1 .nilSl 3 [(0, (.t 162)), (1, (.t 163)), (2, (.t 164))]⟩,
    ⟨some 166, none, [], .len false (.t 165)⟩,
    ⟨some 167, none, [], .mov (.c (.int .i64 0))⟩])
  (.blk 4
    (.loop b3_3)))
  (.pre [8, 19, 21, 22, 23, 24] (.seq (.reg true [8, 19, 21, 22, 23, 24, 48] [1] [⟨some 219, none, [], .ixA 4 1 (.t 19) (.c (.int .i64 0))⟩,
    ⟨some 220, none, [.box 219], .load .one (.t 219)⟩,
    ⟨some 221, none, [], .call (.c (.fn 13 [])) [(.t 220), (.c (.int .i64 3000))] []⟩,
    ⟨some 222, none, [], .bin .add (.c (.int .i64 1)) (.t 221)⟩,
    ⟨some 223, none, [], .ixA 4 1 (.t 19) (.c (.int .i64 1))⟩,
    ⟨some 224, none, [.box 223], .load .one (.t 223)⟩,
    ⟨some 225, none, [], .call (.c (.fn 13 [])) [(.t 224), (.c (.int .i64 1025))] []⟩,
    ⟨some 226, none, [], .ixA 4 1 (.t 19) (.c (.int .i64 2))⟩,
    ⟨some 227, none, [.box 226], .load .one (.t 226)⟩,
    ⟨some 228, none, [], .call (.c (.fn 13 [])) [(.t 227), (.c (.int .i64 30))] []⟩,
    ⟨some 229, none, [], .bin .add (.c (.int .i64 1)) (.t 228)⟩,
    ⟨some 230, none, [], .ixA 4 1 (.t 19) (.c (.int .i64 3))⟩,
    ⟨some 231, none, [.box 230], .load .one (.t 230)⟩,
    ⟨some 232, none, [], .call (.c (.fn 13 [])) [(.t 231), (.c (.int .i64 30))] []⟩,
    ⟨some 233, none, [], .bin .add (.c (.int .i64 1)) (.t 232)⟩,
    ⟨some 234, none, [], .build [.int .i64 0, .int .i64 0, .int .i64 0, .int .i64 0] [(0, 1, (.t 222)), (1, 1, (.t 225)), (2, 1, (.t 229)), (3, 1, (.t 233))]⟩,
    ⟨some 48, none, [.dead 1], .alloc 1 [.int .i64 0, .int .i64 0, .int .i64 0, .int .i64 0]⟩,
    ⟨none, none, [.box 48], .store 4 (.t 48) (.t 234)⟩])
  (.seq (.seq (.reg false [8, 19, 21, 23, 48, 238, 239, 240] [] [⟨some 235, none, [], .mov (.t 22)⟩,
    ⟨some 236, none, [], .mov (.t 24)⟩,
    ⟨some 237, none, [], .mov (.t 23)⟩,
    ⟨some 238, none, [], .bslice 1 .nilSl 3 [(0, (.t 235)), (1, (.t 236)), (2, (.t 237))]⟩,
    ⟨some 239, none, [], .len false (.t 238)⟩,
    ⟨some 240, none, [], .mov (.c (.int .i64 0))⟩])
  (.blk 6
    (.loop b3_0)))
  (.pre [21] (.seq (.reg false [20] [] [⟨some 361, none, [], .mov (.t 21)⟩,
    ⟨some 20, none, [], .mov (.t 361)⟩])
  (.pre [20] .ret))))))))))))))))))))))) }

@[go_sem] def c4_0 : XC := (.pre [11, 14, 23, 25, 27]
  (.seq (.seq (.reg false [11, 14, 23, 25, 27, 174] [] [⟨some 171, none, [], .mov (.t 27)⟩,
    ⟨some 172, none, [], .mov (.t 25)⟩,
    ⟨some 173, none, [], .len false (.t 172)⟩,
    ⟨some 174, none, [], .bin .lss (.t 171) (.t 173)⟩])
  (.cond (.t 174)
    .skip
    (.pre [11] (.exit 4))))
  (.pre [11, 14, 23, 25, 27] (.seq (.blk 5
    (.seq (.reg true [11, 14, 23, 25, 27, 186] [] [⟨some 177, none, [], .mov (.t 25)⟩,
      ⟨some 178, none, [], .mov (.t 27)⟩,
      ⟨some 179, none, [], .ixS 1 (.t 177) (.t 178)⟩,
      ⟨some 180, none, [.elem 179], .load .one (.t 179)⟩,
      ⟨some 181, none, [], .mov (.t 14)⟩,
      ⟨some 182, none, [], .mov (.t 27)⟩,
      ⟨some 183, none, [], .mov (.t 23)⟩,
      ⟨some 184, none, [], .bin .sub (.t 182) (.t 183)⟩,
      ⟨some 185, none, [], .call (.c (.fn 31 [])) [(.t 181), (.t 184)] []⟩,
      ⟨some 186, none, [], .bin .neq (.t 180) (.t 185)⟩])
    (.cond (.t 186)
      (.seq (.reg false [10] [] [⟨some 10, none, [], .mov (.c (.bool false))⟩])
      (.pre [10] .ret))
      .skip)))
  (.pre [11, 14, 23, 25, 27] (.reg false [11, 14, 23, 25, 27] [] [⟨some 175, none, [], .mov (.t 27)⟩,
    ⟨some 176, none, [], .bin .add (.t 175) (.c (.int .i64 1))⟩,
    ⟨some 27, none, [], .mov (.t 176)⟩]))))))
def b4_0 : XC := c4_0
@[go_sem] theorem e4_0 (L : Lib) (cx : Cx) (env : Env) (h : Heap) : runC L cx b4_0 (env, h) = runC L cx c4_0 (env, h) := rfl

@[go_sem] def c4_1 : XC := (.pre [11, 12, 14, 23, 24]
  (.seq (.seq (.reg false [11, 12, 14, 23, 24, 126] [] [⟨some 123, none, [], .mov (.t 24)⟩,
    ⟨some 124, none, [], .mov (.t 12)⟩,
    ⟨some 125, none, [], .len false (.t 124)⟩,
    ⟨some 126, none, [], .bin .lss (.t 123) (.t 125)⟩])
  (.cond (.t 126)
    .skip
    (.pre [11, 12, 14, 23] (.exit 2))))
  (.pre [11, 12, 14, 23, 24] (.seq (.blk 3
    (.reg false [11, 12, 14, 23, 24] [] [⟨some 129, none, [], .mov (.t 12)⟩,
      ⟨some 130, none, [], .mov (.t 24)⟩,
      ⟨some 131, none, [], .mov (.t 12)⟩,
      ⟨some 132, none, [], .mov (.t 24)⟩,
      ⟨some 133, none, [], .ixS 3 (.t 131) (.t 132)⟩,
      ⟨some 134, none, [], .padd (.t 133) 0⟩,
      ⟨some 135, none, [], .load .one (.t 134)⟩,
      ⟨some 136, none, [], .mov (.t 23)⟩,
      ⟨some 137, none, [], .bin .add (.t 135) (.t 136)⟩,
      ⟨some 138, none, [], .ixS 3 (.t 129) (.t 130)⟩,
      ⟨some 139, none, [], .padd (.t 138) 0⟩,
      ⟨none, none, [], .store 1 (.t 139) (.t 137)⟩]))
  (.pre [11, 12, 14, 23, 24] (.reg false [11, 12, 14, 23, 24] [] [⟨some 127, none, [], .mov (.t 24)⟩,
    ⟨some 128, none, [], .bin .add (.t 127) (.c (.int .i64 1))⟩,
    ⟨some 24, none, [], .mov (.t 128)⟩]))))))
def b4_1 : XC := c4_1
@[go_sem] theorem e4_1 (L : Lib) (cx : Cx) (env : Env) (h : Heap) : runC L cx b4_1 (env, h) = runC L cx c4_1 (env, h) := rfl

@[go_sem] def c4_2 : XC := (.pre [4, 11, 12, 14, 16, 18, 22]
  (.seq (.seq (.reg false [4, 11, 12, 14, 16, 18, 22, 106] [] [⟨some 103, none, [], .mov (.t 22)⟩,
    ⟨some 104, none, [], .mov (.t 14)⟩,
    ⟨some 105, none, [], .len false (.t 104)⟩,
    ⟨some 106, none, [], .bin .lss (.t 103) (.t 105)⟩])
  (.cond (.t 106)
    .skip
    (.pre [4, 11, 12, 14] (.exit 0))))
  (.pre [4, 11, 12, 14, 16, 18, 22] (.seq (.blk 1
    (.seq (.reg true [4, 11, 12, 14, 16, 18, 22, 120] [] [⟨some 109, none, [], .mov (.t 14)⟩,
      ⟨some 110, none, [], .mov (.t 22)⟩,
      ⟨some 111, none, [], .ixS 1 (.t 109) (.t 110)⟩,
      ⟨some 112, none, [.elem 111], .load .one (.t 111)⟩,
      ⟨some 113, none, [], .mov (.t 16)⟩,
      ⟨some 114, none, [], .mov (.t 22)⟩,
      ⟨some 115, none, [], .call (.c (.fn 31 [])) [(.t 113), (.t 114)] []⟩,
      ⟨some 116, none, [], .mov (.t 18)⟩,
      ⟨some 117, none, [], .mov (.t 22)⟩,
      ⟨some 118, none, [], .call (.c (.fn 31 [])) [(.t 116), (.t 117)] []⟩,
      ⟨some 119, none, [], .bin .add (.t 115) (.t 118)⟩,
      ⟨some 120, none, [], .bin .neq (.t 112) (.t 119)⟩])
    (.cond (.t 120)
      (.seq (.reg false [10] [] [⟨some 10, none, [], .mov (.c (.bool false))⟩])
      (.pre [10] .ret))
      .skip)))
  (.pre [4, 11, 12, 14, 16, 18, 22] (.reg false [4, 11, 12, 14, 16, 18, 22] [] [⟨some 107, none, [], .mov (.t 22)⟩,
    ⟨some 108, none, [], .bin .add (.t 107) (.c (.int .i64 1))⟩,
    ⟨some 22, none, [], .mov (.t 108)⟩]))))))
def b4_2 : XC := c4_2
@[go_sem] theorem e4_2 (L : Lib) (cx : Cx) (env : Env) (h : Heap) : runC L cx b4_2 (env, h) = runC L cx c4_2 (env, h) := rfl

/-- "aircheck/airchecklaw17.MixSuperposes" -/
def x4 : XFn := { np := 5, isOpen := false, ns := 3, res := [.tmp 10], code :=
  (.seq (.reg false [0, 1, 2, 3, 4] [] [⟨some 10, none, [], .mov (.c (.bool false))⟩])
  (.seq (.reg false [0, 1, 2, 3, 4, 11] [] [⟨some 28, none, [], .call (.c (.fn 11 [])) [] []⟩,
    ⟨some 11, none, [], .mov (.t 28)⟩])
  (.seq (.seq (.reg false [0, 1, 2, 3, 4, 11, 30] [] [⟨some 29, none, [], .mov (.t 11)⟩,
    ⟨some 30, none, [], .un .not (.t 29)⟩])
  (.cond (.t 30)
    (.seq (.reg false [10] [] [⟨some 10, none, [], .mov (.c (.bool false))⟩])
    (.pre [10] .ret))
    .skip))
  (.pre [0, 1, 2, 3, 4, 11] (.seq (.reg false [3, 4, 11, 12] [] [⟨some 31, none, [], .mov (.t 0)⟩,
    ⟨some 32, none, [], .call (.c (.fn 12 [])) [(.t 31)] []⟩,
    ⟨some 33, none, [], .mov (.t 1)⟩,
    ⟨some 34, none, [], .mov (.t 2)⟩,
    ⟨some 35, none, [], .call (.c (.fn 17 [])) [(.t 32), (.t 33), (.t 34)] [(0, 2)]⟩,
    ⟨some 12, none, [], .mov (.t 35)⟩])
  (.seq (.reg false [4, 11, 12, 13] [] [⟨some 36, none, [], .mov (.t 3)⟩,
    ⟨some 37, none, [], .mov (.t 12)⟩,
    ⟨some 38, none, [], .len false (.t 37)⟩,
    ⟨some 39, none, [], .bin .add (.t 38) (.c (.int .i64 1))⟩,
    ⟨some 40, none, [], .call (.c (.fn 13 [])) [(.t 36), (.t 39)] []⟩,
    ⟨some 13, none, [], .mov (.t 40)⟩])
  (.seq (.reg false [4, 11, 12, 13, 14, 15] [] [⟨some 42, none, [], .mov (.t 12)⟩,
    ⟨some 43, none, [], .call (.c (.fn 18 [])) [(.t 42)] []⟩,
    ⟨some 41, none, [], .mov (.t 43)⟩,
    ⟨some 44, none, [], .ext (.t 41) 0⟩,
    ⟨some 45, none, [], .ext (.t 41) 1⟩,
    ⟨some 14, none, [], .mov (.t 44)⟩,
    ⟨some 15, none, [], .mov (.t 45)⟩])
  (.seq (.reg false [4, 11, 12, 13, 14, 15, 16, 17] [] [⟨some 47, none, [], .mov (.t 12)⟩,
    ⟨some 48, none, [], .mov (.t 13)⟩,
    ⟨some 49, none, [], .slice (some 3) (.t 47) none (some (.t 48))⟩,
    ⟨some 50, none, [], .call (.c (.fn 18 [])) [(.t 49)] []⟩,
    ⟨some 46, none, [], .mov (.t 50)⟩,
    ⟨some 51, none, [], .ext (.t 46) 0⟩,
    ⟨some 52, none, [], .ext (.t 46) 1⟩,
    ⟨some 16, none, [], .mov (.t 51)⟩,
    ⟨some 17, none, [], .mov (.t 52)⟩])
  (.seq (.reg false [4, 11, 12, 13, 14, 15, 16, 17, 18, 19] [] [⟨some 54, none, [], .mov (.t 12)⟩,
    ⟨some 55, none, [], .mov (.t 13)⟩,
    ⟨some 56, none, [], .slice (some 3) (.t 54) (some (.t 55)) none⟩,
    ⟨some 57, none, [], .call (.c (.fn 18 [])) [(.t 56)] []⟩,
    ⟨some 53, none, [], .mov (.t 57)⟩,
    ⟨some 58, none, [], .ext (.t 53) 0⟩,
    ⟨some 59, none, [], .ext (.t 53) 1⟩,
    ⟨some 18, none, [], .mov (.t 58)⟩,
    ⟨some 19, none, [], .mov (.t 59)⟩])
  (.seq (.reg true [4, 11, 12, 14, 15, 16, 17, 18, 19, 20, 21] [] [⟨some 61, none, [], .bslice 3 (.agg [.int .i64 0, .nilSl, .nilSl]) 0 []⟩,
    ⟨some 62, none, [], .mov (.t 12)⟩,
    ⟨some 63, none, [], .mov (.t 13)⟩,
    ⟨some 64, none, [], .slice (some 3) (.t 62) (some (.t 63)) none⟩,
    ⟨some 65, none, [.nobox 0], .app 0 3 2513169434916 (.t 61) (.t 64)⟩,
    ⟨some 66, none, [], .mov (.t 12)⟩,
    ⟨some 67, none, [], .mov (.t 13)⟩,
    ⟨some 68, none, [], .slice (some 3) (.t 66) none (some (.t 67))⟩,
    ⟨some 69, none, [.nobox 1], .app 1 3 2513169434916 (.t 65) (.t 68)⟩,
    ⟨some 70, none, [], .call (.c (.fn 18 [])) [(.t 69)] []⟩,
    ⟨some 60, none, [], .mov (.t 70)⟩,
    ⟨some 71, none, [], .ext (.t 60) 0⟩,
    ⟨some 72, none, [], .ext (.t 60) 1⟩,
    ⟨some 20, none, [], .mov (.t 71)⟩,
    ⟨some 21, none, [], .mov (.t 72)⟩])
  (.seq (.seq (.reg false [4, 11, 12, 14, 16, 18, 102] [] [⟨some 73, none, [], .mov (.t 15)⟩,
    ⟨some 74, none, [], .bin .neq (.t 73) (.c (.int .i64 0))⟩,
    ⟨some 75, none, [], .mov (.t 74)⟩,
    ⟨some 76, some (75, false), [], .mov (.t 17)⟩,
    ⟨some 77, some (75, false), [], .bin .neq (.t 76) (.c (.int .i64 0))⟩,
    ⟨some 78, none, [], .pick (.t 75) (.c (.bool true)) (.t 77)⟩,
    ⟨some 79, none, [], .mov (.t 78)⟩,
    ⟨some 80, some (79, false), [], .mov (.t 19)⟩,
    ⟨some 81, some (79, false), [], .bin .neq (.t 80) (.c (.int .i64 0))⟩,
    ⟨some 82, none, [], .pick (.t 79) (.c (.bool true)) (.t 81)⟩,
    ⟨some 83, none, [], .mov (.t 82)⟩,
    ⟨some 84, some (83, false), [], .mov (.t 21)⟩,
    ⟨some 85, some (83, false), [], .bin .neq (.t 84) (.c (.int .i64 0))⟩,
    ⟨some 86, none, [], .pick (.t 83) (.c (.bool true)) (.t 85)⟩,
    ⟨some 87, none, [], .mov (.t 86)⟩,
    ⟨some 88, some (87, false), [], .mov (.t 14)⟩,
    ⟨some 89, some (87, false), [], .len false (.t 88)⟩,
    ⟨some 90, some (87, false), [], .mov (.t 16)⟩,
    ⟨some 91, some (87, false), [], .len false (.t 90)⟩,
    ⟨some 92, some (87, false), [], .mov (.t 18)⟩,
    ⟨some 93, some (87, false), [], .len false (.t 92)⟩,
    ⟨some 94, some (87, false), [], .minmax true [(.t 91), (.t 93)]⟩,
    ⟨some 95, some (87, false), [], .bin .neq (.t 89) (.t 94)⟩,
    ⟨some 96, none, [], .pick (.t 87) (.c (.bool true)) (.t 95)⟩,
    ⟨some 97, none, [], .mov (.t 96)⟩,
    ⟨some 98, some (97, false), [], .mov (.t 14)⟩,
    ⟨some 99, some (97, false), [], .mov (.t 20)⟩,
    ⟨some 100, some (97, false), [], .call (.c (.fn 24 [])) [(.t 98), (.t 99)] []⟩,
    ⟨some 101, some (97, false), [], .un .not (.t 100)⟩,
    ⟨some 102, none, [], .pick (.t 97) (.c (.bool true)) (.t 101)⟩])
  (.cond (.t 102)
    (.seq (.reg false [10] [] [⟨some 10, none, [], .mov (.c (.bool false))⟩])
    (.pre [10] .ret))
    .skip))
  (.pre [4, 11, 12, 14, 16, 18] (.seq (.seq (.reg false [4, 11, 12, 14, 16, 18, 22] [] [⟨some 22, none, [], .mov (.c (.int .i64 0))⟩])
  (.blk 0
    (.loop b4_2)))
  (.pre [4, 11, 12, 14] (.seq (.reg false [11, 12, 14, 23] [] [⟨some 121, none, [], .mov (.t 4)⟩,
    ⟨some 122, none, [], .call (.c (.fn 13 [])) [(.t 121), (.c (.int .i64 200))] []⟩,
    ⟨some 23, none, [], .mov (.t 122)⟩])
  (.seq (.seq (.reg false [11, 12, 14, 23, 24] [] [⟨some 24, none, [], .mov (.c (.int .i64 0))⟩])
  (.blk 2
    (.loop b4_1)))
  (.pre [11, 12, 14, 23] (.seq (.reg false [11, 14, 23, 25, 26] [] [⟨some 141, none, [], .mov (.t 12)⟩,
    ⟨some 142, none, [], .call (.c (.fn 18 [])) [(.t 141)] []⟩,
    ⟨some 140, none, [], .mov (.t 142)⟩,
    ⟨some 143, none, [], .ext (.t 140) 0⟩,
    ⟨some 144, none, [], .ext (.t 140) 1⟩,
    ⟨some 25, none, [], .mov (.t 143)⟩,
    ⟨some 26, none, [], .mov (.t 144)⟩])
  (.seq (.seq (.reg false [11, 14, 23, 25, 170] [] [⟨some 145, none, [], .mov (.t 26)⟩,
    ⟨some 146, none, [], .bin .neq (.t 145) (.c (.int .i64 0))⟩,
    ⟨some 147, none, [], .mov (.t 146)⟩,
    ⟨some 148, some (147, false), [], .mov (.t 14)⟩,
    ⟨some 149, some (147, false), [], .len false (.t 148)⟩,
    ⟨some 150, some (147, false), [], .bin .gtr (.t 149) (.c (.int .i64 0))⟩,
    ⟨some 151, some (147, false), [], .mov (.t 150)⟩,
    ⟨some 152, some (151, true), [], .mov (.t 25)⟩,
    ⟨some 153, some (151, true), [], .len false (.t 152)⟩,
    ⟨some 154, some (151, true), [], .mov (.t 14)⟩,
    ⟨some 155, some (151, true), [], .len false (.t 154)⟩,
    ⟨some 156, some (151, true), [], .mov (.t 23)⟩,
    ⟨some 157, some (151, true), [], .bin .add (.t 155) (.t 156)⟩,
    ⟨some 158, some (151, true), [], .bin .neq (.t 153) (.t 157)⟩,
    ⟨some 159, some (147, false), [], .pick (.t 151) (.t 158) (.c (.bool false))⟩,
    ⟨some 160, none, [], .pick (.t 147) (.c (.bool true)) (.t 159)⟩,
    ⟨some 161, none, [], .mov (.t 160)⟩,
    ⟨some 162, some (161, false), [], .mov (.t 14)⟩,
    ⟨some 163, some (161, false), [], .len false (.t 162)⟩,
    ⟨some 164, some (161, false), [], .bin .eql (.t 163) (.c (.int .i64 0))⟩,
    ⟨some 165, some (161, false), [], .mov (.t 164)⟩,
    ⟨some 166, some (165, true), [], .mov (.t 25)⟩,
    ⟨some 167, some (165, true), [], .len false (.t 166)⟩,
    ⟨some 168, some (165, true), [], .bin .gtr (.t 167) (.c (.int .i64 0))⟩,
    ⟨some 169, some (161, false), [], .pick (.t 165) (.t 168) (.c (.bool false))⟩,
    ⟨some 170, none, [], .pick (.t 161) (.c (.bool true)) (.t 169)⟩])
  (.cond (.t 170)
    (.seq (.reg false [10] [] [⟨some 10, none, [], .mov (.c (.bool false))⟩])
    (.pre [10] .ret))
    .skip))
  (.pre [11, 14, 23, 25] (.seq (.seq (.reg false [11, 14, 23, 25, 27] [] [⟨some 27, none, [], .mov (.c (.int .i64 0))⟩])
  (.blk 4
    (.loop b4_0)))
  (.pre [11] (.seq (.reg false [10] [] [⟨some 187, none, [], .mov (.t 11)⟩,
    ⟨some 10, none, [], .mov (.t 187)⟩])
  (.pre [10] .ret)))))))))))))))))))))))) }

@[go_sem] def c5_0 : XC := (.pre [7, 9, 11, 13]
  (.seq (.seq (.reg false [7, 9, 11, 13, 49] [] [⟨some 46, none, [], .mov (.t 13)⟩,
    ⟨some 47, none, [], .mov (.t 11)⟩,
    ⟨some 48, none, [], .len false (.t 47)⟩,
    ⟨some 49, none, [], .bin .lss (.t 46) (.t 48)⟩])
  (.cond (.t 49)
    .skip
    (.pre [7] (.exit 0))))
  (.pre [7, 9, 11, 13] (.seq (.blk 1
    (.seq (.reg true [7, 9, 11, 13, 14] [] [⟨some 52, none, [], .mov (.t 9)⟩,
      ⟨some 53, none, [], .mov (.t 13)⟩,
      ⟨some 54, none, [], .ixS 1 (.t 52) (.t 53)⟩,
      ⟨some 55, none, [.elem 54], .load .one (.t 54)⟩,
      ⟨some 56, none, [], .mov (.t 11)⟩,
      ⟨some 57, none, [], .mov (.t 13)⟩,
      ⟨some 58, none, [], .ixS 1 (.t 56) (.t 57)⟩,
      ⟨some 59, none, [.elem 58], .load .one (.t 58)⟩,
      ⟨some 60, none, [], .bin .mul (.c (.int .i64 1024)) (.t 59)⟩,
      ⟨some 61, none, [], .bin .sub (.t 55) (.t 60)⟩,
      ⟨some 62, none, [], .bin .mul (.c (.int .i64 2)) (.t 61)⟩,
      ⟨some 14, none, [], .mov (.t 62)⟩])
    (.blk 2
      (.seq (.reg false [7, 9, 11, 13, 14, 63] [] [⟨some 64, none, [], .mov (.t 11)⟩,
        ⟨some 65, none, [], .mov (.t 13)⟩,
        ⟨some 66, none, [], .ixS 1 (.t 64) (.t 65)⟩,
        ⟨some 67, none, [], .load .one (.t 66)⟩,
        ⟨some 68, none, [], .bin .lss (.t 67) (.c (.int .i64 (-32768)))⟩,
        ⟨some 69, none, [], .mov (.t 68)⟩,
        ⟨some 70, some (69, false), [], .mov (.t 11)⟩,
        ⟨some 71, some (69, false), [], .mov (.t 13)⟩,
        ⟨some 72, some (69, false), [], .ixS 1 (.t 70) (.t 71)⟩,
        ⟨some 73, some (69, false), [], .load .one (.t 72)⟩,
        ⟨some 74, some (69, false), [], .bin .gtr (.t 73) (.c (.int .i64 32767))⟩,
        ⟨some 75, none, [], .pick (.t 69) (.c (.bool true)) (.t 74)⟩,
        ⟨some 63, none, [], .mov (.t 75)⟩])
      (.cond (.t 63)
        (.seq (.reg false [6] [] [⟨some 6, none, [], .mov (.c (.bool false))⟩])
        (.pre [6] .ret))
        (.seq (.reg false [7, 9, 11, 13, 14, 76] [] [⟨some 77, none, [], .mov (.t 11)⟩,
          ⟨some 78, none, [], .mov (.t 13)⟩,
          ⟨some 79, none, [], .ixS 1 (.t 77) (.t 78)⟩,
          ⟨some 80, none, [], .load .one (.t 79)⟩,
          ⟨some 81, none, [], .bin .eql (.t 80) (.c (.int .i64 32767))⟩,
          ⟨some 82, none, [], .mov (.t 81)⟩,
          ⟨some 83, some (82, true), [], .mov (.t 14)⟩,
          ⟨some 84, some (82, true), [], .bin .gtr (.t 83) (.c (.int .i64 1024))⟩,
          ⟨some 85, none, [], .pick (.t 82) (.t 84) (.c (.bool false))⟩,
          ⟨some 86, none, [], .mov (.t 85)⟩,
          ⟨some 87, some (86, false), [], .mov (.t 11)⟩,
          ⟨some 88, some (86, false), [], .mov (.t 13)⟩,
          ⟨some 89, some (86, false), [], .ixS 1 (.t 87) (.t 88)⟩,
          ⟨some 90, some (86, false), [], .load .one (.t 89)⟩,
          ⟨some 91, some (86, false), [], .bin .eql (.t 90) (.c (.int .i64 (-32768)))⟩,
          ⟨some 92, some (86, false), [], .mov (.t 91)⟩,
          ⟨some 93, some (92, true), [], .mov (.t 14)⟩,
          ⟨some 94, some (92, true), [], .bin .lss (.t 93) (.c (.int .i64 (-1024)))⟩,
          ⟨some 95, some (86, false), [], .pick (.t 92) (.t 94) (.c (.bool false))⟩,
          ⟨some 96, none, [], .pick (.t 86) (.c (.bool true)) (.t 95)⟩,
          ⟨some 76, none, [], .mov (.t 96)⟩])
        (.cond (.t 76)
          .skip
          (.seq (.reg false [7, 9, 11, 13, 97] [] [⟨some 98, none, [], .mov (.t 14)⟩,
            ⟨some 99, none, [], .bin .gtr (.t 98) (.c (.int .i64 1024))⟩,
            ⟨some 100, none, [], .mov (.t 99)⟩,
            ⟨some 101, some (100, false), [], .mov (.t 14)⟩,
            ⟨some 102, some (100, false), [], .bin .lss (.t 101) (.c (.int .i64 (-1024)))⟩,
            ⟨some 103, none, [], .pick (.t 100) (.c (.bool true)) (.t 102)⟩,
            ⟨some 97, none, [], .mov (.t 103)⟩])
          (.cond (.t 97)
            (.seq (.reg false [6] [] [⟨some 6, none, [], .mov (.c (.bool false))⟩])
            (.pre [6] .ret))
            .skip)))))))))
  (.pre [7, 9, 11, 13] (.reg false [7, 9, 11, 13] [] [⟨some 50, none, [], .mov (.t 13)⟩,
    ⟨some 51, none, [], .bin .add (.t 50) (.c (.int .i64 1))⟩,
    ⟨some 13, none, [], .mov (.t 51)⟩]))))))
def b5_0 : XC := c5_0
@[go_sem] theorem e5_0 (L : Lib) (cx : Cx) (env : Env) (h : Heap) : runC L cx b5_0 (env, h) = runC L cx c5_0 (env, h) := rfl

/-- "aircheck/airchecklaw17.MixRounds" -/
def x5 : XFn := { np := 3, isOpen := false, ns := 0, res := [.tmp 6], code :=
  (.seq (.reg false [0, 1, 2] [] [⟨some 6, none, [], .mov (.c (.bool false))⟩])
  (.seq (.reg false [0, 1, 2, 7] [] [⟨some 15, none, [], .call (.c (.fn 11 [])) [] []⟩,
    ⟨some 7, none, [], .mov (.t 15)⟩])
  (.seq (.seq (.reg false [0, 1, 2, 7, 17] [] [⟨some 16, none, [], .mov (.t 7)⟩,
    ⟨some 17, none, [], .un .not (.t 16)⟩])
  (.cond (.t 17)
    (.seq (.reg false [6] [] [⟨some 6, none, [], .mov (.c (.bool false))⟩])
    (.pre [6] .ret))
    .skip))
  (.pre [0, 1, 2, 7] (.seq (.reg false [7, 8] [] [⟨some 18, none, [], .mov (.t 0)⟩,
    ⟨some 19, none, [], .call (.c (.fn 12 [])) [(.t 18)] []⟩,
    ⟨some 20, none, [], .mov (.t 1)⟩,
    ⟨some 21, none, [], .mov (.t 2)⟩,
    ⟨some 22, none, [], .call (.c (.fn 17 [])) [(.t 19), (.t 20), (.t 21)] []⟩,
    ⟨some 8, none, [], .mov (.t 22)⟩])
  (.seq (.reg false [7, 8, 9, 10] [] [⟨some 24, none, [], .mov (.t 8)⟩,
    ⟨some 25, none, [], .call (.c (.fn 18 [])) [(.t 24)] []⟩,
    ⟨some 23, none, [], .mov (.t 25)⟩,
    ⟨some 26, none, [], .ext (.t 23) 0⟩,
    ⟨some 27, none, [], .ext (.t 23) 1⟩,
    ⟨some 9, none, [], .mov (.t 26)⟩,
    ⟨some 10, none, [], .mov (.t 27)⟩])
  (.seq (.reg false [7, 9, 10, 11, 12] [] [⟨some 29, none, [], .mov (.t 8)⟩,
    ⟨some 30, none, [], .call (.c (.fn 20 [])) [(.t 29)] []⟩,
    ⟨some 28, none, [], .mov (.t 30)⟩,
    ⟨some 31, none, [], .ext (.t 28) 0⟩,
    ⟨some 32, none, [], .ext (.t 28) 1⟩,
    ⟨some 11, none, [], .mov (.t 31)⟩,
    ⟨some 12, none, [], .mov (.t 32)⟩])
  (.seq (.seq (.reg false [7, 9, 11, 45] [] [⟨some 33, none, [], .mov (.t 10)⟩,
    ⟨some 34, none, [], .bin .neq (.t 33) (.c (.int .i64 0))⟩,
    ⟨some 35, none, [], .mov (.t 34)⟩,
    ⟨some 36, some (35, false), [], .mov (.t 12)⟩,
    ⟨some 37, some (35, false), [], .bin .neq (.t 36) (.c (.int .i64 0))⟩,
    ⟨some 38, none, [], .pick (.t 35) (.c (.bool true)) (.t 37)⟩,
    ⟨some 39, none, [], .mov (.t 38)⟩,
    ⟨some 40, some (39, false), [], .mov (.t 9)⟩,
    ⟨some 41, some (39, false), [], .len false (.t 40)⟩,
    ⟨some 42, some (39, false), [], .mov (.t 11)⟩,
    ⟨some 43, some (39, false), [], .len false (.t 42)⟩,
    ⟨some 44, some (39, false), [], .bin .neq (.t 41) (.t 43)⟩,
    ⟨some 45, none, [], .pick (.t 39) (.c (.bool true)) (.t 44)⟩])
  (.cond (.t 45)
    (.seq (.reg false [6] [] [⟨some 6, none, [], .mov (.c (.bool false))⟩])
    (.pre [6] .ret))
    .skip))
  (.pre [7, 9, 11] (.seq (.seq (.reg false [7, 9, 11, 13] [] [⟨some 13, none, [], .mov (.c (.int .i64 0))⟩])
  (.blk 0
    (.loop b5_0)))
  (.pre [7] (.seq (.reg false [6] [] [⟨some 104, none, [], .mov (.t 7)⟩,
    ⟨some 6, none, [], .mov (.t 104)⟩])
  (.pre [6] .ret))))))))))))) }

@[go_sem] def c6_0 : XC := (.pre [5, 6, 7, 8, 10, 16]
  (.seq (.seq (.reg false [5, 6, 7, 8, 10, 16, 134] [] [⟨some 130, none, [], .mov (.t 16)⟩,
    ⟨some 131, none, [], .bin .add (.t 130) (.c (.int .i64 1))⟩,
    ⟨some 132, none, [], .mov (.t 6)⟩,
    ⟨some 133, none, [], .len false (.t 132)⟩,
    ⟨some 134, none, [], .bin .lss (.t 131) (.t 133)⟩])
  (.cond (.t 134)
    .skip
    (.pre [5] (.exit 2))))
  (.pre [5, 6, 7, 8, 10, 16] (.seq (.blk 3
    (.seq (.seq (.reg false [5, 6, 7, 8, 10, 16, 153] [] [⟨some 137, none, [], .mov (.t 7)⟩,
      ⟨some 138, none, [], .mov (.t 6)⟩,
      ⟨some 139, none, [], .mov (.t 16)⟩,
      ⟨some 140, none, [], .ixS 2 (.t 138) (.t 139)⟩,
      ⟨some 141, none, [], .padd (.t 140) 0⟩,
      ⟨some 142, none, [], .load .one (.t 141)⟩,
      ⟨some 143, none, [], .bin .lss (.t 137) (.t 142)⟩,
      ⟨some 144, none, [], .mov (.t 143)⟩,
      ⟨some 145, some (144, false), [], .mov (.t 7)⟩,
      ⟨some 146, some (144, false), [], .mov (.t 6)⟩,
      ⟨some 147, some (144, false), [], .mov (.t 16)⟩,
      ⟨some 148, some (144, false), [], .bin .add (.t 147) (.c (.int .i64 1))⟩,
      ⟨some 149, some (144, false), [], .ixS 2 (.t 146) (.t 148)⟩,
      ⟨some 150, some (144, false), [], .padd (.t 149) 0⟩,
      ⟨some 151, some (144, false), [], .load .one (.t 150)⟩,
      ⟨some 152, some (144, false), [], .bin .geq (.t 145) (.t 151)⟩,
      ⟨some 153, none, [], .pick (.t 144) (.c (.bool true)) (.t 152)⟩])
    (.cond (.t 153)
      (.pre [5, 6, 7, 8, 10, 16] (.exit 3))
      .skip))
    (.pre [5, 6, 7, 8, 10, 16] (.seq (.reg true [5, 6, 7, 8, 10, 16, 17] [] [⟨some 154, none, [], .mov (.t 6)⟩,
      ⟨some 155, none, [], .mov (.t 16)⟩,
      ⟨some 156, none, [], .ixS 2 (.t 154) (.t 155)⟩,
      ⟨some 157, none, [], .padd (.t 156) 1⟩,
      ⟨some 158, none, [.elem 157], .load .one (.t 157)⟩,
      ⟨some 159, none, [], .mov (.t 6)⟩,
      ⟨some 160, none, [], .mov (.t 16)⟩,
      ⟨some 161, none, [], .bin .add (.t 160) (.c (.int .i64 1))⟩,
      ⟨some 162, none, [], .ixS 2 (.t 159) (.t 161)⟩,
      ⟨some 163, none, [], .padd (.t 162) 1⟩,
      ⟨some 164, none, [.elem 163], .load .one (.t 163)⟩,
      ⟨some 165, none, [], .minmax false [(.t 158), (.t 164)]⟩,
      ⟨some 17, none, [], .mov (.t 165)⟩])
    (.seq (.reg true [5, 6, 7, 8, 10, 16, 17, 18] [] [⟨some 166, none, [], .mov (.t 6)⟩,
      ⟨some 167, none, [], .mov (.t 16)⟩,
      ⟨some 168, none, [], .ixS 2 (.t 166) (.t 167)⟩,
      ⟨some 169, none, [], .padd (.t 168) 1⟩,
      ⟨some 170, none, [.elem 169], .load .one (.t 169)⟩,
      ⟨some 171, none, [], .mov (.t 6)⟩,
      ⟨some 172, none, [], .mov (.t 16)⟩,
      ⟨some 173, none, [], .bin .add (.t 172) (.c (.int .i64 1))⟩,
      ⟨some 174, none, [], .ixS 2 (.t 171) (.t 173)⟩,
      ⟨some 175, none, [], .padd (.t 174) 1⟩,
      ⟨some 176, none, [.elem 175], .load .one (.t 175)⟩,
      ⟨some 177, none, [], .minmax true [(.t 170), (.t 176)]⟩,
      ⟨some 18, none, [], .mov (.t 177)⟩])
    (.seq (.reg true [5, 6, 7, 8, 10, 16, 233] [] [⟨some 178, none, [], .mov (.t 8)⟩,
      ⟨some 179, none, [], .mov (.t 17)⟩,
      ⟨some 180, none, [], .bin .lss (.t 178) (.t 179)⟩,
      ⟨some 181, none, [], .mov (.t 180)⟩,
      ⟨some 182, some (181, false), [], .mov (.t 8)⟩,
      ⟨some 183, some (181, false), [], .mov (.t 18)⟩,
      ⟨some 184, some (181, false), [], .bin .gtr (.t 182) (.t 183)⟩,
      ⟨some 185, none, [], .pick (.t 181) (.c (.bool true)) (.t 184)⟩,
      ⟨some 186, none, [], .mov (.t 185)⟩,
      ⟨some 187, some (186, false), [], .mov (.t 10)⟩,
      ⟨some 188, some (186, false), [], .mov (.t 17)⟩,
      ⟨some 189, some (186, false), [], .bin .lss (.t 187) (.t 188)⟩,
      ⟨some 190, none, [], .pick (.t 186) (.c (.bool true)) (.t 189)⟩,
      ⟨some 191, none, [], .mov (.t 190)⟩,
      ⟨some 192, some (191, false), [], .mov (.t 10)⟩,
      ⟨some 193, some (191, false), [], .mov (.t 18)⟩,
      ⟨some 194, some (191, false), [], .bin .gtr (.t 192) (.t 193)⟩,
      ⟨some 195, none, [], .pick (.t 191) (.c (.bool true)) (.t 194)⟩,
      ⟨some 196, none, [], .mov (.t 195)⟩,
      ⟨some 197, some (196, false), [], .mov (.t 6)⟩,
      ⟨some 198, some (196, false), [], .mov (.t 16)⟩,
      ⟨some 199, some (196, false), [], .ixS 2 (.t 197) (.t 198)⟩,
      ⟨some 200, some (196, false), [], .padd (.t 199) 1⟩,
      ⟨some 201, some (196, false), [.elem 200], .load .one (.t 200)⟩,
      ⟨some 202, some (196, false), [], .mov (.t 6)⟩,
      ⟨some 203, some (196, false), [], .mov (.t 16)⟩,
      ⟨some 204, some (196, false), [], .bin .add (.t 203) (.c (.int .i64 1))⟩,
      ⟨some 205, some (196, false), [], .ixS 2 (.t 202) (.t 204)⟩,
      ⟨some 206, some (196, false), [], .padd (.t 205) 1⟩,
      ⟨some 207, some (196, false), [.elem 206], .load .one (.t 206)⟩,
      ⟨some 208, some (196, false), [], .bin .lss (.t 201) (.t 207)⟩,
      ⟨some 209, some (196, false), [], .mov (.t 208)⟩,
      ⟨some 210, some (209, true), [], .mov (.t 10)⟩,
      ⟨some 211, some (209, true), [], .mov (.t 8)⟩,
      ⟨some 212, some (209, true), [], .bin .lss (.t 210) (.t 211)⟩,
      ⟨some 213, some (196, false), [], .pick (.t 209) (.t 212) (.c (.bool false))⟩,
      ⟨some 214, none, [], .pick (.t 196) (.c (.bool true)) (.t 213)⟩,
      ⟨some 215, none, [], .mov (.t 214)⟩,
      ⟨some 216, some (215, false), [], .mov (.t 6)⟩,
      ⟨some 217, some (215, false), [], .mov (.t 16)⟩,
      ⟨some 218, some (215, false), [], .ixS 2 (.t 216) (.t 217)⟩,
      ⟨some 219, some (215, false), [], .padd (.t 218) 1⟩,
      ⟨some 220, some (215, false), [.elem 219], .load .one (.t 219)⟩,
      ⟨some 221, some (215, false), [], .mov (.t 6)⟩,
      ⟨some 222, some (215, false), [], .mov (.t 16)⟩,
      ⟨some 223, some (215, false), [], .bin .add (.t 222) (.c (.int .i64 1))⟩,
      ⟨some 224, some (215, false), [], .ixS 2 (.t 221) (.t 223)⟩,
      ⟨some 225, some (215, false), [], .padd (.t 224) 1⟩,
      ⟨some 226, some (215, false), [.elem 225], .load .one (.t 225)⟩,
      ⟨some 227, some (215, false), [], .bin .gtr (.t 220) (.t 226)⟩,
      ⟨some 228, some (215, false), [], .mov (.t 227)⟩,
      ⟨some 229, some (228, true), [], .mov (.t 10)⟩,
      ⟨some 230, some (228, true), [], .mov (.t 8)⟩,
      ⟨some 231, some (228, true), [], .bin .gtr (.t 229) (.t 230)⟩,
      ⟨some 232, some (215, false), [], .pick (.t 228) (.t 231) (.c (.bool false))⟩,
      ⟨some 233, none, [], .pick (.t 215) (.c (.bool true)) (.t 232)⟩])
    (.cond (.t 233)
      (.seq (.reg false [4] [] [⟨some 4, none, [], .mov (.c (.bool false))⟩])
      (.pre [4] .ret))
      .skip)))))))
  (.pre [5, 6, 7, 8, 10, 16] (.reg false [5, 6, 7, 8, 10, 16] [] [⟨some 135, none, [], .mov (.t 16)⟩,
    ⟨some 136, none, [], .bin .add (.t 135) (.c (.int .i64 1))⟩,
    ⟨some 16, none, [], .mov (.t 136)⟩]))))))
def b6_0 : XC := c6_0
@[go_sem] theorem e6_0 (L : Lib) (cx : Cx) (env : Env) (h : Heap) : runC L cx b6_0 (env, h) = runC L cx c6_0 (env, h) := rfl

@[go_sem] def c6_1 : XC := (.pre [5, 6, 7, 8, 10, 12]
  (.seq (.seq (.reg false [5, 6, 7, 8, 10, 12, 60] [] [⟨some 57, none, [], .mov (.t 12)⟩,
    ⟨some 58, none, [], .mov (.t 6)⟩,
    ⟨some 59, none, [], .len false (.t 58)⟩,
    ⟨some 60, none, [], .bin .lss (.t 57) (.t 59)⟩])
  (.cond (.t 60)
    .skip
    (.pre [5, 6, 7, 8, 10] (.exit 0))))
  (.pre [5, 6, 7, 8, 10, 12] (.seq (.blk 1
    (.seq (.reg false [5, 6, 7, 8, 10, 12, 13, 14] [] [⟨some 64, none, [], .mov (.t 6)⟩,
      ⟨some 65, none, [], .mov (.t 6)⟩,
      ⟨some 66, none, [], .mov (.t 12)⟩,
      ⟨some 67, none, [], .ixS 2 (.t 65) (.t 66)⟩,
      ⟨some 68, none, [], .padd (.t 67) 0⟩,
      ⟨some 69, none, [], .load .one (.t 68)⟩,
      ⟨some 70, none, [], .call (.c (.fn 15 [])) [(.t 64), (.t 69)] []⟩,
      ⟨some 63, none, [], .mov (.t 70)⟩,
      ⟨some 71, none, [], .ext (.t 63) 0⟩,
      ⟨some 72, none, [], .ext (.t 63) 1⟩,
      ⟨some 13, none, [], .mov (.t 71)⟩,
      ⟨some 14, none, [], .mov (.t 72)⟩])
    (.seq (.reg false [5, 6, 7, 8, 10, 12, 83] [] [⟨some 73, none, [], .mov (.t 14)⟩,
      ⟨some 74, none, [], .bin .neq (.t 73) (.c (.int .i64 0))⟩,
      ⟨some 75, none, [], .mov (.t 74)⟩,
      ⟨some 76, some (75, false), [], .mov (.t 13)⟩,
      ⟨some 77, some (75, false), [], .mov (.t 6)⟩,
      ⟨some 78, some (75, false), [], .mov (.t 12)⟩,
      ⟨some 79, some (75, false), [], .ixS 2 (.t 77) (.t 78)⟩,
      ⟨some 80, some (75, false), [], .padd (.t 79) 1⟩,
      ⟨some 81, some (75, false), [], .load .one (.t 80)⟩,
      ⟨some 82, some (75, false), [], .bin .neq (.t 76) (.t 81)⟩,
      ⟨some 83, none, [], .pick (.t 75) (.c (.bool true)) (.t 82)⟩])
    (.cond (.t 83)
      (.seq (.reg false [4] [] [⟨some 4, none, [], .mov (.c (.bool false))⟩])
      (.pre [4] .ret))
      .skip))))
  (.pre [5, 6, 7, 8, 10, 12] (.reg false [5, 6, 7, 8, 10, 12] [] [⟨some 61, none, [], .mov (.t 12)⟩,
    ⟨some 62, none, [], .bin .add (.t 61) (.c (.int .i64 1))⟩,
    ⟨some 12, none, [], .mov (.t 62)⟩]))))))
def b6_1 : XC := c6_1
@[go_sem] theorem e6_1 (L : Lib) (cx : Cx) (env : Env) (h : Heap) : runC L cx b6_1 (env, h) = runC L cx c6_1 (env, h) := rfl

/-- "aircheck/airchecklaw17.MixCurves" -/
def x6 : XFn := { np := 2, isOpen := false, ns := 1, res := [.tmp 4], code :=
  (.seq (.reg false [0, 1] [] [⟨some 4, none, [], .mov (.c (.bool false))⟩])
  (.seq (.reg false [0, 1, 5] [] [⟨some 19, none, [], .call (.c (.fn 11 [])) [] []⟩,
    ⟨some 5, none, [], .mov (.t 19)⟩])
  (.seq (.seq (.reg false [0, 1, 5, 21] [] [⟨some 20, none, [], .mov (.t 5)⟩,
    ⟨some 21, none, [], .un .not (.t 20)⟩])
  (.cond (.t 21)
    (.seq (.reg false [4] [] [⟨some 4, none, [], .mov (.c (.bool false))⟩])
    (.pre [4] .ret))
    .skip))
  (.pre [0, 1, 5] (.seq (.reg false [1, 5, 6] [] [⟨some 22, none, [], .mov (.t 0)⟩,
    ⟨some 23, none, [], .call (.c (.fn 14 [])) [(.t 22)] []⟩,
    ⟨some 6, none, [], .mov (.t 23)⟩])
  (.seq (.reg false [5, 6, 7] [] [⟨some 24, none, [], .mov (.t 1)⟩,
    ⟨some 25, none, [], .call (.c (.fn 13 [])) [(.t 24), (.c (.int .i64 80))] []⟩,
    ⟨some 7, none, [], .mov (.t 25)⟩])
  (.seq (.reg false [5, 6, 7, 8, 9] [] [⟨some 27, none, [], .mov (.t 6)⟩,
    ⟨some 28, none, [], .mov (.t 7)⟩,
    ⟨some 29, none, [], .call (.c (.fn 15 [])) [(.t 27), (.t 28)] []⟩,
    ⟨some 26, none, [], .mov (.t 29)⟩,
    ⟨some 30, none, [], .ext (.t 26) 0⟩,
    ⟨some 31, none, [], .ext (.t 26) 1⟩,
    ⟨some 8, none, [], .mov (.t 30)⟩,
    ⟨some 9, none, [], .mov (.t 31)⟩])
  (.seq (.reg false [5, 6, 7, 8, 9, 10, 11] [] [⟨some 33, none, [], .mov (.t 6)⟩,
    ⟨some 34, none, [], .mov (.t 7)⟩,
    ⟨some 35, none, [], .bin .add (.t 34) (.c (.int .i64 1))⟩,
    ⟨some 36, none, [], .call (.c (.fn 15 [])) [(.t 33), (.t 35)] []⟩,
    ⟨some 32, none, [], .mov (.t 36)⟩,
    ⟨some 37, none, [], .ext (.t 32) 0⟩,
    ⟨some 38, none, [], .ext (.t 32) 1⟩,
    ⟨some 10, none, [], .mov (.t 37)⟩,
    ⟨some 11, none, [], .mov (.t 38)⟩])
  (.seq (.seq (.reg false [5, 6, 7, 8, 10, 44] [] [⟨some 39, none, [], .mov (.t 9)⟩,
    ⟨some 40, none, [], .bin .neq (.t 39) (.c (.int .i64 0))⟩,
    ⟨some 41, none, [], .mov (.t 40)⟩,
    ⟨some 42, some (41, false), [], .mov (.t 11)⟩,
    ⟨some 43, some (41, false), [], .bin .neq (.t 42) (.c (.int .i64 0))⟩,
    ⟨some 44, none, [], .pick (.t 41) (.c (.bool true)) (.t 43)⟩])
  (.cond (.t 44)
    (.seq (.reg false [4] [] [⟨some 4, none, [], .mov (.c (.bool false))⟩])
    (.pre [4] .ret))
    .skip))
  (.pre [5, 6, 7, 8, 10] (.seq (.seq (.reg false [5, 6, 7, 8, 10, 47] [] [⟨some 45, none, [], .mov (.t 6)⟩,
    ⟨some 46, none, [], .len false (.t 45)⟩,
    ⟨some 47, none, [], .bin .eql (.t 46) (.c (.int .i64 0))⟩])
  (.cond (.t 47)
    (.seq (.reg false [4] [] [⟨some 48, none, [], .mov (.t 5)⟩,
      ⟨some 49, none, [], .mov (.t 48)⟩,
      ⟨some 50, some (49, true), [], .mov (.t 8)⟩,
      ⟨some 51, some (49, true), [], .bin .eql (.t 50) (.c (.int .i64 1024))⟩,
      ⟨some 52, none, [], .pick (.t 49) (.t 51) (.c (.bool false))⟩,
      ⟨some 53, none, [], .mov (.t 52)⟩,
      ⟨some 54, some (53, true), [], .mov (.t 10)⟩,
      ⟨some 55, some (53, true), [], .bin .eql (.t 54) (.c (.int .i64 1024))⟩,
      ⟨some 56, none, [], .pick (.t 53) (.t 55) (.c (.bool false))⟩,
      ⟨some 4, none, [], .mov (.t 56)⟩])
    (.pre [4] .ret))
    .skip))
  (.pre [5, 6, 7, 8, 10] (.seq (.seq (.reg false [5, 6, 7, 8, 10, 12] [] [⟨some 12, none, [], .mov (.c (.int .i64 0))⟩])
  (.blk 0
    (.loop b6_1)))
  (.pre [5, 6, 7, 8, 10] (.seq (.reg false [5, 6, 7, 8, 10, 15] [] [⟨some 84, none, [], .mov (.t 6)⟩,
    ⟨some 85, none, [], .mov (.t 6)⟩,
    ⟨some 86, none, [], .len false (.t 85)⟩,
    ⟨some 87, none, [], .bin .sub (.t 86) (.c (.int .i64 1))⟩,
    ⟨some 88, none, [], .ixS 2 (.t 84) (.t 87)⟩,
    ⟨some 89, none, [], .load (.agg 2) (.t 88)⟩,
    ⟨some 15, none, [], .alloc 0 [.int .i64 0, .int .i64 0]⟩,
    ⟨none, none, [], .store 2 (.t 15) (.t 89)⟩])
  (.seq (.seq (.reg false [5, 6, 7, 8, 10, 129] [] [⟨some 90, none, [], .mov (.t 7)⟩,
    ⟨some 91, none, [], .mov (.t 6)⟩,
    ⟨some 92, none, [], .ixS 2 (.t 91) (.c (.int .i64 0))⟩,
    ⟨some 93, none, [], .padd (.t 92) 0⟩,
    ⟨some 94, none, [], .load .one (.t 93)⟩,
    ⟨some 95, none, [], .bin .lss (.t 90) (.t 94)⟩,
    ⟨some 96, none, [], .mov (.t 95)⟩,
    ⟨some 97, some (96, true), [], .mov (.t 8)⟩,
    ⟨some 98, some (96, true), [], .mov (.t 6)⟩,
    ⟨some 99, some (96, true), [], .ixS 2 (.t 98) (.c (.int .i64 0))⟩,
    ⟨some 100, some (96, true), [], .padd (.t 99) 1⟩,
    ⟨some 101, some (96, true), [], .load .one (.t 100)⟩,
    ⟨some 102, some (96, true), [], .bin .neq (.t 97) (.t 101)⟩,
    ⟨some 103, some (96, true), [], .mov (.t 102)⟩,
    ⟨some 104, some (103, false), [], .mov (.t 10)⟩,
    ⟨some 105, some (103, false), [], .mov (.t 6)⟩,
    ⟨some 106, some (103, false), [], .ixS 2 (.t 105) (.c (.int .i64 0))⟩,
    ⟨some 107, some (103, false), [], .padd (.t 106) 1⟩,
    ⟨some 108, some (103, false), [], .load .one (.t 107)⟩,
    ⟨some 109, some (103, false), [], .bin .neq (.t 104) (.t 108)⟩,
    ⟨some 110, some (96, true), [], .pick (.t 103) (.c (.bool true)) (.t 109)⟩,
    ⟨some 111, none, [], .pick (.t 96) (.t 110) (.c (.bool false))⟩,
    ⟨some 112, none, [], .mov (.t 111)⟩,
    ⟨some 113, some (112, false), [], .mov (.t 7)⟩,
    ⟨some 114, some (112, false), [], .padd (.t 15) 0⟩,
    ⟨some 115, some (112, false), [], .load .one (.t 114)⟩,
    ⟨some 116, some (112, false), [], .bin .geq (.t 113) (.t 115)⟩,
    ⟨some 117, some (112, false), [], .mov (.t 116)⟩,
    ⟨some 118, some (117, true), [], .mov (.t 8)⟩,
    ⟨some 119, some (117, true), [], .padd (.t 15) 1⟩,
    ⟨some 120, some (117, true), [], .load .one (.t 119)⟩,
    ⟨some 121, some (117, true), [], .bin .neq (.t 118) (.t 120)⟩,
    ⟨some 122, some (117, true), [], .mov (.t 121)⟩,
    ⟨some 123, some (122, false), [], .mov (.t 10)⟩,
    ⟨some 124, some (122, false), [], .padd (.t 15) 1⟩,
    ⟨some 125, some (122, false), [], .load .one (.t 124)⟩,
    ⟨some 126, some (122, false), [], .bin .neq (.t 123) (.t 125)⟩,
    ⟨some 127, some (117, true), [], .pick (.t 122) (.c (.bool true)) (.t 126)⟩,
    ⟨some 128, some (112, false), [], .pick (.t 117) (.t 127) (.c (.bool false))⟩,
    ⟨some 129, none, [], .pick (.t 112) (.c (.bool true)) (.t 128)⟩])
  (.cond (.t 129)
    (.seq (.reg false [4] [] [⟨some 4, none, [], .mov (.c (.bool false))⟩])
    (.pre [4] .ret))
    .skip))
  (.pre [5, 6, 7, 8, 10] (.seq (.seq (.reg false [5, 6, 7, 8, 10, 16] [] [⟨some 16, none, [], .mov (.c (.int .i64 0))⟩])
  (.blk 2
    (.loop b6_0)))
  (.pre [5] (.seq (.reg false [4] [] [⟨some 234, none, [], .mov (.t 5)⟩,
    ⟨some 4, none, [], .mov (.t 234)⟩])
  (.pre [4] .ret))))))))))))))))))))) }

@[go_sem] def c7_0 : XC := (.pre [7, 8, 9, 13, 17, 18]
  (.seq (.seq (.reg false [7, 8, 9, 13, 17, 18, 100] [] [⟨some 97, none, [], .mov (.t 18)⟩,
    ⟨some 98, none, [], .mov (.t 13)⟩,
    ⟨some 99, none, [], .len false (.t 98)⟩,
    ⟨some 100, none, [], .bin .lss (.t 97) (.t 99)⟩])
  (.cond (.t 100)
    .skip
    (.pre [7] (.exit 0))))
  (.pre [7, 8, 9, 13, 17, 18] (.seq (.blk 1
    (.blk 2
      (.seq (.reg false [7, 8, 9, 13, 17, 18, 103] [] [⟨some 104, none, [], .mov (.t 18)⟩,
        ⟨some 105, none, [], .mov (.t 17)⟩,
        ⟨some 106, none, [], .bin .lss (.t 104) (.t 105)⟩,
        ⟨some 103, none, [], .mov (.t 106)⟩])
      (.cond (.t 103)
        (.seq (.reg true [7, 8, 9, 13, 17, 18, 115] [] [⟨some 107, none, [], .mov (.t 13)⟩,
          ⟨some 108, none, [], .mov (.t 18)⟩,
          ⟨some 109, none, [], .ixS 1 (.t 107) (.t 108)⟩,
          ⟨some 110, none, [.elem 109], .load .one (.t 109)⟩,
          ⟨some 111, none, [], .mov (.t 8)⟩,
          ⟨some 112, none, [], .mov (.t 18)⟩,
          ⟨some 113, none, [], .ixS 1 (.t 111) (.t 112)⟩,
          ⟨some 114, none, [.elem 113], .load .one (.t 113)⟩,
          ⟨some 115, none, [], .bin .neq (.t 110) (.t 114)⟩])
        (.cond (.t 115)
          (.seq (.reg false [6] [] [⟨some 6, none, [], .mov (.c (.bool false))⟩])
          (.pre [6] .ret))
          .skip))
        (.seq (.reg false [7, 8, 9, 13, 17, 18, 116] [] [⟨some 117, none, [], .mov (.t 18)⟩,
          ⟨some 118, none, [], .mov (.t 8)⟩,
          ⟨some 119, none, [], .len false (.t 118)⟩,
          ⟨some 120, none, [], .bin .geq (.t 117) (.t 119)⟩,
          ⟨some 116, none, [], .mov (.t 120)⟩])
        (.cond (.t 116)
          (.seq (.reg true [7, 8, 9, 13, 17, 18, 131] [] [⟨some 121, none, [], .mov (.t 13)⟩,
            ⟨some 122, none, [], .mov (.t 18)⟩,
            ⟨some 123, none, [], .ixS 1 (.t 121) (.t 122)⟩,
            ⟨some 124, none, [.elem 123], .load .one (.t 123)⟩,
            ⟨some 125, none, [], .mov (.t 9)⟩,
            ⟨some 126, none, [], .mov (.t 18)⟩,
            ⟨some 127, none, [], .mov (.t 17)⟩,
            ⟨some 128, none, [], .bin .sub (.t 126) (.t 127)⟩,
            ⟨some 129, none, [], .ixS 1 (.t 125) (.t 128)⟩,
            ⟨some 130, none, [.elem 129], .load .one (.t 129)⟩,
            ⟨some 131, none, [], .bin .neq (.t 124) (.t 130)⟩])
          (.cond (.t 131)
            (.seq (.reg false [6] [] [⟨some 6, none, [], .mov (.c (.bool false))⟩])
            (.pre [6] .ret))
            .skip))
          (.seq (.reg true [7, 8, 9, 13, 17, 18, 132] [] [⟨some 133, none, [], .mov (.t 13)⟩,
            ⟨some 134, none, [], .mov (.t 18)⟩,
            ⟨some 135, none, [], .ixS 1 (.t 133) (.t 134)⟩,
            ⟨some 136, none, [.elem 135], .load .one (.t 135)⟩,
            ⟨some 137, none, [], .mov (.t 8)⟩,
            ⟨some 138, none, [], .mov (.t 18)⟩,
            ⟨some 139, none, [], .ixS 1 (.t 137) (.t 138)⟩,
            ⟨some 140, none, [.elem 139], .load .one (.t 139)⟩,
            ⟨some 141, none, [], .mov (.t 9)⟩,
            ⟨some 142, none, [], .mov (.t 18)⟩,
            ⟨some 143, none, [], .mov (.t 17)⟩,
            ⟨some 144, none, [], .bin .sub (.t 142) (.t 143)⟩,
            ⟨some 145, none, [], .ixS 1 (.t 141) (.t 144)⟩,
            ⟨some 146, none, [.elem 145], .load .one (.t 145)⟩,
            ⟨some 147, none, [], .minmax false [(.t 140), (.t 146)]⟩,
            ⟨some 148, none, [], .bin .lss (.t 136) (.t 147)⟩,
            ⟨some 149, none, [], .mov (.t 148)⟩,
            ⟨some 150, some (149, false), [], .mov (.t 13)⟩,
            ⟨some 151, some (149, false), [], .mov (.t 18)⟩,
            ⟨some 152, some (149, false), [], .ixS 1 (.t 150) (.t 151)⟩,
            ⟨some 153, some (149, false), [.elem 152], .load .one (.t 152)⟩,
            ⟨some 154, some (149, false), [], .mov (.t 8)⟩,
            ⟨some 155, some (149, false), [], .mov (.t 18)⟩,
            ⟨some 156, some (149, false), [], .ixS 1 (.t 154) (.t 155)⟩,
            ⟨some 157, some (149, false), [.elem 156], .load .one (.t 156)⟩,
            ⟨some 158, some (149, false), [], .mov (.t 9)⟩,
            ⟨some 159, some (149, false), [], .mov (.t 18)⟩,
            ⟨some 160, some (149, false), [], .mov (.t 17)⟩,
            ⟨some 161, some (149, false), [], .bin .sub (.t 159) (.t 160)⟩,
            ⟨some 162, some (149, false), [], .ixS 1 (.t 158) (.t 161)⟩,
            ⟨some 163, some (149, false), [.elem 162], .load .one (.t 162)⟩,
            ⟨some 164, some (149, false), [], .minmax true [(.t 157), (.t 163)]⟩,
            ⟨some 165, some (149, false), [], .bin .gtr (.t 153) (.t 164)⟩,
            ⟨some 166, none, [], .pick (.t 149) (.c (.bool true)) (.t 165)⟩,
            ⟨some 132, none, [], .mov (.t 166)⟩])
          (.cond (.t 132)
            (.seq (.reg false [6] [] [⟨some 6, none, [], .mov (.c (.bool false))⟩])
            (.pre [6] .ret))
            .skip))))))))
  (.pre [7, 8, 9, 13, 17, 18] (.reg false [7, 8, 9, 13, 17, 18] [] [⟨some 101, none, [], .mov (.t 18)⟩,
    ⟨some 102, none, [], .bin .add (.t 101) (.c (.int .i64 1))⟩,
    ⟨some 18, none, [], .mov (.t 102)⟩]))))))
def b7_0 : XC := c7_0
@[go_sem] theorem e7_0 (L : Lib) (cx : Cx) (env : Env) (h : Heap) : runC L cx b7_0 (env, h) = runC L cx c7_0 (env, h) := rfl

/-- "aircheck/airchecklaw17.MixFades" -/
def x7 : XFn := { np := 3, isOpen := false, ns := 0, res := [.tmp 6], code :=
  (.seq (.reg false [0, 1, 2] [] [⟨some 6, none, [], .mov (.c (.bool false))⟩])
  (.seq (.reg false [0, 1, 2, 7] [] [⟨some 19, none, [], .call (.c (.fn 11 [])) [] []⟩,
    ⟨some 7, none, [], .mov (.t 19)⟩])
  (.seq (.seq (.reg false [0, 1, 2, 7, 21] [] [⟨some 20, none, [], .mov (.t 7)⟩,
    ⟨some 21, none, [], .un .not (.t 20)⟩])
  (.cond (.t 21)
    (.seq (.reg false [6] [] [⟨some 6, none, [], .mov (.c (.bool false))⟩])
    (.pre [6] .ret))
    .skip))
  (.pre [0, 1, 2, 7] (.seq (.reg false [1, 2, 7, 8] [] [⟨some 22, none, [], .mov (.t 0)⟩,
    ⟨some 23, none, [], .call (.c (.fn 12 [])) [(.t 22)] []⟩,
    ⟨some 8, none, [], .mov (.t 23)⟩])
  (.seq (.reg false [2, 7, 8, 9] [] [⟨some 24, none, [], .mov (.t 1)⟩,
    ⟨some 25, none, [], .call (.c (.fn 12 [])) [(.t 24)] []⟩,
    ⟨some 9, none, [], .mov (.t 25)⟩])
  (.seq (.reg false [7, 8, 9, 10] [] [⟨some 26, none, [], .mov (.t 2)⟩,
    ⟨some 27, none, [], .mov (.t 8)⟩,
    ⟨some 28, none, [], .len false (.t 27)⟩,
    ⟨some 29, none, [], .mov (.t 9)⟩,
    ⟨some 30, none, [], .len false (.t 29)⟩,
    ⟨some 31, none, [], .minmax false [(.t 28), (.t 30)]⟩,
    ⟨some 32, none, [], .bin .add (.t 31) (.c (.int .i64 1))⟩,
    ⟨some 33, none, [], .call (.c (.fn 13 [])) [(.t 26), (.t 32)] []⟩,
    ⟨some 10, none, [], .mov (.t 33)⟩])
  (.seq (.reg false [7, 8, 9, 10, 11, 12] [] [⟨some 35, none, [], .mov (.t 8)⟩,
    ⟨some 36, none, [], .mov (.t 8)⟩,
    ⟨some 37, none, [], .mov (.t 8)⟩,
    ⟨some 38, none, [], .len false (.t 37)⟩,
    ⟨some 39, none, [], .call (.c (.fn 25 [])) [(.t 35), (.t 36), (.t 38)] []⟩,
    ⟨some 34, none, [], .mov (.t 39)⟩,
    ⟨some 40, none, [], .ext (.t 34) 0⟩,
    ⟨some 41, none, [], .ext (.t 34) 1⟩,
    ⟨some 11, none, [], .mov (.t 40)⟩,
    ⟨some 12, none, [], .mov (.t 41)⟩])
  (.seq (.reg false [7, 8, 9, 10, 11, 12, 13, 14] [] [⟨some 43, none, [], .mov (.t 8)⟩,
    ⟨some 44, none, [], .mov (.t 9)⟩,
    ⟨some 45, none, [], .mov (.t 10)⟩,
    ⟨some 46, none, [], .call (.c (.fn 25 [])) [(.t 43), (.t 44), (.t 45)] []⟩,
    ⟨some 42, none, [], .mov (.t 46)⟩,
    ⟨some 47, none, [], .ext (.t 42) 0⟩,
    ⟨some 48, none, [], .ext (.t 42) 1⟩,
    ⟨some 13, none, [], .mov (.t 47)⟩,
    ⟨some 14, none, [], .mov (.t 48)⟩])
  (.seq (.reg false [7, 8, 9, 10, 11, 12, 13, 14, 15, 16] [] [⟨some 50, none, [], .mov (.t 9)⟩,
    ⟨some 51, none, [], .call (.c (.fn 32 [])) [(.t 50)] []⟩,
    ⟨some 52, none, [], .mov (.t 8)⟩,
    ⟨some 53, none, [], .call (.c (.fn 32 [])) [(.t 52)] []⟩,
    ⟨some 54, none, [], .mov (.t 10)⟩,
    ⟨some 55, none, [], .call (.c (.fn 25 [])) [(.t 51), (.t 53), (.t 54)] []⟩,
    ⟨some 49, none, [], .mov (.t 55)⟩,
    ⟨some 56, none, [], .ext (.t 49) 0⟩,
    ⟨some 57, none, [], .ext (.t 49) 1⟩,
    ⟨some 15, none, [], .mov (.t 56)⟩,
    ⟨some 16, none, [], .mov (.t 57)⟩])
  (.seq (.seq (.reg false [7, 8, 9, 10, 13, 92] [] [⟨some 58, none, [], .mov (.t 12)⟩,
    ⟨some 59, none, [], .bin .neq (.t 58) (.c (.int .i64 0))⟩,
    ⟨some 60, none, [], .mov (.t 59)⟩,
    ⟨some 61, some (60, false), [], .mov (.t 14)⟩,
    ⟨some 62, some (60, false), [], .bin .neq (.t 61) (.c (.int .i64 0))⟩,
    ⟨some 63, none, [], .pick (.t 60) (.c (.bool true)) (.t 62)⟩,
    ⟨some 64, none, [], .mov (.t 63)⟩,
    ⟨some 65, some (64, false), [], .mov (.t 16)⟩,
    ⟨some 66, some (64, false), [], .bin .neq (.t 65) (.c (.int .i64 0))⟩,
    ⟨some 67, none, [], .pick (.t 64) (.c (.bool true)) (.t 66)⟩,
    ⟨some 68, none, [], .mov (.t 67)⟩,
    ⟨some 69, some (68, false), [], .mov (.t 11)⟩,
    ⟨some 70, some (68, false), [], .mov (.t 8)⟩,
    ⟨some 71, some (68, false), [], .call (.c (.fn 24 [])) [(.t 69), (.t 70)] []⟩,
    ⟨some 72, some (68, false), [], .un .not (.t 71)⟩,
    ⟨some 73, none, [], .pick (.t 68) (.c (.bool true)) (.t 72)⟩,
    ⟨some 74, none, [], .mov (.t 73)⟩,
    ⟨some 75, some (74, false), [], .mov (.t 15)⟩,
    ⟨some 76, some (74, false), [], .mov (.t 13)⟩,
    ⟨some 77, some (74, false), [], .call (.c (.fn 32 [])) [(.t 76)] []⟩,
    ⟨some 78, some (74, false), [], .call (.c (.fn 24 [])) [(.t 75), (.t 77)] []⟩,
    ⟨some 79, some (74, false), [], .un .not (.t 78)⟩,
    ⟨some 80, none, [], .pick (.t 74) (.c (.bool true)) (.t 79)⟩,
    ⟨some 81, none, [], .mov (.t 80)⟩,
    ⟨some 82, some (81, false), [], .mov (.t 13)⟩,
    ⟨some 83, some (81, false), [], .len false (.t 82)⟩,
    ⟨some 84, some (81, false), [], .mov (.t 8)⟩,
    ⟨some 85, some (81, false), [], .len false (.t 84)⟩,
    ⟨some 86, some (81, false), [], .mov (.t 9)⟩,
    ⟨some 87, some (81, false), [], .len false (.t 86)⟩,
    ⟨some 88, some (81, false), [], .bin .add (.t 85) (.t 87)⟩,
    ⟨some 89, some (81, false), [], .mov (.t 10)⟩,
    ⟨some 90, some (81, false), [], .bin .sub (.t 88) (.t 89)⟩,
    ⟨some 91, some (81, false), [], .bin .neq (.t 83) (.t 90)⟩,
    ⟨some 92, none, [], .pick (.t 81) (.c (.bool true)) (.t 91)⟩])
  (.cond (.t 92)
    (.seq (.reg false [6] [] [⟨some 6, none, [], .mov (.c (.bool false))⟩])
    (.pre [6] .ret))
    .skip))
  (.pre [7, 8, 9, 10, 13] (.seq (.reg false [7, 8, 9, 13, 17] [] [⟨some 93, none, [], .mov (.t 8)⟩,
    ⟨some 94, none, [], .len false (.t 93)⟩,
    ⟨some 95, none, [], .mov (.t 10)⟩,
    ⟨some 96, none, [], .bin .sub (.t 94) (.t 95)⟩,
    ⟨some 17, none, [], .mov (.t 96)⟩])
  (.seq (.seq (.reg false [7, 8, 9, 13, 17, 18] [] [⟨some 18, none, [], .mov (.c (.int .i64 0))⟩])
  (.blk 0
    (.loop b7_0)))
  (.pre [7] (.seq (.reg false [6] [] [⟨some 167, none, [], .mov (.t 7)⟩,
    ⟨some 6, none, [], .mov (.t 167)⟩])
  (.pre [6] .ret))))))))))))))))) }

@[go_sem] def c8_1 : XC := (.pre [7, 8, 10, 11, 12, 13, 14, 16, 17, 18]
  (.seq (.seq (.reg false [7, 8, 10, 11, 12, 13, 14, 16, 17, 18, 105] [] [⟨some 95, none, [], .mov (.t 18)⟩,
    ⟨some 96, none, [], .mov (.t 8)⟩,
    ⟨some 97, none, [], .len false (.t 96)⟩,
    ⟨some 98, none, [], .bin .lss (.t 95) (.t 97)⟩,
    ⟨some 99, none, [], .mov (.t 98)⟩,
    ⟨some 100, some (99, true), [], .mov (.t 18)⟩,
    ⟨some 101, some (99, true), [], .mov (.t 16)⟩,
    ⟨some 102, some (99, true), [], .mov (.t 12)⟩,
    ⟨some 103, some (99, true), [], .bin .add (.t 101) (.t 102)⟩,
    ⟨some 104, some (99, true), [], .bin .leq (.t 100) (.t 103)⟩,
    ⟨some 105, none, [], .pick (.t 99) (.t 104) (.c (.bool false))⟩])
  (.cond (.t 105)
    .skip
    (.pre [7, 8, 10, 11, 12, 13, 14, 16, 17] (.exit 4))))
  (.pre [7, 8, 10, 11, 12, 13, 14, 16, 17, 18] (.seq (.blk 5
    (.reg true [7, 8, 10, 11, 12, 13, 14, 16, 17, 18] [] [⟨some 108, none, [], .mov (.t 17)⟩,
      ⟨some 109, none, [], .mov (.t 108)⟩,
      ⟨some 110, some (109, false), [], .mov (.t 8)⟩,
      ⟨some 111, some (109, false), [], .mov (.t 18)⟩,
      ⟨some 112, some (109, false), [], .ixS 1 (.t 110) (.t 111)⟩,
      ⟨some 113, some (109, false), [.elem 112], .load .one (.t 112)⟩,
      ⟨some 114, some (109, false), [], .mov (.t 8)⟩,
      ⟨some 115, some (109, false), [], .mov (.t 18)⟩,
      ⟨some 116, some (109, false), [], .ixS 1 (.t 114) (.t 115)⟩,
      ⟨some 117, some (109, false), [.elem 116], .load .one (.t 116)⟩,
      ⟨some 118, some (109, false), [], .un .neg (.t 117)⟩,
      ⟨some 119, some (109, false), [], .minmax true [(.t 113), (.t 118)]⟩,
      ⟨some 120, some (109, false), [], .mov (.t 10)⟩,
      ⟨some 121, some (109, false), [], .bin .geq (.t 119) (.t 120)⟩,
      ⟨some 122, none, [], .pick (.t 109) (.c (.bool true)) (.t 121)⟩,
      ⟨some 17, none, [], .mov (.t 122)⟩]))
  (.pre [7, 8, 10, 11, 12, 13, 14, 16, 17, 18] (.reg false [7, 8, 10, 11, 12, 13, 14, 16, 17, 18] [] [⟨some 106, none, [], .mov (.t 18)⟩,
    ⟨some 107, none, [], .bin .add (.t 106) (.c (.int .i64 1))⟩,
    ⟨some 18, none, [], .mov (.t 107)⟩]))))))
def b8_1 : XC := c8_1
@[go_sem] theorem e8_1 (L : Lib) (cx : Cx) (env : Env) (h : Heap) : runC L cx b8_1 (env, h) = runC L cx c8_1 (env, h) := rfl

@[go_sem] def c8_0 : XC := (.pre [7, 8, 10, 11, 12, 13, 14, 16]
  (.seq (.seq (.reg false [7, 8, 10, 11, 12, 13, 14, 16, 75] [] [⟨some 72, none, [], .mov (.t 16)⟩,
    ⟨some 73, none, [], .mov (.t 14)⟩,
    ⟨some 74, none, [], .len false (.t 73)⟩,
    ⟨some 75, none, [], .bin .lss (.t 72) (.t 74)⟩])
  (.cond (.t 75)
    .skip
    (.pre [7] (.exit 2))))
  (.pre [7, 8, 10, 11, 12, 13, 14, 16] (.seq (.blk 3
    (.seq (.seq (.reg false [7, 8, 10, 11, 12, 13, 14, 16, 90] [] [⟨some 78, none, [], .mov (.t 14)⟩,
      ⟨some 79, none, [], .mov (.t 16)⟩,
      ⟨some 80, none, [], .ixS 1 (.t 78) (.t 79)⟩,
      ⟨some 81, none, [], .load .one (.t 80)⟩,
      ⟨some 82, none, [], .mov (.t 11)⟩,
      ⟨some 83, none, [], .bin .lss (.t 81) (.t 82)⟩,
      ⟨some 84, none, [], .mov (.t 83)⟩,
      ⟨some 85, some (84, false), [], .mov (.t 14)⟩,
      ⟨some 86, some (84, false), [], .mov (.t 16)⟩,
      ⟨some 87, some (84, false), [], .ixS 1 (.t 85) (.t 86)⟩,
      ⟨some 88, some (84, false), [], .load .one (.t 87)⟩,
      ⟨some 89, some (84, false), [], .bin .gtr (.t 88) (.c (.int .i64 1024))⟩,
      ⟨some 90, none, [], .pick (.t 84) (.c (.bool true)) (.t 89)⟩])
    (.cond (.t 90)
      (.seq (.reg false [6] [] [⟨some 6, none, [], .mov (.c (.bool false))⟩])
      (.pre [6] .ret))
      .skip))
    (.pre [7, 8, 10, 11, 12, 13, 14, 16] (.seq (.reg false [7, 8, 10, 11, 12, 13, 14, 16, 17] [] [⟨some 17, none, [], .mov (.c (.bool false))⟩])
    (.seq (.seq (.reg false [7, 8, 10, 11, 12, 13, 14, 16, 17, 18] [] [⟨some 91, none, [], .mov (.t 16)⟩,
      ⟨some 92, none, [], .mov (.t 13)⟩,
      ⟨some 93, none, [], .bin .sub (.t 91) (.t 92)⟩,
      ⟨some 94, none, [], .minmax true [(.t 93), (.c (.int .i64 0))]⟩,
      ⟨some 18, none, [], .mov (.t 94)⟩])
    (.blk 4
      (.loop b8_1)))
    (.pre [7, 8, 10, 11, 12, 13, 14, 16, 17] (.seq (.reg true [7, 8, 10, 11, 12, 13, 14, 16, 153] [] [⟨some 123, none, [], .mov (.t 8)⟩,
      ⟨some 124, none, [], .mov (.t 16)⟩,
      ⟨some 125, none, [], .ixS 1 (.t 123) (.t 124)⟩,
      ⟨some 126, none, [.elem 125], .load .one (.t 125)⟩,
      ⟨some 127, none, [], .mov (.t 8)⟩,
      ⟨some 128, none, [], .mov (.t 16)⟩,
      ⟨some 129, none, [], .ixS 1 (.t 127) (.t 128)⟩,
      ⟨some 130, none, [.elem 129], .load .one (.t 129)⟩,
      ⟨some 131, none, [], .un .neg (.t 130)⟩,
      ⟨some 132, none, [], .minmax true [(.t 126), (.t 131)]⟩,
      ⟨some 133, none, [], .mov (.t 10)⟩,
      ⟨some 134, none, [], .bin .geq (.t 132) (.t 133)⟩,
      ⟨some 135, none, [], .mov (.t 134)⟩,
      ⟨some 136, some (135, true), [], .mov (.t 14)⟩,
      ⟨some 137, some (135, true), [], .mov (.t 16)⟩,
      ⟨some 138, some (135, true), [], .ixS 1 (.t 136) (.t 137)⟩,
      ⟨some 139, some (135, true), [.elem 138], .load .one (.t 138)⟩,
      ⟨some 140, some (135, true), [], .mov (.t 11)⟩,
      ⟨some 141, some (135, true), [], .bin .neq (.t 139) (.t 140)⟩,
      ⟨some 142, none, [], .pick (.t 135) (.t 141) (.c (.bool false))⟩,
      ⟨some 143, none, [], .mov (.t 142)⟩,
      ⟨some 144, some (143, false), [], .mov (.t 17)⟩,
      ⟨some 145, some (143, false), [], .un .not (.t 144)⟩,
      ⟨some 146, some (143, false), [], .mov (.t 145)⟩,
      ⟨some 147, some (146, true), [], .mov (.t 14)⟩,
      ⟨some 148, some (146, true), [], .mov (.t 16)⟩,
      ⟨some 149, some (146, true), [], .ixS 1 (.t 147) (.t 148)⟩,
      ⟨some 150, some (146, true), [.elem 149], .load .one (.t 149)⟩,
      ⟨some 151, some (146, true), [], .bin .neq (.t 150) (.c (.int .i64 1024))⟩,
      ⟨some 152, some (143, false), [], .pick (.t 146) (.t 151) (.c (.bool false))⟩,
      ⟨some 153, none, [], .pick (.t 143) (.c (.bool true)) (.t 152)⟩])
    (.cond (.t 153)
      (.seq (.reg false [6] [] [⟨some 6, none, [], .mov (.c (.bool false))⟩])
      (.pre [6] .ret))
      .skip))))))))
  (.pre [7, 8, 10, 11, 12, 13, 14, 16] (.reg false [7, 8, 10, 11, 12, 13, 14, 16] [] [⟨some 76, none, [], .mov (.t 16)⟩,
    ⟨some 77, none, [], .bin .add (.t 76) (.c (.int .i64 1))⟩,
    ⟨some 16, none, [], .mov (.t 77)⟩]))))))
def b8_0 : XC := c8_0
@[go_sem] theorem e8_0 (L : Lib) (cx : Cx) (env : Env) (h : Heap) : runC L cx b8_0 (env, h) = runC L cx c8_0 (env, h) := rfl

@[go_sem] def c8_2 : XC := (.pre [1, 5, 7, 8, 9]
  (.seq (.seq (.reg false [1, 5, 7, 8, 9, 27] [] [⟨some 24, none, [], .mov (.t 9)⟩,
    ⟨some 25, none, [], .mov (.t 8)⟩,
    ⟨some 26, none, [], .len false (.t 25)⟩,
    ⟨some 27, none, [], .bin .lss (.t 24) (.t 26)⟩])
  (.cond (.t 27)
    .skip
    (.pre [5, 7, 8] (.exit 0))))
  (.pre [1, 5, 7, 8, 9] (.seq (.blk 1
    (.seq (.reg false [1, 5, 7, 8, 9, 35] [] [⟨some 30, none, [], .mov (.t 1)⟩,
      ⟨some 31, none, [], .call (.c (.fn 13 [])) [(.t 30), (.c (.int .i64 1099511627776))] []⟩,
      ⟨some 32, none, [], .mov (.t 9)⟩,
      ⟨some 33, none, [], .bin .shr (.t 31) (.t 32)⟩,
      ⟨some 34, none, [], .bin .rem (.t 33) (.c (.int .i64 2))⟩,
      ⟨some 35, none, [], .bin .eql (.t 34) (.c (.int .i64 0))⟩])
    (.cond (.t 35)
      (.reg false [1, 5, 7, 8, 9] [] [⟨some 36, none, [], .mov (.t 8)⟩,
        ⟨some 37, none, [], .mov (.t 9)⟩,
        ⟨some 38, none, [], .ixS 1 (.t 36) (.t 37)⟩,
        ⟨none, none, [], .store 1 (.t 38) (.c (.int .i64 0))⟩])
      .skip)))
  (.pre [1, 5, 7, 8, 9] (.reg false [1, 5, 7, 8, 9] [] [⟨some 28, none, [], .mov (.t 9)⟩,
    ⟨some 29, none, [], .bin .add (.t 28) (.c (.int .i64 1))⟩,
    ⟨some 9, none, [], .mov (.t 29)⟩]))))))
def b8_2 : XC := c8_2
@[go_sem] theorem e8_2 (L : Lib) (cx : Cx) (env : Env) (h : Heap) : runC L cx b8_2 (env, h) = runC L cx c8_2 (env, h) := rfl

/-- "aircheck/airchecklaw17.MixDucks" -/
def x8 : XFn := { np := 3, isOpen := false, ns := 1, res := [.tmp 6], code :=
  (.seq (.reg false [0, 1, 5] [] [⟨some 5, none, [], .boxR (.t 2)⟩,
    ⟨some 6, none, [], .mov (.c (.bool false))⟩])
  (.seq (.reg false [0, 1, 5, 7] [] [⟨some 19, none, [], .call (.c (.fn 11 [])) [] []⟩,
    ⟨some 7, none, [], .mov (.t 19)⟩])
  (.seq (.seq (.reg false [0, 1, 5, 7, 21] [] [⟨some 20, none, [], .mov (.t 7)⟩,
    ⟨some 21, none, [], .un .not (.t 20)⟩])
  (.cond (.t 21)
    (.seq (.reg false [6] [] [⟨some 6, none, [], .mov (.c (.bool false))⟩])
    (.pre [6] .ret))
    .skip))
  (.pre [0, 1, 5, 7] (.seq (.reg false [1, 5, 7, 8] [] [⟨some 22, none, [], .mov (.t 0)⟩,
    ⟨some 23, none, [], .call (.c (.fn 12 [])) [(.t 22)] [(0, 0)]⟩,
    ⟨some 8, none, [], .mov (.t 23)⟩])
  (.seq (.seq (.reg false [1, 5, 7, 8, 9] [] [⟨some 9, none, [], .mov (.c (.int .i64 0))⟩])
  (.blk 0
    (.loop b8_2)))
  (.pre [5, 7, 8] (.seq (.reg false [5, 7, 8, 10] [] [⟨some 39, none, [], .ixA 4 1 (.t 5) (.c (.int .i64 0))⟩,
    ⟨some 40, none, [], .load .one (.t 39)⟩,
    ⟨some 41, none, [], .call (.c (.fn 13 [])) [(.t 40), (.c (.int .i64 20000))] []⟩,
    ⟨some 42, none, [], .bin .add (.c (.int .i64 1)) (.t 41)⟩,
    ⟨some 10, none, [], .mov (.t 42)⟩])
  (.seq (.reg false [5, 7, 8, 10, 11] [] [⟨some 43, none, [], .ixA 4 1 (.t 5) (.c (.int .i64 1))⟩,
    ⟨some 44, none, [], .load .one (.t 43)⟩,
    ⟨some 45, none, [], .call (.c (.fn 13 [])) [(.t 44), (.c (.int .i64 1025))] []⟩,
    ⟨some 11, none, [], .mov (.t 45)⟩])
  (.seq (.reg false [5, 7, 8, 10, 11, 12] [] [⟨some 46, none, [], .ixA 4 1 (.t 5) (.c (.int .i64 2))⟩,
    ⟨some 47, none, [], .load .one (.t 46)⟩,
    ⟨some 48, none, [], .call (.c (.fn 13 [])) [(.t 47), (.c (.int .i64 20))] []⟩,
    ⟨some 49, none, [], .bin .add (.c (.int .i64 1)) (.t 48)⟩,
    ⟨some 12, none, [], .mov (.t 49)⟩])
  (.seq (.reg false [7, 8, 10, 11, 12, 13] [] [⟨some 50, none, [], .ixA 4 1 (.t 5) (.c (.int .i64 3))⟩,
    ⟨some 51, none, [], .load .one (.t 50)⟩,
    ⟨some 52, none, [], .call (.c (.fn 13 [])) [(.t 51), (.c (.int .i64 20))] []⟩,
    ⟨some 53, none, [], .bin .add (.c (.int .i64 1)) (.t 52)⟩,
    ⟨some 13, none, [], .mov (.t 53)⟩])
  (.seq (.reg false [7, 8, 10, 11, 12, 13, 14, 15] [] [⟨some 55, none, [], .mov (.t 8)⟩,
    ⟨some 56, none, [], .mov (.t 10)⟩,
    ⟨some 57, none, [], .mov (.t 11)⟩,
    ⟨some 58, none, [], .mov (.t 12)⟩,
    ⟨some 59, none, [], .mov (.t 13)⟩,
    ⟨some 60, none, [], .call (.c (.fn 27 [])) [(.t 55), (.t 56), (.t 57), (.t 58), (.t 59)] []⟩,
    ⟨some 54, none, [], .mov (.t 60)⟩,
    ⟨some 61, none, [], .ext (.t 54) 0⟩,
    ⟨some 62, none, [], .ext (.t 54) 1⟩,
    ⟨some 14, none, [], .mov (.t 61)⟩,
    ⟨some 15, none, [], .mov (.t 62)⟩])
  (.seq (.seq (.reg false [7, 8, 10, 11, 12, 13, 14, 71] [] [⟨some 63, none, [], .mov (.t 15)⟩,
    ⟨some 64, none, [], .bin .neq (.t 63) (.c (.int .i64 0))⟩,
    ⟨some 65, none, [], .mov (.t 64)⟩,
    ⟨some 66, some (65, false), [], .mov (.t 14)⟩,
    ⟨some 67, some (65, false), [], .len false (.t 66)⟩,
    ⟨some 68, some (65, false), [], .mov (.t 8)⟩,
    ⟨some 69, some (65, false), [], .len false (.t 68)⟩,
    ⟨some 70, some (65, false), [], .bin .neq (.t 67) (.t 69)⟩,
    ⟨some 71, none, [], .pick (.t 65) (.c (.bool true)) (.t 70)⟩])
  (.cond (.t 71)
    (.seq (.reg false [6] [] [⟨some 6, none, [], .mov (.c (.bool false))⟩])
    (.pre [6] .ret))
    .skip))
  (.pre [7, 8, 10, 11, 12, 13, 14] (.seq (.seq (.reg false [7, 8, 10, 11, 12, 13, 14, 16] [] [⟨some 16, none, [], .mov (.c (.int .i64 0))⟩])
  (.blk 2
    (.loop b8_0)))
  (.pre [7] (.seq (.reg false [6] [] [⟨some 154, none, [], .mov (.t 7)⟩,
    ⟨some 6, none, [], .mov (.t 154)⟩])
  (.pre [6] .ret)))))))))))))))))) }

@[go_sem] def c9_0 : XC := (.pre [11, 17, 19, 21, 24, 26]
  (.seq (.seq (.reg false [11, 17, 19, 21, 24, 26, 164] [] [⟨some 161, none, [], .mov (.t 26)⟩,
    ⟨some 162, none, [], .mov (.t 17)⟩,
    ⟨some 163, none, [], .len false (.t 162)⟩,
    ⟨some 164, none, [], .bin .lss (.t 161) (.t 163)⟩])
  (.cond (.t 164)
    .skip
    (.pre [11] (.exit 0))))
  (.pre [11, 17, 19, 21, 24, 26] (.seq (.blk 1
    (.seq (.reg true [11, 17, 19, 21, 24, 26, 197] [] [⟨some 167, none, [], .mov (.t 19)⟩,
      ⟨some 168, none, [], .mov (.t 26)⟩,
      ⟨some 169, none, [], .ixS 1 (.t 167) (.t 168)⟩,
      ⟨some 170, none, [.elem 169], .load .one (.t 169)⟩,
      ⟨some 171, none, [], .mov (.t 17)⟩,
      ⟨some 172, none, [], .mov (.t 26)⟩,
      ⟨some 173, none, [], .ixS 1 (.t 171) (.t 172)⟩,
      ⟨some 174, none, [.elem 173], .load .one (.t 173)⟩,
      ⟨some 175, none, [], .bin .gtr (.t 170) (.t 174)⟩,
      ⟨some 176, none, [], .mov (.t 175)⟩,
      ⟨some 177, some (176, false), [], .mov (.t 21)⟩,
      ⟨some 178, some (176, false), [], .mov (.t 26)⟩,
      ⟨some 179, some (176, false), [], .ixS 1 (.t 177) (.t 178)⟩,
      ⟨some 180, some (176, false), [.elem 179], .load .one (.t 179)⟩,
      ⟨some 181, some (176, false), [], .mov (.t 17)⟩,
      ⟨some 182, some (176, false), [], .mov (.t 26)⟩,
      ⟨some 183, some (176, false), [], .ixS 1 (.t 181) (.t 182)⟩,
      ⟨some 184, some (176, false), [.elem 183], .load .one (.t 183)⟩,
      ⟨some 185, some (176, false), [], .bin .gtr (.t 180) (.t 184)⟩,
      ⟨some 186, none, [], .pick (.t 176) (.c (.bool true)) (.t 185)⟩,
      ⟨some 187, none, [], .mov (.t 186)⟩,
      ⟨some 188, some (187, false), [], .mov (.t 24)⟩,
      ⟨some 189, some (187, false), [], .mov (.t 26)⟩,
      ⟨some 190, some (187, false), [], .ixS 1 (.t 188) (.t 189)⟩,
      ⟨some 191, some (187, false), [.elem 190], .load .one (.t 190)⟩,
      ⟨some 192, some (187, false), [], .mov (.t 17)⟩,
      ⟨some 193, some (187, false), [], .mov (.t 26)⟩,
      ⟨some 194, some (187, false), [], .ixS 1 (.t 192) (.t 193)⟩,
      ⟨some 195, some (187, false), [.elem 194], .load .one (.t 194)⟩,
      ⟨some 196, some (187, false), [], .bin .gtr (.t 191) (.t 195)⟩,
      ⟨some 197, none, [], .pick (.t 187) (.c (.bool true)) (.t 196)⟩])
    (.cond (.t 197)
      (.seq (.reg false [10] [] [⟨some 10, none, [], .mov (.c (.bool false))⟩])
      (.pre [10] .ret))
      .skip)))
  (.pre [11, 17, 19, 21, 24, 26] (.reg false [11, 17, 19, 21, 24, 26] [] [⟨some 165, none, [], .mov (.t 26)⟩,
    ⟨some 166, none, [], .bin .add (.t 165) (.c (.int .i64 1))⟩,
    ⟨some 26, none, [], .mov (.t 166)⟩]))))))
def b9_0 : XC := c9_0
@[go_sem] theorem e9_0 (L : Lib) (cx : Cx) (env : Env) (h : Heap) : runC L cx b9_0 (env, h) = runC L cx c9_0 (env, h) := rfl

/-- "aircheck/airchecklaw17.MixLouder" -/
def x9 : XFn := { np := 5, isOpen := false, ns := 1, res := [.tmp 10], code :=
  (.seq (.reg false [0, 2, 3, 4, 6] [] [⟨some 6, none, [], .boxR (.t 1)⟩,
    ⟨some 10, none, [], .mov (.c (.bool false))⟩])
  (.seq (.reg false [0, 2, 3, 4, 6, 11] [] [⟨some 27, none, [], .call (.c (.fn 11 [])) [] []⟩,
    ⟨some 11, none, [], .mov (.t 27)⟩])
  (.seq (.seq (.reg false [0, 2, 3, 4, 6, 11, 29] [] [⟨some 28, none, [], .mov (.t 11)⟩,
    ⟨some 29, none, [], .un .not (.t 28)⟩])
  (.cond (.t 29)
    (.seq (.reg false [10] [] [⟨some 10, none, [], .mov (.c (.bool false))⟩])
    (.pre [10] .ret))
    .skip))
  (.pre [0, 2, 3, 4, 6, 11] (.seq (.reg false [2, 3, 4, 6, 11, 12] [] [⟨some 30, none, [], .mov (.t 0)⟩,
    ⟨some 31, none, [], .call (.c (.fn 12 [])) [(.t 30)] [(0, 0)]⟩,
    ⟨some 12, none, [], .mov (.t 31)⟩])
  (.seq (.reg false [2, 3, 4, 6, 11, 12, 13] [] [⟨some 32, none, [], .ixA 4 1 (.t 6) (.c (.int .i64 0))⟩,
    ⟨some 33, none, [], .load .one (.t 32)⟩,
    ⟨some 34, none, [], .call (.c (.fn 13 [])) [(.t 33), (.c (.int .i64 30000))] []⟩,
    ⟨some 35, none, [], .bin .add (.c (.int .i64 1)) (.t 34)⟩,
    ⟨some 13, none, [], .mov (.t 35)⟩])
  (.seq (.reg false [2, 3, 4, 6, 11, 12, 13, 14] [] [⟨some 36, none, [], .ixA 4 1 (.t 6) (.c (.int .i64 1))⟩,
    ⟨some 37, none, [], .load .one (.t 36)⟩,
    ⟨some 38, none, [], .call (.c (.fn 13 [])) [(.t 37), (.c (.int .i64 1025))] []⟩,
    ⟨some 14, none, [], .mov (.t 38)⟩])
  (.seq (.reg false [2, 3, 4, 6, 11, 12, 13, 14, 15] [] [⟨some 39, none, [], .ixA 4 1 (.t 6) (.c (.int .i64 2))⟩,
    ⟨some 40, none, [], .load .one (.t 39)⟩,
    ⟨some 41, none, [], .call (.c (.fn 13 [])) [(.t 40), (.c (.int .i64 20))] []⟩,
    ⟨some 42, none, [], .bin .add (.c (.int .i64 1)) (.t 41)⟩,
    ⟨some 15, none, [], .mov (.t 42)⟩])
  (.seq (.reg false [2, 3, 4, 11, 12, 13, 14, 15, 16] [] [⟨some 43, none, [], .ixA 4 1 (.t 6) (.c (.int .i64 3))⟩,
    ⟨some 44, none, [], .load .one (.t 43)⟩,
    ⟨some 45, none, [], .call (.c (.fn 13 [])) [(.t 44), (.c (.int .i64 20))] []⟩,
    ⟨some 46, none, [], .bin .add (.c (.int .i64 1)) (.t 45)⟩,
    ⟨some 16, none, [], .mov (.t 46)⟩])
  (.seq (.reg false [2, 3, 4, 11, 12, 13, 14, 15, 16, 17, 18] [] [⟨some 48, none, [], .mov (.t 12)⟩,
    ⟨some 49, none, [], .mov (.t 13)⟩,
    ⟨some 50, none, [], .mov (.t 14)⟩,
    ⟨some 51, none, [], .mov (.t 15)⟩,
    ⟨some 52, none, [], .mov (.t 16)⟩,
    ⟨some 53, none, [], .call (.c (.fn 27 [])) [(.t 48), (.t 49), (.t 50), (.t 51), (.t 52)] []⟩,
    ⟨some 47, none, [], .mov (.t 53)⟩,
    ⟨some 54, none, [], .ext (.t 47) 0⟩,
    ⟨some 55, none, [], .ext (.t 47) 1⟩,
    ⟨some 17, none, [], .mov (.t 54)⟩,
    ⟨some 18, none, [], .mov (.t 55)⟩])
  (.seq (.reg false [2, 3, 4, 11, 12, 13, 14, 15, 16, 17, 18, 19, 20] [] [⟨some 57, none, [], .mov (.t 12)⟩,
    ⟨some 58, none, [], .mov (.t 13)⟩,
    ⟨some 59, none, [], .mov (.t 4)⟩,
    ⟨some 60, none, [], .mov (.t 13)⟩,
    ⟨some 61, none, [], .call (.c (.fn 13 [])) [(.t 59), (.t 60)] []⟩,
    ⟨some 62, none, [], .bin .sub (.t 58) (.t 61)⟩,
    ⟨some 63, none, [], .mov (.t 14)⟩,
    ⟨some 64, none, [], .mov (.t 15)⟩,
    ⟨some 65, none, [], .mov (.t 16)⟩,
    ⟨some 66, none, [], .call (.c (.fn 27 [])) [(.t 57), (.t 62), (.t 63), (.t 64), (.t 65)] []⟩,
    ⟨some 56, none, [], .mov (.t 66)⟩,
    ⟨some 67, none, [], .ext (.t 56) 0⟩,
    ⟨some 68, none, [], .ext (.t 56) 1⟩,
    ⟨some 19, none, [], .mov (.t 67)⟩,
    ⟨some 20, none, [], .mov (.t 68)⟩])
  (.seq (.reg false [2, 3, 11, 12, 13, 14, 15, 16, 17, 18, 19, 20, 21, 22] [] [⟨some 70, none, [], .mov (.t 12)⟩,
    ⟨some 71, none, [], .mov (.t 13)⟩,
    ⟨some 72, none, [], .mov (.t 14)⟩,
    ⟨some 73, none, [], .mov (.t 4)⟩,
    ⟨some 74, none, [], .mov (.t 14)⟩,
    ⟨some 75, none, [], .bin .add (.t 74) (.c (.int .i64 1))⟩,
    ⟨some 76, none, [], .call (.c (.fn 13 [])) [(.t 73), (.t 75)] []⟩,
    ⟨some 77, none, [], .bin .sub (.t 72) (.t 76)⟩,
    ⟨some 78, none, [], .mov (.t 15)⟩,
    ⟨some 79, none, [], .mov (.t 16)⟩,
    ⟨some 80, none, [], .call (.c (.fn 27 [])) [(.t 70), (.t 71), (.t 77), (.t 78), (.t 79)] []⟩,
    ⟨some 69, none, [], .mov (.t 80)⟩,
    ⟨some 81, none, [], .ext (.t 69) 0⟩,
    ⟨some 82, none, [], .ext (.t 69) 1⟩,
    ⟨some 21, none, [], .mov (.t 81)⟩,
    ⟨some 22, none, [], .mov (.t 82)⟩])
  (.seq (.seq (.reg false [2, 3, 11, 12, 13, 14, 15, 16, 17, 18, 19, 20, 21, 22, 85] [] [⟨some 83, none, [], .mov (.t 12)⟩,
    ⟨some 84, none, [], .len false (.t 83)⟩,
    ⟨some 85, none, [], .bin .gtr (.t 84) (.c (.int .i64 0))⟩])
  (.cond (.t 85)
    (.seq (.reg false [3, 11, 12, 13, 14, 15, 16, 17, 18, 19, 20, 21, 22, 23] [] [⟨some 86, none, [], .mov (.t 2)⟩,
      ⟨some 87, none, [], .mov (.t 12)⟩,
      ⟨some 88, none, [], .len false (.t 87)⟩,
      ⟨some 89, none, [], .call (.c (.fn 13 [])) [(.t 86), (.t 88)] []⟩,
      ⟨some 23, none, [], .mov (.t 89)⟩])
    (.seq (.reg false [3, 11, 12, 13, 14, 15, 16, 17, 18, 19, 20, 21, 22, 23, 94] [] [⟨some 90, none, [], .mov (.t 12)⟩,
      ⟨some 91, none, [], .mov (.t 23)⟩,
      ⟨some 92, none, [], .ixS 1 (.t 90) (.t 91)⟩,
      ⟨some 93, none, [], .load .one (.t 92)⟩,
      ⟨some 94, none, [], .bin .geq (.t 93) (.c (.int .i64 0))⟩])
    (.cond (.t 94)
      (.reg true [11, 12, 13, 14, 15, 16, 17, 18, 19, 20, 21, 22] [] [⟨some 95, none, [], .mov (.t 12)⟩,
        ⟨some 96, none, [], .mov (.t 23)⟩,
        ⟨some 97, none, [], .mov (.t 12)⟩,
        ⟨some 98, none, [], .mov (.t 23)⟩,
        ⟨some 99, none, [], .ixS 1 (.t 97) (.t 98)⟩,
        ⟨some 100, none, [.elem 99], .load .one (.t 99)⟩,
        ⟨some 101, none, [], .mov (.t 3)⟩,
        ⟨some 102, none, [], .call (.c (.fn 13 [])) [(.t 101), (.c (.int .i64 30000))] []⟩,
        ⟨some 103, none, [], .bin .add (.t 100) (.t 102)⟩,
        ⟨some 104, none, [], .minmax false [(.t 103), (.c (.int .i64 32767))]⟩,
        ⟨some 105, none, [], .ixS 1 (.t 95) (.t 96)⟩,
        ⟨none, none, [.elem 105, .closed 104], .store 1 (.t 105) (.t 104)⟩])
      (.reg true [11, 12, 13, 14, 15, 16, 17, 18, 19, 20, 21, 22] [] [⟨some 106, none, [], .mov (.t 12)⟩,
        ⟨some 107, none, [], .mov (.t 23)⟩,
        ⟨some 108, none, [], .mov (.t 12)⟩,
        ⟨some 109, none, [], .mov (.t 23)⟩,
        ⟨some 110, none, [], .ixS 1 (.t 108) (.t 109)⟩,
        ⟨some 111, none, [.elem 110], .load .one (.t 110)⟩,
        ⟨some 112, none, [], .mov (.t 3)⟩,
        ⟨some 113, none, [], .call (.c (.fn 13 [])) [(.t 112), (.c (.int .i64 30000))] []⟩,
        ⟨some 114, none, [], .bin .sub (.t 111) (.t 113)⟩,
        ⟨some 115, none, [], .minmax true [(.t 114), (.c (.int .i64 (-32768)))]⟩,
        ⟨some 116, none, [], .ixS 1 (.t 106) (.t 107)⟩,
        ⟨none, none, [.elem 116, .closed 115], .store 1 (.t 116) (.t 115)⟩]))))
    .skip))
  (.pre [11, 12, 13, 14, 15, 16, 17, 18, 19, 20, 21, 22] (.seq (.reg false [11, 17, 18, 19, 20, 21, 22, 24, 25] [] [⟨some 118, none, [], .mov (.t 12)⟩,
    ⟨some 119, none, [], .mov (.t 13)⟩,
    ⟨some 120, none, [], .mov (.t 14)⟩,
    ⟨some 121, none, [], .mov (.t 15)⟩,
    ⟨some 122, none, [], .mov (.t 16)⟩,
    ⟨some 123, none, [], .call (.c (.fn 27 [])) [(.t 118), (.t 119), (.t 120), (.t 121), (.t 122)] []⟩,
    ⟨some 117, none, [], .mov (.t 123)⟩,
    ⟨some 124, none, [], .ext (.t 117) 0⟩,
    ⟨some 125, none, [], .ext (.t 117) 1⟩,
    ⟨some 24, none, [], .mov (.t 124)⟩,
    ⟨some 25, none, [], .mov (.t 125)⟩])
  (.seq (.seq (.reg false [11, 17, 19, 21, 24, 160] [] [⟨some 126, none, [], .mov (.t 18)⟩,
    ⟨some 127, none, [], .bin .neq (.t 126) (.c (.int .i64 0))⟩,
    ⟨some 128, none, [], .mov (.t 127)⟩,
    ⟨some 129, some (128, false), [], .mov (.t 20)⟩,
    ⟨some 130, some (128, false), [], .bin .neq (.t 129) (.c (.int .i64 0))⟩,
    ⟨some 131, none, [], .pick (.t 128) (.c (.bool true)) (.t 130)⟩,
    ⟨some 132, none, [], .mov (.t 131)⟩,
    ⟨some 133, some (132, false), [], .mov (.t 22)⟩,
    ⟨some 134, some (132, false), [], .bin .neq (.t 133) (.c (.int .i64 0))⟩,
    ⟨some 135, none, [], .pick (.t 132) (.c (.bool true)) (.t 134)⟩,
    ⟨some 136, none, [], .mov (.t 135)⟩,
    ⟨some 137, some (136, false), [], .mov (.t 25)⟩,
    ⟨some 138, some (136, false), [], .bin .neq (.t 137) (.c (.int .i64 0))⟩,
    ⟨some 139, none, [], .pick (.t 136) (.c (.bool true)) (.t 138)⟩,
    ⟨some 140, none, [], .mov (.t 139)⟩,
    ⟨some 141, some (140, false), [], .mov (.t 19)⟩,
    ⟨some 142, some (140, false), [], .len false (.t 141)⟩,
    ⟨some 143, some (140, false), [], .mov (.t 17)⟩,
    ⟨some 144, some (140, false), [], .len false (.t 143)⟩,
    ⟨some 145, some (140, false), [], .bin .neq (.t 142) (.t 144)⟩,
    ⟨some 146, none, [], .pick (.t 140) (.c (.bool true)) (.t 145)⟩,
    ⟨some 147, none, [], .mov (.t 146)⟩,
    ⟨some 148, some (147, false), [], .mov (.t 21)⟩,
    ⟨some 149, some (147, false), [], .len false (.t 148)⟩,
    ⟨some 150, some (147, false), [], .mov (.t 17)⟩,
    ⟨some 151, some (147, false), [], .len false (.t 150)⟩,
    ⟨some 152, some (147, false), [], .bin .neq (.t 149) (.t 151)⟩,
    ⟨some 153, none, [], .pick (.t 147) (.c (.bool true)) (.t 152)⟩,
    ⟨some 154, none, [], .mov (.t 153)⟩,
    ⟨some 155, some (154, false), [], .mov (.t 24)⟩,
    ⟨some 156, some (154, false), [], .len false (.t 155)⟩,
    ⟨some 157, some (154, false), [], .mov (.t 17)⟩,
    ⟨some 158, some (154, false), [], .len false (.t 157)⟩,
    ⟨some 159, some (154, false), [], .bin .neq (.t 156) (.t 158)⟩,
    ⟨some 160, none, [], .pick (.t 154) (.c (.bool true)) (.t 159)⟩])
  (.cond (.t 160)
    (.seq (.reg false [10] [] [⟨some 10, none, [], .mov (.c (.bool false))⟩])
    (.pre [10] .ret))
    .skip))
  (.pre [11, 17, 19, 21, 24] (.seq (.seq (.reg false [11, 17, 19, 21, 24, 26] [] [⟨some 26, none, [], .mov (.c (.int .i64 0))⟩])
  (.blk 0
    (.loop b9_0)))
  (.pre [11] (.seq (.reg false [10] [] [⟨some 198, none, [], .mov (.t 11)⟩,
    ⟨some 10, none, [], .mov (.t 198)⟩])
  (.pre [10] .ret))))))))))))))))))))) }

/-- "aircheck/airchecklaw17.MixUnder" -/
def x10 : XFn := { np := 3, isOpen := false, ns := 1, res := [.tmp 6], code :=
  (.seq (.reg false [0, 1, 5] [] [⟨some 5, none, [], .boxR (.t 2)⟩,
    ⟨some 6, none, [], .mov (.c (.bool false))⟩])
  (.seq (.reg false [0, 1, 5, 7] [] [⟨some 21, none, [], .call (.c (.fn 11 [])) [] []⟩,
    ⟨some 7, none, [], .mov (.t 21)⟩])
  (.seq (.seq (.reg false [0, 1, 5, 7, 23] [] [⟨some 22, none, [], .mov (.t 7)⟩,
    ⟨some 23, none, [], .un .not (.t 22)⟩])
  (.cond (.t 23)
    (.seq (.reg false [6] [] [⟨some 6, none, [], .mov (.c (.bool false))⟩])
    (.pre [6] .ret))
    .skip))
  (.pre [0, 1, 5, 7] (.seq (.reg false [1, 5, 7, 8] [] [⟨some 24, none, [], .mov (.t 0)⟩,
    ⟨some 25, none, [], .call (.c (.fn 12 [])) [(.t 24)] []⟩,
    ⟨some 8, none, [], .mov (.t 25)⟩])
  (.seq (.reg false [5, 7, 8, 9] [] [⟨some 26, none, [], .mov (.t 1)⟩,
    ⟨some 27, none, [], .call (.c (.fn 12 [])) [(.t 26)] []⟩,
    ⟨some 9, none, [], .mov (.t 27)⟩])
  (.seq (.reg false [5, 7, 8, 9, 10] [] [⟨some 28, none, [], .mov (.t 8)⟩,
    ⟨some 29, none, [], .len false (.t 28)⟩,
    ⟨some 30, none, [], .mov (.t 9)⟩,
    ⟨some 31, none, [], .len false (.t 30)⟩,
    ⟨some 32, none, [], .minmax false [(.t 29), (.t 31)]⟩,
    ⟨some 10, none, [], .mov (.t 32)⟩])
  (.seq (.reg false [5, 7, 8, 9, 10, 11] [] [⟨some 33, none, [], .ixA 4 1 (.t 5) (.c (.int .i64 0))⟩,
    ⟨some 34, none, [], .load .one (.t 33)⟩,
    ⟨some 35, none, [], .call (.c (.fn 13 [])) [(.t 34), (.c (.int .i64 30000))] []⟩,
    ⟨some 36, none, [], .bin .add (.c (.int .i64 1)) (.t 35)⟩,
    ⟨some 11, none, [], .mov (.t 36)⟩])
  (.seq (.reg false [5, 7, 8, 9, 10, 11, 12] [] [⟨some 37, none, [], .ixA 4 1 (.t 5) (.c (.int .i64 1))⟩,
    ⟨some 38, none, [], .load .one (.t 37)⟩,
    ⟨some 39, none, [], .call (.c (.fn 13 [])) [(.t 38), (.c (.int .i64 1025))] []⟩,
    ⟨some 12, none, [], .mov (.t 39)⟩])
  (.seq (.reg false [5, 7, 8, 9, 10, 11, 12, 13] [] [⟨some 40, none, [], .ixA 4 1 (.t 5) (.c (.int .i64 2))⟩,
    ⟨some 41, none, [], .load .one (.t 40)⟩,
    ⟨some 42, none, [], .call (.c (.fn 13 [])) [(.t 41), (.c (.int .i64 20))] []⟩,
    ⟨some 43, none, [], .bin .add (.c (.int .i64 1)) (.t 42)⟩,
    ⟨some 13, none, [], .mov (.t 43)⟩])
  (.seq (.reg false [7, 8, 9, 10, 11, 12, 13, 14] [] [⟨some 44, none, [], .ixA 4 1 (.t 5) (.c (.int .i64 3))⟩,
    ⟨some 45, none, [], .load .one (.t 44)⟩,
    ⟨some 46, none, [], .call (.c (.fn 13 [])) [(.t 45), (.c (.int .i64 20))] []⟩,
    ⟨some 47, none, [], .bin .add (.c (.int .i64 1)) (.t 46)⟩,
    ⟨some 14, none, [], .mov (.t 47)⟩])
  (.seq (.reg true [7, 8, 9, 10, 11, 13, 14, 15, 16] [] [⟨some 49, none, [], .mov (.t 10)⟩,
    ⟨some 50, none, [.nobox 0], .mk 0 1 (.int .i64 0) 17592186044416 (.t 49) (.t 49)⟩,
    ⟨some 51, none, [], .mov (.t 9)⟩,
    ⟨some 52, none, [], .mov (.t 10)⟩,
    ⟨some 53, none, [], .slice (some 1) (.t 51) none (some (.t 52))⟩,
    ⟨some 54, none, [], .mov (.t 11)⟩,
    ⟨some 55, none, [], .mov (.t 12)⟩,
    ⟨some 56, none, [], .mov (.t 13)⟩,
    ⟨some 57, none, [], .mov (.t 14)⟩,
    ⟨some 58, none, [], .call (.c (.fn 29 [])) [(.t 50), (.t 53), (.t 54), (.t 55), (.t 56), (.t 57)] []⟩,
    ⟨some 48, none, [], .mov (.t 58)⟩,
    ⟨some 59, none, [], .ext (.t 48) 0⟩,
    ⟨some 60, none, [], .ext (.t 48) 1⟩,
    ⟨some 15, none, [], .mov (.t 59)⟩,
    ⟨some 16, none, [], .mov (.t 60)⟩])
  (.seq (.reg true [7, 8, 9, 10, 15, 16, 17, 18] [] [⟨some 62, none, [], .mov (.t 8)⟩,
    ⟨some 63, none, [], .mov (.t 10)⟩,
    ⟨some 64, none, [], .slice (some 1) (.t 62) none (some (.t 63))⟩,
    ⟨some 65, none, [], .mov (.t 9)⟩,
    ⟨some 66, none, [], .mov (.t 10)⟩,
    ⟨some 67, none, [], .slice (some 1) (.t 65) none (some (.t 66))⟩,
    ⟨some 68, none, [], .mov (.t 11)⟩,
    ⟨some 69, none, [], .mov (.t 13)⟩,
    ⟨some 70, none, [], .mov (.t 14)⟩,
    ⟨some 71, none, [], .call (.c (.fn 29 [])) [(.t 64), (.t 67), (.t 68), (.c (.int .i64 1024)), (.t 69), (.t 70)] []⟩,
    ⟨some 61, none, [], .mov (.t 71)⟩,
    ⟨some 72, none, [], .ext (.t 61) 0⟩,
    ⟨some 73, none, [], .ext (.t 61) 1⟩,
    ⟨some 17, none, [], .mov (.t 72)⟩,
    ⟨some 18, none, [], .mov (.t 73)⟩])
  (.seq (.reg true [7, 9, 10, 15, 16, 17, 18, 19, 20] [] [⟨some 75, none, [], .mov (.t 8)⟩,
    ⟨some 76, none, [], .mov (.t 10)⟩,
    ⟨some 77, none, [], .slice (some 1) (.t 75) none (some (.t 76))⟩,
    ⟨some 78, none, [], .build [.int .i64 0, .nilSl, .nilSl] [(1, 1, (.t 77))]⟩,
    ⟨some 79, none, [], .mov (.t 9)⟩,
    ⟨some 80, none, [], .mov (.t 10)⟩,
    ⟨some 81, none, [], .slice (some 1) (.t 79) none (some (.t 80))⟩,
    ⟨some 82, none, [], .build [.int .i64 0, .nilSl, .nilSl] [(1, 1, (.t 81))]⟩,
    ⟨some 83, none, [], .bslice 3 (.agg [.int .i64 0, .nilSl, .nilSl]) 2 [(0, (.t 78)), (1, (.t 82))]⟩,
    ⟨some 84, none, [], .call (.c (.fn 20 [])) [(.t 83)] []⟩,
    ⟨some 74, none, [], .mov (.t 84)⟩,
    ⟨some 85, none, [], .ext (.t 74) 0⟩,
    ⟨some 86, none, [], .ext (.t 74) 1⟩,
    ⟨some 19, none, [], .mov (.t 85)⟩,
    ⟨some 20, none, [], .mov (.t 86)⟩])
  (.seq (.reg false [6] [] [⟨some 87, none, [], .mov (.t 7)⟩,
    ⟨some 88, none, [], .mov (.t 87)⟩,
    ⟨some 89, some (88, true), [], .mov (.t 16)⟩,
    ⟨some 90, some (88, true), [], .bin .eql (.t 89) (.c (.int .i64 0))⟩,
    ⟨some 91, none, [], .pick (.t 88) (.t 90) (.c (.bool false))⟩,
    ⟨some 92, none, [], .mov (.t 91)⟩,
    ⟨some 93, some (92, true), [], .mov (.t 18)⟩,
    ⟨some 94, some (92, true), [], .bin .eql (.t 93) (.c (.int .i64 0))⟩,
    ⟨some 95, none, [], .pick (.t 92) (.t 94) (.c (.bool false))⟩,
    ⟨some 96, none, [], .mov (.t 95)⟩,
    ⟨some 97, some (96, true), [], .mov (.t 20)⟩,
    ⟨some 98, some (96, true), [], .bin .eql (.t 97) (.c (.int .i64 0))⟩,
    ⟨some 99, none, [], .pick (.t 96) (.t 98) (.c (.bool false))⟩,
    ⟨some 100, none, [], .mov (.t 99)⟩,
    ⟨some 101, some (100, true), [], .mov (.t 15)⟩,
    ⟨some 102, some (100, true), [], .mov (.t 9)⟩,
    ⟨some 103, some (100, true), [], .mov (.t 10)⟩,
    ⟨some 104, some (100, true), [], .slice (some 1) (.t 102) none (some (.t 103))⟩,
    ⟨some 105, some (100, true), [], .call (.c (.fn 24 [])) [(.t 101), (.t 104)] []⟩,
    ⟨some 106, none, [], .pick (.t 100) (.t 105) (.c (.bool false))⟩,
    ⟨some 107, none, [], .mov (.t 106)⟩,
    ⟨some 108, some (107, true), [], .mov (.t 17)⟩,
    ⟨some 109, some (107, true), [], .mov (.t 19)⟩,
    ⟨some 110, some (107, true), [], .call (.c (.fn 24 [])) [(.t 108), (.t 109)] []⟩,
    ⟨some 111, none, [], .pick (.t 107) (.t 110) (.c (.bool false))⟩,
    ⟨some 6, none, [], .mov (.t 111)⟩])
  (.pre [6] .ret)))))))))))))))) }

/-- "aircheck/airchecklaw17.sane" -/
def x11 : XFn := { np := 0, isOpen := false, ns := 0, res := [.tmp 0], code :=
  (.seq (.reg false [] [] [⟨some 0, none, [], .mov (.c (.bool false))⟩])
  (.seq (.reg false [1, 2] [] [⟨some 22, none, [], .build [.int .i64 0, .int .i64 0] [(0, 1, (.c (.int .i64 10)))]⟩,
    ⟨some 23, none, [], .build [.int .i64 0, .int .i64 0] [(0, 1, (.c (.int .i64 14))), (1, 1, (.c (.int .i64 1024)))]⟩,
    ⟨some 24, none, [], .bslice 2 (.agg [.int .i64 0, .int .i64 0]) 2 [(0, (.t 22)), (1, (.t 23))]⟩,
    ⟨some 25, none, [], .call (.c (.fn 15 [])) [(.t 24), (.c (.int .i64 13))] []⟩,
    ⟨some 21, none, [], .mov (.t 25)⟩,
    ⟨some 26, none, [], .ext (.t 21) 0⟩,
    ⟨some 27, none, [], .ext (.t 21) 1⟩,
    ⟨some 1, none, [], .mov (.t 26)⟩,
    ⟨some 2, none, [], .mov (.t 27)⟩])
  (.seq (.reg false [1, 2, 3, 4] [] [⟨some 29, none, [], .build [.int .i64 0, .int .i64 0] [(1, 1, (.c (.int .i64 1024)))]⟩,
    ⟨some 30, none, [], .build [.int .i64 0, .int .i64 0] [(0, 1, (.c (.int .i64 3)))]⟩,
    ⟨some 31, none, [], .bslice 2 (.agg [.int .i64 0, .int .i64 0]) 2 [(0, (.t 29)), (1, (.t 30))]⟩,
    ⟨some 32, none, [], .call (.c (.fn 15 [])) [(.t 31), (.c (.int .i64 1))] []⟩,
    ⟨some 28, none, [], .mov (.t 32)⟩,
    ⟨some 33, none, [], .ext (.t 28) 0⟩,
    ⟨some 34, none, [], .ext (.t 28) 1⟩,
    ⟨some 3, none, [], .mov (.t 33)⟩,
    ⟨some 4, none, [], .mov (.t 34)⟩])
  (.seq (.reg false [1, 2, 3, 4, 5, 6] [] [⟨some 36, none, [], .bslice 1 (.int .i64 0) 3 [(0, (.c (.int .i64 100))), (1, (.c (.int .i64 200))), (2, (.c (.int .i64 300)))]⟩,
    ⟨some 37, none, [], .build [.int .i64 0, .nilSl, .nilSl] [(1, 1, (.t 36))]⟩,
    ⟨some 38, none, [], .bslice 1 (.int .i64 0) 2 [(0, (.c (.int .i64 50))), (1, (.c (.int .i64 50)))]⟩,
    ⟨some 39, none, [], .build [.int .i64 0, .int .i64 0] [(1, 1, (.c (.int .i64 512)))]⟩,
    ⟨some 40, none, [], .bslice 2 (.agg [.int .i64 0, .int .i64 0]) 1 [(0, (.t 39))]⟩,
    ⟨some 41, none, [], .build [.int .i64 0, .nilSl, .nilSl] [(0, 1, (.c (.int .i64 2))), (1, 1, (.t 38)), (2, 1, (.t 40))]⟩,
    ⟨some 42, none, [], .bslice 3 (.agg [.int .i64 0, .nilSl, .nilSl]) 2 [(0, (.t 37)), (1, (.t 41))]⟩,
    ⟨some 43, none, [], .call (.c (.fn 20 [])) [(.t 42)] []⟩,
    ⟨some 35, none, [], .mov (.t 43)⟩,
    ⟨some 44, none, [], .ext (.t 35) 0⟩,
    ⟨some 45, none, [], .ext (.t 35) 1⟩,
    ⟨some 5, none, [], .mov (.t 44)⟩,
    ⟨some 6, none, [], .mov (.t 45)⟩])
  (.seq (.reg false [1, 2, 3, 4, 5, 6, 7, 8] [] [⟨some 47, none, [], .bslice 1 (.int .i64 0) 3 [(0, (.c (.int .i64 100))), (1, (.c (.int .i64 100))), (2, (.c (.int .i64 100)))]⟩,
    ⟨some 48, none, [], .bslice 1 (.int .i64 0) 3 [(0, (.c (.int .i64 0))), (1, (.c (.int .i64 0))), (2, (.c (.int .i64 0)))]⟩,
    ⟨some 49, none, [], .call (.c (.fn 25 [])) [(.t 47), (.t 48), (.c (.int .i64 2))] []⟩,
    ⟨some 46, none, [], .mov (.t 49)⟩,
    ⟨some 50, none, [], .ext (.t 46) 0⟩,
    ⟨some 51, none, [], .ext (.t 46) 1⟩,
    ⟨some 7, none, [], .mov (.t 50)⟩,
    ⟨some 8, none, [], .mov (.t 51)⟩])
  (.seq (.reg false [1, 2, 3, 4, 5, 6, 7, 8, 9] [] [⟨some 52, none, [], .bslice 1 (.int .i64 0) 7 [(0, (.c (.int .i64 0))), (1, (.c (.int .i64 0))), (2, (.c (.int .i64 0))), (3, (.c (.int .i64 900))), (4, (.c (.int .i64 0))), (5, (.c (.int .i64 0))), (6, (.c (.int .i64 0)))]⟩,
    ⟨some 9, none, [], .mov (.t 52)⟩])
  (.seq (.reg false [1, 2, 3, 4, 5, 6, 7, 8, 9, 10, 11] [] [⟨some 54, none, [], .mov (.t 9)⟩,
    ⟨some 55, none, [], .call (.c (.fn 27 [])) [(.t 54), (.c (.int .i64 500)), (.c (.int .i64 0)), (.c (.int .i64 2)), (.c (.int .i64 4))] []⟩,
    ⟨some 53, none, [], .mov (.t 55)⟩,
    ⟨some 56, none, [], .ext (.t 53) 0⟩,
    ⟨some 57, none, [], .ext (.t 53) 1⟩,
    ⟨some 10, none, [], .mov (.t 56)⟩,
    ⟨some 11, none, [], .mov (.t 57)⟩])
  (.seq (.reg false [1, 2, 3, 4, 5, 6, 7, 8, 9, 10, 11, 12, 13] [] [⟨some 59, none, [], .mov (.t 9)⟩,
    ⟨some 60, none, [], .bslice 1 (.int .i64 0) 7 [(0, (.c (.int .i64 100))), (1, (.c (.int .i64 100))), (2, (.c (.int .i64 100))), (3, (.c (.int .i64 100))), (4, (.c (.int .i64 100))), (5, (.c (.int .i64 100))), (6, (.c (.int .i64 100)))]⟩,
    ⟨some 61, none, [], .call (.c (.fn 29 [])) [(.t 59), (.t 60), (.c (.int .i64 500)), (.c (.int .i64 0)), (.c (.int .i64 2)), (.c (.int .i64 4))] []⟩,
    ⟨some 58, none, [], .mov (.t 61)⟩,
    ⟨some 62, none, [], .ext (.t 58) 0⟩,
    ⟨some 63, none, [], .ext (.t 58) 1⟩,
    ⟨some 12, none, [], .mov (.t 62)⟩,
    ⟨some 13, none, [], .mov (.t 63)⟩])
  (.seq (.reg false [1, 2, 3, 4, 5, 6, 7, 8, 9, 10, 11, 12, 13, 14, 15] [] [⟨some 65, none, [], .bslice 1 (.int .i64 0) 1 [(0, (.c (.int .i64 (-2))))]⟩,
    ⟨some 66, none, [], .build [.int .i64 0, .int .i64 0] [(1, 1, (.c (.int .i64 3)))]⟩,
    ⟨some 67, none, [], .bslice 2 (.agg [.int .i64 0, .int .i64 0]) 1 [(0, (.t 66))]⟩,
    ⟨some 68, none, [], .build [.int .i64 0, .nilSl, .nilSl] [(1, 1, (.t 65)), (2, 1, (.t 67))]⟩,
    ⟨some 69, none, [], .bslice 3 (.agg [.int .i64 0, .nilSl, .nilSl]) 1 [(0, (.t 68))]⟩,
    ⟨some 70, none, [], .call (.c (.fn 18 [])) [(.t 69)] []⟩,
    ⟨some 64, none, [], .mov (.t 70)⟩,
    ⟨some 71, none, [], .ext (.t 64) 0⟩,
    ⟨some 72, none, [], .ext (.t 64) 1⟩,
    ⟨some 14, none, [], .mov (.t 71)⟩,
    ⟨some 15, none, [], .mov (.t 72)⟩])
  (.seq (.reg false [1, 2, 3, 4, 5, 6, 7, 8, 9, 10, 11, 12, 13, 14, 15, 17] [] [⟨some 74, none, [], .build [.int .i64 0, .nilSl, .nilSl] [(0, 1, (.c (.int .i64 (-1))))]⟩,
    ⟨some 75, none, [], .bslice 3 (.agg [.int .i64 0, .nilSl, .nilSl]) 1 [(0, (.t 74))]⟩,
    ⟨some 76, none, [], .call (.c (.fn 18 [])) [(.t 75)] []⟩,
    ⟨some 73, none, [], .mov (.t 76)⟩,
    ⟨some 77, none, [], .ext (.t 73) 0⟩,
    ⟨some 78, none, [], .ext (.t 73) 1⟩,
    ⟨some 16, none, [], .mov (.t 77)⟩,
    ⟨some 17, none, [], .mov (.t 78)⟩])
  (.seq (.reg false [1, 2, 3, 4, 5, 6, 7, 8, 10, 11, 12, 13, 14, 15, 17, 19] [] [⟨some 80, none, [], .mov (.t 9)⟩,
    ⟨some 81, none, [], .call (.c (.fn 27 [])) [(.t 80), (.c (.int .i64 0)), (.c (.int .i64 0)), (.c (.int .i64 2)), (.c (.int .i64 4))] []⟩,
    ⟨some 79, none, [], .mov (.t 81)⟩,
    ⟨some 82, none, [], .ext (.t 79) 0⟩,
    ⟨some 83, none, [], .ext (.t 79) 1⟩,
    ⟨some 18, none, [], .mov (.t 82)⟩,
    ⟨some 19, none, [], .mov (.t 83)⟩])
  (.seq (.seq (.reg false [1, 3, 5, 7, 10, 12, 14, 117] [] [⟨some 84, none, [], .mov (.t 2)⟩,
    ⟨some 85, none, [], .bin .neq (.t 84) (.c (.int .i64 0))⟩,
    ⟨some 86, none, [], .mov (.t 85)⟩,
    ⟨some 87, some (86, false), [], .mov (.t 4)⟩,
    ⟨some 88, some (86, false), [], .bin .neq (.t 87) (.c (.int .i64 0))⟩,
    ⟨some 89, none, [], .pick (.t 86) (.c (.bool true)) (.t 88)⟩,
    ⟨some 90, none, [], .mov (.t 89)⟩,
    ⟨some 91, some (90, false), [], .mov (.t 6)⟩,
    ⟨some 92, some (90, false), [], .bin .neq (.t 91) (.c (.int .i64 0))⟩,
    ⟨some 93, none, [], .pick (.t 90) (.c (.bool true)) (.t 92)⟩,
    ⟨some 94, none, [], .mov (.t 93)⟩,
    ⟨some 95, some (94, false), [], .mov (.t 8)⟩,
    ⟨some 96, some (94, false), [], .bin .neq (.t 95) (.c (.int .i64 0))⟩,
    ⟨some 97, none, [], .pick (.t 94) (.c (.bool true)) (.t 96)⟩,
    ⟨some 98, none, [], .mov (.t 97)⟩,
    ⟨some 99, some (98, false), [], .mov (.t 11)⟩,
    ⟨some 100, some (98, false), [], .bin .neq (.t 99) (.c (.int .i64 0))⟩,
    ⟨some 101, none, [], .pick (.t 98) (.c (.bool true)) (.t 100)⟩,
    ⟨some 102, none, [], .mov (.t 101)⟩,
    ⟨some 103, some (102, false), [], .mov (.t 13)⟩,
    ⟨some 104, some (102, false), [], .bin .neq (.t 103) (.c (.int .i64 0))⟩,
    ⟨some 105, none, [], .pick (.t 102) (.c (.bool true)) (.t 104)⟩,
    ⟨some 106, none, [], .mov (.t 105)⟩,
    ⟨some 107, some (106, false), [], .mov (.t 15)⟩,
    ⟨some 108, some (106, false), [], .bin .neq (.t 107) (.c (.int .i64 0))⟩,
    ⟨some 109, none, [], .pick (.t 106) (.c (.bool true)) (.t 108)⟩,
    ⟨some 110, none, [], .mov (.t 109)⟩,
    ⟨some 111, some (110, false), [], .mov (.t 17)⟩,
    ⟨some 112, some (110, false), [], .bin .neq (.t 111) (.c (.int .i64 170))⟩,
    ⟨some 113, none, [], .pick (.t 110) (.c (.bool true)) (.t 112)⟩,
    ⟨some 114, none, [], .mov (.t 113)⟩,
    ⟨some 115, some (114, false), [], .mov (.t 19)⟩,
    ⟨some 116, some (114, false), [], .bin .neq (.t 115) (.c (.int .i64 170))⟩,
    ⟨some 117, none, [], .pick (.t 114) (.c (.bool true)) (.t 116)⟩])
  (.cond (.t 117)
    (.seq (.reg false [0] [] [⟨some 0, none, [], .mov (.c (.bool false))⟩])
    (.pre [0] .ret))
    .skip))
  (.pre [1, 3, 5, 7, 10, 12, 14] (.seq (.reg false [1, 3, 10, 12, 20] [] [⟨some 118, none, [], .mov (.t 5)⟩,
    ⟨some 119, none, [], .bslice 1 (.int .i64 0) 4 [(0, (.c (.int .i64 100))), (1, (.c (.int .i64 200))), (2, (.c (.int .i64 325))), (3, (.c (.int .i64 25)))]⟩,
    ⟨some 120, none, [], .call (.c (.fn 24 [])) [(.t 118), (.t 119)] []⟩,
    ⟨some 121, none, [], .mov (.t 120)⟩,
    ⟨some 122, some (121, true), [], .mov (.t 7)⟩,
    ⟨some 123, some (121, true), [], .bslice 1 (.int .i64 0) 4 [(0, (.c (.int .i64 100))), (1, (.c (.int .i64 75))), (2, (.c (.int .i64 25))), (3, (.c (.int .i64 0)))]⟩,
    ⟨some 124, some (121, true), [], .call (.c (.fn 24 [])) [(.t 122), (.t 123)] []⟩,
    ⟨some 125, none, [], .pick (.t 121) (.t 124) (.c (.bool false))⟩,
    ⟨some 126, none, [], .mov (.t 125)⟩,
    ⟨some 127, some (126, true), [], .mov (.t 14)⟩,
    ⟨some 128, some (126, true), [], .bslice 1 (.int .i64 0) 1 [(0, (.c (.int .i64 (-6))))]⟩,
    ⟨some 129, some (126, true), [], .call (.c (.fn 24 [])) [(.t 127), (.t 128)] []⟩,
    ⟨some 130, none, [], .pick (.t 126) (.t 129) (.c (.bool false))⟩,
    ⟨some 20, none, [], .mov (.t 130)⟩])
  (.seq (.reg false [0] [] [⟨some 131, none, [], .mov (.t 20)⟩,
    ⟨some 132, none, [], .mov (.t 131)⟩,
    ⟨some 133, some (132, true), [], .mov (.t 1)⟩,
    ⟨some 134, some (132, true), [], .bin .eql (.t 133) (.c (.int .i64 768))⟩,
    ⟨some 135, none, [], .pick (.t 132) (.t 134) (.c (.bool false))⟩,
    ⟨some 136, none, [], .mov (.t 135)⟩,
    ⟨some 137, some (136, true), [], .mov (.t 3)⟩,
    ⟨some 138, some (136, true), [], .bin .eql (.t 137) (.c (.int .i64 682))⟩,
    ⟨some 139, none, [], .pick (.t 136) (.t 138) (.c (.bool false))⟩,
    ⟨some 140, none, [], .mov (.t 139)⟩,
    ⟨some 141, some (140, true), [], .mov (.t 10)⟩,
    ⟨some 142, some (140, true), [], .bslice 1 (.int .i64 0) 7 [(0, (.c (.int .i64 1024))), (1, (.c (.int .i64 1024))), (2, (.c (.int .i64 512))), (3, (.c (.int .i64 0))), (4, (.c (.int .i64 256))), (5, (.c (.int .i64 512))), (6, (.c (.int .i64 768)))]⟩,
    ⟨some 143, some (140, true), [], .call (.c (.fn 24 [])) [(.t 141), (.t 142)] []⟩,
    ⟨some 144, none, [], .pick (.t 140) (.t 143) (.c (.bool false))⟩,
    ⟨some 145, none, [], .mov (.t 144)⟩,
    ⟨some 146, some (145, true), [], .mov (.t 12)⟩,
    ⟨some 147, some (145, true), [], .bslice 1 (.int .i64 0) 7 [(0, (.c (.int .i64 100))), (1, (.c (.int .i64 100))), (2, (.c (.int .i64 50))), (3, (.c (.int .i64 900))), (4, (.c (.int .i64 25))), (5, (.c (.int .i64 50))), (6, (.c (.int .i64 75)))]⟩,
    ⟨some 148, some (145, true), [], .call (.c (.fn 24 [])) [(.t 146), (.t 147)] []⟩,
    ⟨some 149, none, [], .pick (.t 145) (.t 148) (.c (.bool false))⟩,
    ⟨some 150, none, [], .mov (.t 149)⟩,
    ⟨some 151, some (150, true), [], .call (.c (.fn 22 [])) [(.c .nilSl)] []⟩,
    ⟨some 152, none, [], .pick (.t 150) (.t 151) (.c (.bool false))⟩,
    ⟨some 153, none, [], .mov (.t 152)⟩,
    ⟨some 154, some (153, true), [], .build [.int .i64 0, .nilSl, .nilSl] [(0, 1, (.c (.int .i64 (-1))))]⟩,
    ⟨some 155, some (153, true), [], .bslice 3 (.agg [.int .i64 0, .nilSl, .nilSl]) 1 [(0, (.t 154))]⟩,
    ⟨some 156, some (153, true), [], .call (.c (.fn 22 [])) [(.t 155)] []⟩,
    ⟨some 157, some (153, true), [], .un .not (.t 156)⟩,
    ⟨some 158, none, [], .pick (.t 153) (.t 157) (.c (.bool false))⟩,
    ⟨some 0, none, [], .mov (.t 158)⟩])
  (.pre [0] .ret)))))))))))))))) }

@[go_sem] def c12_0 : XC := (.pre [0, 3, 4]
  (.seq (.seq (.reg false [0, 3, 4, 12] [] [⟨some 5, none, [], .mov (.t 4)⟩,
    ⟨some 6, none, [], .mov (.t 0)⟩,
    ⟨some 7, none, [], .len false (.t 6)⟩,
    ⟨some 8, none, [], .bin .lss (.t 5) (.t 7)⟩,
    ⟨some 9, none, [], .mov (.t 8)⟩,
    ⟨some 10, some (9, true), [], .mov (.t 4)⟩,
    ⟨some 11, some (9, true), [], .bin .lss (.t 10) (.c (.int .i64 40))⟩,
    ⟨some 12, none, [], .pick (.t 9) (.t 11) (.c (.bool false))⟩])
  (.cond (.t 12)
    .skip
    (.pre [3] (.exit 0))))
  (.pre [0, 3, 4] (.seq (.blk 1
    (.reg false [0, 3, 4] [] [⟨some 15, none, [], .mov (.t 3)⟩,
      ⟨some 16, none, [], .mov (.t 0)⟩,
      ⟨some 17, none, [], .mov (.t 4)⟩,
      ⟨some 18, none, [], .ixS 1 (.t 16) (.t 17)⟩,
      ⟨some 19, none, [], .load .one (.t 18)⟩,
      ⟨some 20, none, [], .call (.c (.fn 33 [])) [(.t 19), (.c (.int .i64 65536))] []⟩,
      ⟨some 21, none, [], .bin .sub (.t 20) (.c (.int .i64 32767))⟩,
      ⟨some 22, none, [], .bin .sub (.t 21) (.c (.int .i64 1))⟩,
      ⟨some 23, none, [], .bslice 1 (.int .i64 0) 1 [(0, (.t 22))]⟩,
      ⟨some 24, none, [], .app 0 1 17592186044416 (.t 15) (.t 23)⟩,
      ⟨some 3, none, [], .mov (.t 24)⟩]))
  (.pre [0, 3, 4] (.reg false [0, 3, 4] [] [⟨some 13, none, [], .mov (.t 4)⟩,
    ⟨some 14, none, [], .bin .add (.t 13) (.c (.int .i64 1))⟩,
    ⟨some 4, none, [], .mov (.t 14)⟩]))))))
def b12_0 : XC := c12_0
@[go_sem] theorem e12_0 (L : Lib) (cx : Cx) (env : Env) (h : Heap) : runC L cx b12_0 (env, h) = runC L cx c12_0 (env, h) := rfl

/-- "aircheck/aircheckref17.Made" -/
def x12 : XFn := { np := 1, isOpen := false, ns := 1, res := [.tmp 2], code :=
  (.seq (.reg false [0] [] [⟨some 2, none, [], .mov (.c .nilSl)⟩])
  (.seq (.reg false [0, 3] [] [⟨some 3, none, [], .mov (.c .nilSl)⟩])
  (.seq (.seq (.reg false [0, 3, 4] [] [⟨some 4, none, [], .mov (.c (.int .i64 0))⟩])
  (.blk 0
    (.loop b12_0)))
  (.pre [3] (.seq (.reg false [2] [] [⟨some 25, none, [], .mov (.t 3)⟩,
    ⟨some 2, none, [], .mov (.t 25)⟩])
  (.pre [2] .ret)))))) }

/-- "aircheck/airchecklaw17.pick" -/
def x13 : XFn := { np := 2, isOpen := false, ns := 0, res := [.tmp 4], code :=
  (.seq (.reg false [0, 1] [] [⟨some 4, none, [], .mov (.c (.int .i64 0))⟩])
  (.seq (.seq (.reg false [0, 1, 6] [] [⟨some 5, none, [], .mov (.t 0)⟩,
    ⟨some 6, none, [], .bin .lss (.t 5) (.c (.int .i64 0))⟩])
  (.cond (.t 6)
    (.reg false [0, 1] [] [⟨some 7, none, [], .mov (.t 0)⟩,
      ⟨some 8, none, [], .bin .add (.t 7) (.c (.int .i64 1))⟩,
      ⟨some 9, none, [], .un .neg (.t 8)⟩,
      ⟨some 0, none, [], .mov (.t 9)⟩])
    .skip))
  (.pre [0, 1] (.seq (.reg false [4] [] [⟨some 10, none, [], .mov (.t 0)⟩,
    ⟨some 11, none, [], .mov (.t 1)⟩,
    ⟨some 12, none, [], .bin .rem (.t 10) (.t 11)⟩,
    ⟨some 4, none, [], .mov (.t 12)⟩])
  (.pre [4] .ret))))) }

@[go_sem] def c14_0 : XC := (.pre [0, 3, 4, 5]
  (.seq (.seq (.reg false [0, 3, 4, 5, 13] [] [⟨some 6, none, [], .mov (.t 5)⟩,
    ⟨some 7, none, [], .mov (.t 0)⟩,
    ⟨some 8, none, [], .len false (.t 7)⟩,
    ⟨some 9, none, [], .bin .lss (.t 6) (.t 8)⟩,
    ⟨some 10, none, [], .mov (.t 9)⟩,
    ⟨some 11, some (10, true), [], .mov (.t 5)⟩,
    ⟨some 12, some (10, true), [], .bin .lss (.t 11) (.c (.int .i64 6))⟩,
    ⟨some 13, none, [], .pick (.t 10) (.t 12) (.c (.bool false))⟩])
  (.cond (.t 13)
    .skip
    (.pre [3] (.exit 0))))
  (.pre [0, 3, 4, 5] (.seq (.blk 1
    (.seq (.reg false [0, 3, 4, 5] [] [⟨some 16, none, [], .mov (.t 4)⟩,
      ⟨some 17, none, [], .bin .add (.t 16) (.c (.int .i64 1))⟩,
      ⟨some 18, none, [], .mov (.t 0)⟩,
      ⟨some 19, none, [], .mov (.t 5)⟩,
      ⟨some 20, none, [], .ixS 2 (.t 18) (.t 19)⟩,
      ⟨some 21, none, [], .ixA 2 1 (.t 20) (.c (.int .i64 0))⟩,
      ⟨some 22, none, [], .load .one (.t 21)⟩,
      ⟨some 23, none, [], .call (.c (.fn 33 [])) [(.t 22), (.c (.int .i64 12))] []⟩,
      ⟨some 24, none, [], .bin .add (.t 17) (.t 23)⟩,
      ⟨some 4, none, [], .mov (.t 24)⟩])
    (.reg false [0, 3, 4, 5] [] [⟨some 25, none, [], .mov (.t 3)⟩,
      ⟨some 26, none, [], .mov (.t 4)⟩,
      ⟨some 27, none, [], .mov (.t 0)⟩,
      ⟨some 28, none, [], .mov (.t 5)⟩,
      ⟨some 29, none, [], .ixS 2 (.t 27) (.t 28)⟩,
      ⟨some 30, none, [], .ixA 2 1 (.t 29) (.c (.int .i64 1))⟩,
      ⟨some 31, none, [], .load .one (.t 30)⟩,
      ⟨some 32, none, [], .call (.c (.fn 33 [])) [(.t 31), (.c (.int .i64 4097))] []⟩,
      ⟨some 33, none, [], .build [.int .i64 0, .int .i64 0] [(0, 1, (.t 26)), (1, 1, (.t 32))]⟩,
      ⟨some 34, none, [], .bslice 2 (.agg [.int .i64 0, .int .i64 0]) 1 [(0, (.t 33))]⟩,
      ⟨some 35, none, [], .app 0 2 8796093022208 (.t 25) (.t 34)⟩,
      ⟨some 3, none, [], .mov (.t 35)⟩])))
  (.pre [0, 3, 4, 5] (.reg false [0, 3, 4, 5] [] [⟨some 14, none, [], .mov (.t 5)⟩,
    ⟨some 15, none, [], .bin .add (.t 14) (.c (.int .i64 1))⟩,
    ⟨some 5, none, [], .mov (.t 15)⟩]))))))
def b14_0 : XC := c14_0
@[go_sem] theorem e14_0 (L : Lib) (cx : Cx) (env : Env) (h : Heap) : runC L cx b14_0 (env, h) = runC L cx c14_0 (env, h) := rfl

/-- "aircheck/aircheckref17.Curved" -/
def x14 : XFn := { np := 1, isOpen := false, ns := 1, res := [.tmp 2], code :=
  (.seq (.reg false [0] [] [⟨some 2, none, [], .mov (.c .nilSl)⟩])
  (.seq (.reg false [0, 3] [] [⟨some 3, none, [], .mov (.c .nilSl)⟩])
  (.seq (.reg false [0, 3, 4] [] [⟨some 4, none, [], .mov (.c (.int .i64 (-1)))⟩])
  (.seq (.seq (.reg false [0, 3, 4, 5] [] [⟨some 5, none, [], .mov (.c (.int .i64 0))⟩])
  (.blk 0
    (.loop b14_0)))
  (.pre [3] (.seq (.reg false [2] [] [⟨some 36, none, [], .mov (.t 3)⟩,
    ⟨some 2, none, [], .mov (.t 36)⟩])
  (.pre [2] .ret))))))) }

/-- "aircheck/mix.Gain" -/
def x15 : XFn := { np := 2, isOpen := false, ns := 0, res := [.tmp 4, .tmp 5], code :=
  (.seq (.reg false [0, 1] [] [⟨some 4, none, [], .mov (.c (.int .i64 0))⟩,
    ⟨some 5, none, [], .mov (.c (.int .i64 0))⟩])
  (.seq (.seq (.reg false [0, 1, 13] [] [⟨some 6, none, [], .mov (.t 0)⟩,
    ⟨some 7, none, [], .call (.c (.fn 34 [])) [(.t 6)] []⟩,
    ⟨some 8, none, [], .un .not (.t 7)⟩,
    ⟨some 9, none, [], .mov (.t 8)⟩,
    ⟨some 10, some (9, false), [], .mov (.t 1)⟩,
    ⟨some 11, some (9, false), [], .call (.c (.fn 35 [])) [(.t 10), (.c (.int .i64 0)), (.c (.int .i64 599))] []⟩,
    ⟨some 12, some (9, false), [], .un .not (.t 11)⟩,
    ⟨some 13, none, [], .pick (.t 9) (.c (.bool true)) (.t 12)⟩])
  (.cond (.t 13)
    (.seq (.reg false [4, 5] [] [⟨some 4, none, [], .mov (.c (.int .i64 0))⟩,
      ⟨some 5, none, [], .mov (.c (.int .i64 170))⟩])
    (.pre [4, 5] .ret))
    .skip))
  (.pre [0, 1] (.seq (.reg false [4, 5] [] [⟨some 14, none, [], .mov (.t 0)⟩,
    ⟨some 15, none, [], .mov (.t 1)⟩,
    ⟨some 16, none, [], .call (.c (.fn 36 [])) [(.t 14), (.t 15)] []⟩,
    ⟨some 4, none, [], .mov (.t 16)⟩,
    ⟨some 5, none, [], .mov (.c (.int .i64 0))⟩])
  (.pre [4, 5] .ret))))) }

/-- "aircheck/aircheckref17.Gain" -/
def x16 : XFn := { np := 2, isOpen := false, ns := 0, res := [.tmp 4, .tmp 5], code :=
  (.seq (.reg false [0, 1] [] [⟨some 4, none, [], .mov (.c (.int .i64 0))⟩,
    ⟨some 5, none, [], .mov (.c (.int .i64 0))⟩])
  (.seq (.seq (.reg false [0, 1, 13] [] [⟨some 6, none, [], .mov (.t 0)⟩,
    ⟨some 7, none, [], .call (.c (.fn 37 [])) [(.t 6)] []⟩,
    ⟨some 8, none, [], .un .not (.t 7)⟩,
    ⟨some 9, none, [], .mov (.t 8)⟩,
    ⟨some 10, some (9, false), [], .mov (.t 1)⟩,
    ⟨some 11, some (9, false), [], .call (.c (.fn 38 [])) [(.t 10), (.c (.int .i64 0)), (.c (.int .i64 599))] []⟩,
    ⟨some 12, some (9, false), [], .un .not (.t 11)⟩,
    ⟨some 13, none, [], .pick (.t 9) (.c (.bool true)) (.t 12)⟩])
  (.cond (.t 13)
    (.seq (.reg false [4, 5] [] [⟨some 4, none, [], .mov (.c (.int .i64 0))⟩,
      ⟨some 5, none, [], .mov (.c (.int .i64 170))⟩])
    (.pre [4, 5] .ret))
    .skip))
  (.pre [0, 1] (.seq (.reg false [4, 5] [] [⟨some 14, none, [], .mov (.t 0)⟩,
    ⟨some 15, none, [], .mov (.t 1)⟩,
    ⟨some 16, none, [], .call (.c (.fn 39 [])) [(.t 14), (.t 15)] []⟩,
    ⟨some 4, none, [], .mov (.t 16)⟩,
    ⟨some 5, none, [], .mov (.c (.int .i64 0))⟩])
  (.pre [4, 5] .ret))))) }

@[go_sem] def c17_0 : XC := (.pre [0, 1, 2, 7, 8]
  (.seq (.seq (.reg false [0, 1, 2, 7, 8, 18] [] [⟨some 11, none, [], .mov (.t 8)⟩,
    ⟨some 12, none, [], .mov (.t 2)⟩,
    ⟨some 13, none, [], .len false (.t 12)⟩,
    ⟨some 14, none, [], .bin .lss (.t 11) (.t 13)⟩,
    ⟨some 15, none, [], .mov (.t 14)⟩,
    ⟨some 16, some (15, true), [], .mov (.t 8)⟩,
    ⟨some 17, some (15, true), [], .bin .lss (.t 16) (.c (.int .i64 4))⟩,
    ⟨some 18, none, [], .pick (.t 15) (.t 17) (.c (.bool false))⟩])
  (.cond (.t 18)
    .skip
    (.pre [7] (.exit 0))))
  (.pre [0, 1, 2, 7, 8] (.seq (.blk 1
    (.seq (.reg true [0, 1, 2, 7, 8, 9] [2] [⟨some 21, none, [], .mov (.t 2)⟩,
      ⟨some 22, none, [], .mov (.t 8)⟩,
      ⟨some 23, none, [], .ixS 2 (.t 21) (.t 22)⟩,
      ⟨some 24, none, [], .ixA 2 1 (.t 23) (.c (.int .i64 0))⟩,
      ⟨some 25, none, [.elem 24], .load .one (.t 24)⟩,
      ⟨some 26, none, [], .call (.c (.fn 33 [])) [(.t 25), (.c (.int .i64 60))] []⟩,
      ⟨some 27, none, [], .mov (.t 1)⟩,
      ⟨some 28, none, [], .mov (.t 8)⟩,
      ⟨some 29, none, [], .bin .mul (.c (.int .i64 3)) (.t 28)⟩,
      ⟨some 30, none, [], .mov (.t 1)⟩,
      ⟨some 31, none, [], .len false (.t 30)⟩,
      ⟨some 32, none, [], .minmax false [(.t 29), (.t 31)]⟩,
      ⟨some 33, none, [], .mov (.t 8)⟩,
      ⟨some 34, none, [], .bin .mul (.c (.int .i64 3)) (.t 33)⟩,
      ⟨some 35, none, [], .bin .add (.t 34) (.c (.int .i64 3))⟩,
      ⟨some 36, none, [], .mov (.t 1)⟩,
      ⟨some 37, none, [], .len false (.t 36)⟩,
      ⟨some 38, none, [], .minmax false [(.t 35), (.t 37)]⟩,
      ⟨some 39, none, [], .slice (some 2) (.t 27) (some (.t 32)) (some (.t 38))⟩,
      ⟨some 40, none, [], .call (.c (.fn 14 [])) [(.t 39)] []⟩,
      ⟨some 41, none, [], .build [.int .i64 0, .nilSl, .nilSl] [(0, 1, (.t 26)), (2, 1, (.t 40))]⟩,
      ⟨some 9, none, [.dead 2], .alloc 2 [.int .i64 0, .nilSl, .nilSl]⟩,
      ⟨none, none, [.box 9], .store 3 (.t 9) (.t 41)⟩])
    (.seq (.reg false [0, 1, 2, 7, 8, 9, 10] [] [⟨some 42, none, [], .mov (.t 2)⟩,
      ⟨some 43, none, [], .mov (.t 8)⟩,
      ⟨some 44, none, [], .ixS 2 (.t 42) (.t 43)⟩,
      ⟨some 45, none, [], .ixA 2 1 (.t 44) (.c (.int .i64 1))⟩,
      ⟨some 46, none, [], .load .one (.t 45)⟩,
      ⟨some 47, none, [], .mov (.t 0)⟩,
      ⟨some 48, none, [], .len false (.t 47)⟩,
      ⟨some 49, none, [], .bin .add (.t 48) (.c (.int .i64 1))⟩,
      ⟨some 50, none, [], .call (.c (.fn 33 [])) [(.t 46), (.t 49)] []⟩,
      ⟨some 10, none, [], .mov (.t 50)⟩])
    (.seq (.reg true [0, 1, 2, 7, 8, 9] [] [⟨some 51, none, [], .padd (.t 9) 1⟩,
      ⟨some 52, none, [.box 51], .load .one (.t 51)⟩,
      ⟨some 53, none, [], .mov (.t 0)⟩,
      ⟨some 54, none, [], .mov (.t 10)⟩,
      ⟨some 55, none, [], .slice (some 1) (.t 53) (some (.t 54)) none⟩,
      ⟨some 56, none, [.nobox 1], .app 1 1 17592186044416 (.t 52) (.t 55)⟩,
      ⟨some 57, none, [], .padd (.t 9) 1⟩,
      ⟨none, none, [.box 57], .store 1 (.t 57) (.t 56)⟩])
    (.reg false [0, 1, 2, 7, 8] [] [⟨some 58, none, [], .mov (.t 7)⟩,
      ⟨some 59, none, [], .load (.agg 3) (.t 9)⟩,
      ⟨some 60, none, [], .bslice 3 (.agg [.int .i64 0, .nilSl, .nilSl]) 1 [(0, (.t 59))]⟩,
      ⟨some 61, none, [], .app 0 3 2513169434916 (.t 58) (.t 60)⟩,
      ⟨some 7, none, [], .mov (.t 61)⟩])))))
  (.pre [0, 1, 2, 7, 8] (.reg false [0, 1, 2, 7, 8] [] [⟨some 19, none, [], .mov (.t 8)⟩,
    ⟨some 20, none, [], .bin .add (.t 19) (.c (.int .i64 1))⟩,
    ⟨some 8, none, [], .mov (.t 20)⟩]))))))
def b17_0 : XC := c17_0
@[go_sem] theorem e17_0 (L : Lib) (cx : Cx) (env : Env) (h : Heap) : runC L cx b17_0 (env, h) = runC L cx c17_0 (env, h) := rfl

/-- "aircheck/aircheckref17.Tracks" -/
def x17 : XFn := { np := 3, isOpen := false, ns := 3, res := [.tmp 6], code :=
  (.seq (.reg false [0, 1, 2] [] [⟨some 6, none, [], .mov (.c .nilSl)⟩])
  (.seq (.reg false [0, 1, 2, 7] [] [⟨some 7, none, [], .mov (.c .nilSl)⟩])
  (.seq (.seq (.reg false [0, 1, 2, 7, 8] [] [⟨some 8, none, [], .mov (.c (.int .i64 0))⟩])
  (.blk 0
    (.loop b17_0)))
  (.pre [7] (.seq (.reg false [6] [] [⟨some 62, none, [], .mov (.t 7)⟩,
    ⟨some 6, none, [], .mov (.t 62)⟩])
  (.pre [6] .ret)))))) }

@[go_sem] def c18_1 : XC := (.pre [4, 6, 11, 12, 13, 19, 20]
  (.seq (.reg false [4, 6, 11, 12, 13, 19, 20, 21] [] [⟨some 21, none, [], .bin .lss (.t 20) (.t 19)⟩])
  (.seq (.cond (.t 21)
    .skip
    (.pre [4, 11, 12, 13] (.exit 2)))
  (.pre [4, 6, 11, 12, 13, 19, 20] (.seq (.blk 3
    (.seq (.reg false [4, 6, 7, 11, 12, 13, 19, 20] [] [⟨some 22, none, [], .mov (.t 20)⟩,
      ⟨some 7, none, [], .mov (.t 22)⟩])
    (.reg true [4, 6, 11, 12, 13, 19, 20] [] [⟨some 23, none, [], .mov (.t 4)⟩,
      ⟨some 24, none, [], .padd (.t 6) 0⟩,
      ⟨some 25, none, [.box 24], .load .one (.t 24)⟩,
      ⟨some 26, none, [], .mov (.t 7)⟩,
      ⟨some 27, none, [], .bin .add (.t 25) (.t 26)⟩,
      ⟨some 28, none, [], .padd (.t 6) 1⟩,
      ⟨some 29, none, [.box 28], .load .one (.t 28)⟩,
      ⟨some 30, none, [], .mov (.t 7)⟩,
      ⟨some 31, none, [], .ixS 1 (.t 29) (.t 30)⟩,
      ⟨some 32, none, [.elem 31], .load .one (.t 31)⟩,
      ⟨some 33, none, [], .padd (.t 6) 2⟩,
      ⟨some 34, none, [.box 33], .load .one (.t 33)⟩,
      ⟨some 35, none, [], .mov (.t 7)⟩,
      ⟨some 36, none, [], .call (.c (.fn 36 [])) [(.t 34), (.t 35)] []⟩,
      ⟨some 37, none, [], .bin .mul (.t 32) (.t 36)⟩,
      ⟨some 38, none, [], .call (.c (.fn 40 [])) [(.t 23), (.t 27), (.t 37)] [(0, 0)]⟩,
      ⟨some 4, none, [], .mov (.t 38)⟩])))
  (.pre [4, 6, 11, 12, 13, 19, 20] (.reg false [4, 6, 11, 12, 13, 19, 20] [] [⟨some 39, none, [], .bin .add (.t 20) (.c (.int .i64 1))⟩,
    ⟨some 20, none, [], .mov (.t 39)⟩])))))))
def b18_1 : XC := c18_1
@[go_sem] theorem e18_1 (L : Lib) (cx : Cx) (env : Env) (h : Heap) : runC L cx b18_1 (env, h) = runC L cx c18_1 (env, h) := rfl

@[go_sem] def c18_0 : XC := (.pre [4, 11, 12, 13]
  (.seq (.reg false [4, 11, 12, 13, 14] [] [⟨some 14, none, [], .bin .lss (.t 13) (.t 12)⟩])
  (.seq (.cond (.t 14)
    .skip
    (.pre [4] (.exit 0)))
  (.pre [4, 11, 12, 13] (.seq (.blk 1
    (.seq (.reg false [4, 6, 11, 12, 13] [] [⟨some 15, none, [], .ixS 3 (.t 11) (.t 13)⟩,
      ⟨some 16, none, [], .load (.agg 3) (.t 15)⟩,
      ⟨some 6, none, [], .alloc 1 [.int .i64 0, .nilSl, .nilSl]⟩,
      ⟨none, none, [], .store 3 (.t 6) (.t 16)⟩])
    (.seq (.reg false [4, 6, 11, 12, 13, 19, 20] [] [⟨some 17, none, [], .padd (.t 6) 1⟩,
      ⟨some 18, none, [], .load .one (.t 17)⟩,
      ⟨some 19, none, [], .len false (.t 18)⟩,
      ⟨some 20, none, [], .mov (.c (.int .i64 0))⟩])
    (.blk 2
      (.loop b18_1)))))
  (.pre [4, 11, 12, 13] (.reg false [4, 11, 12, 13] [] [⟨some 40, none, [], .bin .add (.t 13) (.c (.int .i64 1))⟩,
    ⟨some 13, none, [], .mov (.t 40)⟩])))))))
def b18_0 : XC := c18_0
@[go_sem] theorem e18_0 (L : Lib) (cx : Cx) (env : Env) (h : Heap) : runC L cx b18_0 (env, h) = runC L cx c18_0 (env, h) := rfl

/-- "aircheck/mix.Exact" -/
def x18 : XFn := { np := 1, isOpen := false, ns := 2, res := [.tmp 2, .tmp 3], code :=
  (.seq (.reg false [0] [] [⟨some 2, none, [], .mov (.c .nilSl)⟩,
    ⟨some 3, none, [], .mov (.c (.int .i64 0))⟩])
  (.seq (.seq (.reg false [0, 10] [] [⟨some 8, none, [], .mov (.t 0)⟩,
    ⟨some 9, none, [], .call (.c (.fn 22 [])) [(.t 8)] []⟩,
    ⟨some 10, none, [], .un .not (.t 9)⟩])
  (.cond (.t 10)
    (.seq (.reg false [2, 3] [] [⟨some 2, none, [], .mov (.c .nilSl)⟩,
      ⟨some 3, none, [], .mov (.c (.int .i64 170))⟩])
    (.pre [2, 3] .ret))
    .skip))
  (.pre [0] (.seq (.reg false [0, 4] [] [⟨some 4, none, [], .mov (.c .nilSl)⟩])
  (.seq (.seq (.reg false [4, 11, 12, 13] [] [⟨some 11, none, [], .mov (.t 0)⟩,
    ⟨some 12, none, [], .len false (.t 11)⟩,
    ⟨some 13, none, [], .mov (.c (.int .i64 0))⟩])
  (.blk 0
    (.loop b18_0)))
  (.pre [4] (.seq (.reg false [2, 3] [] [⟨some 41, none, [], .mov (.t 4)⟩,
    ⟨some 2, none, [], .mov (.t 41)⟩,
    ⟨some 3, none, [], .mov (.c (.int .i64 0))⟩])
  (.pre [2, 3] .ret)))))))) }

@[go_sem] def c19_1 : XC := (.pre [0, 6, 7, 8]
  (.seq (.seq (.reg false [0, 6, 7, 8, 55] [] [⟨some 48, none, [], .mov (.t 8)⟩,
    ⟨some 49, none, [], .mov (.t 0)⟩,
    ⟨some 50, none, [], .mov (.t 7)⟩,
    ⟨some 51, none, [], .ixS 3 (.t 49) (.t 50)⟩,
    ⟨some 52, none, [], .padd (.t 51) 1⟩,
    ⟨some 53, none, [], .load .one (.t 52)⟩,
    ⟨some 54, none, [], .len false (.t 53)⟩,
    ⟨some 55, none, [], .bin .lss (.t 48) (.t 54)⟩])
  (.cond (.t 55)
    .skip
    (.pre [0, 6, 7] (.exit 4))))
  (.pre [0, 6, 7, 8] (.seq (.blk 5
    (.seq (.reg false [0, 6, 7, 8, 9] [] [⟨some 58, none, [], .mov (.t 0)⟩,
      ⟨some 59, none, [], .mov (.t 7)⟩,
      ⟨some 60, none, [], .ixS 3 (.t 58) (.t 59)⟩,
      ⟨some 61, none, [], .padd (.t 60) 0⟩,
      ⟨some 62, none, [], .load .one (.t 61)⟩,
      ⟨some 63, none, [], .mov (.t 8)⟩,
      ⟨some 64, none, [], .bin .add (.t 62) (.t 63)⟩,
      ⟨some 9, none, [], .mov (.t 64)⟩])
    (.reg true [0, 6, 7, 8] [] [⟨some 65, none, [], .mov (.t 6)⟩,
      ⟨some 66, none, [], .mov (.t 9)⟩,
      ⟨some 67, none, [], .mov (.t 6)⟩,
      ⟨some 68, none, [], .mov (.t 9)⟩,
      ⟨some 69, none, [], .ixS 1 (.t 67) (.t 68)⟩,
      ⟨some 70, none, [.elem 69], .load .one (.t 69)⟩,
      ⟨some 71, none, [], .mov (.t 0)⟩,
      ⟨some 72, none, [], .mov (.t 7)⟩,
      ⟨some 73, none, [], .ixS 3 (.t 71) (.t 72)⟩,
      ⟨some 74, none, [], .padd (.t 73) 1⟩,
      ⟨some 75, none, [.elem 74], .load .one (.t 74)⟩,
      ⟨some 76, none, [], .mov (.t 8)⟩,
      ⟨some 77, none, [], .ixS 1 (.t 75) (.t 76)⟩,
      ⟨some 78, none, [.elem 77], .load .one (.t 77)⟩,
      ⟨some 79, none, [], .mov (.t 0)⟩,
      ⟨some 80, none, [], .mov (.t 7)⟩,
      ⟨some 81, none, [], .ixS 3 (.t 79) (.t 80)⟩,
      ⟨some 82, none, [], .padd (.t 81) 2⟩,
      ⟨some 83, none, [.elem 82], .load .one (.t 82)⟩,
      ⟨some 84, none, [], .mov (.t 8)⟩,
      ⟨some 85, none, [], .call (.c (.fn 39 [])) [(.t 83), (.t 84)] []⟩,
      ⟨some 86, none, [], .bin .mul (.t 78) (.t 85)⟩,
      ⟨some 87, none, [], .bin .add (.t 70) (.t 86)⟩,
      ⟨some 88, none, [], .ixS 1 (.t 65) (.t 66)⟩,
      ⟨none, none, [.elem 88, .closed 87], .store 1 (.t 88) (.t 87)⟩])))
  (.pre [0, 6, 7, 8] (.reg false [0, 6, 7, 8] [] [⟨some 56, none, [], .mov (.t 8)⟩,
    ⟨some 57, none, [], .bin .add (.t 56) (.c (.int .i64 1))⟩,
    ⟨some 8, none, [], .mov (.t 57)⟩]))))))
def b19_1 : XC := c19_1
@[go_sem] theorem e19_1 (L : Lib) (cx : Cx) (env : Env) (h : Heap) : runC L cx b19_1 (env, h) = runC L cx c19_1 (env, h) := rfl

@[go_sem] def c19_0 : XC := (.pre [0, 6, 7]
  (.seq (.seq (.reg false [0, 6, 7, 45] [] [⟨some 42, none, [], .mov (.t 7)⟩,
    ⟨some 43, none, [], .mov (.t 0)⟩,
    ⟨some 44, none, [], .len false (.t 43)⟩,
    ⟨some 45, none, [], .bin .lss (.t 42) (.t 44)⟩])
  (.cond (.t 45)
    .skip
    (.pre [6] (.exit 2))))
  (.pre [0, 6, 7] (.seq (.blk 3
    (.seq (.reg false [0, 6, 7, 8] [] [⟨some 8, none, [], .mov (.c (.int .i64 0))⟩])
    (.blk 4
      (.loop b19_1))))
  (.pre [0, 6, 7] (.reg false [0, 6, 7] [] [⟨some 46, none, [], .mov (.t 7)⟩,
    ⟨some 47, none, [], .bin .add (.t 46) (.c (.int .i64 1))⟩,
    ⟨some 7, none, [], .mov (.t 47)⟩]))))))
def b19_0 : XC := c19_0
@[go_sem] theorem e19_0 (L : Lib) (cx : Cx) (env : Env) (h : Heap) : runC L cx b19_0 (env, h) = runC L cx c19_0 (env, h) := rfl

@[go_sem] def c19_2 : XC := (.pre [0, 4, 5]
  (.seq (.seq (.reg false [0, 4, 5, 16] [] [⟨some 13, none, [], .mov (.t 5)⟩,
    ⟨some 14, none, [], .mov (.t 0)⟩,
    ⟨some 15, none, [], .len false (.t 14)⟩,
    ⟨some 16, none, [], .bin .lss (.t 13) (.t 15)⟩])
  (.cond (.t 16)
    .skip
    (.pre [0, 4] (.exit 0))))
  (.pre [0, 4, 5] (.seq (.blk 1
    (.seq (.reg false [0, 4, 5, 25] [] [⟨some 19, none, [], .mov (.t 0)⟩,
      ⟨some 20, none, [], .mov (.t 5)⟩,
      ⟨some 21, none, [], .ixS 3 (.t 19) (.t 20)⟩,
      ⟨some 22, none, [], .padd (.t 21) 1⟩,
      ⟨some 23, none, [], .load .one (.t 22)⟩,
      ⟨some 24, none, [], .len false (.t 23)⟩,
      ⟨some 25, none, [], .bin .gtr (.t 24) (.c (.int .i64 0))⟩])
    (.cond (.t 25)
      (.reg true [0, 4, 5] [] [⟨some 26, none, [], .mov (.t 4)⟩,
        ⟨some 27, none, [], .mov (.t 0)⟩,
        ⟨some 28, none, [], .mov (.t 5)⟩,
        ⟨some 29, none, [], .ixS 3 (.t 27) (.t 28)⟩,
        ⟨some 30, none, [], .padd (.t 29) 0⟩,
        ⟨some 31, none, [.elem 30], .load .one (.t 30)⟩,
        ⟨some 32, none, [], .mov (.t 0)⟩,
        ⟨some 33, none, [], .mov (.t 5)⟩,
        ⟨some 34, none, [], .ixS 3 (.t 32) (.t 33)⟩,
        ⟨some 35, none, [], .padd (.t 34) 1⟩,
        ⟨some 36, none, [.elem 35], .load .one (.t 35)⟩,
        ⟨some 37, none, [], .len false (.t 36)⟩,
        ⟨some 38, none, [], .bin .add (.t 31) (.t 37)⟩,
        ⟨some 39, none, [], .minmax true [(.t 26), (.t 38)]⟩,
        ⟨some 4, none, [], .mov (.t 39)⟩])
      .skip)))
  (.pre [0, 4, 5] (.reg false [0, 4, 5] [] [⟨some 17, none, [], .mov (.t 5)⟩,
    ⟨some 18, none, [], .bin .add (.t 17) (.c (.int .i64 1))⟩,
    ⟨some 5, none, [], .mov (.t 18)⟩]))))))
def b19_2 : XC := c19_2
@[go_sem] theorem e19_2 (L : Lib) (cx : Cx) (env : Env) (h : Heap) : runC L cx b19_2 (env, h) = runC L cx c19_2 (env, h) := rfl

/-- "aircheck/aircheckref17.Exact" -/
def x19 : XFn := { np := 1, isOpen := false, ns := 1, res := [.tmp 2, .tmp 3], code :=
  (.seq (.reg false [0] [] [⟨some 2, none, [], .mov (.c .nilSl)⟩,
    ⟨some 3, none, [], .mov (.c (.int .i64 0))⟩])
  (.seq (.seq (.reg false [0, 12] [] [⟨some 10, none, [], .mov (.t 0)⟩,
    ⟨some 11, none, [], .call (.c (.fn 23 [])) [(.t 10)] []⟩,
    ⟨some 12, none, [], .un .not (.t 11)⟩])
  (.cond (.t 12)
    (.seq (.reg false [2, 3] [] [⟨some 2, none, [], .mov (.c .nilSl)⟩,
      ⟨some 3, none, [], .mov (.c (.int .i64 170))⟩])
    (.pre [2, 3] .ret))
    .skip))
  (.pre [0] (.seq (.reg false [0, 4] [] [⟨some 4, none, [], .mov (.c (.int .i64 0))⟩])
  (.seq (.seq (.reg false [0, 4, 5] [] [⟨some 5, none, [], .mov (.c (.int .i64 0))⟩])
  (.blk 0
    (.loop b19_2)))
  (.pre [0, 4] (.seq (.reg false [0, 6] [] [⟨some 40, none, [], .mov (.t 4)⟩,
    ⟨some 41, none, [], .mk 0 1 (.int .i64 0) 17592186044416 (.t 40) (.t 40)⟩,
    ⟨some 6, none, [], .mov (.t 41)⟩])
  (.seq (.seq (.reg false [0, 6, 7] [] [⟨some 7, none, [], .mov (.c (.int .i64 0))⟩])
  (.blk 2
    (.loop b19_0)))
  (.pre [6] (.seq (.reg false [2, 3] [] [⟨some 89, none, [], .mov (.t 6)⟩,
    ⟨some 2, none, [], .mov (.t 89)⟩,
    ⟨some 3, none, [], .mov (.c (.int .i64 0))⟩])
  (.pre [2, 3] .ret))))))))))) }

@[go_sem] def c20_0 : XC := (.pre [4, 5, 13, 14]
  (.seq (.reg false [4, 5, 13, 14, 15] [] [⟨some 15, none, [], .bin .lss (.t 14) (.t 13)⟩])
  (.seq (.cond (.t 15)
    .skip
    (.pre [4, 5] (.exit 0)))
  (.pre [4, 5, 13, 14] (.seq (.blk 1
    (.seq (.reg false [4, 5, 6, 13, 14] [] [⟨some 16, none, [], .mov (.t 14)⟩,
      ⟨some 6, none, [], .mov (.t 16)⟩])
    (.reg false [4, 5, 13, 14] [] [⟨some 17, none, [], .mov (.t 4)⟩,
      ⟨some 18, none, [], .mov (.t 6)⟩,
      ⟨some 19, none, [], .mov (.t 4)⟩,
      ⟨some 20, none, [], .mov (.t 6)⟩,
      ⟨some 21, none, [], .ixS 1 (.t 19) (.t 20)⟩,
      ⟨some 22, none, [], .load .one (.t 21)⟩,
      ⟨some 23, none, [], .call (.c (.fn 41 [])) [(.t 22)] []⟩,
      ⟨some 24, none, [], .ixS 1 (.t 17) (.t 18)⟩,
      ⟨none, none, [], .store 1 (.t 24) (.t 23)⟩])))
  (.pre [4, 5, 13, 14] (.reg false [4, 5, 13, 14] [] [⟨some 25, none, [], .bin .add (.t 14) (.c (.int .i64 1))⟩,
    ⟨some 14, none, [], .mov (.t 25)⟩])))))))
def b20_0 : XC := c20_0
@[go_sem] theorem e20_0 (L : Lib) (cx : Cx) (env : Env) (h : Heap) : runC L cx b20_0 (env, h) = runC L cx c20_0 (env, h) := rfl

/-- "aircheck/mix.Mix" -/
def x20 : XFn := { np := 1, isOpen := false, ns := 1, res := [.tmp 2, .tmp 3], code :=
  (.seq (.reg false [0] [] [⟨some 2, none, [], .mov (.c .nilSl)⟩,
    ⟨some 3, none, [], .mov (.c (.int .i64 0))⟩])
  (.seq (.reg false [4, 5] [] [⟨some 8, none, [], .mov (.t 0)⟩,
    ⟨some 9, none, [], .call (.c (.fn 18 [])) [(.t 8)] [(0, 0)]⟩,
    ⟨some 7, none, [], .mov (.t 9)⟩,
    ⟨some 10, none, [], .ext (.t 7) 0⟩,
    ⟨some 11, none, [], .ext (.t 7) 1⟩,
    ⟨some 4, none, [], .mov (.t 10)⟩,
    ⟨some 5, none, [], .mov (.t 11)⟩])
  (.seq (.seq (.reg false [4, 5, 13, 14] [] [⟨some 12, none, [], .mov (.t 4)⟩,
    ⟨some 13, none, [], .len false (.t 12)⟩,
    ⟨some 14, none, [], .mov (.c (.int .i64 0))⟩])
  (.blk 0
    (.loop b20_0)))
  (.pre [4, 5] (.seq (.reg false [2, 3] [] [⟨some 26, none, [], .mov (.t 4)⟩,
    ⟨some 27, none, [], .mov (.t 5)⟩,
    ⟨some 2, none, [], .mov (.t 26)⟩,
    ⟨some 3, none, [], .mov (.t 27)⟩])
  (.pre [2, 3] .ret)))))) }

@[go_sem] def c21_0 : XC := (.pre [4, 5, 6]
  (.seq (.seq (.reg false [4, 5, 6, 15] [] [⟨some 12, none, [], .mov (.t 6)⟩,
    ⟨some 13, none, [], .mov (.t 4)⟩,
    ⟨some 14, none, [], .len false (.t 13)⟩,
    ⟨some 15, none, [], .bin .lss (.t 12) (.t 14)⟩])
  (.cond (.t 15)
    .skip
    (.pre [4, 5] (.exit 0))))
  (.pre [4, 5, 6] (.seq (.blk 1
    (.reg false [4, 5, 6] [] [⟨some 18, none, [], .mov (.t 4)⟩,
      ⟨some 19, none, [], .mov (.t 6)⟩,
      ⟨some 20, none, [], .mov (.t 4)⟩,
      ⟨some 21, none, [], .mov (.t 6)⟩,
      ⟨some 22, none, [], .ixS 1 (.t 20) (.t 21)⟩,
      ⟨some 23, none, [], .load .one (.t 22)⟩,
      ⟨some 24, none, [], .call (.c (.fn 42 [])) [(.t 23)] []⟩,
      ⟨some 25, none, [], .ixS 1 (.t 18) (.t 19)⟩,
      ⟨none, none, [], .store 1 (.t 25) (.t 24)⟩]))
  (.pre [4, 5, 6] (.reg false [4, 5, 6] [] [⟨some 16, none, [], .mov (.t 6)⟩,
    ⟨some 17, none, [], .bin .add (.t 16) (.c (.int .i64 1))⟩,
    ⟨some 6, none, [], .mov (.t 17)⟩]))))))
def b21_0 : XC := c21_0
@[go_sem] theorem e21_0 (L : Lib) (cx : Cx) (env : Env) (h : Heap) : runC L cx b21_0 (env, h) = runC L cx c21_0 (env, h) := rfl

/-- "aircheck/aircheckref17.Mix" -/
def x21 : XFn := { np := 1, isOpen := false, ns := 1, res := [.tmp 2, .tmp 3], code :=
  (.seq (.reg false [0] [] [⟨some 2, none, [], .mov (.c .nilSl)⟩,
    ⟨some 3, none, [], .mov (.c (.int .i64 0))⟩])
  (.seq (.reg false [4, 5] [] [⟨some 8, none, [], .mov (.t 0)⟩,
    ⟨some 9, none, [], .call (.c (.fn 19 [])) [(.t 8)] [(0, 0)]⟩,
    ⟨some 7, none, [], .mov (.t 9)⟩,
    ⟨some 10, none, [], .ext (.t 7) 0⟩,
    ⟨some 11, none, [], .ext (.t 7) 1⟩,
    ⟨some 4, none, [], .mov (.t 10)⟩,
    ⟨some 5, none, [], .mov (.t 11)⟩])
  (.seq (.seq (.reg false [4, 5, 6] [] [⟨some 6, none, [], .mov (.c (.int .i64 0))⟩])
  (.blk 0
    (.loop b21_0)))
  (.pre [4, 5] (.seq (.reg false [2, 3] [] [⟨some 26, none, [], .mov (.t 4)⟩,
    ⟨some 27, none, [], .mov (.t 5)⟩,
    ⟨some 2, none, [], .mov (.t 26)⟩,
    ⟨some 3, none, [], .mov (.t 27)⟩])
  (.pre [2, 3] .ret)))))) }

@[go_sem] def c22_0 : XC := (.pre [0, 5, 6, 7]
  (.seq (.reg false [0, 5, 6, 7, 8] [] [⟨some 8, none, [], .bin .lss (.t 7) (.t 6)⟩])
  (.seq (.cond (.t 8)
    .skip
    (.pre [0] (.exit 0)))
  (.pre [0, 5, 6, 7] (.seq (.blk 1
    (.seq (.reg false [0, 4, 5, 6, 7] [] [⟨some 9, none, [], .ixS 3 (.t 5) (.t 7)⟩,
      ⟨some 10, none, [], .load (.agg 3) (.t 9)⟩,
      ⟨some 4, none, [], .alloc 0 [.int .i64 0, .nilSl, .nilSl]⟩,
      ⟨none, none, [], .store 3 (.t 4) (.t 10)⟩])
    (.seq (.reg false [0, 5, 6, 7, 30] [] [⟨some 11, none, [], .padd (.t 4) 1⟩,
      ⟨some 12, none, [], .load .one (.t 11)⟩,
      ⟨some 13, none, [], .call (.c (.fn 43 [])) [(.t 12)] []⟩,
      ⟨some 14, none, [], .un .not (.t 13)⟩,
      ⟨some 15, none, [], .mov (.t 14)⟩,
      ⟨some 16, some (15, false), [], .padd (.t 4) 2⟩,
      ⟨some 17, some (15, false), [], .load .one (.t 16)⟩,
      ⟨some 18, some (15, false), [], .call (.c (.fn 34 [])) [(.t 17)] []⟩,
      ⟨some 19, some (15, false), [], .un .not (.t 18)⟩,
      ⟨some 20, none, [], .pick (.t 15) (.c (.bool true)) (.t 19)⟩,
      ⟨some 21, none, [], .mov (.t 20)⟩,
      ⟨some 22, some (21, false), [], .padd (.t 4) 0⟩,
      ⟨some 23, some (21, false), [], .load .one (.t 22)⟩,
      ⟨some 24, some (21, false), [], .padd (.t 4) 1⟩,
      ⟨some 25, some (21, false), [], .load .one (.t 24)⟩,
      ⟨some 26, some (21, false), [], .len false (.t 25)⟩,
      ⟨some 27, some (21, false), [], .bin .sub (.c (.int .i64 600)) (.t 26)⟩,
      ⟨some 28, some (21, false), [], .call (.c (.fn 35 [])) [(.t 23), (.c (.int .i64 0)), (.t 27)] []⟩,
      ⟨some 29, some (21, false), [], .un .not (.t 28)⟩,
      ⟨some 30, none, [], .pick (.t 21) (.c (.bool true)) (.t 29)⟩])
    (.cond (.t 30)
      (.seq (.reg false [2] [] [⟨some 2, none, [], .mov (.c (.bool false))⟩])
      (.pre [2] .ret))
      .skip))))
  (.pre [0, 5, 6, 7] (.reg false [0, 5, 6, 7] [] [⟨some 31, none, [], .bin .add (.t 7) (.c (.int .i64 1))⟩,
    ⟨some 7, none, [], .mov (.t 31)⟩])))))))
def b22_0 : XC := c22_0
@[go_sem] theorem e22_0 (L : Lib) (cx : Cx) (env : Env) (h : Heap) : runC L cx b22_0 (env, h) = runC L cx c22_0 (env, h) := rfl

/-- "aircheck/mix.Valid" -/
def x22 : XFn := { np := 1, isOpen := false, ns := 1, res := [.tmp 2], code :=
  (.seq (.reg false [0] [] [⟨some 2, none, [], .mov (.c (.bool false))⟩])
  (.seq (.seq (.reg false [0, 5, 6, 7] [] [⟨some 5, none, [], .mov (.t 0)⟩,
    ⟨some 6, none, [], .len false (.t 5)⟩,
    ⟨some 7, none, [], .mov (.c (.int .i64 0))⟩])
  (.blk 0
    (.loop b22_0)))
  (.pre [0] (.seq (.reg false [2] [] [⟨some 32, none, [], .mov (.t 0)⟩,
    ⟨some 33, none, [], .len false (.t 32)⟩,
    ⟨some 34, none, [], .bin .leq (.t 33) (.c (.int .i64 8))⟩,
    ⟨some 2, none, [], .mov (.t 34)⟩])
  (.pre [2] .ret))))) }

@[go_sem] def c23_0 : XC := (.pre [0, 3]
  (.seq (.seq (.reg false [0, 3, 7] [] [⟨some 4, none, [], .mov (.t 3)⟩,
    ⟨some 5, none, [], .mov (.t 0)⟩,
    ⟨some 6, none, [], .len false (.t 5)⟩,
    ⟨some 7, none, [], .bin .lss (.t 4) (.t 6)⟩])
  (.cond (.t 7)
    .skip
    (.pre [0] (.exit 0))))
  (.pre [0, 3] (.seq (.blk 1
    (.seq (.reg true [0, 3, 41] [] [⟨some 10, none, [], .mov (.t 0)⟩,
      ⟨some 11, none, [], .mov (.t 3)⟩,
      ⟨some 12, none, [], .ixS 3 (.t 10) (.t 11)⟩,
      ⟨some 13, none, [], .padd (.t 12) 1⟩,
      ⟨some 14, none, [.elem 13], .load .one (.t 13)⟩,
      ⟨some 15, none, [], .call (.c (.fn 44 [])) [(.t 14)] []⟩,
      ⟨some 16, none, [], .un .not (.t 15)⟩,
      ⟨some 17, none, [], .mov (.t 16)⟩,
      ⟨some 18, some (17, false), [], .mov (.t 0)⟩,
      ⟨some 19, some (17, false), [], .mov (.t 3)⟩,
      ⟨some 20, some (17, false), [], .ixS 3 (.t 18) (.t 19)⟩,
      ⟨some 21, some (17, false), [], .padd (.t 20) 2⟩,
      ⟨some 22, some (17, false), [.elem 21], .load .one (.t 21)⟩,
      ⟨some 23, some (17, false), [], .call (.c (.fn 37 [])) [(.t 22)] []⟩,
      ⟨some 24, some (17, false), [], .un .not (.t 23)⟩,
      ⟨some 25, none, [], .pick (.t 17) (.c (.bool true)) (.t 24)⟩,
      ⟨some 26, none, [], .mov (.t 25)⟩,
      ⟨some 27, some (26, false), [], .mov (.t 0)⟩,
      ⟨some 28, some (26, false), [], .mov (.t 3)⟩,
      ⟨some 29, some (26, false), [], .ixS 3 (.t 27) (.t 28)⟩,
      ⟨some 30, some (26, false), [], .padd (.t 29) 0⟩,
      ⟨some 31, some (26, false), [.elem 30], .load .one (.t 30)⟩,
      ⟨some 32, some (26, false), [], .mov (.t 0)⟩,
      ⟨some 33, some (26, false), [], .mov (.t 3)⟩,
      ⟨some 34, some (26, false), [], .ixS 3 (.t 32) (.t 33)⟩,
      ⟨some 35, some (26, false), [], .padd (.t 34) 1⟩,
      ⟨some 36, some (26, false), [.elem 35], .load .one (.t 35)⟩,
      ⟨some 37, some (26, false), [], .len false (.t 36)⟩,
      ⟨some 38, some (26, false), [], .bin .sub (.c (.int .i64 600)) (.t 37)⟩,
      ⟨some 39, some (26, false), [], .call (.c (.fn 38 [])) [(.t 31), (.c (.int .i64 0)), (.t 38)] []⟩,
      ⟨some 40, some (26, false), [], .un .not (.t 39)⟩,
      ⟨some 41, none, [], .pick (.t 26) (.c (.bool true)) (.t 40)⟩])
    (.cond (.t 41)
      (.seq (.reg false [2] [] [⟨some 2, none, [], .mov (.c (.bool false))⟩])
      (.pre [2] .ret))
      .skip)))
  (.pre [0, 3] (.reg false [0, 3] [] [⟨some 8, none, [], .mov (.t 3)⟩,
    ⟨some 9, none, [], .bin .add (.t 8) (.c (.int .i64 1))⟩,
    ⟨some 3, none, [], .mov (.t 9)⟩]))))))
def b23_0 : XC := c23_0
@[go_sem] theorem e23_0 (L : Lib) (cx : Cx) (env : Env) (h : Heap) : runC L cx b23_0 (env, h) = runC L cx c23_0 (env, h) := rfl

/-- "aircheck/aircheckref17.Valid" -/
def x23 : XFn := { np := 1, isOpen := false, ns := 0, res := [.tmp 2], code :=
  (.seq (.reg false [0] [] [⟨some 2, none, [], .mov (.c (.bool false))⟩])
  (.seq (.seq (.reg false [0, 3] [] [⟨some 3, none, [], .mov (.c (.int .i64 0))⟩])
  (.blk 0
    (.loop b23_0)))
  (.pre [0] (.seq (.reg false [2] [] [⟨some 42, none, [], .mov (.t 0)⟩,
    ⟨some 43, none, [], .len false (.t 42)⟩,
    ⟨some 44, none, [], .bin .leq (.t 43) (.c (.int .i64 8))⟩,
    ⟨some 2, none, [], .mov (.t 44)⟩])
  (.pre [2] .ret))))) }

@[go_sem] def c24_0 : XC := (.pre [0, 1, 5]
  (.seq (.seq (.reg false [0, 1, 5, 14] [] [⟨some 11, none, [], .mov (.t 5)⟩,
    ⟨some 12, none, [], .mov (.t 0)⟩,
    ⟨some 13, none, [], .len false (.t 12)⟩,
    ⟨some 14, none, [], .bin .lss (.t 11) (.t 13)⟩])
  (.cond (.t 14)
    .skip
    (.pre [] (.exit 0))))
  (.pre [0, 1, 5] (.seq (.blk 1
    (.seq (.reg true [0, 1, 5, 25] [] [⟨some 17, none, [], .mov (.t 0)⟩,
      ⟨some 18, none, [], .mov (.t 5)⟩,
      ⟨some 19, none, [], .ixS 1 (.t 17) (.t 18)⟩,
      ⟨some 20, none, [.elem 19], .load .one (.t 19)⟩,
      ⟨some 21, none, [], .mov (.t 1)⟩,
      ⟨some 22, none, [], .mov (.t 5)⟩,
      ⟨some 23, none, [], .ixS 1 (.t 21) (.t 22)⟩,
      ⟨some 24, none, [.elem 23], .load .one (.t 23)⟩,
      ⟨some 25, none, [], .bin .neq (.t 20) (.t 24)⟩])
    (.cond (.t 25)
      (.seq (.reg false [4] [] [⟨some 4, none, [], .mov (.c (.bool false))⟩])
      (.pre [4] .ret))
      .skip)))
  (.pre [0, 1, 5] (.reg false [0, 1, 5] [] [⟨some 15, none, [], .mov (.t 5)⟩,
    ⟨some 16, none, [], .bin .add (.t 15) (.c (.int .i64 1))⟩,
    ⟨some 5, none, [], .mov (.t 16)⟩]))))))
def b24_0 : XC := c24_0
@[go_sem] theorem e24_0 (L : Lib) (cx : Cx) (env : Env) (h : Heap) : runC L cx b24_0 (env, h) = runC L cx c24_0 (env, h) := rfl

/-- "aircheck/aircheckref17.Ints" -/
def x24 : XFn := { np := 2, isOpen := false, ns := 0, res := [.tmp 4], code :=
  (.seq (.reg false [0, 1] [] [⟨some 4, none, [], .mov (.c (.bool false))⟩])
  (.seq (.seq (.reg false [0, 1, 10] [] [⟨some 6, none, [], .mov (.t 0)⟩,
    ⟨some 7, none, [], .len false (.t 6)⟩,
    ⟨some 8, none, [], .mov (.t 1)⟩,
    ⟨some 9, none, [], .len false (.t 8)⟩,
    ⟨some 10, none, [], .bin .neq (.t 7) (.t 9)⟩])
  (.cond (.t 10)
    (.seq (.reg false [4] [] [⟨some 4, none, [], .mov (.c (.bool false))⟩])
    (.pre [4] .ret))
    .skip))
  (.pre [0, 1] (.seq (.seq (.reg false [0, 1, 5] [] [⟨some 5, none, [], .mov (.c (.int .i64 0))⟩])
  (.blk 0
    (.loop b24_0)))
  (.pre [] (.seq (.reg false [4] [] [⟨some 4, none, [], .mov (.c (.bool true))⟩])
  (.pre [4] .ret))))))) }

@[go_sem] def c25_0 : XC := (.pre [0, 1, 2, 8, 9, 58, 59]
  (.seq (.reg false [0, 1, 2, 8, 9, 58, 59, 60] [] [⟨some 60, none, [], .bin .lss (.t 59) (.t 58)⟩])
  (.seq (.cond (.t 60)
    .skip
    (.pre [9] (.exit 0)))
  (.pre [0, 1, 2, 8, 9, 58, 59] (.seq (.blk 1
    (.seq (.reg false [0, 1, 2, 8, 9, 10, 58, 59] [] [⟨some 61, none, [], .mov (.t 59)⟩,
      ⟨some 10, none, [], .mov (.t 61)⟩])
    (.reg true [0, 1, 2, 8, 9, 58, 59] [] [⟨some 62, none, [], .mov (.t 9)⟩,
      ⟨some 63, none, [], .mov (.t 8)⟩,
      ⟨some 64, none, [], .mov (.t 10)⟩,
      ⟨some 65, none, [], .bin .add (.t 63) (.t 64)⟩,
      ⟨some 66, none, [], .mov (.t 0)⟩,
      ⟨some 67, none, [], .mov (.t 8)⟩,
      ⟨some 68, none, [], .mov (.t 10)⟩,
      ⟨some 69, none, [], .bin .add (.t 67) (.t 68)⟩,
      ⟨some 70, none, [], .ixS 1 (.t 66) (.t 69)⟩,
      ⟨some 71, none, [.elem 70], .load .one (.t 70)⟩,
      ⟨some 72, none, [], .mov (.t 2)⟩,
      ⟨some 73, none, [], .bin .mul (.c (.int .i64 2)) (.t 72)⟩,
      ⟨some 74, none, [], .mov (.t 10)⟩,
      ⟨some 75, none, [], .bin .mul (.c (.int .i64 2)) (.t 74)⟩,
      ⟨some 76, none, [], .bin .sub (.t 73) (.t 75)⟩,
      ⟨some 77, none, [], .bin .sub (.t 76) (.c (.int .i64 1))⟩,
      ⟨some 78, none, [], .bin .mul (.t 71) (.t 77)⟩,
      ⟨some 79, none, [], .mov (.t 1)⟩,
      ⟨some 80, none, [], .mov (.t 10)⟩,
      ⟨some 81, none, [], .ixS 1 (.t 79) (.t 80)⟩,
      ⟨some 82, none, [.elem 81], .load .one (.t 81)⟩,
      ⟨some 83, none, [], .mov (.t 10)⟩,
      ⟨some 84, none, [], .bin .mul (.c (.int .i64 2)) (.t 83)⟩,
      ⟨some 85, none, [], .bin .add (.t 84) (.c (.int .i64 1))⟩,
      ⟨some 86, none, [], .bin .mul (.t 82) (.t 85)⟩,
      ⟨some 87, none, [], .bin .add (.t 78) (.t 86)⟩,
      ⟨some 88, none, [], .mov (.t 2)⟩,
      ⟨some 89, none, [], .bin .add (.t 87) (.t 88)⟩,
      ⟨some 90, none, [], .mov (.t 2)⟩,
      ⟨some 91, none, [], .bin .mul (.c (.int .i64 2)) (.t 90)⟩,
      ⟨some 92, none, [], .call (.c (.fn 45 [])) [(.t 89), (.t 91)] []⟩,
      ⟨some 93, none, [], .ixS 1 (.t 62) (.t 65)⟩,
      ⟨none, none, [.elem 93, .closed 92], .store 1 (.t 93) (.t 92)⟩])))
  (.pre [0, 1, 2, 8, 9, 58, 59] (.reg false [0, 1, 2, 8, 9, 58, 59] [] [⟨some 94, none, [], .bin .add (.t 59) (.c (.int .i64 1))⟩,
    ⟨some 59, none, [], .mov (.t 94)⟩])))))))
def b25_0 : XC := c25_0
@[go_sem] theorem e25_0 (L : Lib) (cx : Cx) (env : Env) (h : Heap) : runC L cx b25_0 (env, h) = runC L cx c25_0 (env, h) := rfl

/-- "aircheck/mix.Fade" -/
def x25 : XFn := { np := 3, isOpen := false, ns := 1, res := [.tmp 6, .tmp 7], code :=
  (.seq (.reg false [0, 1, 2] [] [⟨some 6, none, [], .mov (.c .nilSl)⟩,
    ⟨some 7, none, [], .mov (.c (.int .i64 0))⟩])
  (.seq (.seq (.reg false [0, 1, 2, 38] [] [⟨some 11, none, [], .mov (.t 0)⟩,
    ⟨some 12, none, [], .call (.c (.fn 43 [])) [(.t 11)] []⟩,
    ⟨some 13, none, [], .un .not (.t 12)⟩,
    ⟨some 14, none, [], .mov (.t 13)⟩,
    ⟨some 15, some (14, false), [], .mov (.t 1)⟩,
    ⟨some 16, some (14, false), [], .call (.c (.fn 43 [])) [(.t 15)] []⟩,
    ⟨some 17, some (14, false), [], .un .not (.t 16)⟩,
    ⟨some 18, none, [], .pick (.t 14) (.c (.bool true)) (.t 17)⟩,
    ⟨some 19, none, [], .mov (.t 18)⟩,
    ⟨some 20, some (19, false), [], .mov (.t 2)⟩,
    ⟨some 21, some (19, false), [], .mov (.t 0)⟩,
    ⟨some 22, some (19, false), [], .len false (.t 21)⟩,
    ⟨some 23, some (19, false), [], .mov (.t 1)⟩,
    ⟨some 24, some (19, false), [], .len false (.t 23)⟩,
    ⟨some 25, some (19, false), [], .minmax false [(.t 22), (.t 24)]⟩,
    ⟨some 26, some (19, false), [], .call (.c (.fn 35 [])) [(.t 20), (.c (.int .i64 0)), (.t 25)] []⟩,
    ⟨some 27, some (19, false), [], .un .not (.t 26)⟩,
    ⟨some 28, none, [], .pick (.t 19) (.c (.bool true)) (.t 27)⟩,
    ⟨some 29, none, [], .mov (.t 28)⟩,
    ⟨some 30, some (29, false), [], .mov (.t 0)⟩,
    ⟨some 31, some (29, false), [], .len false (.t 30)⟩,
    ⟨some 32, some (29, false), [], .mov (.t 1)⟩,
    ⟨some 33, some (29, false), [], .len false (.t 32)⟩,
    ⟨some 34, some (29, false), [], .bin .add (.t 31) (.t 33)⟩,
    ⟨some 35, some (29, false), [], .mov (.t 2)⟩,
    ⟨some 36, some (29, false), [], .bin .sub (.t 34) (.t 35)⟩,
    ⟨some 37, some (29, false), [], .bin .gtr (.t 36) (.c (.int .i64 600))⟩,
    ⟨some 38, none, [], .pick (.t 29) (.c (.bool true)) (.t 37)⟩])
  (.cond (.t 38)
    (.seq (.reg false [6, 7] [] [⟨some 6, none, [], .mov (.c .nilSl)⟩,
      ⟨some 7, none, [], .mov (.c (.int .i64 170))⟩])
    (.pre [6, 7] .ret))
    .skip))
  (.pre [0, 1, 2] (.seq (.reg false [0, 1, 2, 8] [] [⟨some 39, none, [], .mov (.t 0)⟩,
    ⟨some 40, none, [], .len false (.t 39)⟩,
    ⟨some 41, none, [], .mov (.t 2)⟩,
    ⟨some 42, none, [], .bin .sub (.t 40) (.t 41)⟩,
    ⟨some 8, none, [], .mov (.t 42)⟩])
  (.seq (.reg false [0, 1, 2, 8, 9] [] [⟨some 43, none, [], .mov (.t 8)⟩,
    ⟨some 44, none, [], .mov (.t 1)⟩,
    ⟨some 45, none, [], .len false (.t 44)⟩,
    ⟨some 46, none, [], .bin .add (.t 43) (.t 45)⟩,
    ⟨some 47, none, [], .mk 0 1 (.int .i64 0) 17592186044416 (.t 46) (.t 46)⟩,
    ⟨some 9, none, [], .mov (.t 47)⟩])
  (.seq (.reg false [0, 1, 2, 8, 9] [] [⟨some 48, none, [], .mov (.t 9)⟩,
    ⟨some 49, none, [], .mov (.t 8)⟩,
    ⟨some 50, none, [], .slice (some 1) (.t 48) (some (.t 49)) none⟩,
    ⟨some 51, none, [], .mov (.t 1)⟩,
    ⟨some 52, none, [], .copy 1 (.t 50) (.t 51)⟩])
  (.seq (.reg false [0, 1, 2, 8, 9] [] [⟨some 53, none, [], .mov (.t 9)⟩,
    ⟨some 54, none, [], .mov (.t 0)⟩,
    ⟨some 55, none, [], .mov (.t 8)⟩,
    ⟨some 56, none, [], .slice (some 1) (.t 54) none (some (.t 55))⟩,
    ⟨some 57, none, [], .copy 1 (.t 53) (.t 56)⟩])
  (.seq (.seq (.reg false [0, 1, 2, 8, 9, 58, 59] [] [⟨some 58, none, [], .mov (.t 2)⟩,
    ⟨some 59, none, [], .mov (.c (.int .i64 0))⟩])
  (.blk 0
    (.loop b25_0)))
  (.pre [9] (.seq (.reg false [6, 7] [] [⟨some 95, none, [], .mov (.t 9)⟩,
    ⟨some 6, none, [], .mov (.t 95)⟩,
    ⟨some 7, none, [], .mov (.c (.int .i64 0))⟩])
  (.pre [6, 7] .ret))))))))))) }

@[go_sem] def c26_0 : XC := (.pre [0, 1, 2, 8, 9]
  (.seq (.seq (.reg false [0, 1, 2, 8, 9, 46] [] [⟨some 44, none, [], .mov (.t 9)⟩,
    ⟨some 45, none, [], .mov (.t 2)⟩,
    ⟨some 46, none, [], .bin .lss (.t 44) (.t 45)⟩])
  (.cond (.t 46)
    .skip
    (.pre [1, 2, 8] (.exit 0))))
  (.pre [0, 1, 2, 8, 9] (.seq (.blk 1
    (.reg true [0, 1, 2, 8, 9] [] [⟨some 49, none, [], .mov (.t 8)⟩,
      ⟨some 50, none, [], .mov (.t 0)⟩,
      ⟨some 51, none, [], .mov (.t 0)⟩,
      ⟨some 52, none, [], .len false (.t 51)⟩,
      ⟨some 53, none, [], .mov (.t 2)⟩,
      ⟨some 54, none, [], .bin .sub (.t 52) (.t 53)⟩,
      ⟨some 55, none, [], .mov (.t 9)⟩,
      ⟨some 56, none, [], .bin .add (.t 54) (.t 55)⟩,
      ⟨some 57, none, [], .ixS 1 (.t 50) (.t 56)⟩,
      ⟨some 58, none, [.elem 57], .load .one (.t 57)⟩,
      ⟨some 59, none, [], .mov (.t 2)⟩,
      ⟨some 60, none, [], .bin .mul (.c (.int .i64 2)) (.t 59)⟩,
      ⟨some 61, none, [], .mov (.t 9)⟩,
      ⟨some 62, none, [], .bin .mul (.c (.int .i64 2)) (.t 61)⟩,
      ⟨some 63, none, [], .bin .sub (.t 60) (.t 62)⟩,
      ⟨some 64, none, [], .bin .sub (.t 63) (.c (.int .i64 1))⟩,
      ⟨some 65, none, [], .bin .mul (.t 58) (.t 64)⟩,
      ⟨some 66, none, [], .mov (.t 1)⟩,
      ⟨some 67, none, [], .mov (.t 9)⟩,
      ⟨some 68, none, [], .ixS 1 (.t 66) (.t 67)⟩,
      ⟨some 69, none, [.elem 68], .load .one (.t 68)⟩,
      ⟨some 70, none, [], .mov (.t 9)⟩,
      ⟨some 71, none, [], .bin .mul (.c (.int .i64 2)) (.t 70)⟩,
      ⟨some 72, none, [], .bin .add (.t 71) (.c (.int .i64 1))⟩,
      ⟨some 73, none, [], .bin .mul (.t 69) (.t 72)⟩,
      ⟨some 74, none, [], .bin .add (.t 65) (.t 73)⟩,
      ⟨some 75, none, [], .mov (.t 2)⟩,
      ⟨some 76, none, [], .bin .add (.t 74) (.t 75)⟩,
      ⟨some 77, none, [], .mov (.t 2)⟩,
      ⟨some 78, none, [], .bin .mul (.c (.int .i64 2)) (.t 77)⟩,
      ⟨some 79, none, [], .call (.c (.fn 46 [])) [(.t 76), (.t 78)] []⟩,
      ⟨some 80, none, [.closed 79], .bslice 1 (.int .i64 0) 1 [(0, (.t 79))]⟩,
      ⟨some 81, none, [.nobox 1], .app 1 1 17592186044416 (.t 49) (.t 80)⟩,
      ⟨some 8, none, [], .mov (.t 81)⟩]))
  (.pre [0, 1, 2, 8, 9] (.reg false [0, 1, 2, 8, 9] [] [⟨some 47, none, [], .mov (.t 9)⟩,
    ⟨some 48, none, [], .bin .add (.t 47) (.c (.int .i64 1))⟩,
    ⟨some 9, none, [], .mov (.t 48)⟩]))))))
def b26_0 : XC := c26_0
@[go_sem] theorem e26_0 (L : Lib) (cx : Cx) (env : Env) (h : Heap) : runC L cx b26_0 (env, h) = runC L cx c26_0 (env, h) := rfl

/-- "aircheck/aircheckref17.Fade" -/
def x26 : XFn := { np := 3, isOpen := false, ns := 3, res := [.tmp 6, .tmp 7], code :=
  (.seq (.reg false [0, 1, 2] [] [⟨some 6, none, [], .mov (.c .nilSl)⟩,
    ⟨some 7, none, [], .mov (.c (.int .i64 0))⟩])
  (.seq (.seq (.reg false [0, 1, 2, 27] [] [⟨some 10, none, [], .mov (.t 0)⟩,
    ⟨some 11, none, [], .call (.c (.fn 44 [])) [(.t 10)] []⟩,
    ⟨some 12, none, [], .un .not (.t 11)⟩,
    ⟨some 13, none, [], .mov (.t 12)⟩,
    ⟨some 14, some (13, false), [], .mov (.t 1)⟩,
    ⟨some 15, some (13, false), [], .call (.c (.fn 44 [])) [(.t 14)] []⟩,
    ⟨some 16, some (13, false), [], .un .not (.t 15)⟩,
    ⟨some 17, none, [], .pick (.t 13) (.c (.bool true)) (.t 16)⟩,
    ⟨some 18, none, [], .mov (.t 17)⟩,
    ⟨some 19, some (18, false), [], .mov (.t 2)⟩,
    ⟨some 20, some (18, false), [], .mov (.t 0)⟩,
    ⟨some 21, some (18, false), [], .len false (.t 20)⟩,
    ⟨some 22, some (18, false), [], .mov (.t 1)⟩,
    ⟨some 23, some (18, false), [], .len false (.t 22)⟩,
    ⟨some 24, some (18, false), [], .minmax false [(.t 21), (.t 23)]⟩,
    ⟨some 25, some (18, false), [], .call (.c (.fn 38 [])) [(.t 19), (.c (.int .i64 0)), (.t 24)] []⟩,
    ⟨some 26, some (18, false), [], .un .not (.t 25)⟩,
    ⟨some 27, none, [], .pick (.t 18) (.c (.bool true)) (.t 26)⟩])
  (.cond (.t 27)
    (.seq (.reg false [6, 7] [] [⟨some 6, none, [], .mov (.c .nilSl)⟩,
      ⟨some 7, none, [], .mov (.c (.int .i64 170))⟩])
    (.pre [6, 7] .ret))
    .skip))
  (.pre [0, 1, 2] (.seq (.seq (.reg false [0, 1, 2, 35] [] [⟨some 28, none, [], .mov (.t 0)⟩,
    ⟨some 29, none, [], .len false (.t 28)⟩,
    ⟨some 30, none, [], .mov (.t 1)⟩,
    ⟨some 31, none, [], .len false (.t 30)⟩,
    ⟨some 32, none, [], .bin .add (.t 29) (.t 31)⟩,
    ⟨some 33, none, [], .mov (.t 2)⟩,
    ⟨some 34, none, [], .bin .sub (.t 32) (.t 33)⟩,
    ⟨some 35, none, [], .bin .gtr (.t 34) (.c (.int .i64 600))⟩])
  (.cond (.t 35)
    (.seq (.reg false [6, 7] [] [⟨some 6, none, [], .mov (.c .nilSl)⟩,
      ⟨some 7, none, [], .mov (.c (.int .i64 170))⟩])
    (.pre [6, 7] .ret))
    .skip))
  (.pre [0, 1, 2] (.seq (.reg false [0, 1, 2, 8] [] [⟨some 36, none, [], .bslice 1 (.int .i64 0) 0 []⟩,
    ⟨some 37, none, [], .mov (.t 0)⟩,
    ⟨some 38, none, [], .mov (.t 0)⟩,
    ⟨some 39, none, [], .len false (.t 38)⟩,
    ⟨some 40, none, [], .mov (.t 2)⟩,
    ⟨some 41, none, [], .bin .sub (.t 39) (.t 40)⟩,
    ⟨some 42, none, [], .slice (some 1) (.t 37) none (some (.t 41))⟩,
    ⟨some 43, none, [], .app 2 1 17592186044416 (.t 36) (.t 42)⟩,
    ⟨some 8, none, [], .mov (.t 43)⟩])
  (.seq (.seq (.reg false [0, 1, 2, 8, 9] [] [⟨some 9, none, [], .mov (.c (.int .i64 0))⟩])
  (.blk 0
    (.loop b26_0)))
  (.pre [1, 2, 8] (.seq (.reg false [6, 7] [] [⟨some 82, none, [], .mov (.t 8)⟩,
    ⟨some 83, none, [], .mov (.t 1)⟩,
    ⟨some 84, none, [], .mov (.t 2)⟩,
    ⟨some 85, none, [], .slice (some 1) (.t 83) (some (.t 84)) none⟩,
    ⟨some 86, none, [], .app 0 1 17592186044416 (.t 82) (.t 85)⟩,
    ⟨some 6, none, [], .mov (.t 86)⟩,
    ⟨some 7, none, [], .mov (.c (.int .i64 0))⟩])
  (.pre [6, 7] .ret)))))))))) }

/-- a round of "aircheck/mix.Duck" -/
def r0 : XRnd := { ps := [83, 84], asg := (.reg false [5, 6, 14, 16, 17, 19] [] [⟨some 19, none, [], .mov (.t 83)⟩]), body :=
  (.blk 3
    (.seq (.seq (.reg false [5, 6, 14, 16, 17, 19] [] [⟨some 85, none, [], .load .one (.t 17)⟩,
      ⟨some 86, none, [], .bin .add (.t 85) (.c (.int .i64 1))⟩,
      ⟨none, none, [], .store 1 (.t 17) (.t 86)⟩])
    (.seq (.reg true [14, 16, 17, 19, 98] [] [⟨some 87, none, [.box 5], .load .one (.t 5)⟩,
      ⟨some 88, none, [], .mov (.t 19)⟩,
      ⟨some 89, none, [], .ixS 1 (.t 87) (.t 88)⟩,
      ⟨some 90, none, [.elem 89], .load .one (.t 89)⟩,
      ⟨some 91, none, [.box 5], .load .one (.t 5)⟩,
      ⟨some 92, none, [], .mov (.t 19)⟩,
      ⟨some 93, none, [], .ixS 1 (.t 91) (.t 92)⟩,
      ⟨some 94, none, [.elem 93], .load .one (.t 93)⟩,
      ⟨some 95, none, [], .un .neg (.t 94)⟩,
      ⟨some 96, none, [], .minmax true [(.t 90), (.t 95)]⟩,
      ⟨some 97, none, [.box 6], .load .one (.t 6)⟩,
      ⟨some 98, none, [], .bin .geq (.t 96) (.t 97)⟩])
    (.cond (.t 98)
      (.reg false [14, 16, 17, 19] [] [⟨none, none, [], .store 1 (.t 17) (.c (.int .i64 0))⟩])
      .skip)))
    (.pre [14, 16, 17, 19] (.reg true [] [] [⟨some 99, none, [.box 16], .load .one (.t 16)⟩,
      ⟨some 100, none, [], .mov (.t 19)⟩,
      ⟨some 101, none, [.box 16], .load .one (.t 16)⟩,
      ⟨some 102, none, [], .mov (.t 19)⟩,
      ⟨some 103, none, [], .ixS 1 (.t 101) (.t 102)⟩,
      ⟨some 104, none, [.elem 103], .load .one (.t 103)⟩,
      ⟨some 105, none, [.box 14], .load .one (.t 14)⟩,
      ⟨some 106, none, [.box 17], .load .one (.t 17)⟩,
      ⟨some 107, none, [.fn 105 [41, 42, 47, 48, 55]], .call (.t 105) [(.t 106)] []⟩,
      ⟨some 108, none, [], .minmax false [(.t 104), (.t 107)]⟩,
      ⟨some 109, none, [], .ixS 1 (.t 99) (.t 100)⟩,
      ⟨none, none, [.elem 109, .closed 108], .store 1 (.t 109) (.t 108)⟩])))) }

@[go_sem] def c27_0 : XC := (.pre [5, 6, 10, 11, 12, 14, 15, 16, 17, 55, 56]
  (.seq (.reg false [5, 6, 10, 11, 12, 14, 15, 16, 17, 55, 56, 57] [] [⟨some 57, none, [], .bin .lss (.t 56) (.t 55)⟩])
  (.seq (.cond (.t 57)
    .skip
    (.pre [5, 6, 10, 11, 12, 14, 16, 17] (.exit 0)))
  (.pre [5, 6, 10, 11, 12, 14, 15, 16, 17, 55, 56] (.seq (.blk 1
    (.seq (.reg false [5, 6, 10, 11, 12, 14, 15, 16, 17, 18, 55, 56] [] [⟨some 58, none, [], .mov (.t 56)⟩,
      ⟨some 18, none, [], .mov (.t 58)⟩])
    (.seq (.seq (.reg false [5, 6, 10, 11, 12, 14, 15, 16, 17, 18, 55, 56] [] [⟨some 59, none, [], .load .one (.t 17)⟩,
      ⟨some 60, none, [], .bin .add (.t 59) (.c (.int .i64 1))⟩,
      ⟨none, none, [], .store 1 (.t 17) (.t 60)⟩])
    (.seq (.reg true [5, 6, 10, 11, 12, 14, 15, 16, 17, 18, 55, 56, 72] [] [⟨some 61, none, [.box 5], .load .one (.t 5)⟩,
      ⟨some 62, none, [], .mov (.t 18)⟩,
      ⟨some 63, none, [], .ixS 1 (.t 61) (.t 62)⟩,
      ⟨some 64, none, [.elem 63], .load .one (.t 63)⟩,
      ⟨some 65, none, [.box 5], .load .one (.t 5)⟩,
      ⟨some 66, none, [], .mov (.t 18)⟩,
      ⟨some 67, none, [], .ixS 1 (.t 65) (.t 66)⟩,
      ⟨some 68, none, [.elem 67], .load .one (.t 67)⟩,
      ⟨some 69, none, [], .un .neg (.t 68)⟩,
      ⟨some 70, none, [], .minmax true [(.t 64), (.t 69)]⟩,
      ⟨some 71, none, [.box 6], .load .one (.t 6)⟩,
      ⟨some 72, none, [], .bin .geq (.t 70) (.t 71)⟩])
    (.cond (.t 72)
      (.reg false [5, 6, 10, 11, 12, 14, 15, 16, 17, 18, 55, 56] [] [⟨none, none, [], .store 1 (.t 17) (.c (.int .i64 0))⟩])
      .skip)))
    (.pre [5, 6, 10, 11, 12, 14, 15, 16, 17, 18, 55, 56] (.reg true [5, 6, 10, 11, 12, 14, 15, 16, 17, 55, 56] [] [⟨some 73, none, [.box 16], .load .one (.t 16)⟩,
      ⟨some 74, none, [], .mov (.t 18)⟩,
      ⟨some 75, none, [], .mov (.t 15)⟩,
      ⟨some 76, none, [.box 17], .load .one (.t 17)⟩,
      ⟨some 77, none, [.fn 75 [41, 42, 47, 48, 55]], .call (.t 75) [(.t 76)] []⟩,
      ⟨some 78, none, [], .ixS 1 (.t 73) (.t 74)⟩,
      ⟨none, none, [.elem 78, .closed 77], .store 1 (.t 78) (.t 77)⟩])))))
  (.pre [5, 6, 10, 11, 12, 14, 15, 16, 17, 55, 56] (.reg false [5, 6, 10, 11, 12, 14, 15, 16, 17, 55, 56] [] [⟨some 79, none, [], .bin .add (.t 56) (.c (.int .i64 1))⟩,
    ⟨some 56, none, [], .mov (.t 79)⟩])))))))
def b27_0 : XC := c27_0
@[go_sem] theorem e27_0 (L : Lib) (cx : Cx) (env : Env) (h : Heap) : runC L cx b27_0 (env, h) = runC L cx c27_0 (env, h) := rfl

/-- "aircheck/mix.Duck" -/
def x27 : XFn := { np := 5, isOpen := false, ns := 5, res := [.tmp 10, .tmp 11], code :=
  (.seq (.reg false [3, 4, 5, 6, 7, 10, 11] [] [⟨some 5, none, [], .boxR (.t 0)⟩,
    ⟨some 6, none, [], .boxR (.t 1)⟩,
    ⟨some 7, none, [], .boxR (.t 2)⟩,
    ⟨some 10, none, [], .mov (.c .nilSl)⟩,
    ⟨some 11, none, [], .mov (.c (.int .i64 0))⟩])
  (.seq (.seq (.reg false [3, 4, 5, 6, 7, 10, 11, 42] [] [⟨some 20, none, [], .load .one (.t 5)⟩,
    ⟨some 21, none, [], .call (.c (.fn 43 [])) [(.t 20)] []⟩,
    ⟨some 22, none, [], .un .not (.t 21)⟩,
    ⟨some 23, none, [], .mov (.t 22)⟩,
    ⟨some 24, some (23, false), [], .load .one (.t 6)⟩,
    ⟨some 25, some (23, false), [], .call (.c (.fn 35 [])) [(.t 24), (.c (.int .i64 1)), (.c (.int .i64 32768))] []⟩,
    ⟨some 26, some (23, false), [], .un .not (.t 25)⟩,
    ⟨some 27, none, [], .pick (.t 23) (.c (.bool true)) (.t 26)⟩,
    ⟨some 28, none, [], .mov (.t 27)⟩,
    ⟨some 29, some (28, false), [], .load .one (.t 7)⟩,
    ⟨some 30, some (28, false), [], .call (.c (.fn 35 [])) [(.t 29), (.c (.int .i64 0)), (.c (.int .i64 1024))] []⟩,
    ⟨some 31, some (28, false), [], .un .not (.t 30)⟩,
    ⟨some 32, none, [], .pick (.t 28) (.c (.bool true)) (.t 31)⟩,
    ⟨some 33, none, [], .mov (.t 32)⟩,
    ⟨some 34, some (33, false), [], .mov (.t 3)⟩,
    ⟨some 35, some (33, false), [], .call (.c (.fn 35 [])) [(.t 34), (.c (.int .i64 1)), (.c (.int .i64 300))] []⟩,
    ⟨some 36, some (33, false), [], .un .not (.t 35)⟩,
    ⟨some 37, none, [], .pick (.t 33) (.c (.bool true)) (.t 36)⟩,
    ⟨some 38, none, [], .mov (.t 37)⟩,
    ⟨some 39, some (38, false), [], .mov (.t 4)⟩,
    ⟨some 40, some (38, false), [], .call (.c (.fn 35 [])) [(.t 39), (.c (.int .i64 1)), (.c (.int .i64 300))] []⟩,
    ⟨some 41, some (38, false), [], .un .not (.t 40)⟩,
    ⟨some 42, none, [], .pick (.t 38) (.c (.bool true)) (.t 41)⟩])
  (.cond (.t 42)
    (.seq (.reg false [10, 11] [] [⟨some 10, none, [], .mov (.c .nilSl)⟩,
      ⟨some 11, none, [], .mov (.c (.int .i64 170))⟩])
    (.pre [10, 11] .ret))
    .skip))
  (.pre [3, 4, 5, 6, 7, 10, 11] (.seq (.reg false [3, 4, 5, 6, 7, 10, 11, 12] [] [⟨some 12, none, [], .mov (.c (.int .i64 1200))⟩])
  (.seq (.reg false [3, 4, 5, 6, 10, 11, 12, 13] [] [⟨some 43, none, [], .mkfn 47 [(.t 7)]⟩,
    ⟨some 13, none, [], .mov (.t 43)⟩])
  (.seq (.reg false [5, 6, 10, 11, 12, 14, 15] [] [⟨some 44, none, [], .mov (.t 13)⟩,
    ⟨some 45, none, [], .mov (.t 3)⟩,
    ⟨some 46, none, [], .call (.t 44) [(.t 45)] []⟩,
    ⟨some 47, none, [], .mov (.t 13)⟩,
    ⟨some 48, none, [], .mov (.t 4)⟩,
    ⟨some 49, none, [], .call (.t 47) [(.t 48)] []⟩,
    ⟨some 14, none, [], .alloc 4 [.nilFn]⟩,
    ⟨none, none, [], .store 1 (.t 14) (.t 46)⟩,
    ⟨some 15, none, [], .mov (.t 49)⟩])
  (.seq (.reg false [5, 6, 10, 11, 12, 14, 15, 16] [] [⟨some 50, none, [], .load .one (.t 5)⟩,
    ⟨some 51, none, [], .len false (.t 50)⟩,
    ⟨some 52, none, [], .mk 2 1 (.int .i64 0) 17592186044416 (.t 51) (.t 51)⟩,
    ⟨some 16, none, [], .alloc 3 [.nilSl]⟩,
    ⟨none, none, [], .store 1 (.t 16) (.t 52)⟩])
  (.seq (.reg false [5, 6, 10, 11, 12, 14, 15, 16, 17] [] [⟨some 53, none, [], .mov (.t 12)⟩,
    ⟨some 17, none, [], .alloc 1 [.int .i64 0]⟩,
    ⟨none, none, [], .store 1 (.t 17) (.t 53)⟩])
  (.seq (.seq (.reg false [5, 6, 10, 11, 12, 14, 15, 16, 17, 55, 56] [] [⟨some 54, none, [], .load .one (.t 5)⟩,
    ⟨some 55, none, [], .len false (.t 54)⟩,
    ⟨some 56, none, [], .mov (.c (.int .i64 0))⟩])
  (.blk 0
    (.loop b27_0)))
  (.pre [5, 6, 10, 11, 12, 14, 16, 17] (.seq (.reg false [5, 6, 10, 11, 14, 16, 17] [] [⟨some 80, none, [], .mov (.t 12)⟩,
    ⟨none, none, [], .store 1 (.t 17) (.t 80)⟩])
  (.seq (.seq (.reg false [5, 6, 10, 11, 14, 16, 17, 82] [] [⟨some 81, none, [], .load .one (.t 5)⟩,
    ⟨some 82, none, [], .call (.c (.fn 49 [])) [(.t 81)] []⟩])
  (.blk 2
    (.rfn 0 (.t 82) 0)))
  (.pre [16] (.seq (.reg false [10, 11] [] [⟨some 110, none, [], .load .one (.t 16)⟩,
    ⟨some 10, none, [], .mov (.t 110)⟩,
    ⟨some 11, none, [], .mov (.c (.int .i64 0))⟩])
  (.pre [10, 11] .ret))))))))))))))) }

@[go_sem] def c28_1 : XC := (.pre [0, 1, 2, 3, 4, 12, 13, 14, 15]
  (.seq (.seq (.reg false [0, 1, 2, 3, 4, 12, 13, 14, 15, 47] [] [⟨some 37, none, [], .mov (.t 15)⟩,
    ⟨some 38, none, [], .mov (.t 0)⟩,
    ⟨some 39, none, [], .len false (.t 38)⟩,
    ⟨some 40, none, [], .bin .lss (.t 37) (.t 39)⟩,
    ⟨some 41, none, [], .mov (.t 40)⟩,
    ⟨some 42, some (41, true), [], .mov (.t 15)⟩,
    ⟨some 43, some (41, true), [], .mov (.t 13)⟩,
    ⟨some 44, some (41, true), [], .mov (.t 3)⟩,
    ⟨some 45, some (41, true), [], .bin .add (.t 43) (.t 44)⟩,
    ⟨some 46, some (41, true), [], .bin .leq (.t 42) (.t 45)⟩,
    ⟨some 47, none, [], .pick (.t 41) (.t 46) (.c (.bool false))⟩])
  (.cond (.t 47)
    .skip
    (.pre [0, 1, 2, 3, 4, 12, 13, 14] (.exit 2))))
  (.pre [0, 1, 2, 3, 4, 12, 13, 14, 15] (.seq (.blk 3
    (.seq (.seq (.reg false [0, 1, 2, 3, 4, 12, 13, 14, 15, 54] [] [⟨some 50, none, [], .mov (.t 0)⟩,
      ⟨some 51, none, [], .mov (.t 15)⟩,
      ⟨some 52, none, [], .mov (.t 1)⟩,
      ⟨some 53, none, [], .call (.c (.fn 51 [])) [(.t 50), (.t 51), (.t 52)] []⟩,
      ⟨some 54, none, [], .un .not (.t 53)⟩])
    (.cond (.t 54)
      (.pre [0, 1, 2, 3, 4, 12, 13, 14, 15] (.exit 3))
      .skip))
    (.pre [0, 1, 2, 3, 4, 12, 13, 14, 15] (.seq (.reg false [0, 1, 2, 3, 4, 12, 13, 14, 15, 57] [] [⟨some 55, none, [], .mov (.t 15)⟩,
      ⟨some 56, none, [], .mov (.t 13)⟩,
      ⟨some 57, none, [], .bin .geq (.t 55) (.t 56)⟩])
    (.cond (.t 57)
      (.reg false [0, 1, 2, 3, 4, 12, 13, 14, 15] [] [⟨some 58, none, [], .mov (.t 14)⟩,
        ⟨some 59, none, [], .mov (.t 2)⟩,
        ⟨some 60, none, [], .mov (.t 2)⟩,
        ⟨some 61, none, [], .bin .sub (.c (.int .i64 1024)) (.t 60)⟩,
        ⟨some 62, none, [], .mov (.t 15)⟩,
        ⟨some 63, none, [], .mov (.t 13)⟩,
        ⟨some 64, none, [], .bin .sub (.t 62) (.t 63)⟩,
        ⟨some 65, none, [], .bin .mul (.t 61) (.t 64)⟩,
        ⟨some 66, none, [], .mov (.t 3)⟩,
        ⟨some 67, none, [], .bin .quo (.t 65) (.t 66)⟩,
        ⟨some 68, none, [], .bin .add (.t 59) (.t 67)⟩,
        ⟨some 69, none, [], .minmax false [(.t 58), (.t 68)]⟩,
        ⟨some 14, none, [], .mov (.t 69)⟩])
      (.reg false [0, 1, 2, 3, 4, 12, 13, 14, 15] [] [⟨some 70, none, [], .mov (.t 14)⟩,
        ⟨some 71, none, [], .mov (.t 2)⟩,
        ⟨some 72, none, [], .mov (.t 2)⟩,
        ⟨some 73, none, [], .bin .sub (.c (.int .i64 1024)) (.t 72)⟩,
        ⟨some 74, none, [], .mov (.t 13)⟩,
        ⟨some 75, none, [], .mov (.t 15)⟩,
        ⟨some 76, none, [], .bin .sub (.t 74) (.t 75)⟩,
        ⟨some 77, none, [], .bin .mul (.t 73) (.t 76)⟩,
        ⟨some 78, none, [], .mov (.t 4)⟩,
        ⟨some 79, none, [], .bin .quo (.t 77) (.t 78)⟩,
        ⟨some 80, none, [], .bin .add (.t 71) (.t 79)⟩,
        ⟨some 81, none, [], .minmax false [(.t 70), (.t 80)]⟩,
        ⟨some 14, none, [], .mov (.t 81)⟩]))))))
  (.pre [0, 1, 2, 3, 4, 12, 13, 14, 15] (.reg false [0, 1, 2, 3, 4, 12, 13, 14, 15] [] [⟨some 48, none, [], .mov (.t 15)⟩,
    ⟨some 49, none, [], .bin .add (.t 48) (.c (.int .i64 1))⟩,
    ⟨some 15, none, [], .mov (.t 49)⟩]))))))
def b28_1 : XC := c28_1
@[go_sem] theorem e28_1 (L : Lib) (cx : Cx) (env : Env) (h : Heap) : runC L cx b28_1 (env, h) = runC L cx c28_1 (env, h) := rfl

@[go_sem] def c28_0 : XC := (.pre [0, 1, 2, 3, 4, 12, 13]
  (.seq (.seq (.reg false [0, 1, 2, 3, 4, 12, 13, 30] [] [⟨some 27, none, [], .mov (.t 13)⟩,
    ⟨some 28, none, [], .mov (.t 0)⟩,
    ⟨some 29, none, [], .len false (.t 28)⟩,
    ⟨some 30, none, [], .bin .lss (.t 27) (.t 29)⟩])
  (.cond (.t 30)
    .skip
    (.pre [12] (.exit 0))))
  (.pre [0, 1, 2, 3, 4, 12, 13] (.seq (.blk 1
    (.seq (.reg false [0, 1, 2, 3, 4, 12, 13, 14] [] [⟨some 14, none, [], .mov (.c (.int .i64 1024))⟩])
    (.seq (.seq (.reg false [0, 1, 2, 3, 4, 12, 13, 14, 15] [] [⟨some 33, none, [], .mov (.t 13)⟩,
      ⟨some 34, none, [], .mov (.t 4)⟩,
      ⟨some 35, none, [], .bin .sub (.t 33) (.t 34)⟩,
      ⟨some 36, none, [], .minmax true [(.t 35), (.c (.int .i64 0))]⟩,
      ⟨some 15, none, [], .mov (.t 36)⟩])
    (.blk 2
      (.loop b28_1)))
    (.pre [0, 1, 2, 3, 4, 12, 13, 14] (.reg false [0, 1, 2, 3, 4, 12, 13] [] [⟨some 82, none, [], .mov (.t 12)⟩,
      ⟨some 83, none, [], .mov (.t 14)⟩,
      ⟨some 84, none, [], .bslice 1 (.int .i64 0) 1 [(0, (.t 83))]⟩,
      ⟨some 85, none, [], .app 0 1 17592186044416 (.t 82) (.t 84)⟩,
      ⟨some 12, none, [], .mov (.t 85)⟩])))))
  (.pre [0, 1, 2, 3, 4, 12, 13] (.reg false [0, 1, 2, 3, 4, 12, 13] [] [⟨some 31, none, [], .mov (.t 13)⟩,
    ⟨some 32, none, [], .bin .add (.t 31) (.c (.int .i64 1))⟩,
    ⟨some 13, none, [], .mov (.t 32)⟩]))))))
def b28_0 : XC := c28_0
@[go_sem] theorem e28_0 (L : Lib) (cx : Cx) (env : Env) (h : Heap) : runC L cx b28_0 (env, h) = runC L cx c28_0 (env, h) := rfl

/-- "aircheck/aircheckref17.Duck" -/
def x28 : XFn := { np := 5, isOpen := false, ns := 1, res := [.tmp 10, .tmp 11], code :=
  (.seq (.reg false [0, 1, 2, 3, 4] [] [⟨some 10, none, [], .mov (.c .nilSl)⟩,
    ⟨some 11, none, [], .mov (.c (.int .i64 0))⟩])
  (.seq (.seq (.reg false [0, 1, 2, 3, 4, 26] [] [⟨some 16, none, [], .mov (.t 0)⟩,
    ⟨some 17, none, [], .call (.c (.fn 44 [])) [(.t 16)] []⟩,
    ⟨some 18, none, [], .un .not (.t 17)⟩,
    ⟨some 19, none, [], .mov (.t 18)⟩,
    ⟨some 20, some (19, false), [], .mov (.t 1)⟩,
    ⟨some 21, some (19, false), [], .mov (.t 2)⟩,
    ⟨some 22, some (19, false), [], .mov (.t 3)⟩,
    ⟨some 23, some (19, false), [], .mov (.t 4)⟩,
    ⟨some 24, some (19, false), [], .call (.c (.fn 50 [])) [(.t 20), (.t 21), (.t 22), (.t 23)] []⟩,
    ⟨some 25, some (19, false), [], .un .not (.t 24)⟩,
    ⟨some 26, none, [], .pick (.t 19) (.c (.bool true)) (.t 25)⟩])
  (.cond (.t 26)
    (.seq (.reg false [10, 11] [] [⟨some 10, none, [], .mov (.c .nilSl)⟩,
      ⟨some 11, none, [], .mov (.c (.int .i64 170))⟩])
    (.pre [10, 11] .ret))
    .skip))
  (.pre [0, 1, 2, 3, 4] (.seq (.reg false [0, 1, 2, 3, 4, 12] [] [⟨some 12, none, [], .mov (.c .nilSl)⟩])
  (.seq (.seq (.reg false [0, 1, 2, 3, 4, 12, 13] [] [⟨some 13, none, [], .mov (.c (.int .i64 0))⟩])
  (.blk 0
    (.loop b28_0)))
  (.pre [12] (.seq (.reg false [10, 11] [] [⟨some 86, none, [], .mov (.t 12)⟩,
    ⟨some 10, none, [], .mov (.t 86)⟩,
    ⟨some 11, none, [], .mov (.c (.int .i64 0))⟩])
  (.pre [10, 11] .ret)))))))) }

@[go_sem] def c29_0 : XC := (.pre [0, 1, 14, 41, 42]
  (.seq (.reg false [0, 1, 14, 41, 42, 43] [] [⟨some 43, none, [], .bin .lss (.t 42) (.t 41)⟩])
  (.seq (.cond (.t 43)
    .skip
    (.pre [14] (.exit 0)))
  (.pre [0, 1, 14, 41, 42] (.seq (.blk 1
    (.seq (.reg false [0, 1, 14, 16, 41, 42] [] [⟨some 44, none, [], .mov (.t 42)⟩,
      ⟨some 16, none, [], .mov (.t 44)⟩])
    (.reg true [0, 1, 14, 41, 42] [] [⟨some 45, none, [], .mov (.t 14)⟩,
      ⟨some 46, none, [], .mov (.t 16)⟩,
      ⟨some 47, none, [], .mov (.t 0)⟩,
      ⟨some 48, none, [], .mov (.t 16)⟩,
      ⟨some 49, none, [], .ixS 1 (.t 47) (.t 48)⟩,
      ⟨some 50, none, [.elem 49], .load .one (.t 49)⟩,
      ⟨some 51, none, [], .bin .mul (.t 50) (.c (.int .i64 1024))⟩,
      ⟨some 52, none, [], .mov (.t 1)⟩,
      ⟨some 53, none, [], .mov (.t 16)⟩,
      ⟨some 54, none, [], .ixS 1 (.t 52) (.t 53)⟩,
      ⟨some 55, none, [.elem 54], .load .one (.t 54)⟩,
      ⟨some 56, none, [], .mov (.t 14)⟩,
      ⟨some 57, none, [], .mov (.t 16)⟩,
      ⟨some 58, none, [], .ixS 1 (.t 56) (.t 57)⟩,
      ⟨some 59, none, [.elem 58], .load .one (.t 58)⟩,
      ⟨some 60, none, [], .bin .mul (.t 55) (.t 59)⟩,
      ⟨some 61, none, [], .bin .add (.t 51) (.t 60)⟩,
      ⟨some 62, none, [], .call (.c (.fn 41 [])) [(.t 61)] []⟩,
      ⟨some 63, none, [], .ixS 1 (.t 45) (.t 46)⟩,
      ⟨none, none, [.elem 63, .closed 62], .store 1 (.t 63) (.t 62)⟩])))
  (.pre [0, 1, 14, 41, 42] (.reg false [0, 1, 14, 41, 42] [] [⟨some 64, none, [], .bin .add (.t 42) (.c (.int .i64 1))⟩,
    ⟨some 42, none, [], .mov (.t 64)⟩])))))))
def b29_0 : XC := c29_0
@[go_sem] theorem e29_0 (L : Lib) (cx : Cx) (env : Env) (h : Heap) : runC L cx b29_0 (env, h) = runC L cx c29_0 (env, h) := rfl

/-- "aircheck/mix.Under" -/
def x29 : XFn := { np := 6, isOpen := false, ns := 1, res := [.tmp 12, .tmp 13], code :=
  (.seq (.reg false [0, 1, 2, 3, 4, 5] [] [⟨some 12, none, [], .mov (.c .nilSl)⟩,
    ⟨some 13, none, [], .mov (.c (.int .i64 0))⟩])
  (.seq (.reg false [0, 1, 14, 15] [] [⟨some 18, none, [], .mov (.t 0)⟩,
    ⟨some 19, none, [], .mov (.t 2)⟩,
    ⟨some 20, none, [], .mov (.t 3)⟩,
    ⟨some 21, none, [], .mov (.t 4)⟩,
    ⟨some 22, none, [], .mov (.t 5)⟩,
    ⟨some 23, none, [], .call (.c (.fn 27 [])) [(.t 18), (.t 19), (.t 20), (.t 21), (.t 22)] [(0, 0)]⟩,
    ⟨some 17, none, [], .mov (.t 23)⟩,
    ⟨some 24, none, [], .ext (.t 17) 0⟩,
    ⟨some 25, none, [], .ext (.t 17) 1⟩,
    ⟨some 14, none, [], .mov (.t 24)⟩,
    ⟨some 15, none, [], .mov (.t 25)⟩])
  (.seq (.seq (.reg false [0, 1, 14, 39] [] [⟨some 26, none, [], .mov (.t 15)⟩,
    ⟨some 27, none, [], .bin .neq (.t 26) (.c (.int .i64 0))⟩,
    ⟨some 28, none, [], .mov (.t 27)⟩,
    ⟨some 29, some (28, false), [], .mov (.t 1)⟩,
    ⟨some 30, some (28, false), [], .call (.c (.fn 43 [])) [(.t 29)] []⟩,
    ⟨some 31, some (28, false), [], .un .not (.t 30)⟩,
    ⟨some 32, none, [], .pick (.t 28) (.c (.bool true)) (.t 31)⟩,
    ⟨some 33, none, [], .mov (.t 32)⟩,
    ⟨some 34, some (33, false), [], .mov (.t 1)⟩,
    ⟨some 35, some (33, false), [], .len false (.t 34)⟩,
    ⟨some 36, some (33, false), [], .mov (.t 0)⟩,
    ⟨some 37, some (33, false), [], .len false (.t 36)⟩,
    ⟨some 38, some (33, false), [], .bin .neq (.t 35) (.t 37)⟩,
    ⟨some 39, none, [], .pick (.t 33) (.c (.bool true)) (.t 38)⟩])
  (.cond (.t 39)
    (.seq (.reg false [12, 13] [] [⟨some 12, none, [], .mov (.c .nilSl)⟩,
      ⟨some 13, none, [], .mov (.c (.int .i64 170))⟩])
    (.pre [12, 13] .ret))
    .skip))
  (.pre [0, 1, 14] (.seq (.seq (.reg false [0, 1, 14, 41, 42] [] [⟨some 40, none, [], .mov (.t 0)⟩,
    ⟨some 41, none, [], .len false (.t 40)⟩,
    ⟨some 42, none, [], .mov (.c (.int .i64 0))⟩])
  (.blk 0
    (.loop b29_0)))
  (.pre [14] (.seq (.reg false [12, 13] [] [⟨some 65, none, [], .mov (.t 14)⟩,
    ⟨some 12, none, [], .mov (.t 65)⟩,
    ⟨some 13, none, [], .mov (.c (.int .i64 0))⟩])
  (.pre [12, 13] .ret)))))))) }

@[go_sem] def c30_0 : XC := (.pre [0, 1, 14, 16, 17]
  (.seq (.seq (.reg false [0, 1, 14, 16, 17, 44] [] [⟨some 41, none, [], .mov (.t 17)⟩,
    ⟨some 42, none, [], .mov (.t 0)⟩,
    ⟨some 43, none, [], .len false (.t 42)⟩,
    ⟨some 44, none, [], .bin .lss (.t 41) (.t 43)⟩])
  (.cond (.t 44)
    .skip
    (.pre [16] (.exit 0))))
  (.pre [0, 1, 14, 16, 17] (.seq (.blk 1
    (.reg true [0, 1, 14, 16, 17] [] [⟨some 47, none, [], .mov (.t 16)⟩,
      ⟨some 48, none, [], .mov (.t 0)⟩,
      ⟨some 49, none, [], .mov (.t 17)⟩,
      ⟨some 50, none, [], .ixS 1 (.t 48) (.t 49)⟩,
      ⟨some 51, none, [.elem 50], .load .one (.t 50)⟩,
      ⟨some 52, none, [], .bin .mul (.t 51) (.c (.int .i64 1024))⟩,
      ⟨some 53, none, [], .mov (.t 1)⟩,
      ⟨some 54, none, [], .mov (.t 17)⟩,
      ⟨some 55, none, [], .ixS 1 (.t 53) (.t 54)⟩,
      ⟨some 56, none, [.elem 55], .load .one (.t 55)⟩,
      ⟨some 57, none, [], .mov (.t 14)⟩,
      ⟨some 58, none, [], .mov (.t 17)⟩,
      ⟨some 59, none, [], .ixS 1 (.t 57) (.t 58)⟩,
      ⟨some 60, none, [.elem 59], .load .one (.t 59)⟩,
      ⟨some 61, none, [], .bin .mul (.t 56) (.t 60)⟩,
      ⟨some 62, none, [], .bin .add (.t 52) (.t 61)⟩,
      ⟨some 63, none, [], .call (.c (.fn 42 [])) [(.t 62)] []⟩,
      ⟨some 64, none, [.closed 63], .bslice 1 (.int .i64 0) 1 [(0, (.t 63))]⟩,
      ⟨some 65, none, [.nobox 0], .app 0 1 17592186044416 (.t 47) (.t 64)⟩,
      ⟨some 16, none, [], .mov (.t 65)⟩]))
  (.pre [0, 1, 14, 16, 17] (.reg false [0, 1, 14, 16, 17] [] [⟨some 45, none, [], .mov (.t 17)⟩,
    ⟨some 46, none, [], .bin .add (.t 45) (.c (.int .i64 1))⟩,
    ⟨some 17, none, [], .mov (.t 46)⟩]))))))
def b30_0 : XC := c30_0
@[go_sem] theorem e30_0 (L : Lib) (cx : Cx) (env : Env) (h : Heap) : runC L cx b30_0 (env, h) = runC L cx c30_0 (env, h) := rfl

/-- "aircheck/aircheckref17.Under" -/
def x30 : XFn := { np := 6, isOpen := false, ns := 1, res := [.tmp 12, .tmp 13], code :=
  (.seq (.reg false [0, 1, 2, 3, 4, 5] [] [⟨some 12, none, [], .mov (.c .nilSl)⟩,
    ⟨some 13, none, [], .mov (.c (.int .i64 0))⟩])
  (.seq (.reg false [0, 1, 14, 15] [] [⟨some 19, none, [], .mov (.t 0)⟩,
    ⟨some 20, none, [], .mov (.t 2)⟩,
    ⟨some 21, none, [], .mov (.t 3)⟩,
    ⟨some 22, none, [], .mov (.t 4)⟩,
    ⟨some 23, none, [], .mov (.t 5)⟩,
    ⟨some 24, none, [], .call (.c (.fn 28 [])) [(.t 19), (.t 20), (.t 21), (.t 22), (.t 23)] []⟩,
    ⟨some 18, none, [], .mov (.t 24)⟩,
    ⟨some 25, none, [], .ext (.t 18) 0⟩,
    ⟨some 26, none, [], .ext (.t 18) 1⟩,
    ⟨some 14, none, [], .mov (.t 25)⟩,
    ⟨some 15, none, [], .mov (.t 26)⟩])
  (.seq (.seq (.reg false [0, 1, 14, 40] [] [⟨some 27, none, [], .mov (.t 15)⟩,
    ⟨some 28, none, [], .bin .neq (.t 27) (.c (.int .i64 0))⟩,
    ⟨some 29, none, [], .mov (.t 28)⟩,
    ⟨some 30, some (29, false), [], .mov (.t 1)⟩,
    ⟨some 31, some (29, false), [], .call (.c (.fn 44 [])) [(.t 30)] []⟩,
    ⟨some 32, some (29, false), [], .un .not (.t 31)⟩,
    ⟨some 33, none, [], .pick (.t 29) (.c (.bool true)) (.t 32)⟩,
    ⟨some 34, none, [], .mov (.t 33)⟩,
    ⟨some 35, some (34, false), [], .mov (.t 1)⟩,
    ⟨some 36, some (34, false), [], .len false (.t 35)⟩,
    ⟨some 37, some (34, false), [], .mov (.t 0)⟩,
    ⟨some 38, some (34, false), [], .len false (.t 37)⟩,
    ⟨some 39, some (34, false), [], .bin .neq (.t 36) (.t 38)⟩,
    ⟨some 40, none, [], .pick (.t 34) (.c (.bool true)) (.t 39)⟩])
  (.cond (.t 40)
    (.seq (.reg false [12, 13] [] [⟨some 12, none, [], .mov (.c .nilSl)⟩,
      ⟨some 13, none, [], .mov (.c (.int .i64 170))⟩])
    (.pre [12, 13] .ret))
    .skip))
  (.pre [0, 1, 14] (.seq (.reg false [0, 1, 14, 16] [] [⟨some 16, none, [], .mov (.c .nilSl)⟩])
  (.seq (.seq (.reg false [0, 1, 14, 16, 17] [] [⟨some 17, none, [], .mov (.c (.int .i64 0))⟩])
  (.blk 0
    (.loop b30_0)))
  (.pre [16] (.seq (.reg false [12, 13] [] [⟨some 66, none, [], .mov (.t 16)⟩,
    ⟨some 12, none, [], .mov (.t 66)⟩,
    ⟨some 13, none, [], .mov (.c (.int .i64 0))⟩])
  (.pre [12, 13] .ret))))))))) }

/-- "aircheck/airchecklaw17.at" -/
def x31 : XFn := { np := 2, isOpen := false, ns := 0, res := [.tmp 4], code :=
  (.seq (.reg false [0, 1] [] [⟨some 4, none, [], .mov (.c (.int .i64 0))⟩])
  (.seq (.seq (.reg false [0, 1, 12] [] [⟨some 5, none, [], .mov (.t 1)⟩,
    ⟨some 6, none, [], .bin .lss (.t 5) (.c (.int .i64 0))⟩,
    ⟨some 7, none, [], .mov (.t 6)⟩,
    ⟨some 8, some (7, false), [], .mov (.t 1)⟩,
    ⟨some 9, some (7, false), [], .mov (.t 0)⟩,
    ⟨some 10, some (7, false), [], .len false (.t 9)⟩,
    ⟨some 11, some (7, false), [], .bin .geq (.t 8) (.t 10)⟩,
    ⟨some 12, none, [], .pick (.t 7) (.c (.bool true)) (.t 11)⟩])
  (.cond (.t 12)
    (.seq (.reg false [4] [] [⟨some 4, none, [], .mov (.c (.int .i64 0))⟩])
    (.pre [4] .ret))
    .skip))
  (.pre [0, 1] (.seq (.reg false [4] [] [⟨some 13, none, [], .mov (.t 0)⟩,
    ⟨some 14, none, [], .mov (.t 1)⟩,
    ⟨some 15, none, [], .ixS 1 (.t 13) (.t 14)⟩,
    ⟨some 16, none, [], .load .one (.t 15)⟩,
    ⟨some 4, none, [], .mov (.t 16)⟩])
  (.pre [4] .ret))))) }

@[go_sem] def c32_0 : XC := (.pre [0, 3, 4]
  (.seq (.seq (.reg false [0, 3, 4, 9] [] [⟨some 8, none, [], .mov (.t 4)⟩,
    ⟨some 9, none, [], .bin .geq (.t 8) (.c (.int .i64 0))⟩])
  (.cond (.t 9)
    .skip
    (.pre [3] (.exit 0))))
  (.pre [0, 3, 4] (.seq (.blk 1
    (.reg false [0, 3, 4] [] [⟨some 12, none, [], .mov (.t 3)⟩,
      ⟨some 13, none, [], .mov (.t 0)⟩,
      ⟨some 14, none, [], .mov (.t 4)⟩,
      ⟨some 15, none, [], .ixS 1 (.t 13) (.t 14)⟩,
      ⟨some 16, none, [], .load .one (.t 15)⟩,
      ⟨some 17, none, [], .bslice 1 (.int .i64 0) 1 [(0, (.t 16))]⟩,
      ⟨some 18, none, [], .app 0 1 17592186044416 (.t 12) (.t 17)⟩,
      ⟨some 3, none, [], .mov (.t 18)⟩]))
  (.pre [0, 3, 4] (.reg false [0, 3, 4] [] [⟨some 10, none, [], .mov (.t 4)⟩,
    ⟨some 11, none, [], .bin .sub (.t 10) (.c (.int .i64 1))⟩,
    ⟨some 4, none, [], .mov (.t 11)⟩]))))))
def b32_0 : XC := c32_0
@[go_sem] theorem e32_0 (L : Lib) (cx : Cx) (env : Env) (h : Heap) : runC L cx b32_0 (env, h) = runC L cx c32_0 (env, h) := rfl

/-- "aircheck/airchecklaw17.back" -/
def x32 : XFn := { np := 1, isOpen := false, ns := 1, res := [.tmp 2], code :=
  (.seq (.reg false [0] [] [⟨some 2, none, [], .mov (.c .nilSl)⟩])
  (.seq (.reg false [0, 3] [] [⟨some 3, none, [], .mov (.c .nilSl)⟩])
  (.seq (.seq (.reg false [0, 3, 4] [] [⟨some 5, none, [], .mov (.t 0)⟩,
    ⟨some 6, none, [], .len false (.t 5)⟩,
    ⟨some 7, none, [], .bin .sub (.t 6) (.c (.int .i64 1))⟩,
    ⟨some 4, none, [], .mov (.t 7)⟩])
  (.blk 0
    (.loop b32_0)))
  (.pre [3] (.seq (.reg false [2] [] [⟨some 19, none, [], .mov (.t 3)⟩,
    ⟨some 2, none, [], .mov (.t 19)⟩])
  (.pre [2] .ret)))))) }

/-- "aircheck/aircheckref17.pick" -/
def x33 : XFn := { np := 2, isOpen := false, ns := 0, res := [.tmp 4], code :=
  (.seq (.reg false [0, 1] [] [⟨some 4, none, [], .mov (.c (.int .i64 0))⟩])
  (.seq (.seq (.reg false [0, 1, 6] [] [⟨some 5, none, [], .mov (.t 0)⟩,
    ⟨some 6, none, [], .bin .lss (.t 5) (.c (.int .i64 0))⟩])
  (.cond (.t 6)
    (.reg false [0, 1] [] [⟨some 7, none, [], .mov (.t 0)⟩,
      ⟨some 8, none, [], .bin .add (.t 7) (.c (.int .i64 1))⟩,
      ⟨some 9, none, [], .un .neg (.t 8)⟩,
      ⟨some 0, none, [], .mov (.t 9)⟩])
    .skip))
  (.pre [0, 1] (.seq (.reg false [4] [] [⟨some 10, none, [], .mov (.t 0)⟩,
    ⟨some 11, none, [], .mov (.t 1)⟩,
    ⟨some 12, none, [], .bin .rem (.t 10) (.t 11)⟩,
    ⟨some 4, none, [], .mov (.t 12)⟩])
  (.pre [4] .ret))))) }

@[go_sem] def c34_0 : XC := (.pre [0, 3, 6, 7, 8]
  (.seq (.reg false [0, 3, 6, 7, 8, 9] [] [⟨some 9, none, [], .bin .lss (.t 8) (.t 7)⟩])
  (.seq (.cond (.t 9)
    .skip
    (.pre [0] (.exit 0)))
  (.pre [0, 3, 6, 7, 8] (.seq (.blk 1
    (.seq (.reg false [0, 3, 5, 6, 7, 8] [] [⟨some 10, none, [], .ixS 2 (.t 6) (.t 8)⟩,
      ⟨some 11, none, [], .load (.agg 2) (.t 10)⟩,
      ⟨some 5, none, [], .alloc 0 [.int .i64 0, .int .i64 0]⟩,
      ⟨none, none, [], .store 2 (.t 5) (.t 11)⟩])
    (.seq (.seq (.reg false [0, 5, 6, 7, 8, 23] [] [⟨some 12, none, [], .padd (.t 5) 0⟩,
      ⟨some 13, none, [], .load .one (.t 12)⟩,
      ⟨some 14, none, [], .mov (.t 3)⟩,
      ⟨some 15, none, [], .bin .add (.t 14) (.c (.int .i64 1))⟩,
      ⟨some 16, none, [], .call (.c (.fn 35 [])) [(.t 13), (.t 15), (.c (.int .i64 599))] []⟩,
      ⟨some 17, none, [], .un .not (.t 16)⟩,
      ⟨some 18, none, [], .mov (.t 17)⟩,
      ⟨some 19, some (18, false), [], .padd (.t 5) 1⟩,
      ⟨some 20, some (18, false), [], .load .one (.t 19)⟩,
      ⟨some 21, some (18, false), [], .call (.c (.fn 35 [])) [(.t 20), (.c (.int .i64 0)), (.c (.int .i64 4096))] []⟩,
      ⟨some 22, some (18, false), [], .un .not (.t 21)⟩,
      ⟨some 23, none, [], .pick (.t 18) (.c (.bool true)) (.t 22)⟩])
    (.cond (.t 23)
      (.seq (.reg false [2] [] [⟨some 2, none, [], .mov (.c (.bool false))⟩])
      (.pre [2] .ret))
      .skip))
    (.pre [0, 5, 6, 7, 8] (.reg false [0, 3, 6, 7, 8] [] [⟨some 24, none, [], .padd (.t 5) 0⟩,
      ⟨some 25, none, [], .load .one (.t 24)⟩,
      ⟨some 3, none, [], .mov (.t 25)⟩])))))
  (.pre [0, 3, 6, 7, 8] (.reg false [0, 3, 6, 7, 8] [] [⟨some 26, none, [], .bin .add (.t 8) (.c (.int .i64 1))⟩,
    ⟨some 8, none, [], .mov (.t 26)⟩])))))))
def b34_0 : XC := c34_0
@[go_sem] theorem e34_0 (L : Lib) (cx : Cx) (env : Env) (h : Heap) : runC L cx b34_0 (env, h) = runC L cx c34_0 (env, h) := rfl

/-- "aircheck/mix.curve" -/
def x34 : XFn := { np := 1, isOpen := false, ns := 1, res := [.tmp 2], code :=
  (.seq (.reg false [0] [] [⟨some 2, none, [], .mov (.c (.bool false))⟩])
  (.seq (.reg false [0, 3] [] [⟨some 3, none, [], .mov (.c (.int .i64 (-1)))⟩])
  (.seq (.seq (.reg false [0, 3, 6, 7, 8] [] [⟨some 6, none, [], .mov (.t 0)⟩,
    ⟨some 7, none, [], .len false (.t 6)⟩,
    ⟨some 8, none, [], .mov (.c (.int .i64 0))⟩])
  (.blk 0
    (.loop b34_0)))
  (.pre [0] (.seq (.reg false [2] [] [⟨some 27, none, [], .mov (.t 0)⟩,
    ⟨some 28, none, [], .len false (.t 27)⟩,
    ⟨some 29, none, [], .bin .leq (.t 28) (.c (.int .i64 12))⟩,
    ⟨some 2, none, [], .mov (.t 29)⟩])
  (.pre [2] .ret)))))) }

/-- "aircheck/mix.between" -/
def x35 : XFn := { np := 3, isOpen := false, ns := 0, res := [.tmp 6], code :=
  (.seq (.reg false [0, 1, 2] [] [⟨some 6, none, [], .mov (.c (.bool false))⟩])
  (.seq (.reg false [6] [] [⟨some 7, none, [], .mov (.t 0)⟩,
    ⟨some 8, none, [], .mov (.t 1)⟩,
    ⟨some 9, none, [], .bin .geq (.t 7) (.t 8)⟩,
    ⟨some 10, none, [], .mov (.t 9)⟩,
    ⟨some 11, some (10, true), [], .mov (.t 0)⟩,
    ⟨some 12, some (10, true), [], .mov (.t 2)⟩,
    ⟨some 13, some (10, true), [], .bin .leq (.t 11) (.t 12)⟩,
    ⟨some 14, none, [], .pick (.t 10) (.t 13) (.c (.bool false))⟩,
    ⟨some 6, none, [], .mov (.t 14)⟩])
  (.pre [6] .ret))) }

/-- "aircheck/mix.gain" -/
def x36 : XFn := { np := 2, isOpen := false, ns := 2, res := [.tmp 4], code :=
  (.seq (.reg false [0, 1] [] [⟨some 4, none, [], .mov (.c (.int .i64 0))⟩])
  (.seq (.seq (.reg false [0, 1, 11] [] [⟨some 9, none, [], .mov (.t 0)⟩,
    ⟨some 10, none, [], .len false (.t 9)⟩,
    ⟨some 11, none, [], .bin .eql (.t 10) (.c (.int .i64 0))⟩])
  (.cond (.t 11)
    (.seq (.reg false [4] [] [⟨some 4, none, [], .mov (.c (.int .i64 1024))⟩])
    (.pre [4] .ret))
    .skip))
  (.pre [0, 1] (.seq (.reg false [0, 1, 5, 6] [] [⟨some 13, none, [], .mov (.t 0)⟩,
    ⟨some 14, none, [], .mov (.t 1)⟩,
    ⟨some 15, none, [], .call (.c (.fn 52 [])) [(.t 13), (.t 14), (.c (.fn 53 []))] []⟩,
    ⟨some 12, none, [], .mov (.t 15)⟩,
    ⟨some 16, none, [], .ext (.t 12) 0⟩,
    ⟨some 17, none, [], .ext (.t 12) 1⟩,
    ⟨some 5, none, [], .mov (.t 16)⟩,
    ⟨some 6, none, [], .mov (.t 17)⟩])
  (.seq (.blk 0
    (.seq (.reg false [0, 1, 5, 18] [] [⟨some 19, none, [], .mov (.t 6)⟩,
      ⟨some 20, none, [], .mov (.t 19)⟩,
      ⟨some 21, some (20, false), [], .mov (.t 5)⟩,
      ⟨some 22, some (20, false), [], .bin .eql (.t 21) (.c (.int .i64 0))⟩,
      ⟨some 23, none, [], .pick (.t 20) (.c (.bool true)) (.t 22)⟩,
      ⟨some 18, none, [], .mov (.t 23)⟩])
    (.cond (.t 18)
      (.seq (.reg false [4] [] [⟨some 24, none, [], .mov (.t 0)⟩,
        ⟨some 25, none, [], .mov (.t 5)⟩,
        ⟨some 26, none, [], .ixS 2 (.t 24) (.t 25)⟩,
        ⟨some 27, none, [], .padd (.t 26) 1⟩,
        ⟨some 28, none, [], .load .one (.t 27)⟩,
        ⟨some 4, none, [], .mov (.t 28)⟩])
      (.pre [4] .ret))
      (.seq (.reg false [0, 1, 5, 29] [] [⟨some 30, none, [], .mov (.t 5)⟩,
        ⟨some 31, none, [], .mov (.t 0)⟩,
        ⟨some 32, none, [], .len false (.t 31)⟩,
        ⟨some 33, none, [], .bin .eql (.t 30) (.t 32)⟩,
        ⟨some 29, none, [], .mov (.t 33)⟩])
      (.cond (.t 29)
        (.seq (.reg false [4] [] [⟨some 34, none, [], .mov (.t 0)⟩,
          ⟨some 35, none, [], .mov (.t 5)⟩,
          ⟨some 36, none, [], .bin .sub (.t 35) (.c (.int .i64 1))⟩,
          ⟨some 37, none, [], .ixS 2 (.t 34) (.t 36)⟩,
          ⟨some 38, none, [], .padd (.t 37) 1⟩,
          ⟨some 39, none, [], .load .one (.t 38)⟩,
          ⟨some 4, none, [], .mov (.t 39)⟩])
        (.pre [4] .ret))
        .skip)))))
  (.pre [0, 1, 5] (.seq (.reg true [1, 7, 8] [0, 1] [⟨some 40, none, [], .mov (.t 0)⟩,
    ⟨some 41, none, [], .mov (.t 5)⟩,
    ⟨some 42, none, [], .bin .sub (.t 41) (.c (.int .i64 1))⟩,
    ⟨some 43, none, [], .ixS 2 (.t 40) (.t 42)⟩,
    ⟨some 44, none, [.elem 43], .load (.agg 2) (.t 43)⟩,
    ⟨some 45, none, [], .mov (.t 0)⟩,
    ⟨some 46, none, [], .mov (.t 5)⟩,
    ⟨some 47, none, [], .ixS 2 (.t 45) (.t 46)⟩,
    ⟨some 48, none, [.elem 47], .load (.agg 2) (.t 47)⟩,
    ⟨some 7, none, [.dead 0], .alloc 0 [.int .i64 0, .int .i64 0]⟩,
    ⟨some 8, none, [.dead 1], .alloc 1 [.int .i64 0, .int .i64 0]⟩,
    ⟨none, none, [.box 7], .store 2 (.t 7) (.t 44)⟩,
    ⟨none, none, [.box 8], .store 2 (.t 8) (.t 48)⟩])
  (.seq (.reg true [4] [] [⟨some 49, none, [], .padd (.t 7) 1⟩,
    ⟨some 50, none, [.box 49], .load .one (.t 49)⟩,
    ⟨some 51, none, [], .padd (.t 8) 1⟩,
    ⟨some 52, none, [.box 51], .load .one (.t 51)⟩,
    ⟨some 53, none, [], .padd (.t 7) 1⟩,
    ⟨some 54, none, [.box 53], .load .one (.t 53)⟩,
    ⟨some 55, none, [], .bin .sub (.t 52) (.t 54)⟩,
    ⟨some 56, none, [], .mov (.t 1)⟩,
    ⟨some 57, none, [], .padd (.t 7) 0⟩,
    ⟨some 58, none, [.box 57], .load .one (.t 57)⟩,
    ⟨some 59, none, [], .bin .sub (.t 56) (.t 58)⟩,
    ⟨some 60, none, [], .bin .mul (.t 55) (.t 59)⟩,
    ⟨some 61, none, [], .padd (.t 8) 0⟩,
    ⟨some 62, none, [.box 61], .load .one (.t 61)⟩,
    ⟨some 63, none, [], .padd (.t 7) 0⟩,
    ⟨some 64, none, [.box 63], .load .one (.t 63)⟩,
    ⟨some 65, none, [], .bin .sub (.t 62) (.t 64)⟩,
    ⟨some 66, none, [], .call (.c (.fn 45 [])) [(.t 60), (.t 65)] []⟩,
    ⟨some 67, none, [], .bin .add (.t 50) (.t 66)⟩,
    ⟨some 4, none, [], .mov (.t 67)⟩])
  (.pre [4] .ret))))))))) }

@[go_sem] def c37_0 : XC := (.pre [0, 3]
  (.seq (.seq (.reg false [0, 3, 7] [] [⟨some 4, none, [], .mov (.t 3)⟩,
    ⟨some 5, none, [], .mov (.t 0)⟩,
    ⟨some 6, none, [], .len false (.t 5)⟩,
    ⟨some 7, none, [], .bin .lss (.t 4) (.t 6)⟩])
  (.cond (.t 7)
    .skip
    (.pre [0] (.exit 0))))
  (.pre [0, 3] (.seq (.blk 1
    (.seq (.reg true [0, 3, 44] [] [⟨some 10, none, [], .mov (.t 0)⟩,
      ⟨some 11, none, [], .mov (.t 3)⟩,
      ⟨some 12, none, [], .ixS 2 (.t 10) (.t 11)⟩,
      ⟨some 13, none, [], .padd (.t 12) 0⟩,
      ⟨some 14, none, [.elem 13], .load .one (.t 13)⟩,
      ⟨some 15, none, [], .call (.c (.fn 38 [])) [(.t 14), (.c (.int .i64 0)), (.c (.int .i64 599))] []⟩,
      ⟨some 16, none, [], .un .not (.t 15)⟩,
      ⟨some 17, none, [], .mov (.t 16)⟩,
      ⟨some 18, some (17, false), [], .mov (.t 0)⟩,
      ⟨some 19, some (17, false), [], .mov (.t 3)⟩,
      ⟨some 20, some (17, false), [], .ixS 2 (.t 18) (.t 19)⟩,
      ⟨some 21, some (17, false), [], .padd (.t 20) 1⟩,
      ⟨some 22, some (17, false), [.elem 21], .load .one (.t 21)⟩,
      ⟨some 23, some (17, false), [], .call (.c (.fn 38 [])) [(.t 22), (.c (.int .i64 0)), (.c (.int .i64 4096))] []⟩,
      ⟨some 24, some (17, false), [], .un .not (.t 23)⟩,
      ⟨some 25, none, [], .pick (.t 17) (.c (.bool true)) (.t 24)⟩,
      ⟨some 26, none, [], .mov (.t 25)⟩,
      ⟨some 27, some (26, false), [], .mov (.t 3)⟩,
      ⟨some 28, some (26, false), [], .bin .gtr (.t 27) (.c (.int .i64 0))⟩,
      ⟨some 29, some (26, false), [], .mov (.t 28)⟩,
      ⟨some 30, some (29, true), [], .mov (.t 0)⟩,
      ⟨some 31, some (29, true), [], .mov (.t 3)⟩,
      ⟨some 32, some (29, true), [], .ixS 2 (.t 30) (.t 31)⟩,
      ⟨some 33, some (29, true), [], .padd (.t 32) 0⟩,
      ⟨some 34, some (29, true), [.elem 33], .load .one (.t 33)⟩,
      ⟨some 35, some (29, true), [], .mov (.t 0)⟩,
      ⟨some 36, some (29, true), [], .mov (.t 3)⟩,
      ⟨some 37, some (29, true), [], .bin .sub (.t 36) (.c (.int .i64 1))⟩,
      ⟨some 38, some (29, true), [], .minmax true [(.t 37), (.c (.int .i64 0))]⟩,
      ⟨some 39, some (29, true), [], .ixS 2 (.t 35) (.t 38)⟩,
      ⟨some 40, some (29, true), [], .padd (.t 39) 0⟩,
      ⟨some 41, some (29, true), [.elem 40], .load .one (.t 40)⟩,
      ⟨some 42, some (29, true), [], .bin .leq (.t 34) (.t 41)⟩,
      ⟨some 43, some (26, false), [], .pick (.t 29) (.t 42) (.c (.bool false))⟩,
      ⟨some 44, none, [], .pick (.t 26) (.c (.bool true)) (.t 43)⟩])
    (.cond (.t 44)
      (.seq (.reg false [2] [] [⟨some 2, none, [], .mov (.c (.bool false))⟩])
      (.pre [2] .ret))
      .skip)))
  (.pre [0, 3] (.reg false [0, 3] [] [⟨some 8, none, [], .mov (.t 3)⟩,
    ⟨some 9, none, [], .bin .add (.t 8) (.c (.int .i64 1))⟩,
    ⟨some 3, none, [], .mov (.t 9)⟩]))))))
def b37_0 : XC := c37_0
@[go_sem] theorem e37_0 (L : Lib) (cx : Cx) (env : Env) (h : Heap) : runC L cx b37_0 (env, h) = runC L cx c37_0 (env, h) := rfl

/-- "aircheck/aircheckref17.Curve" -/
def x37 : XFn := { np := 1, isOpen := false, ns := 0, res := [.tmp 2], code :=
  (.seq (.reg false [0] [] [⟨some 2, none, [], .mov (.c (.bool false))⟩])
  (.seq (.seq (.reg false [0, 3] [] [⟨some 3, none, [], .mov (.c (.int .i64 0))⟩])
  (.blk 0
    (.loop b37_0)))
  (.pre [0] (.seq (.reg false [2] [] [⟨some 45, none, [], .mov (.t 0)⟩,
    ⟨some 46, none, [], .len false (.t 45)⟩,
    ⟨some 47, none, [], .bin .leq (.t 46) (.c (.int .i64 12))⟩,
    ⟨some 2, none, [], .mov (.t 47)⟩])
  (.pre [2] .ret))))) }

/-- "aircheck/aircheckref17.in" -/
def x38 : XFn := { np := 3, isOpen := false, ns := 0, res := [.tmp 6], code :=
  (.seq (.reg false [0, 1, 2] [] [⟨some 6, none, [], .mov (.c (.bool false))⟩])
  (.seq (.reg false [6] [] [⟨some 7, none, [], .mov (.t 0)⟩,
    ⟨some 8, none, [], .mov (.t 1)⟩,
    ⟨some 9, none, [], .bin .geq (.t 7) (.t 8)⟩,
    ⟨some 10, none, [], .mov (.t 9)⟩,
    ⟨some 11, some (10, true), [], .mov (.t 0)⟩,
    ⟨some 12, some (10, true), [], .mov (.t 2)⟩,
    ⟨some 13, some (10, true), [], .bin .leq (.t 11) (.t 12)⟩,
    ⟨some 14, none, [], .pick (.t 10) (.t 13) (.c (.bool false))⟩,
    ⟨some 6, none, [], .mov (.t 14)⟩])
  (.pre [6] .ret))) }

@[go_sem] def c39_0 : XC := (.pre [0, 1, 5]
  (.seq (.seq (.reg false [0, 1, 5, 25] [] [⟨some 21, none, [], .mov (.t 5)⟩,
    ⟨some 22, none, [], .bin .add (.t 21) (.c (.int .i64 1))⟩,
    ⟨some 23, none, [], .mov (.t 0)⟩,
    ⟨some 24, none, [], .len false (.t 23)⟩,
    ⟨some 25, none, [], .bin .lss (.t 22) (.t 24)⟩])
  (.cond (.t 25)
    .skip
    (.pre [0] (.exit 0))))
  (.pre [0, 1, 5] (.seq (.blk 1
    (.seq (.reg false [0, 1, 5, 6] [] [⟨some 28, none, [], .mov (.t 0)⟩,
      ⟨some 29, none, [], .mov (.t 5)⟩,
      ⟨some 30, none, [], .ixS 2 (.t 28) (.t 29)⟩,
      ⟨some 31, none, [], .load (.agg 2) (.t 30)⟩,
      ⟨some 6, none, [], .alloc 1 [.int .i64 0, .int .i64 0]⟩,
      ⟨none, none, [], .store 2 (.t 6) (.t 31)⟩])
    (.seq (.reg false [0, 1, 5, 6, 7] [] [⟨some 32, none, [], .mov (.t 0)⟩,
      ⟨some 33, none, [], .mov (.t 5)⟩,
      ⟨some 34, none, [], .bin .add (.t 33) (.c (.int .i64 1))⟩,
      ⟨some 35, none, [], .ixS 2 (.t 32) (.t 34)⟩,
      ⟨some 36, none, [], .load (.agg 2) (.t 35)⟩,
      ⟨some 7, none, [], .alloc 0 [.int .i64 0, .int .i64 0]⟩,
      ⟨none, none, [], .store 2 (.t 7) (.t 36)⟩])
    (.seq (.reg false [0, 1, 5, 6, 7, 46] [] [⟨some 37, none, [], .mov (.t 1)⟩,
      ⟨some 38, none, [], .padd (.t 6) 0⟩,
      ⟨some 39, none, [], .load .one (.t 38)⟩,
      ⟨some 40, none, [], .bin .geq (.t 37) (.t 39)⟩,
      ⟨some 41, none, [], .mov (.t 40)⟩,
      ⟨some 42, some (41, true), [], .mov (.t 1)⟩,
      ⟨some 43, some (41, true), [], .padd (.t 7) 0⟩,
      ⟨some 44, some (41, true), [], .load .one (.t 43)⟩,
      ⟨some 45, some (41, true), [], .bin .lss (.t 42) (.t 44)⟩,
      ⟨some 46, none, [], .pick (.t 41) (.t 45) (.c (.bool false))⟩])
    (.cond (.t 46)
      (.seq (.reg true [4] [] [⟨some 47, none, [], .padd (.t 6) 1⟩,
        ⟨some 48, none, [.box 47], .load .one (.t 47)⟩,
        ⟨some 49, none, [], .padd (.t 7) 1⟩,
        ⟨some 50, none, [.box 49], .load .one (.t 49)⟩,
        ⟨some 51, none, [], .padd (.t 6) 1⟩,
        ⟨some 52, none, [.box 51], .load .one (.t 51)⟩,
        ⟨some 53, none, [], .bin .sub (.t 50) (.t 52)⟩,
        ⟨some 54, none, [], .mov (.t 1)⟩,
        ⟨some 55, none, [], .padd (.t 6) 0⟩,
        ⟨some 56, none, [.box 55], .load .one (.t 55)⟩,
        ⟨some 57, none, [], .bin .sub (.t 54) (.t 56)⟩,
        ⟨some 58, none, [], .bin .mul (.t 53) (.t 57)⟩,
        ⟨some 59, none, [], .padd (.t 7) 0⟩,
        ⟨some 60, none, [.box 59], .load .one (.t 59)⟩,
        ⟨some 61, none, [], .padd (.t 6) 0⟩,
        ⟨some 62, none, [.box 61], .load .one (.t 61)⟩,
        ⟨some 63, none, [], .bin .sub (.t 60) (.t 62)⟩,
        ⟨some 64, none, [], .call (.c (.fn 46 [])) [(.t 58), (.t 63)] []⟩,
        ⟨some 65, none, [], .bin .add (.t 48) (.t 64)⟩,
        ⟨some 4, none, [], .mov (.t 65)⟩])
      (.pre [4] .ret))
      .skip)))))
  (.pre [0, 1, 5] (.reg false [0, 1, 5] [] [⟨some 26, none, [], .mov (.t 5)⟩,
    ⟨some 27, none, [], .bin .add (.t 26) (.c (.int .i64 1))⟩,
    ⟨some 5, none, [], .mov (.t 27)⟩]))))))
def b39_0 : XC := c39_0
@[go_sem] theorem e39_0 (L : Lib) (cx : Cx) (env : Env) (h : Heap) : runC L cx b39_0 (env, h) = runC L cx c39_0 (env, h) := rfl

/-- "aircheck/aircheckref17.gain" -/
def x39 : XFn := { np := 2, isOpen := false, ns := 2, res := [.tmp 4], code :=
  (.seq (.reg false [0, 1] [] [⟨some 4, none, [], .mov (.c (.int .i64 0))⟩])
  (.seq (.seq (.reg false [0, 1, 10] [] [⟨some 8, none, [], .mov (.t 0)⟩,
    ⟨some 9, none, [], .len false (.t 8)⟩,
    ⟨some 10, none, [], .bin .eql (.t 9) (.c (.int .i64 0))⟩])
  (.cond (.t 10)
    (.seq (.reg false [4] [] [⟨some 4, none, [], .mov (.c (.int .i64 1024))⟩])
    (.pre [4] .ret))
    .skip))
  (.pre [0, 1] (.seq (.seq (.reg false [0, 1, 16] [] [⟨some 11, none, [], .mov (.t 1)⟩,
    ⟨some 12, none, [], .mov (.t 0)⟩,
    ⟨some 13, none, [], .ixS 2 (.t 12) (.c (.int .i64 0))⟩,
    ⟨some 14, none, [], .padd (.t 13) 0⟩,
    ⟨some 15, none, [], .load .one (.t 14)⟩,
    ⟨some 16, none, [], .bin .leq (.t 11) (.t 15)⟩])
  (.cond (.t 16)
    (.seq (.reg false [4] [] [⟨some 17, none, [], .mov (.t 0)⟩,
      ⟨some 18, none, [], .ixS 2 (.t 17) (.c (.int .i64 0))⟩,
      ⟨some 19, none, [], .padd (.t 18) 1⟩,
      ⟨some 20, none, [], .load .one (.t 19)⟩,
      ⟨some 4, none, [], .mov (.t 20)⟩])
    (.pre [4] .ret))
    .skip))
  (.pre [0, 1] (.seq (.seq (.reg false [0, 1, 5] [] [⟨some 5, none, [], .mov (.c (.int .i64 0))⟩])
  (.blk 0
    (.loop b39_0)))
  (.pre [0] (.seq (.reg false [4] [] [⟨some 66, none, [], .mov (.t 0)⟩,
    ⟨some 67, none, [], .mov (.t 0)⟩,
    ⟨some 68, none, [], .len false (.t 67)⟩,
    ⟨some 69, none, [], .bin .sub (.t 68) (.c (.int .i64 1))⟩,
    ⟨some 70, none, [], .ixS 2 (.t 66) (.t 69)⟩,
    ⟨some 71, none, [], .padd (.t 70) 1⟩,
    ⟨some 72, none, [], .load .one (.t 71)⟩,
    ⟨some 4, none, [], .mov (.t 72)⟩])
  (.pre [4] .ret))))))))) }

@[go_sem] def c40_0 : XC := (.pre [0, 1, 2]
  (.seq (.seq (.reg false [0, 1, 2, 10] [] [⟨some 7, none, [], .mov (.t 1)⟩,
    ⟨some 8, none, [], .mov (.t 0)⟩,
    ⟨some 9, none, [], .len false (.t 8)⟩,
    ⟨some 10, none, [], .bin .geq (.t 7) (.t 9)⟩])
  (.cond (.t 10)
    .skip
    (.pre [0, 1, 2] (.exit 0))))
  (.pre [0, 1, 2] (.blk 1
    (.reg false [0, 1, 2] [] [⟨some 11, none, [], .mov (.t 0)⟩,
      ⟨some 12, none, [], .bslice 1 (.int .i64 0) 1 [(0, (.c (.int .i64 0)))]⟩,
      ⟨some 13, none, [], .app 0 1 17592186044416 (.t 11) (.t 12)⟩,
      ⟨some 0, none, [], .mov (.t 13)⟩])))))
def b40_0 : XC := c40_0
@[go_sem] theorem e40_0 (L : Lib) (cx : Cx) (env : Env) (h : Heap) : runC L cx b40_0 (env, h) = runC L cx c40_0 (env, h) := rfl

/-- "aircheck/mix.add[int]" -/
def x40 : XFn := { np := 3, isOpen := true, ns := 1, res := [.tmp 6], code :=
  (.seq (.reg false [0, 1, 2] [] [⟨some 6, none, [], .mov (.c .nilSl)⟩])
  (.seq (.blk 0
    (.loop b40_0))
  (.pre [0, 1, 2] (.seq (.reg false [0] [] [⟨some 14, none, [], .mov (.t 0)⟩,
    ⟨some 15, none, [], .mov (.t 1)⟩,
    ⟨some 16, none, [], .ixS 1 (.t 14) (.t 15)⟩,
    ⟨some 17, none, [], .load .one (.t 16)⟩,
    ⟨some 18, none, [], .mov (.t 2)⟩,
    ⟨some 19, none, [], .bin .add (.t 17) (.t 18)⟩,
    ⟨some 20, none, [], .ixS 1 (.t 14) (.t 15)⟩,
    ⟨none, none, [], .store 1 (.t 20) (.t 19)⟩])
  (.seq (.reg false [6] [] [⟨some 21, none, [], .mov (.t 0)⟩,
    ⟨some 6, none, [], .mov (.t 21)⟩])
  (.pre [6] .ret)))))) }

/-- "aircheck/mix.round" -/
def x41 : XFn := { np := 1, isOpen := false, ns := 0, res := [.tmp 2], code :=
  (.seq (.reg false [0] [] [⟨some 2, none, [], .mov (.c (.int .i64 0))⟩])
  (.seq (.reg false [2] [] [⟨some 3, none, [], .mov (.t 0)⟩,
    ⟨some 4, none, [], .bin .add (.t 3) (.c (.int .i64 512))⟩,
    ⟨some 5, none, [], .call (.c (.fn 45 [])) [(.t 4), (.c (.int .i64 1024))] []⟩,
    ⟨some 6, none, [], .minmax true [(.t 5), (.c (.int .i64 (-32768)))]⟩,
    ⟨some 7, none, [], .minmax false [(.t 6), (.c (.int .i64 32767))]⟩,
    ⟨some 2, none, [], .mov (.t 7)⟩])
  (.pre [2] .ret))) }

/-- "aircheck/aircheckref17.Round" -/
def x42 : XFn := { np := 1, isOpen := false, ns := 0, res := [.tmp 2], code :=
  (.seq (.reg false [0] [] [⟨some 2, none, [], .mov (.c (.int .i64 0))⟩])
  (.seq (.reg false [2] [] [⟨some 3, none, [], .mov (.t 0)⟩,
    ⟨some 4, none, [], .bin .add (.t 3) (.c (.int .i64 512))⟩,
    ⟨some 5, none, [], .call (.c (.fn 46 [])) [(.t 4), (.c (.int .i64 1024))] []⟩,
    ⟨some 6, none, [], .minmax true [(.t 5), (.c (.int .i64 (-32768)))]⟩,
    ⟨some 7, none, [], .minmax false [(.t 6), (.c (.int .i64 32767))]⟩,
    ⟨some 2, none, [], .mov (.t 7)⟩])
  (.pre [2] .ret))) }

/-- "aircheck/mix.sound" -/
def x43 : XFn := { np := 1, isOpen := false, ns := 0, res := [.tmp 2], code :=
  (.seq (.reg false [0] [] [⟨some 2, none, [], .mov (.c (.bool false))⟩])
  (.seq (.reg false [2] [] [⟨some 3, none, [], .mov (.t 0)⟩,
    ⟨some 4, none, [], .len false (.t 3)⟩,
    ⟨some 5, none, [], .bin .leq (.t 4) (.c (.int .i64 600))⟩,
    ⟨some 6, none, [], .mov (.t 5)⟩,
    ⟨some 7, some (6, true), [], .mov (.t 0)⟩,
    ⟨some 8, some (6, true), [], .call (.c (.fn 54 [])) [(.t 7), (.c (.fn 55 []))] []⟩,
    ⟨some 9, some (6, true), [], .un .not (.t 8)⟩,
    ⟨some 10, none, [], .pick (.t 6) (.t 9) (.c (.bool false))⟩,
    ⟨some 2, none, [], .mov (.t 10)⟩])
  (.pre [2] .ret))) }

@[go_sem] def c44_0 : XC := (.pre [0, 3]
  (.seq (.seq (.reg false [0, 3, 7] [] [⟨some 4, none, [], .mov (.t 3)⟩,
    ⟨some 5, none, [], .mov (.t 0)⟩,
    ⟨some 6, none, [], .len false (.t 5)⟩,
    ⟨some 7, none, [], .bin .lss (.t 4) (.t 6)⟩])
  (.cond (.t 7)
    .skip
    (.pre [0] (.exit 0))))
  (.pre [0, 3] (.seq (.blk 1
    (.seq (.reg false [0, 3, 15] [] [⟨some 10, none, [], .mov (.t 0)⟩,
      ⟨some 11, none, [], .mov (.t 3)⟩,
      ⟨some 12, none, [], .ixS 1 (.t 10) (.t 11)⟩,
      ⟨some 13, none, [], .load .one (.t 12)⟩,
      ⟨some 14, none, [], .call (.c (.fn 38 [])) [(.t 13), (.c (.int .i64 (-32768))), (.c (.int .i64 32767))] []⟩,
      ⟨some 15, none, [], .un .not (.t 14)⟩])
    (.cond (.t 15)
      (.seq (.reg false [2] [] [⟨some 2, none, [], .mov (.c (.bool false))⟩])
      (.pre [2] .ret))
      .skip)))
  (.pre [0, 3] (.reg false [0, 3] [] [⟨some 8, none, [], .mov (.t 3)⟩,
    ⟨some 9, none, [], .bin .add (.t 8) (.c (.int .i64 1))⟩,
    ⟨some 3, none, [], .mov (.t 9)⟩]))))))
def b44_0 : XC := c44_0
@[go_sem] theorem e44_0 (L : Lib) (cx : Cx) (env : Env) (h : Heap) : runC L cx b44_0 (env, h) = runC L cx c44_0 (env, h) := rfl

/-- "aircheck/aircheckref17.Sound" -/
def x44 : XFn := { np := 1, isOpen := false, ns := 0, res := [.tmp 2], code :=
  (.seq (.reg false [0] [] [⟨some 2, none, [], .mov (.c (.bool false))⟩])
  (.seq (.seq (.reg false [0, 3] [] [⟨some 3, none, [], .mov (.c (.int .i64 0))⟩])
  (.blk 0
    (.loop b44_0)))
  (.pre [0] (.seq (.reg false [2] [] [⟨some 16, none, [], .mov (.t 0)⟩,
    ⟨some 17, none, [], .len false (.t 16)⟩,
    ⟨some 18, none, [], .bin .leq (.t 17) (.c (.int .i64 600))⟩,
    ⟨some 2, none, [], .mov (.t 18)⟩])
  (.pre [2] .ret))))) }

/-- "aircheck/mix.down" -/
def x45 : XFn := { np := 2, isOpen := false, ns := 0, res := [.tmp 4], code :=
  (.seq (.reg false [0, 1] [] [⟨some 4, none, [], .mov (.c (.int .i64 0))⟩])
  (.seq (.seq (.reg false [0, 1, 6] [] [⟨some 5, none, [], .mov (.t 0)⟩,
    ⟨some 6, none, [], .bin .lss (.t 5) (.c (.int .i64 0))⟩])
  (.cond (.t 6)
    (.seq (.reg false [4] [] [⟨some 7, none, [], .mov (.t 0)⟩,
      ⟨some 8, none, [], .un .neg (.t 7)⟩,
      ⟨some 9, none, [], .mov (.t 1)⟩,
      ⟨some 10, none, [], .bin .add (.t 8) (.t 9)⟩,
      ⟨some 11, none, [], .bin .sub (.t 10) (.c (.int .i64 1))⟩,
      ⟨some 12, none, [], .mov (.t 1)⟩,
      ⟨some 13, none, [], .bin .quo (.t 11) (.t 12)⟩,
      ⟨some 14, none, [], .un .neg (.t 13)⟩,
      ⟨some 4, none, [], .mov (.t 14)⟩])
    (.pre [4] .ret))
    .skip))
  (.pre [0, 1] (.seq (.reg false [4] [] [⟨some 15, none, [], .mov (.t 0)⟩,
    ⟨some 16, none, [], .mov (.t 1)⟩,
    ⟨some 17, none, [], .bin .quo (.t 15) (.t 16)⟩,
    ⟨some 4, none, [], .mov (.t 17)⟩])
  (.pre [4] .ret))))) }

/-- "aircheck/aircheckref17.Down" -/
def x46 : XFn := { np := 2, isOpen := false, ns := 0, res := [.tmp 4], code :=
  (.seq (.reg false [0, 1] [] [⟨some 4, none, [], .mov (.c (.int .i64 0))⟩])
  (.seq (.reg false [0, 1, 5] [] [⟨some 6, none, [], .mov (.t 0)⟩,
    ⟨some 7, none, [], .mov (.t 1)⟩,
    ⟨some 8, none, [], .bin .quo (.t 6) (.t 7)⟩,
    ⟨some 5, none, [], .mov (.t 8)⟩])
  (.seq (.seq (.reg false [5, 12] [] [⟨some 9, none, [], .mov (.t 0)⟩,
    ⟨some 10, none, [], .mov (.t 1)⟩,
    ⟨some 11, none, [], .bin .rem (.t 9) (.t 10)⟩,
    ⟨some 12, none, [], .bin .lss (.t 11) (.c (.int .i64 0))⟩])
  (.cond (.t 12)
    (.reg false [5] [] [⟨some 13, none, [], .mov (.t 5)⟩,
      ⟨some 14, none, [], .bin .sub (.t 13) (.c (.int .i64 1))⟩,
      ⟨some 5, none, [], .mov (.t 14)⟩])
    .skip))
  (.pre [5] (.seq (.reg false [4] [] [⟨some 15, none, [], .mov (.t 5)⟩,
    ⟨some 4, none, [], .mov (.t 15)⟩])
  (.pre [4] .ret)))))) }

/-- "aircheck/mix.Duck$1" -/
def x47 : XFn := { np := 2, isOpen := false, ns := 0, res := [.tmp 3], code :=
  (.seq (.reg false [1, 2] [] [⟨some 2, none, [], .boxR (.t 0)⟩,
    ⟨some 3, none, [], .mov (.c .nilFn)⟩])
  (.seq (.reg false [3] [] [⟨some 4, none, [], .mkfn 48 [(.t 1), (.t 2)]⟩,
    ⟨some 3, none, [], .mov (.t 4)⟩])
  (.pre [3] .ret))) }

/-- "aircheck/mix.Duck$1$1" -/
def x48 : XFn := { np := 3, isOpen := false, ns := 0, res := [.tmp 4], code :=
  (.seq (.reg false [0, 1, 2] [] [⟨some 4, none, [], .mov (.c (.int .i64 0))⟩])
  (.seq (.reg true [4] [] [⟨some 5, none, [.box 1], .load .one (.t 1)⟩,
    ⟨some 6, none, [.box 1], .load .one (.t 1)⟩,
    ⟨some 7, none, [], .bin .sub (.c (.int .i64 1024)) (.t 6)⟩,
    ⟨some 8, none, [], .mov (.t 0)⟩,
    ⟨some 9, none, [.box 2], .load .one (.t 2)⟩,
    ⟨some 10, none, [], .minmax false [(.t 8), (.t 9)]⟩,
    ⟨some 11, none, [], .bin .mul (.t 7) (.t 10)⟩,
    ⟨some 12, none, [.box 2], .load .one (.t 2)⟩,
    ⟨some 13, none, [], .bin .quo (.t 11) (.t 12)⟩,
    ⟨some 14, none, [], .bin .add (.t 5) (.t 13)⟩,
    ⟨some 4, none, [], .mov (.t 14)⟩])
  (.pre [4] .ret))) }

/-- "slices.Backward[[]int,int]" -/
def x49 : XFn := { np := 1, isOpen := false, ns := 0, res := [.tmp 2], code :=
  (.seq (.reg false [1] [] [⟨some 1, none, [], .boxR (.t 0)⟩,
    ⟨some 2, none, [], .mov (.c .nilFn)⟩])
  (.seq (.reg false [2] [] [⟨some 3, none, [], .mkfn 56 [(.t 1)]⟩,
    ⟨some 2, none, [], .mov (.t 3)⟩])
  (.pre [2] .ret))) }

/-- "aircheck/aircheckref17.right" -/
def x50 : XFn := { np := 4, isOpen := false, ns := 0, res := [.tmp 8], code :=
  (.seq (.reg false [0, 1, 2, 3] [] [⟨some 8, none, [], .mov (.c (.bool false))⟩])
  (.seq (.reg false [8] [] [⟨some 9, none, [], .mov (.t 0)⟩,
    ⟨some 10, none, [], .call (.c (.fn 38 [])) [(.t 9), (.c (.int .i64 1)), (.c (.int .i64 32768))] []⟩,
    ⟨some 11, none, [], .mov (.t 10)⟩,
    ⟨some 12, some (11, true), [], .mov (.t 1)⟩,
    ⟨some 13, some (11, true), [], .call (.c (.fn 38 [])) [(.t 12), (.c (.int .i64 0)), (.c (.int .i64 1024))] []⟩,
    ⟨some 14, none, [], .pick (.t 11) (.t 13) (.c (.bool false))⟩,
    ⟨some 15, none, [], .mov (.t 14)⟩,
    ⟨some 16, some (15, true), [], .mov (.t 2)⟩,
    ⟨some 17, some (15, true), [], .call (.c (.fn 38 [])) [(.t 16), (.c (.int .i64 1)), (.c (.int .i64 300))] []⟩,
    ⟨some 18, none, [], .pick (.t 15) (.t 17) (.c (.bool false))⟩,
    ⟨some 19, none, [], .mov (.t 18)⟩,
    ⟨some 20, some (19, true), [], .mov (.t 3)⟩,
    ⟨some 21, some (19, true), [], .call (.c (.fn 38 [])) [(.t 20), (.c (.int .i64 1)), (.c (.int .i64 300))] []⟩,
    ⟨some 22, none, [], .pick (.t 19) (.t 21) (.c (.bool false))⟩,
    ⟨some 8, none, [], .mov (.t 22)⟩])
  (.pre [8] .ret))) }

/-- "aircheck/aircheckref17.On" -/
def x51 : XFn := { np := 3, isOpen := false, ns := 0, res := [.tmp 6], code :=
  (.seq (.reg false [0, 1, 2] [] [⟨some 6, none, [], .mov (.c (.bool false))⟩])
  (.seq (.reg true [6] [] [⟨some 7, none, [], .mov (.t 0)⟩,
    ⟨some 8, none, [], .mov (.t 1)⟩,
    ⟨some 9, none, [], .ixS 1 (.t 7) (.t 8)⟩,
    ⟨some 10, none, [.elem 9], .load .one (.t 9)⟩,
    ⟨some 11, none, [], .mov (.t 0)⟩,
    ⟨some 12, none, [], .mov (.t 1)⟩,
    ⟨some 13, none, [], .ixS 1 (.t 11) (.t 12)⟩,
    ⟨some 14, none, [.elem 13], .load .one (.t 13)⟩,
    ⟨some 15, none, [], .un .neg (.t 14)⟩,
    ⟨some 16, none, [], .minmax true [(.t 10), (.t 15)]⟩,
    ⟨some 17, none, [], .mov (.t 2)⟩,
    ⟨some 18, none, [], .bin .geq (.t 16) (.t 17)⟩,
    ⟨some 6, none, [], .mov (.t 18)⟩])
  (.pre [6] .ret))) }

@[go_sem] def c52_0 : XC := (.pre [0, 1, 2, 8, 9, 10]
  (.seq (.seq (.reg false [0, 1, 2, 8, 9, 10, 17] [] [⟨some 15, none, [], .mov (.t 9)⟩,
    ⟨some 16, none, [], .mov (.t 10)⟩,
    ⟨some 17, none, [], .bin .lss (.t 15) (.t 16)⟩])
  (.cond (.t 17)
    .skip
    (.pre [0, 1, 2, 8, 9] (.exit 0))))
  (.pre [0, 1, 2, 8, 9, 10] (.blk 1
    (.seq (.reg false [0, 1, 2, 8, 9, 10, 11] [] [⟨some 18, none, [], .mov (.t 9)⟩,
      ⟨some 19, none, [], .mov (.t 10)⟩,
      ⟨some 20, none, [], .bin .add (.t 18) (.t 19)⟩,
      ⟨some 21, none, [], .conv .u64 (.t 20)⟩,
      ⟨some 22, none, [], .bin .shr (.t 21) (.c (.int .u64 1))⟩,
      ⟨some 23, none, [], .conv .i64 (.t 22)⟩,
      ⟨some 11, none, [], .mov (.t 23)⟩])
    (.seq (.reg false [0, 1, 2, 8, 9, 10, 11, 31] [] [⟨some 24, none, [], .mov (.t 2)⟩,
      ⟨some 25, none, [], .mov (.t 0)⟩,
      ⟨some 26, none, [], .mov (.t 11)⟩,
      ⟨some 27, none, [], .ixS 2 (.t 25) (.t 26)⟩,
      ⟨some 28, none, [], .load (.agg 2) (.t 27)⟩,
      ⟨some 29, none, [], .mov (.t 1)⟩,
      ⟨some 30, none, [], .call (.t 24) [(.t 28), (.t 29)] []⟩,
      ⟨some 31, none, [], .bin .lss (.t 30) (.c (.int .i64 0))⟩])
    (.cond (.t 31)
      (.reg false [0, 1, 2, 8, 9, 10] [] [⟨some 32, none, [], .mov (.t 11)⟩,
        ⟨some 33, none, [], .bin .add (.t 32) (.c (.int .i64 1))⟩,
        ⟨some 9, none, [], .mov (.t 33)⟩])
      (.reg false [0, 1, 2, 8, 9, 10] [] [⟨some 34, none, [], .mov (.t 11)⟩,
        ⟨some 10, none, [], .mov (.t 34)⟩]))))))))
def b52_0 : XC := c52_0
@[go_sem] theorem e52_0 (L : Lib) (cx : Cx) (env : Env) (h : Heap) : runC L cx b52_0 (env, h) = runC L cx c52_0 (env, h) := rfl

/-- "slices.BinarySearchFunc[[]aircheck/api.Point,aircheck/api.Point,int]" -/
def x52 : XFn := { np := 3, isOpen := false, ns := 0, res := [.tmp 6, .tmp 7], code :=
  (.seq (.reg false [0, 1, 2] [] [⟨some 6, none, [], .mov (.c (.int .i64 0))⟩,
    ⟨some 7, none, [], .mov (.c (.bool false))⟩])
  (.seq (.reg false [0, 1, 2, 8] [] [⟨some 12, none, [], .mov (.t 0)⟩,
    ⟨some 13, none, [], .len false (.t 12)⟩,
    ⟨some 8, none, [], .mov (.t 13)⟩])
  (.seq (.reg false [0, 1, 2, 8, 9, 10] [] [⟨some 14, none, [], .mov (.t 8)⟩,
    ⟨some 9, none, [], .mov (.c (.int .i64 0))⟩,
    ⟨some 10, none, [], .mov (.t 14)⟩])
  (.seq (.blk 0
    (.loop b52_0))
  (.pre [0, 1, 2, 8, 9] (.seq (.reg false [6, 7] [] [⟨some 35, none, [], .mov (.t 9)⟩,
    ⟨some 36, none, [], .mov (.t 9)⟩,
    ⟨some 37, none, [], .mov (.t 8)⟩,
    ⟨some 38, none, [], .bin .lss (.t 36) (.t 37)⟩,
    ⟨some 39, none, [], .mov (.t 38)⟩,
    ⟨some 40, some (39, true), [], .mov (.t 2)⟩,
    ⟨some 41, some (39, true), [], .mov (.t 0)⟩,
    ⟨some 42, some (39, true), [], .mov (.t 9)⟩,
    ⟨some 43, some (39, true), [], .ixS 2 (.t 41) (.t 42)⟩,
    ⟨some 44, some (39, true), [], .load (.agg 2) (.t 43)⟩,
    ⟨some 45, some (39, true), [], .mov (.t 1)⟩,
    ⟨some 46, some (39, true), [], .call (.t 40) [(.t 44), (.t 45)] []⟩,
    ⟨some 47, some (39, true), [], .bin .eql (.t 46) (.c (.int .i64 0))⟩,
    ⟨some 48, none, [], .pick (.t 39) (.t 47) (.c (.bool false))⟩,
    ⟨some 6, none, [], .mov (.t 35)⟩,
    ⟨some 7, none, [], .mov (.t 48)⟩])
  (.pre [6, 7] .ret))))))) }

/-- "aircheck/mix.gain$1" -/
def x53 : XFn := { np := 2, isOpen := false, ns := 0, res := [.tmp 4], code :=
  (.seq (.reg false [1, 2] [] [⟨some 2, none, [], .boxR (.t 0)⟩,
    ⟨some 4, none, [], .mov (.c (.int .i64 0))⟩])
  (.seq (.reg false [4] [] [⟨some 5, none, [], .padd (.t 2) 0⟩,
    ⟨some 6, none, [], .load .one (.t 5)⟩,
    ⟨some 7, none, [], .mov (.t 1)⟩,
    ⟨some 8, none, [], .bin .sub (.t 6) (.t 7)⟩,
    ⟨some 4, none, [], .mov (.t 8)⟩])
  (.pre [4] .ret))) }

/-- "slices.ContainsFunc[[]int,int]" -/
def x54 : XFn := { np := 2, isOpen := false, ns := 0, res := [.tmp 4], code :=
  (.seq (.reg false [0, 1] [] [⟨some 4, none, [], .mov (.c (.bool false))⟩])
  (.seq (.reg false [4] [] [⟨some 5, none, [], .mov (.t 0)⟩,
    ⟨some 6, none, [], .mov (.t 1)⟩,
    ⟨some 7, none, [], .call (.c (.fn 57 [])) [(.t 5), (.t 6)] []⟩,
    ⟨some 8, none, [], .bin .geq (.t 7) (.c (.int .i64 0))⟩,
    ⟨some 4, none, [], .mov (.t 8)⟩])
  (.pre [4] .ret))) }

/-- "aircheck/mix.sound$1" -/
def x55 : XFn := { np := 1, isOpen := false, ns := 0, res := [.tmp 2], code :=
  (.seq (.reg false [0] [] [⟨some 2, none, [], .mov (.c (.bool false))⟩])
  (.seq (.reg false [2] [] [⟨some 3, none, [], .mov (.t 0)⟩,
    ⟨some 4, none, [], .call (.c (.fn 35 [])) [(.t 3), (.c (.int .i64 (-32768))), (.c (.int .i64 32767))] []⟩,
    ⟨some 5, none, [], .un .not (.t 4)⟩,
    ⟨some 2, none, [], .mov (.t 5)⟩])
  (.pre [2] .ret))) }

@[go_sem] def c56_0 : XC := (.pre [0, 1, 3]
  (.seq (.seq (.reg false [0, 1, 3, 8] [] [⟨some 7, none, [], .mov (.t 3)⟩,
    ⟨some 8, none, [], .bin .geq (.t 7) (.c (.int .i64 0))⟩])
  (.cond (.t 8)
    .skip
    (.pre [] (.exit 0))))
  (.pre [0, 1, 3] (.seq (.blk 1
    (.seq (.reg false [0, 1, 3, 18] [] [⟨some 11, none, [], .mov (.t 0)⟩,
      ⟨some 12, none, [], .mov (.t 3)⟩,
      ⟨some 13, none, [], .load .one (.t 1)⟩,
      ⟨some 14, none, [], .mov (.t 3)⟩,
      ⟨some 15, none, [], .ixS 1 (.t 13) (.t 14)⟩,
      ⟨some 16, none, [], .load .one (.t 15)⟩,
      ⟨some 17, none, [], .call (.t 11) [(.t 12), (.t 16)] []⟩,
      ⟨some 18, none, [], .un .not (.t 17)⟩])
    (.cond (.t 18)
      (.pre [] .ret)
      .skip)))
  (.pre [0, 1, 3] (.reg false [0, 1, 3] [] [⟨some 9, none, [], .mov (.t 3)⟩,
    ⟨some 10, none, [], .bin .sub (.t 9) (.c (.int .i64 1))⟩,
    ⟨some 3, none, [], .mov (.t 10)⟩]))))))
def b56_0 : XC := c56_0
@[go_sem] theorem e56_0 (L : Lib) (cx : Cx) (env : Env) (h : Heap) : runC L cx b56_0 (env, h) = runC L cx c56_0 (env, h) := rfl

/-- "slices.Backward[[]int,int]$1" -/
def x56 : XFn := { np := 2, isOpen := true, ns := 0, res := [], code :=
  (.seq (.reg false [0, 1, 3] [] [⟨some 4, none, [], .load .one (.t 1)⟩,
    ⟨some 5, none, [], .len false (.t 4)⟩,
    ⟨some 6, none, [], .bin .sub (.t 5) (.c (.int .i64 1))⟩,
    ⟨some 3, none, [], .mov (.t 6)⟩])
  (.blk 0
    (.loop b56_0))) }

@[go_sem] def c57_0 : XC := (.pre [0, 1, 7, 8]
  (.seq (.reg false [0, 1, 7, 8, 9] [] [⟨some 9, none, [], .bin .lss (.t 8) (.t 7)⟩])
  (.seq (.cond (.t 9)
    .skip
    (.pre [] (.exit 0)))
  (.pre [0, 1, 7, 8] (.seq (.blk 1
    (.seq (.reg false [0, 1, 5, 7, 8] [] [⟨some 10, none, [], .mov (.t 8)⟩,
      ⟨some 5, none, [], .mov (.t 10)⟩])
    (.seq (.reg false [0, 1, 5, 7, 8, 16] [] [⟨some 11, none, [], .mov (.t 1)⟩,
      ⟨some 12, none, [], .mov (.t 0)⟩,
      ⟨some 13, none, [], .mov (.t 5)⟩,
      ⟨some 14, none, [], .ixS 1 (.t 12) (.t 13)⟩,
      ⟨some 15, none, [], .load .one (.t 14)⟩,
      ⟨some 16, none, [], .call (.t 11) [(.t 15)] []⟩])
    (.cond (.t 16)
      (.seq (.reg false [4] [] [⟨some 17, none, [], .mov (.t 5)⟩,
        ⟨some 4, none, [], .mov (.t 17)⟩])
      (.pre [4] .ret))
      .skip))))
  (.pre [0, 1, 7, 8] (.reg false [0, 1, 7, 8] [] [⟨some 18, none, [], .bin .add (.t 8) (.c (.int .i64 1))⟩,
    ⟨some 8, none, [], .mov (.t 18)⟩])))))))
def b57_0 : XC := c57_0
@[go_sem] theorem e57_0 (L : Lib) (cx : Cx) (env : Env) (h : Heap) : runC L cx b57_0 (env, h) = runC L cx c57_0 (env, h) := rfl

/-- "slices.IndexFunc[[]int,int]" -/
def x57 : XFn := { np := 2, isOpen := false, ns := 0, res := [.tmp 4], code :=
  (.seq (.reg false [0, 1] [] [⟨some 4, none, [], .mov (.c (.int .i64 0))⟩])
  (.seq (.seq (.reg false [0, 1, 7, 8] [] [⟨some 6, none, [], .mov (.t 0)⟩,
    ⟨some 7, none, [], .len false (.t 6)⟩,
    ⟨some 8, none, [], .mov (.c (.int .i64 0))⟩])
  (.blk 0
    (.loop b57_0)))
  (.pre [] (.seq (.reg false [4] [] [⟨some 4, none, [], .mov (.c (.int .i64 (-1)))⟩])
  (.pre [4] .ret))))) }

def rdT : List (Option XRnd) := [some r0]
def rds (g : Nat) : Option XRnd := (rdT[g]?).getD none
def fnT : List (Option XFn) := [none, none, some x2, some x3, some x4, some x5, some x6, some x7, some x8, some x9, some x10, some x11, some x12, some x13, some x14, some x15, some x16, some x17, some x18, some x19, some x20, some x21, some x22, some x23, some x24, some x25, some x26, some x27, some x28, some x29, some x30, some x31, some x32, some x33, some x34, some x35, some x36, some x37, some x38, some x39, some x40, some x41, some x42, some x43, some x44, some x45, some x46, some x47, some x48, some x49, some x50, some x51, some x52, some x53, some x54, some x55, some x56, some x57]
def fns (f : Nat) : Option XFn := (fnT[f]?).getD none
def clo (f : Nat) : Bool := [2, 3, 4, 5, 6, 7, 8, 9, 10, 11, 12, 13, 14, 15, 16, 17, 18, 19, 20, 21, 22, 23, 24, 25, 26, 27, 28, 29, 30, 31, 32, 33, 34, 35, 36, 37, 38, 39, 41, 42, 43, 44, 45, 46, 47, 48, 49, 50, 51, 52, 53, 54, 55, 57].contains f

def lib : Lib := { fns := fns, rds := rds, orc := fun _ _ _ => none, brw := fun f => ([27] : List Nat).contains f }
end Go.VI.Mix
