/- the functions of rational for the own evaluator -/
import Derived.Test.YtaadgpncmiaccaaGreatDoorVSO
set_option linter.unusedVariables false
set_option linter.unusedSimpArgs false
namespace Go.VI.Rational
@[go_sem] abbrev oo (d : Nat) (x : XI) : XOp := ⟨some d, none, [], x⟩
@[go_sem] abbrev om (d s : Nat) : XOp := ⟨some d, none, [], .mov (.t s)⟩
@[go_sem] abbrev og (d g : Nat) (b : Bool) (x : XI) : XOp := ⟨some d, some (g, b), [], x⟩
@[go_sem] abbrev sr (k : List Nat) (o : List XOp) (r : XC) : XC := .seq (.reg false k [] o) r
def g1 : List AV := [(.int .u64 1), (.int .u64 10), (.int .u64 100), (.int .u64 1000), (.int .u64 10000), (.int .u64 100000), (.int .u64 1000000), (.int .u64 10000000), (.int .u64 100000000), (.int .u64 1000000000), (.int .u64 10000000000), (.int .u64 100000000000), (.int .u64 1000000000000), (.int .u64 10000000000000), (.int .u64 100000000000000), (.int .u64 1000000000000000), (.int .u64 10000000000000000), (.int .u64 100000000000000000), (.int .u64 1000000000000000000), (.int .u64 10000000000000000000)]
def g3 : List AV := [(.int .u8 128), (.int .u8 191), (.int .u8 160), (.int .u8 191), (.int .u8 128), (.int .u8 159), (.int .u8 144), (.int .u8 191), (.int .u8 128), (.int .u8 143), (.int .u8 0), (.int .u8 0), (.int .u8 0), (.int .u8 0), (.int .u8 0), (.int .u8 0), (.int .u8 0), (.int .u8 0), (.int .u8 0), (.int .u8 0), (.int .u8 0), (.int .u8 0), (.int .u8 0), (.int .u8 0), (.int .u8 0), (.int .u8 0), (.int .u8 0), (.int .u8 0), (.int .u8 0), (.int .u8 0), (.int .u8 0), (.int .u8 0)]
def g6 : List AV := [(.int .u8 0), (.int .u8 1), (.int .u8 28), (.int .u8 2), (.int .u8 29), (.int .u8 14), (.int .u8 24), (.int .u8 3), (.int .u8 30), (.int .u8 22), (.int .u8 20), (.int .u8 15), (.int .u8 25), (.int .u8 17), (.int .u8 4), (.int .u8 8), (.int .u8 31), (.int .u8 27), (.int .u8 13), (.int .u8 23), (.int .u8 21), (.int .u8 19), (.int .u8 16), (.int .u8 7), (.int .u8 26), (.int .u8 12), (.int .u8 18), (.int .u8 6), (.int .u8 11), (.int .u8 5), (.int .u8 10), (.int .u8 9)]
def g7 : List AV := [(.int .u8 0), (.int .u8 1), (.int .u8 56), (.int .u8 2), (.int .u8 57), (.int .u8 49), (.int .u8 28), (.int .u8 3), (.int .u8 61), (.int .u8 58), (.int .u8 42), (.int .u8 50), (.int .u8 38), (.int .u8 29), (.int .u8 17), (.int .u8 4), (.int .u8 62), (.int .u8 47), (.int .u8 59), (.int .u8 36), (.int .u8 45), (.int .u8 43), (.int .u8 51), (.int .u8 22), (.int .u8 53), (.int .u8 39), (.int .u8 33), (.int .u8 30), (.int .u8 24), (.int .u8 18), (.int .u8 12), (.int .u8 5), (.int .u8 63), (.int .u8 55), (.int .u8 48), (.int .u8 27), (.int .u8 60), (.int .u8 41), (.int .u8 37), (.int .u8 16), (.int .u8 46), (.int .u8 35), (.int .u8 44), (.int .u8 21), (.int .u8 52), (.int .u8 32), (.int .u8 23), (.int .u8 11), (.int .u8 54), (.int .u8 26), (.int .u8 40), (.int .u8 15), (.int .u8 34), (.int .u8 20), (.int .u8 31), (.int .u8 10), (.int .u8 25), (.int .u8 14), (.int .u8 19), (.int .u8 9), (.int .u8 13), (.int .u8 8), (.int .u8 7), (.int .u8 6)]
@[go_sem] def c3_0 : XC := (.pre [11,94,95,96]
 (sr [11,94,95,96,97] [oo 97 (.bin .lss (.t 96) (.t 95))]
  (.seq (.cond (.t 97)
  .skip
  (.pre [11] (.exit 2)))
  (.pre [11,94,95,96] (.seq (.blk 3
  (sr [11,21,94,95,96] [oo 98 (.ixS 1 (.t 94) (.t 96)),
oo 99 (.load .one (.t 98)),
om 21 99]
  (sr [11,21,22,23,94,95,96] [om 101 21,
oo 102 (.call (.c (.fn 15 [])) [(.t 101)] []),
om 100 102,
oo 103 (.ext (.t 100) 0),
oo 104 (.ext (.t 100) 1),
oo 22 (.alloc 1 [.str [], .str []]),
⟨none,none,[],.store 2 (.t 22) (.t 103)⟩,
om 23 104]
  (sr [11,21,22,23,24,25,94,95,96] [om 106 21,
oo 107 (.call (.c (.fn 19 [])) [(.t 106)] []),
om 105 107,
oo 108 (.ext (.t 105) 0),
oo 109 (.ext (.t 105) 1),
oo 24 (.alloc 0 [.str [], .str []]),
⟨none,none,[],.store 2 (.t 24) (.t 108)⟩,
om 25 109]
  (sr [11,94,95,96,127] [oo 110 (.load (.agg 2) (.t 22)),
oo 111 (.load (.agg 2) (.t 24)),
oo 112 (.eqv true [.s, .s] (.t 110) (.t 111)),
om 113 112,
og 114 113 false (.mov (.t 23)),
og 115 113 false (.mov (.t 25)),
og 116 113 false (.bin .neq (.t 114) (.t 115)),
oo 117 (.pick (.t 113) (.c (.bool true)) (.t 116)),
om 118 117,
og 119 118 false (.mov (.t 23)),
og 120 118 false (.bin .eql (.t 119) (.c (.int .i64 0))),
og 121 118 false (.mov (.t 120)),
og 122 121 true (.load (.agg 2) (.t 22)),
og 123 121 true (.call (.c (.fn 14 [])) [(.t 122)] []),
og 124 121 true (.mov (.t 21)),
og 125 121 true (.bin .neq (.t 123) (.t 124)),
og 126 118 false (.pick (.t 121) (.t 125) (.c (.bool false))),
oo 127 (.pick (.t 118) (.c (.bool true)) (.t 126))]
  (.cond (.t 127)
  (sr [10] [oo 10 (.mov (.c (.bool false)))]
  (.pre [10] .ret))
  .skip))))))
  (.pre [11,94,95,96] (.reg false [11,94,95,96] [] [oo 128 (.bin .add (.t 96) (.c (.int .i64 1))),
om 96 128])))))))
def b3_0 : XC := c3_0
@[go_sem] theorem e3_0 (L : Lib) (cx : Cx) (env : Env) (h : Heap) : runC L cx b3_0 (env, h) = runC L cx c3_0 (env, h) := rfl
@[go_sem] def c3_1 : XC := (.pre [2,3,4,11,12,32,33,34]
 (sr [2,3,4,11,12,32,33,34,35] [oo 35 (.bin .lss (.t 34) (.t 33))]
  (.seq (.cond (.t 35)
  .skip
  (.pre [2,3,4,11,12] (.exit 0)))
  (.pre [2,3,4,11,12,32,33,34] (.seq (.blk 1
  (sr [2,3,4,11,12,14,32,33,34] [oo 36 (.ixS 2 (.t 32) (.t 34)),
oo 37 (.load (.agg 2) (.t 36)),
oo 14 (.alloc 3 [.str [], .str []]),
⟨none,none,[],.store 2 (.t 14) (.t 37)⟩]
  (sr [2,3,4,11,12,14,15,32,33,34] [oo 38 (.load (.agg 2) (.t 14)),
oo 39 (.call (.c (.fn 14 [])) [(.t 38)] []),
om 15 39]
  (sr [2,3,4,11,12,14,15,16,17,32,33,34] [om 41 15,
oo 42 (.call (.c (.fn 15 [])) [(.t 41)] []),
om 40 42,
oo 43 (.ext (.t 40) 0),
oo 44 (.ext (.t 40) 1),
oo 16 (.alloc 2 [.str [], .str []]),
⟨none,none,[],.store 2 (.t 16) (.t 43)⟩,
om 17 44]
  (sr [2,3,4,11,12,32,33,34,67] [om 45 15,
oo 46 (.load (.agg 2) (.t 14)),
oo 47 (.call (.c (.fn 16 [])) [(.t 46)] []),
oo 48 (.bin .neq (.t 45) (.t 47)),
om 49 48,
og 50 49 false (.load (.agg 2) (.t 14)),
og 51 49 false (.call (.c (.fn 17 [])) [(.t 50)] []),
og 52 49 false (.mov (.t 17)),
og 53 49 false (.bin .eql (.t 52) (.c (.int .i64 0))),
og 54 49 false (.mov (.t 53)),
og 55 54 true (.load (.agg 2) (.t 16)),
og 56 54 true (.load (.agg 2) (.t 14)),
og 57 54 true (.eqv false [.s, .s] (.t 55) (.t 56)),
og 58 49 false (.pick (.t 54) (.t 57) (.c (.bool false))),
og 59 49 false (.eqv true [] (.t 51) (.t 58)),
oo 60 (.pick (.t 49) (.c (.bool true)) (.t 59)),
om 61 60,
og 62 61 false (.mov (.t 15)),
og 63 61 false (.bin .eql (.t 62) (.c (.str []))),
og 64 61 false (.load (.agg 2) (.t 14)),
og 65 61 false (.call (.c (.fn 17 [])) [(.t 64)] []),
og 66 61 false (.eqv false [] (.t 63) (.t 65)),
oo 67 (.pick (.t 61) (.c (.bool true)) (.t 66))]
  (.cond (.t 67)
  (sr [10] [oo 10 (.mov (.c (.bool false)))]
  (.pre [10] .ret))
  .skip))))))
  (.pre [2,3,4,11,12,32,33,34] (.reg false [2,3,4,11,12,32,33,34] [] [oo 68 (.bin .add (.t 34) (.c (.int .i64 1))),
om 34 68])))))))
def b3_1 : XC := c3_1
@[go_sem] theorem e3_1 (L : Lib) (cx : Cx) (env : Env) (h : Heap) : runC L cx b3_1 (env, h) = runC L cx c3_1 (env, h) := rfl
def x3 : XFn := { np := 5, isOpen := false, ns := 5, res := [.tmp 10], code :=
 (sr [2,3,4,5,6] [oo 5 (.boxR (.t 0)),
oo 6 (.boxR (.t 1)),
oo 10 (.mov (.c (.bool false)))]
  (sr [2,3,4,5,6,11] [oo 26 (.call (.c (.fn 11 [])) [] []),
om 11 26]
  (sr [2,3,4,5,11,12] [oo 27 (.load (.agg 4) (.t 6)),
oo 28 (.call (.c (.fn 12 [])) [(.t 27)] []),
oo 12 (.alloc 4 [.str [], .str []]),
⟨none,none,[],.store 2 (.t 12) (.t 28)⟩]
  (.seq (.seq (.reg true [2,3,4,11,12,32,33,34] [] [⟨some 29,none,[.box 5], .load (.agg 2) (.t 5)⟩,
oo 30 (.call (.c (.fn 13 [])) [(.t 29)] []),
⟨some 31,none,[.box 12], .load (.agg 2) (.t 12)⟩,
⟨some 32,none,[.closed 30, .closed 31], .bslice 2 (.agg [.str [], .str []]) 2 [(0, (.t 30)), (1, (.t 31))]⟩,
oo 33 (.len false (.t 32)),
oo 34 (.mov (.c (.int .i64 0)))])
  (.blk 0
  (.loop b3_1)))
  (.pre [2,3,4,11,12] (sr [2,3,4,11,18] [oo 69 (.load (.agg 2) (.t 12)),
oo 70 (.call (.c (.fn 16 [])) [(.t 69)] []),
om 18 70]
  (.seq (sr [2,3,4,11,18,72] [om 71 18,
oo 72 (.bin .eql (.t 71) (.c (.str [])))]
  (.cond (.t 72)
  (sr [10] [oo 10 (.mov (.c (.bool false)))]
  (.pre [10] .ret))
  .skip))
  (.pre [2,3,4,11,18] (sr [3,4,11,18,19] [om 73 2,
om 74 18,
oo 75 (.len true (.t 74)),
oo 76 (.call (.c (.fn 18 [])) [(.t 73), (.t 75)] []),
om 19 76]
  (.seq (.seq (.reg true [11,94,95,96] [] [om 77 4,
om 78 4,
oo 79 (.len true (.t 78)),
oo 80 (.minmax false [(.t 79), (.c (.int .i64 420))]),
oo 81 (.slice none (.t 77) none (some (.t 80))),
om 82 18,
om 83 19,
oo 84 (.slice none (.t 82) none (some (.t 83))),
om 85 3,
⟨some 86,none,[.closed 85], .bslice 1 (.int .u8 0) 1 [(0, (.t 85))]⟩,
oo 87 (.toStr (.t 86)),
oo 88 (.bin .add (.t 84) (.t 87)),
om 89 18,
om 90 19,
oo 91 (.bin .add (.t 90) (.c (.int .i64 1))),
oo 92 (.slice none (.t 89) (some (.t 91)) none),
oo 93 (.bin .add (.t 88) (.t 92)),
⟨some 94,none,[.closed 81, .closed 93], .bslice 1 (.str []) 2 [(0, (.t 81)), (1, (.t 93))]⟩,
oo 95 (.len false (.t 94)),
oo 96 (.mov (.c (.int .i64 0)))])
  (.blk 2
  (.loop b3_0)))
  (.pre [11] (sr [10] [om 129 11,
om 10 129]
  (.pre [10] .ret))))))))))))) }
@[go_sem] def c5_0 : XC := (.pre [0,1,5,6,8,9]
 (.seq (sr [0,1,5,6,8,9,35] [om 33 9,
om 34 1,
oo 35 (.bin .lss (.t 33) (.t 34))]
  (.cond (.t 35)
  .skip
  (.pre [0,1,5,6,8] (.exit 2))))
  (.pre [0,1,5,6,8,9] (.seq (.blk 3
  (.reg false [0,1,5,6,8,9] [] [om 38 8,
oo 39 (.bin .add (.t 38) (.c (.str [48]))),
om 8 39]))
  (.pre [0,1,5,6,8,9] (.reg false [0,1,5,6,8,9] [] [om 36 9,
oo 37 (.bin .add (.t 36) (.c (.int .i64 1))),
om 9 37]))))))
def b5_0 : XC := c5_0
@[go_sem] theorem e5_0 (L : Lib) (cx : Cx) (env : Env) (h : Heap) : runC L cx b5_0 (env, h) = runC L cx c5_0 (env, h) := rfl
@[go_sem] def c5_1 : XC := (.pre [0,1,5,6,7]
 (.seq (sr [0,1,5,6,7,28] [om 26 7,
om 27 0,
oo 28 (.bin .lss (.t 26) (.t 27))]
  (.cond (.t 28)
  .skip
  (.pre [0,1,5,6] (.exit 0))))
  (.pre [0,1,5,6,7] (.seq (.blk 1
  (.reg false [0,1,5,6,7] [] [om 31 6,
oo 32 (.bin .add (.t 31) (.c (.str [48]))),
om 6 32]))
  (.pre [0,1,5,6,7] (.reg false [0,1,5,6,7] [] [om 29 7,
oo 30 (.bin .add (.t 29) (.c (.int .i64 1))),
om 7 30]))))))
def b5_1 : XC := c5_1
@[go_sem] theorem e5_1 (L : Lib) (cx : Cx) (env : Env) (h : Heap) : runC L cx b5_1 (env, h) = runC L cx c5_1 (env, h) := rfl
def x5 : XFn := { np := 2, isOpen := false, ns := 5, res := [.tmp 4], code :=
 (sr [0,1] [oo 4 (.mov (.c (.bool false)))]
  (sr [0,1,5] [oo 21 (.call (.c (.fn 11 [])) [] []),
om 5 21]
  (sr [0,1,5] [om 22 0,
oo 23 (.call (.c (.fn 18 [])) [(.t 22), (.c (.int .i64 200))] []),
om 0 23]
  (sr [0,1,5] [om 24 1,
oo 25 (.call (.c (.fn 18 [])) [(.t 24), (.c (.int .i64 200))] []),
om 1 25]
  (sr [0,1,5,6] [oo 6 (.mov (.c (.str [49])))]
  (.seq (sr [0,1,5,6,7] [oo 7 (.mov (.c (.int .i64 0)))]
  (.blk 0
  (.loop b5_1)))
  (.pre [0,1,5,6] (sr [0,1,5,6,8] [oo 8 (.mov (.c (.str [49])))]
  (.seq (sr [0,1,5,6,8,9] [oo 9 (.mov (.c (.int .i64 0)))]
  (.blk 2
  (.loop b5_0)))
  (.pre [0,1,5,6,8] (sr [0,1,5,8,10] [om 40 6,
oo 41 (.call (.c (.fn 24 [])) [(.t 40), (.c (.str [49]))] []),
oo 10 (.alloc 4 [.str [], .str []]),
⟨none,none,[],.store 2 (.t 10) (.t 41)⟩]
  (sr [0,1,5,10,11] [om 42 8,
oo 43 (.call (.c (.fn 24 [])) [(.t 42), (.c (.str [49]))] []),
oo 11 (.alloc 3 [.str [], .str []]),
⟨none,none,[],.store 2 (.t 11) (.t 43)⟩]
  (sr [0,1,5,10,11,12,13] [oo 45 (.load (.agg 2) (.t 10)),
oo 46 (.load (.agg 2) (.t 11)),
oo 47 (.call (.c (.fn 25 [])) [(.t 45), (.t 46)] []),
om 44 47,
oo 48 (.ext (.t 44) 0),
oo 49 (.ext (.t 44) 1),
oo 12 (.alloc 2 [.str [], .str []]),
⟨none,none,[],.store 2 (.t 12) (.t 48)⟩,
om 13 49]
  (.seq (.reg true [0,1,5,10,11,12,13,14,15] [1] [oo 51 (.call (.c (.fn 24 [])) [(.c (.str [49])), (.c (.str [49]))] []),
⟨some 52,none,[.box 11], .load (.agg 2) (.t 11)⟩,
oo 53 (.call (.c (.fn 26 [])) [(.t 51), (.t 52)] []),
om 50 53,
oo 54 (.ext (.t 50) 0),
oo 55 (.ext (.t 50) 1),
⟨some 14,none,[.dead 1], .alloc 1 [.str [], .str []]⟩,
⟨none,none,[.box 14], .store 2 (.t 14) (.t 54)⟩,
om 15 55])
  (sr [0,1,5,10,11,12,13,14,15,17] [oo 57 (.load (.agg 2) (.t 10)),
oo 58 (.load (.agg 2) (.t 14)),
oo 59 (.call (.c (.fn 27 [])) [(.t 57), (.t 58)] []),
om 56 59,
oo 60 (.ext (.t 56) 0),
oo 61 (.ext (.t 56) 1),
oo 16 (.alloc 0 [.str [], .str []]),
⟨none,none,[],.store 2 (.t 16) (.t 60)⟩,
om 17 61]
  (sr [0,1,5,10,11,12,13,14,15,17,18] [om 62 0,
om 63 1,
oo 64 (.bin .add (.t 62) (.t 63)),
oo 65 (.bin .add (.t 64) (.c (.int .i64 1))),
oo 66 (.bin .leq (.t 65) (.c (.int .i64 200))),
om 18 66]
  (.seq (sr [0,1,5,10,11,14,93] [om 67 13,
oo 68 (.bin .eql (.t 67) (.c (.int .i64 0))),
om 69 18,
oo 70 (.eqv true [] (.t 68) (.t 69)),
om 71 70,
og 72 71 false (.mov (.t 13)),
og 73 71 false (.bin .neq (.t 72) (.c (.int .i64 0))),
og 74 71 false (.mov (.t 73)),
og 75 74 true (.mov (.t 13)),
og 76 74 true (.bin .neq (.t 75) (.c (.int .i64 40))),
og 77 74 true (.mov (.t 76)),
og 78 77 false (.load (.agg 2) (.t 12)),
og 79 77 false (.build [.str [], .str []] []),
og 80 77 false (.eqv true [.s, .s] (.t 78) (.t 79)),
og 81 74 true (.pick (.t 77) (.c (.bool true)) (.t 80)),
og 82 71 false (.pick (.t 74) (.t 81) (.c (.bool false))),
oo 83 (.pick (.t 71) (.c (.bool true)) (.t 82)),
om 84 83,
og 85 84 false (.mov (.t 15)),
og 86 84 false (.bin .neq (.t 85) (.c (.int .i64 0))),
oo 87 (.pick (.t 84) (.c (.bool true)) (.t 86)),
om 88 87,
og 89 88 false (.mov (.t 17)),
og 90 88 false (.bin .eql (.t 89) (.c (.int .i64 0))),
og 91 88 false (.mov (.t 18)),
og 92 88 false (.eqv true [] (.t 90) (.t 91)),
oo 93 (.pick (.t 88) (.c (.bool true)) (.t 92))]
  (.cond (.t 93)
  (sr [4] [oo 4 (.mov (.c (.bool false)))]
  (.pre [4] .ret))
  .skip))
  (.pre [0,1,5,10,11,14] (sr [0,1,5,10,11,14,19] [oo 19 (.mov (.c (.int .i64 0)))]
  (.seq (sr [0,1,5,10,11,14,19,96] [om 94 0,
om 95 1,
oo 96 (.bin .lss (.t 94) (.t 95))]
  (.cond (.t 96)
  (.reg false [0,1,5,10,11,14,19] [] [oo 19 (.mov (.c (.int .i64 (-1))))])
  (sr [0,1,5,10,11,14,19,99] [om 97 0,
om 98 1,
oo 99 (.bin .gtr (.t 97) (.t 98))]
  (.cond (.t 99)
  (.reg false [0,1,5,10,11,14,19] [] [oo 19 (.mov (.c (.int .i64 1)))])
  .skip))))
  (.pre [0,1,5,10,11,14,19] (sr [0,1,5,10,11,14,19,20] [oo 20 (.mov (.c (.int .i64 1)))]
  (.seq (sr [5,10,11,14,19,20,105] [om 100 0,
oo 101 (.bin .eql (.t 100) (.c (.int .i64 0))),
om 102 101,
og 103 102 true (.mov (.t 1)),
og 104 102 true (.bin .eql (.t 103) (.c (.int .i64 0))),
oo 105 (.pick (.t 102) (.t 104) (.c (.bool false)))]
  (.cond (.t 105)
  (.reg false [5,10,11,14,19,20] [] [oo 20 (.mov (.c (.int .i64 0)))])
  .skip))
  (.pre [5,10,11,14,19,20] (sr [4] [om 106 5,
om 107 106,
og 108 107 true (.load (.agg 2) (.t 10)),
og 109 107 true (.load (.agg 2) (.t 11)),
og 110 107 true (.call (.c (.fn 23 [])) [(.t 108), (.t 109)] []),
og 111 107 true (.mov (.t 19)),
og 112 107 true (.bin .eql (.t 110) (.t 111)),
oo 113 (.pick (.t 107) (.t 112) (.c (.bool false))),
om 114 113,
og 115 114 true (.load (.agg 2) (.t 10)),
og 116 114 true (.load (.agg 2) (.t 14)),
og 117 114 true (.call (.c (.fn 23 [])) [(.t 115), (.t 116)] []),
og 118 114 true (.mov (.t 20)),
og 119 114 true (.bin .eql (.t 117) (.t 118)),
oo 120 (.pick (.t 114) (.t 119) (.c (.bool false))),
om 4 120]
  (.pre [4] .ret)))))))))))))))))))))))))) }
def x11 : XFn := { np := 0, isOpen := false, ns := 10, res := [.tmp 0], code :=
 (sr [] [oo 0 (.mov (.c (.bool false)))]
  (sr [1,2] [oo 23 (.call (.c (.fn 41 [])) [(.c (.int .i64 6)), (.c (.int .i64 (-4)))] []),
om 22 23,
oo 24 (.ext (.t 22) 0),
oo 25 (.ext (.t 22) 1),
oo 1 (.alloc 9 [.str [], .str []]),
⟨none,none,[],.store 2 (.t 1) (.t 24)⟩,
om 2 25]
  (sr [1,2,3,4] [oo 27 (.call (.c (.fn 41 [])) [(.c (.int .i64 0)), (.c (.int .i64 (-5)))] []),
om 26 27,
oo 28 (.ext (.t 26) 0),
oo 29 (.ext (.t 26) 1),
oo 3 (.alloc 8 [.str [], .str []]),
⟨none,none,[],.store 2 (.t 3) (.t 28)⟩,
om 4 29]
  (sr [1,2,3,4,6] [oo 31 (.call (.c (.fn 41 [])) [(.c (.int .i64 1)), (.c (.int .i64 0))] []),
om 30 31,
oo 32 (.ext (.t 30) 0),
oo 33 (.ext (.t 30) 1),
oo 5 (.alloc 7 [.str [], .str []]),
⟨none,none,[],.store 2 (.t 5) (.t 32)⟩,
om 6 33]
  (sr [1,2,3,4,6,7,8] [oo 35 (.call (.c (.fn 24 [])) [(.c (.str [49])), (.c (.str [50]))] []),
oo 36 (.call (.c (.fn 24 [])) [(.c (.str [49])), (.c (.str [51]))] []),
oo 37 (.call (.c (.fn 27 [])) [(.t 35), (.t 36)] []),
om 34 37,
oo 38 (.ext (.t 34) 0),
oo 39 (.ext (.t 34) 1),
oo 7 (.alloc 6 [.str [], .str []]),
⟨none,none,[],.store 2 (.t 7) (.t 38)⟩,
om 8 39]
  (sr [1,2,3,4,6,7,8,9,10] [oo 41 (.call (.c (.fn 24 [])) [(.c (.str [49])), (.c (.str [50]))] []),
oo 42 (.call (.c (.fn 24 [])) [(.c (.str [45,49])), (.c (.str [52]))] []),
oo 43 (.call (.c (.fn 26 [])) [(.t 41), (.t 42)] []),
om 40 43,
oo 44 (.ext (.t 40) 0),
oo 45 (.ext (.t 40) 1),
oo 9 (.alloc 5 [.str [], .str []]),
⟨none,none,[],.store 2 (.t 9) (.t 44)⟩,
om 10 45]
  (.seq (.reg true [1,2,3,4,6,7,8,9,10,12] [4] [oo 47 (.call (.c (.fn 24 [])) [(.c (.str [49])), (.c (.str [49]))] []),
⟨some 48,none,[.box 3], .load (.agg 2) (.t 3)⟩,
oo 49 (.call (.c (.fn 26 [])) [(.t 47), (.t 48)] []),
om 46 49,
oo 50 (.ext (.t 46) 0),
oo 51 (.ext (.t 46) 1),
⟨some 11,none,[.dead 4], .alloc 4 [.str [], .str []]⟩,
⟨none,none,[.box 11], .store 2 (.t 11) (.t 50)⟩,
om 12 51])
  (sr [1,2,3,4,6,7,8,9,10,12,13,14] [oo 53 (.call (.c (.fn 24 [])) [(.c (.str [45,49])), (.c (.str [51]))] []),
oo 54 (.call (.c (.fn 35 [])) [(.t 53), (.c (.int .i64 2))] []),
om 52 54,
oo 55 (.ext (.t 52) 0),
oo 56 (.ext (.t 52) 1),
oo 13 (.alloc 3 [.str [], .str []]),
⟨none,none,[],.store 2 (.t 13) (.t 55)⟩,
om 14 56]
  (sr [1,2,3,4,6,7,8,9,10,12,13,14,15,16] [oo 58 (.call (.c (.fn 24 [])) [(.c (.str [49])), (.c (.str [51]))] []),
oo 59 (.call (.c (.fn 37 [])) [(.t 58), (.c (.int .i64 2))] []),
om 57 59,
oo 60 (.ext (.t 57) 0),
oo 61 (.ext (.t 57) 1),
oo 15 (.alloc 2 [.str [], .str []]),
⟨none,none,[],.store 2 (.t 15) (.t 60)⟩,
om 16 61]
  (sr [1,2,3,4,6,7,8,9,10,12,13,14,15,16,17,18] [oo 63 (.call (.c (.fn 15 [])) [(.c (.str [45,51,47,50]))] []),
om 62 63,
oo 64 (.ext (.t 62) 0),
oo 65 (.ext (.t 62) 1),
oo 17 (.alloc 1 [.str [], .str []]),
⟨none,none,[],.store 2 (.t 17) (.t 64)⟩,
om 18 65]
  (sr [1,2,3,4,6,7,8,9,10,12,13,14,15,16,17,18,20] [oo 67 (.call (.c (.fn 15 [])) [(.c (.str [54,47,52]))] []),
om 66 67,
oo 68 (.ext (.t 66) 0),
oo 69 (.ext (.t 66) 1),
oo 19 (.alloc 0 [.str [], .str []]),
⟨none,none,[],.store 2 (.t 19) (.t 68)⟩,
om 20 69]
  (sr [1,3,7,9,13,15,17,21] [om 70 2,
oo 71 (.bin .eql (.t 70) (.c (.int .i64 0))),
om 72 71,
og 73 72 true (.mov (.t 4)),
og 74 72 true (.bin .eql (.t 73) (.c (.int .i64 0))),
oo 75 (.pick (.t 72) (.t 74) (.c (.bool false))),
om 76 75,
og 77 76 true (.mov (.t 6)),
og 78 76 true (.bin .eql (.t 77) (.c (.int .i64 40))),
oo 79 (.pick (.t 76) (.t 78) (.c (.bool false))),
om 80 79,
og 81 80 true (.mov (.t 8)),
og 82 80 true (.bin .eql (.t 81) (.c (.int .i64 0))),
oo 83 (.pick (.t 80) (.t 82) (.c (.bool false))),
om 84 83,
og 85 84 true (.mov (.t 10)),
og 86 84 true (.bin .eql (.t 85) (.c (.int .i64 0))),
oo 87 (.pick (.t 84) (.t 86) (.c (.bool false))),
om 88 87,
og 89 88 true (.mov (.t 12)),
og 90 88 true (.bin .eql (.t 89) (.c (.int .i64 40))),
oo 91 (.pick (.t 88) (.t 90) (.c (.bool false))),
om 92 91,
og 93 92 true (.mov (.t 14)),
og 94 92 true (.bin .eql (.t 93) (.c (.int .i64 0))),
oo 95 (.pick (.t 92) (.t 94) (.c (.bool false))),
om 96 95,
og 97 96 true (.mov (.t 16)),
og 98 96 true (.bin .eql (.t 97) (.c (.int .i64 0))),
oo 99 (.pick (.t 96) (.t 98) (.c (.bool false))),
om 100 99,
og 101 100 true (.mov (.t 18)),
og 102 100 true (.bin .eql (.t 101) (.c (.int .i64 0))),
oo 103 (.pick (.t 100) (.t 102) (.c (.bool false))),
om 104 103,
og 105 104 true (.mov (.t 20)),
og 106 104 true (.bin .eql (.t 105) (.c (.int .i64 40))),
oo 107 (.pick (.t 104) (.t 106) (.c (.bool false))),
om 21 107]
  (.seq (.reg true [0] [] [om 108 21,
om 109 108,
⟨some 110, some (109, true), [.box 1], .load (.agg 2) (.t 1)⟩,
og 111 109 true (.call (.c (.fn 24 [])) [(.c (.str [45,51])), (.c (.str [50]))] []),
og 112 109 true (.eqv false [.s, .s] (.t 110) (.t 111)),
oo 113 (.pick (.t 109) (.t 112) (.c (.bool false))),
om 114 113,
⟨some 115, some (114, true), [.box 3], .load (.agg 2) (.t 3)⟩,
og 116 114 true (.call (.c (.fn 24 [])) [(.c (.str [48])), (.c (.str [49]))] []),
og 117 114 true (.eqv false [.s, .s] (.t 115) (.t 116)),
oo 118 (.pick (.t 114) (.t 117) (.c (.bool false))),
om 119 118,
⟨some 120, some (119, true), [.box 7], .load (.agg 2) (.t 7)⟩,
og 121 119 true (.call (.c (.fn 24 [])) [(.c (.str [53])), (.c (.str [54]))] []),
og 122 119 true (.eqv false [.s, .s] (.t 120) (.t 121)),
oo 123 (.pick (.t 119) (.t 122) (.c (.bool false))),
om 124 123,
⟨some 125, some (124, true), [.box 9], .load (.agg 2) (.t 9)⟩,
og 126 124 true (.call (.c (.fn 24 [])) [(.c (.str [45,50])), (.c (.str [49]))] []),
og 127 124 true (.eqv false [.s, .s] (.t 125) (.t 126)),
oo 128 (.pick (.t 124) (.t 127) (.c (.bool false))),
om 129 128,
⟨some 130, some (129, true), [.box 13], .load (.agg 2) (.t 13)⟩,
og 131 129 true (.call (.c (.fn 24 [])) [(.c (.str [45,49,55])), (.c (.str [53,48]))] []),
og 132 129 true (.eqv false [.s, .s] (.t 130) (.t 131)),
oo 133 (.pick (.t 129) (.t 132) (.c (.bool false))),
om 134 133,
⟨some 135, some (134, true), [.box 15], .load (.agg 2) (.t 15)⟩,
og 136 134 true (.call (.c (.fn 24 [])) [(.c (.str [49,55])), (.c (.str [53,48]))] []),
og 137 134 true (.eqv false [.s, .s] (.t 135) (.t 136)),
oo 138 (.pick (.t 134) (.t 137) (.c (.bool false))),
om 139 138,
⟨some 140, some (139, true), [.box 17], .load (.agg 2) (.t 17)⟩,
⟨some 141, some (139, true), [.box 1], .load (.agg 2) (.t 1)⟩,
og 142 139 true (.eqv false [.s, .s] (.t 140) (.t 141)),
oo 143 (.pick (.t 139) (.t 142) (.c (.bool false))),
om 144 143,
⟨some 145, some (144, true), [.box 1], .load (.agg 2) (.t 1)⟩,
og 146 144 true (.call (.c (.fn 14 [])) [(.t 145)] []),
og 147 144 true (.bin .eql (.t 146) (.c (.str [45,51,47,50]))),
oo 148 (.pick (.t 144) (.t 147) (.c (.bool false))),
om 149 148,
og 150 149 true (.call (.c (.fn 24 [])) [(.c (.str [49])), (.c (.str [51]))] []),
og 151 149 true (.call (.c (.fn 24 [])) [(.c (.str [51,51,51,51,51])), (.c (.str [49,48,48,48,48,48]))] []),
og 152 149 true (.call (.c (.fn 23 [])) [(.t 150), (.t 151)] []),
og 153 149 true (.bin .eql (.t 152) (.c (.int .i64 1))),
oo 154 (.pick (.t 149) (.t 153) (.c (.bool false))),
om 155 154,
⟨some 156, some (155, true), [.box 1], .load (.agg 2) (.t 1)⟩,
og 157 155 true (.call (.c (.fn 17 [])) [(.t 156)] []),
oo 158 (.pick (.t 155) (.t 157) (.c (.bool false))),
om 159 158,
og 160 159 true (.build [.str [], .str []] []),
og 161 159 true (.call (.c (.fn 17 [])) [(.t 160)] []),
og 162 159 true (.un .not (.t 161)),
oo 163 (.pick (.t 159) (.t 162) (.c (.bool false))),
om 0 163])
  (.pre [0] .ret)))))))))))))) }
@[go_sem] def c12_1 : XC := (.pre [1,2,3,4,6]
 (.seq (sr [1,2,3,4,6,50] [om 43 6,
oo 44 (.len true (.t 43)),
oo 45 (.bin .gtr (.t 44) (.c (.int .i64 1))),
om 46 45,
og 47 46 true (.mov (.t 6)),
og 48 46 true (.ixStr (.t 47) (.c (.int .i64 0))),
og 49 46 true (.bin .eql (.t 48) (.c (.int .u8 48))),
oo 50 (.pick (.t 46) (.t 49) (.c (.bool false)))]
  (.cond (.t 50)
  .skip
  (.pre [1,2,3,4,6] (.exit 4))))
  (.pre [1,2,3,4,6] (.blk 5
  (.reg false [1,2,3,4,6] [] [om 51 6,
oo 52 (.slice none (.t 51) (some (.c (.int .i64 1))) none),
om 6 52])))))
def b12_1 : XC := c12_1
@[go_sem] theorem e12_1 (L : Lib) (cx : Cx) (env : Env) (h : Heap) : runC L cx b12_1 (env, h) = runC L cx c12_1 (env, h) := rfl
@[go_sem] def c12_2 : XC := (.pre [1,2,3,4,5,6,7]
 (.seq (sr [1,2,3,4,5,6,7,29] [om 26 6,
oo 27 (.len true (.t 26)),
om 28 5,
oo 29 (.bin .lss (.t 27) (.t 28))]
  (.cond (.t 29)
  .skip
  (.pre [1,2,3,4,6] (.exit 2))))
  (.pre [1,2,3,4,5,6,7] (.blk 3
  (sr [1,2,3,4,5,6,7] [om 30 7,
oo 31 (.bin .mul (.t 30) (.c (.int .i64 48271))),
oo 32 (.bin .add (.t 31) (.c (.int .i64 11))),
oo 33 (.bin .rem (.t 32) (.c (.int .i64 2147483647))),
om 7 33]
  (.reg false [1,2,3,4,5,6,7] [] [om 34 6,
om 35 7,
oo 36 (.bin .quo (.t 35) (.c (.int .i64 65536))),
oo 37 (.bin .rem (.t 36) (.c (.int .i64 10))),
oo 38 (.bin .add (.c (.int .i64 48)) (.t 37)),
oo 39 (.conv .u8 (.t 38)),
oo 40 (.bslice 1 (.int .u8 0) 1 [(0, (.t 39))]),
oo 41 (.toStr (.t 40)),
oo 42 (.bin .add (.t 34) (.t 41)),
om 6 42]))))))
def b12_2 : XC := c12_2
@[go_sem] theorem e12_2 (L : Lib) (cx : Cx) (env : Env) (h : Heap) : runC L cx b12_2 (env, h) = runC L cx c12_2 (env, h) := rfl
@[go_sem] def c12_0 : XC := (.pre [1,2,3,4]
 (.seq (sr [1,2,3,4,11] [om 10 4,
oo 11 (.bin .lss (.t 10) (.c (.int .i64 2)))]
  (.cond (.t 11)
  .skip
  (.pre [1,2,3] (.exit 0))))
  (.pre [1,2,3,4] (.seq (.blk 1
  (sr [1,2,3,4,5] [om 14 4,
oo 15 (.bin .mul (.c (.int .i64 2)) (.t 14)),
oo 16 (.bin .add (.t 15) (.c (.int .i64 1))),
oo 17 (.ixA 4 1 (.t 1) (.t 16)),
oo 18 (.load .one (.t 17)),
oo 19 (.call (.c (.fn 46 [])) [(.t 18), (.c (.int .i64 100))] []),
oo 20 (.bin .add (.c (.int .i64 1)) (.t 19)),
om 5 20]
  (sr [1,2,3,4,5,6] [oo 6 (.mov (.c (.str [])))]
  (sr [1,2,3,4,5,6,7] [om 21 4,
oo 22 (.bin .mul (.c (.int .i64 2)) (.t 21)),
oo 23 (.ixA 4 1 (.t 1) (.t 22)),
oo 24 (.load .one (.t 23)),
oo 25 (.call (.c (.fn 46 [])) [(.t 24), (.c (.int .i64 1000000007))] []),
om 7 25]
  (.seq (.blk 2
  (.loop b12_2))
  (.pre [1,2,3,4,6] (.seq (.blk 4
  (.loop b12_1))
  (.pre [1,2,3,4,6] (.reg false [1,2,3,4] [] [om 53 4,
om 54 6,
oo 55 (.ixA 2 1 (.t 3) (.t 53)),
⟨none,none,[],.store 1 (.t 55) (.t 54)⟩])))))))))
  (.pre [1,2,3,4] (.reg false [1,2,3,4] [] [om 12 4,
oo 13 (.bin .add (.t 12) (.c (.int .i64 1))),
om 4 13]))))))
def b12_0 : XC := c12_0
@[go_sem] theorem e12_0 (L : Lib) (cx : Cx) (env : Env) (h : Heap) : runC L cx b12_0 (env, h) = runC L cx c12_0 (env, h) := rfl
def x12 : XFn := { np := 1, isOpen := false, ns := 3, res := [.cell 2 (.agg 2)], code :=
 (sr [1,2] [oo 1 (.boxR (.t 0)),
oo 2 (.alloc 2 [.str [], .str []])]
  (sr [1,2,3] [oo 3 (.alloc 1 [.str [], .str []])]
  (.seq (sr [1,2,3,4] [oo 4 (.mov (.c (.int .i64 0)))]
  (.blk 0
  (.loop b12_0)))
  (.pre [1,2,3] (.seq (sr [1,2,3,58] [oo 56 (.ixA 2 1 (.t 3) (.c (.int .i64 1))),
oo 57 (.load .one (.t 56)),
oo 58 (.bin .eql (.t 57) (.c (.str [48])))]
  (.cond (.t 58)
  (.reg false [1,2,3] [] [oo 59 (.ixA 2 1 (.t 3) (.c (.int .i64 1))),
⟨none,none,[],.store 1 (.t 59) (.c (.str [55]))⟩])
  .skip))
  (.pre [1,2,3] (.seq (sr [2,3,68] [oo 60 (.ixA 4 1 (.t 1) (.c (.int .i64 0))),
oo 61 (.load .one (.t 60)),
oo 62 (.call (.c (.fn 46 [])) [(.t 61), (.c (.int .i64 2))] []),
oo 63 (.bin .eql (.t 62) (.c (.int .i64 0))),
om 64 63,
og 65 64 true (.ixA 2 1 (.t 3) (.c (.int .i64 0))),
og 66 64 true (.load .one (.t 65)),
og 67 64 true (.bin .neq (.t 66) (.c (.str [48]))),
oo 68 (.pick (.t 64) (.t 67) (.c (.bool false)))]
  (.cond (.t 68)
  (.reg false [2,3] [] [oo 69 (.ixA 2 1 (.t 3) (.c (.int .i64 0))),
oo 70 (.load .one (.t 69)),
oo 71 (.bin .add (.c (.str [45])) (.t 70)),
oo 72 (.ixA 2 1 (.t 3) (.c (.int .i64 0))),
⟨none,none,[],.store 1 (.t 72) (.t 71)⟩])
  .skip))
  (.pre [2,3] (sr [2,8] [oo 74 (.ixA 2 1 (.t 3) (.c (.int .i64 0))),
oo 75 (.load .one (.t 74)),
oo 76 (.ixA 2 1 (.t 3) (.c (.int .i64 1))),
oo 77 (.load .one (.t 76)),
oo 78 (.call (.c (.fn 39 [])) [(.t 75), (.t 77)] []),
om 73 78,
oo 79 (.ext (.t 73) 0),
oo 80 (.ext (.t 73) 1),
oo 8 (.alloc 0 [.str [], .str []]),
⟨none,none,[],.store 2 (.t 8) (.t 79)⟩,
om 9 80]
  (sr [2] [oo 81 (.load (.agg 2) (.t 8)),
⟨none,none,[],.store 2 (.t 2) (.t 81)⟩]
  (.pre [2] .ret))))))))))) }
def x13 : XFn := { np := 1, isOpen := false, ns := 1, res := [.cell 2 (.agg 2)], code :=
 (sr [1,2] [oo 1 (.boxR (.t 0)),
oo 2 (.alloc 0 [.str [], .str []])]
  (.seq (.reg true [2] [] [oo 3 (.padd (.t 1) 0),
⟨some 4,none,[.box 3], .load .one (.t 3)⟩,
oo 5 (.padd (.t 1) 0),
⟨some 6,none,[.box 5], .load .one (.t 5)⟩,
oo 7 (.len true (.t 6)),
oo 8 (.minmax false [(.t 7), (.c (.int .i64 210))]),
oo 9 (.slice none (.t 4) none (some (.t 8))),
oo 10 (.padd (.t 1) 1),
⟨some 11,none,[.box 10], .load .one (.t 10)⟩,
oo 12 (.padd (.t 1) 1),
⟨some 13,none,[.box 12], .load .one (.t 12)⟩,
oo 14 (.len true (.t 13)),
oo 15 (.minmax false [(.t 14), (.c (.int .i64 210))]),
oo 16 (.slice none (.t 11) none (some (.t 15))),
oo 17 (.build [.str [], .str []] [(0, 1, (.t 9)), (1, 1, (.t 16))]),
⟨none,none,[.box 2], .store 2 (.t 2) (.t 17)⟩])
  (.pre [2] .ret))) }
def x14 : XFn := { np := 1, isOpen := false, ns := 0, res := [.tmp 2], code :=
 (sr [1] [oo 1 (.boxR (.t 0)),
oo 2 (.mov (.c (.str [])))]
  (.seq (.blk 0
  (sr [1,3] [oo 4 (.load (.agg 2) (.t 1)),
oo 5 (.call (.c (.fn 17 [])) [(.t 4)] []),
oo 6 (.un .not (.t 5)),
om 3 6]
  (.cond (.t 3)
  (sr [2] [oo 2 (.mov (.c (.str [])))]
  (.pre [2] .ret))
  (sr [1,7] [oo 8 (.padd (.t 1) 1),
oo 9 (.load .one (.t 8)),
oo 10 (.bin .eql (.t 9) (.c (.str [49]))),
om 7 10]
  (.cond (.t 7)
  (sr [2] [oo 11 (.padd (.t 1) 0),
oo 12 (.load .one (.t 11)),
om 2 12]
  (.pre [2] .ret))
  .skip)))))
  (.pre [1] (sr [2] [oo 13 (.padd (.t 1) 0),
oo 14 (.load .one (.t 13)),
oo 15 (.padd (.t 1) 1),
oo 16 (.load .one (.t 15)),
oo 17 (.bslice 1 (.str []) 2 [(0, (.t 14)), (1, (.t 16))]),
oo 18 (.call (.c (.fn 47 [])) [(.t 17), (.c (.str [47]))] []),
om 2 18]
  (.pre [2] .ret))))) }
def x15 : XFn := { np := 1, isOpen := false, ns := 2, res := [.cell 2 (.agg 2), .tmp 3], code :=
 (sr [0,2] [oo 2 (.alloc 1 [.str [], .str []]),
oo 3 (.mov (.c (.int .i64 0)))]
  (sr [0,2,4] [oo 8 (.build [.str [], .str []] [(1, 1, (.c (.str [49])))]),
oo 4 (.alloc 0 [.str [], .str []]),
⟨none,none,[],.store 2 (.t 4) (.t 8)⟩]
  (sr [0,2,4,5,6,7] [om 10 0,
oo 11 (.call (.c (.fn 48 [])) [(.t 10), (.c (.str [47]))] []),
om 9 11,
oo 12 (.ext (.t 9) 0),
oo 13 (.ext (.t 9) 1),
oo 14 (.ext (.t 9) 2),
om 5 12,
om 6 13,
om 7 14]
  (.seq (sr [0,2,4,6,7] [om 15 5,
oo 16 (.padd (.t 4) 0),
⟨none,none,[],.store 1 (.t 16) (.t 15)⟩]
  (sr [0,2,4,6,17] [om 17 7]
  (.cond (.t 17)
  (.reg false [0,2,4] [] [om 18 6,
oo 19 (.padd (.t 4) 1),
⟨none,none,[],.store 1 (.t 19) (.t 18)⟩])
  .skip)))
  (.pre [0,2,4] (.seq (sr [2,4,27] [oo 20 (.load (.agg 2) (.t 4)),
oo 21 (.call (.c (.fn 14 [])) [(.t 20)] []),
om 22 0,
oo 23 (.bin .neq (.t 21) (.t 22)),
om 24 23,
og 25 24 false (.mov (.t 0)),
og 26 24 false (.bin .eql (.t 25) (.c (.str []))),
oo 27 (.pick (.t 24) (.c (.bool true)) (.t 26))]
  (.cond (.t 27)
  (sr [2,3] [oo 28 (.build [.str [], .str []] []),
⟨none,none,[],.store 2 (.t 2) (.t 28)⟩,
oo 3 (.mov (.c (.int .i64 40)))]
  (.pre [2,3] .ret))
  .skip))
  (.pre [2,4] (sr [2,3] [oo 29 (.load (.agg 2) (.t 4)),
⟨none,none,[],.store 2 (.t 2) (.t 29)⟩,
oo 3 (.mov (.c (.int .i64 0)))]
  (.pre [2,3] .ret))))))))) }
def x16 : XFn := { np := 1, isOpen := false, ns := 0, res := [.tmp 2], code :=
 (sr [1] [oo 1 (.boxR (.t 0)),
oo 2 (.mov (.c (.str [])))]
  (sr [1,3] [oo 4 (.load (.agg 2) (.t 1)),
oo 5 (.call (.c (.fn 40 [])) [(.t 4)] []),
om 3 5]
  (.seq (sr [1,7] [om 6 3,
oo 7 (.un .not (.t 6))]
  (.cond (.t 7)
  (sr [2] [oo 2 (.mov (.c (.str [])))]
  (.pre [2] .ret))
  .skip))
  (.pre [1] (.seq (sr [1,10] [oo 8 (.padd (.t 1) 1),
oo 9 (.load .one (.t 8)),
oo 10 (.bin .eql (.t 9) (.c (.str [49])))]
  (.cond (.t 10)
  (sr [2] [oo 11 (.padd (.t 1) 0),
oo 12 (.load .one (.t 11)),
om 2 12]
  (.pre [2] .ret))
  .skip))
  (.pre [1] (sr [2] [oo 13 (.padd (.t 1) 0),
oo 14 (.load .one (.t 13)),
oo 15 (.bin .add (.t 14) (.c (.str [47]))),
oo 16 (.padd (.t 1) 1),
oo 17 (.load .one (.t 16)),
oo 18 (.bin .add (.t 15) (.t 17)),
om 2 18]
  (.pre [2] .ret)))))))) }
def x17 : XFn := { np := 1, isOpen := false, ns := 0, res := [.tmp 2], code :=
 (sr [1] [oo 1 (.boxR (.t 0)),
oo 2 (.mov (.c (.bool false)))]
  (.seq (sr [1,20] [oo 5 (.padd (.t 1) 0),
oo 6 (.load .one (.t 5)),
oo 7 (.call (.c (.fn 49 [])) [(.t 6)] []),
oo 8 (.un .not (.t 7)),
om 9 8,
og 10 9 false (.padd (.t 1) 1),
og 11 9 false (.load .one (.t 10)),
og 12 9 false (.call (.c (.fn 49 [])) [(.t 11)] []),
og 13 9 false (.un .not (.t 12)),
oo 14 (.pick (.t 9) (.c (.bool true)) (.t 13)),
om 15 14,
og 16 15 false (.padd (.t 1) 1),
og 17 15 false (.load .one (.t 16)),
og 18 15 false (.call (.c (.fn 50 [])) [(.t 17), (.c (.str [48]))] []),
og 19 15 false (.bin .leq (.t 18) (.c (.int .i64 0))),
oo 20 (.pick (.t 15) (.c (.bool true)) (.t 19))]
  (.cond (.t 20)
  (sr [2] [oo 2 (.mov (.c (.bool false)))]
  (.pre [2] .ret))
  .skip))
  (.pre [1] (sr [3,4] [oo 22 (.padd (.t 1) 0),
oo 23 (.load .one (.t 22)),
oo 24 (.padd (.t 1) 1),
oo 25 (.load .one (.t 24)),
oo 26 (.call (.c (.fn 51 [])) [(.t 23), (.t 25)] []),
om 21 26,
oo 27 (.ext (.t 21) 0),
oo 28 (.ext (.t 21) 1),
om 3 27,
om 4 28]
  (sr [2] [om 29 4,
oo 30 (.bin .eql (.t 29) (.c (.int .i64 0))),
om 31 30,
og 32 31 true (.mov (.t 3)),
og 33 31 true (.bin .eql (.t 32) (.c (.str [49]))),
oo 34 (.pick (.t 31) (.t 33) (.c (.bool false))),
om 2 34]
  (.pre [2] .ret)))))) }
def x18 : XFn := { np := 2, isOpen := false, ns := 0, res := [.tmp 4], code :=
 (sr [0,1] [oo 4 (.mov (.c (.int .i64 0)))]
  (.seq (sr [0,1,6] [om 5 0,
oo 6 (.bin .lss (.t 5) (.c (.int .i64 0)))]
  (.cond (.t 6)
  (.reg false [0,1] [] [om 7 0,
oo 8 (.bin .add (.t 7) (.c (.int .i64 1))),
oo 9 (.un .neg (.t 8)),
om 0 9])
  .skip))
  (.pre [0,1] (sr [4] [om 10 0,
om 11 1,
oo 12 (.bin .rem (.t 10) (.t 11)),
om 4 12]
  (.pre [4] .ret))))) }
@[go_sem] def c19_0 : XC := (.pre [0,2,4,5]
 (.seq (sr [0,2,4,5,12] [om 9 5,
om 10 0,
oo 11 (.len true (.t 10)),
oo 12 (.bin .lss (.t 9) (.t 11))]
  (.cond (.t 12)
  .skip
  (.pre [0,2,4] (.exit 0))))
  (.pre [0,2,4,5] (.seq (.blk 1
  (sr [0,2,4,5,18] [om 15 0,
om 16 5,
oo 17 (.ixStr (.t 15) (.t 16)),
oo 18 (.bin .eql (.t 17) (.c (.int .u8 47)))]
  (.cond (.t 18)
  (.seq (.reg true [0,2,4] [] [om 19 0,
om 20 5,
oo 21 (.slice none (.t 19) none (some (.t 20))),
om 22 0,
om 23 5,
oo 24 (.bin .add (.t 23) (.c (.int .i64 1))),
oo 25 (.slice none (.t 22) (some (.t 24)) none),
oo 26 (.build [.str [], .str []] [(0, 1, (.t 21)), (1, 1, (.t 25))]),
⟨none,none,[.box 4], .store 2 (.t 4) (.t 26)⟩])
  (.pre [0,2,4] (.exit 0)))
  .skip)))
  (.pre [0,2,4,5] (.reg false [0,2,4,5] [] [om 13 5,
oo 14 (.bin .add (.t 13) (.c (.int .i64 1))),
om 5 14]))))))
def b19_0 : XC := c19_0
@[go_sem] theorem e19_0 (L : Lib) (cx : Cx) (env : Env) (h : Heap) : runC L cx b19_0 (env, h) = runC L cx c19_0 (env, h) := rfl
def x19 : XFn := { np := 1, isOpen := false, ns := 2, res := [.cell 2 (.agg 2), .tmp 3], code :=
 (sr [0,2] [oo 2 (.alloc 1 [.str [], .str []]),
oo 3 (.mov (.c (.int .i64 0)))]
  (sr [0,2,4] [om 7 0,
oo 8 (.build [.str [], .str []] [(0, 1, (.t 7)), (1, 1, (.c (.str [49])))]),
oo 4 (.alloc 0 [.str [], .str []]),
⟨none,none,[],.store 2 (.t 4) (.t 8)⟩]
  (.seq (sr [0,2,4,5] [oo 5 (.mov (.c (.int .i64 0)))]
  (.blk 0
  (.loop b19_0)))
  (.pre [0,2,4] (sr [0,2,4,6] [oo 27 (.load (.agg 2) (.t 4)),
oo 28 (.call (.c (.fn 40 [])) [(.t 27)] []),
om 6 28]
  (.seq (sr [2,4,36] [om 29 6,
oo 30 (.un .not (.t 29)),
om 31 30,
og 32 31 false (.load (.agg 2) (.t 4)),
og 33 31 false (.call (.c (.fn 16 [])) [(.t 32)] []),
og 34 31 false (.mov (.t 0)),
og 35 31 false (.bin .neq (.t 33) (.t 34)),
oo 36 (.pick (.t 31) (.c (.bool true)) (.t 35))]
  (.cond (.t 36)
  (sr [2,3] [oo 37 (.build [.str [], .str []] []),
⟨none,none,[],.store 2 (.t 2) (.t 37)⟩,
oo 3 (.mov (.c (.int .i64 40)))]
  (.pre [2,3] .ret))
  .skip))
  (.pre [2,4] (sr [2,3] [oo 38 (.load (.agg 2) (.t 4)),
⟨none,none,[],.store 2 (.t 2) (.t 38)⟩,
oo 3 (.mov (.c (.int .i64 0)))]
  (.pre [2,3] .ret))))))))) }
@[go_sem] def c20_0 : XC := (.pre [0,3,4]
 (.seq (sr [0,3,4,10] [om 9 4,
oo 10 (.bin .neq (.t 9) (.c (.int .i64 0)))]
  (.cond (.t 10)
  .skip
  (.pre [0,3] (.exit 0))))
  (.pre [0,3,4] (.seq (.blk 1
  (sr [0,3,4,5] [om 13 4,
oo 14 (.bin .rem (.t 13) (.c (.int .i64 10))),
om 5 14]
  (.seq (sr [0,3,4,5,16] [om 15 5,
oo 16 (.bin .lss (.t 15) (.c (.int .i64 0)))]
  (.cond (.t 16)
  (.reg false [0,3,4,5] [] [om 17 5,
oo 18 (.un .neg (.t 17)),
om 5 18])
  .skip))
  (.pre [0,3,4,5] (.reg false [0,3,4] [] [om 19 3,
om 20 5,
oo 21 (.bslice 1 (.int .i64 0) 1 [(0, (.t 20))]),
oo 22 (.app 0 1 17592186044416 (.t 19) (.t 21)),
om 3 22])))))
  (.pre [0,3,4] (.reg false [0,3,4] [] [om 11 4,
oo 12 (.bin .quo (.t 11) (.c (.int .i64 10))),
om 4 12]))))))
def b20_0 : XC := c20_0
@[go_sem] theorem e20_0 (L : Lib) (cx : Cx) (env : Env) (h : Heap) : runC L cx b20_0 (env, h) = runC L cx c20_0 (env, h) := rfl
def x20 : XFn := { np := 1, isOpen := false, ns := 1, res := [.tmp 2], code :=
 (sr [0] [oo 2 (.mov (.c (.str [])))]
  (sr [0,3] [oo 3 (.mov (.c .nilSl))]
  (.seq (sr [0,3,4] [om 8 0,
om 4 8]
  (.blk 0
  (.loop b20_0)))
  (.pre [0,3] (sr [6] [om 24 0,
oo 25 (.bin .lss (.t 24) (.c (.int .i64 0))),
om 26 3,
oo 27 (.call (.c (.fn 52 [])) [(.t 25), (.t 26)] []),
om 23 27,
oo 28 (.ext (.t 23) 0),
oo 29 (.ext (.t 23) 1),
om 6 28,
om 7 29]
  (sr [2] [om 30 6,
om 2 30]
  (.pre [2] .ret))))))) }
def x22 : XFn := { np := 2, isOpen := false, ns := 2, res := [.cell 4 (.agg 2), .tmp 5], code :=
 (sr [0,1,4] [oo 4 (.alloc 1 [.str [], .str []]),
oo 5 (.mov (.c (.int .i64 0)))]
  (sr [0,1,4,6] [om 7 0,
oo 8 (.call (.c (.fn 49 [])) [(.t 7)] []),
oo 9 (.un .not (.t 8)),
om 10 9,
og 11 10 false (.mov (.t 1)),
og 12 10 false (.call (.c (.fn 49 [])) [(.t 11)] []),
og 13 10 false (.un .not (.t 12)),
oo 14 (.pick (.t 10) (.c (.bool true)) (.t 13)),
oo 15 (.build [.bool false] [(0, 1, (.t 14))]),
oo 16 (.box 0 (.t 15)),
om 6 16]
  (sr [4,5] [om 17 6,
om 18 0,
om 19 1,
oo 20 (.call (.c (.fn 57 [])) [(.t 17), (.t 18), (.t 19)] []),
oo 21 (.ext (.t 20) 0),
oo 22 (.ext (.t 20) 1),
⟨none,none,[],.store 2 (.t 4) (.t 21)⟩,
om 5 22]
  (.pre [4,5] .ret)))) }
@[go_sem] def c23_0 : XC := (.blk 1000 (.seq (.pre [2,3,5]
 (sr [2,3,5,6,7] [oo 22 (.padd (.t 2) 0),
oo 23 (.load .one (.t 22)),
oo 24 (.padd (.t 2) 1),
oo 25 (.load .one (.t 24)),
oo 26 (.call (.c (.fn 58 [])) [(.t 23), (.t 25)] []),
om 21 26,
oo 27 (.ext (.t 21) 0),
oo 28 (.ext (.t 21) 1),
oo 29 (.ext (.t 21) 2),
om 6 27,
om 7 28,
om 8 29]
  (sr [2,3,5,6,7,9,10] [oo 31 (.padd (.t 3) 0),
oo 32 (.load .one (.t 31)),
oo 33 (.padd (.t 3) 1),
oo 34 (.load .one (.t 33)),
oo 35 (.call (.c (.fn 58 [])) [(.t 32), (.t 34)] []),
om 30 35,
oo 36 (.ext (.t 30) 0),
oo 37 (.ext (.t 30) 1),
oo 38 (.ext (.t 30) 2),
om 9 36,
om 10 37,
om 11 38]
  (.seq (sr [2,3,5,7,10,12] [om 39 6,
om 40 9,
oo 41 (.call (.c (.fn 50 [])) [(.t 39), (.t 40)] []),
om 12 41]
  (.blk 0
  (sr [2,3,5,7,10,12,42] [om 43 12,
oo 44 (.bin .neq (.t 43) (.c (.int .i64 0))),
om 42 44]
  (.cond (.t 42)
  (sr [4] [om 45 5,
om 46 12,
oo 47 (.bin .mul (.t 45) (.t 46)),
om 4 47]
  (.pre [4] .ret))
  (sr [2,3,5,7,10,48] [om 49 7,
oo 50 (.bin .eql (.t 49) (.c (.str [48]))),
om 51 50,
og 52 51 true (.mov (.t 10)),
og 53 51 true (.bin .eql (.t 52) (.c (.str [48]))),
oo 54 (.pick (.t 51) (.t 53) (.c (.bool false))),
om 48 54]
  (.cond (.t 48)
  (sr [4] [oo 4 (.mov (.c (.int .i64 0)))]
  (.pre [4] .ret))
  (sr [2,3,5,7,10,55] [om 56 7,
oo 57 (.bin .eql (.t 56) (.c (.str [48]))),
om 55 57]
  (.cond (.t 55)
  (sr [4] [om 58 5,
oo 59 (.un .neg (.t 58)),
om 4 59]
  (.pre [4] .ret))
  (sr [2,3,5,7,10,60] [om 61 10,
oo 62 (.bin .eql (.t 61) (.c (.str [48]))),
om 60 62]
  (.cond (.t 60)
  (sr [4] [om 63 5,
om 4 63]
  (.pre [4] .ret))
  .skip))))))))))
  (.pre [2,3,5,7,10] (.seq (.reg true [2,3,5] [] [oo 64 (.padd (.t 2) 1),
⟨some 65,none,[.box 64, .ne 64 3], .load .one (.t 64)⟩,
om 66 7,
oo 67 (.build [.str [], .str []] [(0, 1, (.t 65)), (1, 1, (.t 66))]),
oo 68 (.padd (.t 3) 1),
⟨some 69,none,[.box 68, .ne 68 2], .load .one (.t 68)⟩,
om 70 10,
oo 71 (.build [.str [], .str []] [(0, 1, (.t 69)), (1, 1, (.t 70))]),
om 72 5,
oo 73 (.un .neg (.t 72)),
⟨none,none,[.box 2], .store 2 (.t 2) (.t 67)⟩,
⟨none,none,[.box 3], .store 2 (.t 3) (.t 71)⟩,
om 5 73])
  (.pre [2,3,5] (.exit 1000)))))))) (.exit 5000)))
def b23_0 : XC := c23_0
@[go_sem] theorem e23_0 (L : Lib) (cx : Cx) (env : Env) (h : Heap) : runC L cx b23_0 (env, h) = runC L cx c23_0 (env, h) := rfl
def x23 : XFn := { np := 2, isOpen := false, ns := 2, res := [.tmp 4], code :=
 (sr [2,3] [oo 2 (.box 0 (.t 0)),
oo 3 (.box 1 (.t 1)),
oo 4 (.mov (.c (.int .i64 0)))]
  (.blk 5000 (.seq (.blk 1000 (.seq (sr [2,3,20] [oo 13 (.load (.agg 2) (.t 2)),
oo 14 (.call (.c (.fn 17 [])) [(.t 13)] []),
oo 15 (.un .not (.t 14)),
om 16 15,
og 17 16 false (.load (.agg 2) (.t 3)),
og 18 16 false (.call (.c (.fn 17 [])) [(.t 17)] []),
og 19 16 false (.un .not (.t 18)),
oo 20 (.pick (.t 16) (.c (.bool true)) (.t 19))]
  (.cond (.t 20)
  (sr [4] [oo 4 (.mov (.c (.int .i64 0)))]
  (.pre [4] .ret))
  .skip))
  (.pre [2,3] (.reg false [2,3,5] [] [oo 5 (.mov (.c (.int .i64 1)))]))))
  (.loop b23_0)))) }
def x24 : XFn := { np := 2, isOpen := false, ns := 1, res := [.cell 4 (.agg 2)], code :=
 (sr [0,1,4] [oo 4 (.alloc 0 [.str [], .str []])]
  (sr [4] [om 5 0,
om 6 1,
oo 7 (.build [.str [], .str []] [(0, 1, (.t 5)), (1, 1, (.t 6))]),
⟨none,none,[],.store 2 (.t 4) (.t 7)⟩]
  (.pre [4] .ret))) }
def x25 : XFn := { np := 2, isOpen := false, ns := 2, res := [.cell 4 (.agg 2), .tmp 5], code :=
 (sr [2,3,4] [oo 2 (.boxR (.t 0)),
oo 3 (.boxR (.t 1)),
oo 4 (.alloc 1 [.str [], .str []]),
oo 5 (.mov (.c (.int .i64 0)))]
  (sr [2,3,4,6] [oo 8 (.build [.bool false] []),
oo 9 (.box 0 (.t 8)),
om 6 9]
  (sr [2,3,4,6] [om 10 6,
oo 11 (.load (.agg 2) (.t 2)),
oo 12 (.load (.agg 2) (.t 3)),
oo 13 (.bslice 2 (.agg [.str [], .str []]) 2 [(0, (.t 11)), (1, (.t 12))]),
oo 14 (.call (.c (.fn 59 [])) [(.t 10), (.t 13)] [])]
  (sr [2,3,4,6,7] [om 15 6,
oo 16 (.padd (.t 2) 0),
oo 17 (.load .one (.t 16)),
oo 18 (.padd (.t 3) 0),
oo 19 (.load .one (.t 18)),
oo 20 (.call (.c (.fn 60 [])) [(.t 15), (.t 17), (.t 19)] []),
om 7 20]
  (sr [4,5] [om 21 6,
om 22 7,
om 23 6,
oo 24 (.padd (.t 2) 1),
oo 25 (.load .one (.t 24)),
oo 26 (.padd (.t 3) 1),
oo 27 (.load .one (.t 26)),
oo 28 (.call (.c (.fn 60 [])) [(.t 23), (.t 25), (.t 27)] []),
oo 29 (.call (.c (.fn 57 [])) [(.t 21), (.t 22), (.t 28)] []),
oo 30 (.ext (.t 29) 0),
oo 31 (.ext (.t 29) 1),
⟨none,none,[],.store 2 (.t 4) (.t 30)⟩,
om 5 31]
  (.pre [4,5] .ret)))))) }
def x26 : XFn := { np := 2, isOpen := false, ns := 2, res := [.cell 4 (.agg 2), .tmp 5], code :=
 (sr [2,3,4] [oo 2 (.boxR (.t 0)),
oo 3 (.boxR (.t 1)),
oo 4 (.alloc 1 [.str [], .str []]),
oo 5 (.mov (.c (.int .i64 0)))]
  (sr [2,3,4,6] [oo 8 (.build [.bool false] []),
oo 9 (.box 0 (.t 8)),
om 6 9]
  (sr [2,3,4,6] [om 10 6,
oo 11 (.load (.agg 2) (.t 2)),
oo 12 (.load (.agg 2) (.t 3)),
oo 13 (.bslice 2 (.agg [.str [], .str []]) 2 [(0, (.t 11)), (1, (.t 12))]),
oo 14 (.call (.c (.fn 59 [])) [(.t 10), (.t 13)] [])]
  (sr [2,3,4,6,7] [om 15 6,
oo 16 (.padd (.t 2) 0),
oo 17 (.load .one (.t 16)),
oo 18 (.padd (.t 3) 1),
oo 19 (.load .one (.t 18)),
oo 20 (.call (.c (.fn 60 [])) [(.t 15), (.t 17), (.t 19)] []),
om 7 20]
  (sr [4,5] [om 21 6,
om 22 7,
om 23 6,
oo 24 (.padd (.t 2) 1),
oo 25 (.load .one (.t 24)),
oo 26 (.padd (.t 3) 0),
oo 27 (.load .one (.t 26)),
oo 28 (.call (.c (.fn 60 [])) [(.t 23), (.t 25), (.t 27)] []),
oo 29 (.call (.c (.fn 57 [])) [(.t 21), (.t 22), (.t 28)] []),
oo 30 (.ext (.t 29) 0),
oo 31 (.ext (.t 29) 1),
⟨none,none,[],.store 2 (.t 4) (.t 30)⟩,
om 5 31]
  (.pre [4,5] .ret)))))) }
def x27 : XFn := { np := 2, isOpen := false, ns := 1, res := [.cell 4 (.agg 2), .tmp 5], code :=
 (sr [2,3,4] [oo 2 (.boxR (.t 0)),
oo 3 (.boxR (.t 1)),
oo 4 (.alloc 0 [.str [], .str []]),
oo 5 (.mov (.c (.int .i64 0)))]
  (sr [4,5] [oo 6 (.load (.agg 2) (.t 2)),
oo 7 (.load (.agg 2) (.t 3)),
oo 8 (.call (.c (.fn 61 [])) [(.c (.fn 62 [])), (.t 6), (.t 7)] []),
oo 9 (.ext (.t 8) 0),
oo 10 (.ext (.t 8) 1),
⟨none,none,[],.store 2 (.t 4) (.t 9)⟩,
om 5 10]
  (.pre [4,5] .ret))) }
def x35 : XFn := { np := 2, isOpen := false, ns := 1, res := [.cell 4 (.agg 2), .tmp 5], code :=
 (sr [1,2,4] [oo 2 (.boxR (.t 0)),
oo 4 (.alloc 0 [.str [], .str []]),
oo 5 (.mov (.c (.int .i64 0)))]
  (sr [4,5] [oo 6 (.load (.agg 2) (.t 2)),
om 7 1,
oo 8 (.call (.c (.fn 69 [])) [(.t 6), (.t 7), (.c (.bool false))] []),
oo 9 (.ext (.t 8) 0),
oo 10 (.ext (.t 8) 1),
⟨none,none,[],.store 2 (.t 4) (.t 9)⟩,
om 5 10]
  (.pre [4,5] .ret))) }
def x37 : XFn := { np := 2, isOpen := false, ns := 1, res := [.cell 4 (.agg 2), .tmp 5], code :=
 (sr [1,2,4] [oo 2 (.boxR (.t 0)),
oo 4 (.alloc 0 [.str [], .str []]),
oo 5 (.mov (.c (.int .i64 0)))]
  (sr [4,5] [oo 6 (.load (.agg 2) (.t 2)),
om 7 1,
oo 8 (.call (.c (.fn 69 [])) [(.t 6), (.t 7), (.c (.bool true))] []),
oo 9 (.ext (.t 8) 0),
oo 10 (.ext (.t 8) 1),
⟨none,none,[],.store 2 (.t 4) (.t 9)⟩,
om 5 10]
  (.pre [4,5] .ret))) }
def x39 : XFn := { np := 2, isOpen := false, ns := 1, res := [.cell 4 (.agg 2), .tmp 5], code :=
 (sr [0,1,4] [oo 4 (.alloc 0 [.str [], .str []]),
oo 5 (.mov (.c (.int .i64 0)))]
  (sr [0,1,4,6] [om 16 0,
oo 17 (.call (.c (.fn 53 [])) [(.t 16)] []),
om 6 17]
  (sr [0,1,4,6,7] [om 18 1,
oo 19 (.call (.c (.fn 53 [])) [(.t 18)] []),
om 7 19]
  (.seq (sr [0,1,4,29] [om 20 6,
oo 21 (.un .not (.t 20)),
om 22 21,
og 23 22 false (.mov (.t 7)),
og 24 22 false (.un .not (.t 23)),
oo 25 (.pick (.t 22) (.c (.bool true)) (.t 24)),
om 26 25,
og 27 26 false (.mov (.t 1)),
og 28 26 false (.bin .eql (.t 27) (.c (.str [48]))),
oo 29 (.pick (.t 26) (.c (.bool true)) (.t 28))]
  (.cond (.t 29)
  (sr [4,5] [oo 30 (.build [.str [], .str []] []),
⟨none,none,[],.store 2 (.t 4) (.t 30)⟩,
oo 5 (.mov (.c (.int .i64 40)))]
  (.pre [4,5] .ret))
  .skip))
  (.pre [0,1,4] (.seq (sr [0,1,4,33] [om 31 1,
oo 32 (.call (.c (.fn 67 [])) [(.t 31), (.c (.str [48]))] []),
oo 33 (.bin .lss (.t 32) (.c (.int .i64 0)))]
  (.cond (.t 33)
  (sr [0,1,4] [om 35 0,
oo 36 (.call (.c (.fn 65 [])) [(.c (.str [48])), (.t 35)] []),
om 34 36,
oo 37 (.ext (.t 34) 0),
oo 38 (.ext (.t 34) 1),
om 0 37]
  (.reg false [0,1,4] [] [om 40 1,
oo 41 (.call (.c (.fn 65 [])) [(.c (.str [48])), (.t 40)] []),
om 39 41,
oo 42 (.ext (.t 39) 0),
oo 43 (.ext (.t 39) 1),
om 1 42]))
  .skip))
  (.pre [0,1,4] (sr [0,1,4,8] [om 45 0,
om 46 1,
oo 47 (.call (.c (.fn 71 [])) [(.t 45), (.t 46)] []),
om 44 47,
oo 48 (.ext (.t 44) 0),
oo 49 (.ext (.t 44) 1),
om 8 48,
om 9 49]
  (sr [1,4,8,10,12] [om 51 0,
om 52 8,
oo 53 (.call (.c (.fn 66 [])) [(.t 51), (.t 52)] []),
om 50 53,
oo 54 (.ext (.t 50) 0),
oo 55 (.ext (.t 50) 1),
oo 56 (.ext (.t 50) 2),
om 10 54,
om 11 55,
om 12 56]
  (sr [4,10,12,13,15] [om 58 1,
om 59 8,
oo 60 (.call (.c (.fn 66 [])) [(.t 58), (.t 59)] []),
om 57 60,
oo 61 (.ext (.t 57) 0),
oo 62 (.ext (.t 57) 1),
oo 63 (.ext (.t 57) 2),
om 13 61,
om 14 62,
om 15 63]
  (.seq (sr [4,10,13,69] [om 64 12,
oo 65 (.bin .neq (.t 64) (.c (.int .i64 0))),
om 66 65,
og 67 66 false (.mov (.t 15)),
og 68 66 false (.bin .neq (.t 67) (.c (.int .i64 0))),
oo 69 (.pick (.t 66) (.c (.bool true)) (.t 68))]
  (.cond (.t 69)
  (sr [4,5] [oo 70 (.build [.str [], .str []] []),
⟨none,none,[],.store 2 (.t 4) (.t 70)⟩,
oo 5 (.mov (.c (.int .i64 40)))]
  (.pre [4,5] .ret))
  .skip))
  (.pre [4,10,13] (sr [4,5] [om 71 10,
om 72 13,
oo 73 (.build [.str [], .str []] [(0, 1, (.t 71)), (1, 1, (.t 72))]),
⟨none,none,[],.store 2 (.t 4) (.t 73)⟩,
oo 5 (.mov (.c (.int .i64 0)))]
  (.pre [4,5] .ret)))))))))))))) }
def x40 : XFn := { np := 1, isOpen := false, ns := 0, res := [.tmp 2], code :=
 (sr [1] [oo 1 (.boxR (.t 0)),
oo 2 (.mov (.c (.bool false)))]
  (sr [1,3] [oo 7 (.padd (.t 1) 0),
oo 8 (.load .one (.t 7)),
oo 9 (.call (.c (.fn 53 [])) [(.t 8)] []),
om 3 9]
  (sr [1,3,4] [oo 10 (.padd (.t 1) 1),
oo 11 (.load .one (.t 10)),
oo 12 (.call (.c (.fn 53 [])) [(.t 11)] []),
om 4 12]
  (.seq (sr [1,24] [om 13 3,
oo 14 (.un .not (.t 13)),
om 15 14,
og 16 15 false (.mov (.t 4)),
og 17 15 false (.un .not (.t 16)),
oo 18 (.pick (.t 15) (.c (.bool true)) (.t 17)),
om 19 18,
og 20 19 false (.padd (.t 1) 1),
og 21 19 false (.load .one (.t 20)),
og 22 19 false (.call (.c (.fn 67 [])) [(.t 21), (.c (.str [48]))] []),
og 23 19 false (.bin .leq (.t 22) (.c (.int .i64 0))),
oo 24 (.pick (.t 19) (.c (.bool true)) (.t 23))]
  (.cond (.t 24)
  (sr [2] [oo 2 (.mov (.c (.bool false)))]
  (.pre [2] .ret))
  .skip))
  (.pre [1] (sr [5,6] [oo 26 (.padd (.t 1) 0),
oo 27 (.load .one (.t 26)),
oo 28 (.padd (.t 1) 1),
oo 29 (.load .one (.t 28)),
oo 30 (.call (.c (.fn 71 [])) [(.t 27), (.t 29)] []),
om 25 30,
oo 31 (.ext (.t 25) 0),
oo 32 (.ext (.t 25) 1),
om 5 31,
om 6 32]
  (sr [2] [om 33 6,
oo 34 (.bin .eql (.t 33) (.c (.int .i64 0))),
om 35 34,
og 36 35 true (.mov (.t 5)),
og 37 35 true (.bin .eql (.t 36) (.c (.str [49]))),
oo 38 (.pick (.t 35) (.t 37) (.c (.bool false))),
om 2 38]
  (.pre [2] .ret)))))))) }
def x41 : XFn := { np := 2, isOpen := false, ns := 1, res := [.cell 4 (.agg 2), .tmp 5], code :=
 (sr [0,1,4] [oo 4 (.alloc 0 [.str [], .str []]),
oo 5 (.mov (.c (.int .i64 0)))]
  (sr [4,5] [om 6 0,
oo 7 (.call (.c (.fn 72 [])) [(.t 6)] []),
om 8 1,
oo 9 (.call (.c (.fn 72 [])) [(.t 8)] []),
oo 10 (.call (.c (.fn 22 [])) [(.t 7), (.t 9)] []),
oo 11 (.ext (.t 10) 0),
oo 12 (.ext (.t 10) 1),
⟨none,none,[],.store 2 (.t 4) (.t 11)⟩,
om 5 12]
  (.pre [4,5] .ret))) }
def x46 : XFn := { np := 2, isOpen := false, ns := 0, res := [.tmp 4], code :=
 (sr [0,1] [oo 4 (.mov (.c (.int .i64 0)))]
  (.seq (sr [0,1,6] [om 5 0,
oo 6 (.bin .lss (.t 5) (.c (.int .i64 0)))]
  (.cond (.t 6)
  (.reg false [0,1] [] [om 7 0,
oo 8 (.bin .add (.t 7) (.c (.int .i64 1))),
oo 9 (.un .neg (.t 8)),
om 0 9])
  .skip))
  (.pre [0,1] (sr [4] [om 10 0,
om 11 1,
oo 12 (.bin .rem (.t 10) (.t 11)),
om 4 12]
  (.pre [4] .ret))))) }
def x49 : XFn := { np := 1, isOpen := false, ns := 0, res := [.tmp 2], code :=
 (sr [0] [oo 2 (.mov (.c (.bool false)))]
  (sr [2] [om 3 0,
oo 4 (.call (.c (.fn 78 [])) [(.t 3)] []),
om 2 4]
  (.pre [2] .ret))) }
def x50 : XFn := { np := 2, isOpen := false, ns := 2, res := [.tmp 4], code :=
 (sr [0,1] [oo 4 (.mov (.c (.int .i64 0)))]
  (sr [5,6,7] [om 9 0,
om 10 1,
oo 11 (.call (.c (.fn 79 [])) [(.t 9), (.t 10)] []),
om 8 11,
oo 12 (.ext (.t 8) 0),
oo 13 (.ext (.t 8) 1),
oo 14 (.ext (.t 8) 2),
oo 5 (.alloc 0 [.bool false, .nilSl]),
oo 6 (.alloc 1 [.bool false, .nilSl]),
⟨none,none,[],.store 2 (.t 5) (.t 12)⟩,
⟨none,none,[],.store 2 (.t 6) (.t 13)⟩,
om 7 14]
  (.seq (.blk 0
  (sr [5,6,15] [om 16 7,
oo 17 (.un .not (.t 16)),
om 15 17]
  (.cond (.t 15)
  (sr [4] [oo 4 (.mov (.c (.int .i64 0)))]
  (.pre [4] .ret))
  (sr [5,6,18] [oo 19 (.padd (.t 5) 0),
oo 20 (.load .one (.t 19)),
om 21 20,
og 22 21 true (.padd (.t 6) 0),
og 23 21 true (.load .one (.t 22)),
oo 24 (.pick (.t 21) (.t 23) (.c (.bool false))),
om 18 24]
  (.cond (.t 18)
  (sr [4] [oo 25 (.padd (.t 6) 1),
oo 26 (.load .one (.t 25)),
oo 27 (.padd (.t 5) 1),
oo 28 (.load .one (.t 27)),
oo 29 (.call (.c (.fn 80 [])) [(.t 26), (.t 28)] []),
om 4 29]
  (.pre [4] .ret))
  (sr [5,6,30] [oo 31 (.padd (.t 5) 0),
oo 32 (.load .one (.t 31)),
om 30 32]
  (.cond (.t 30)
  (sr [4] [oo 4 (.mov (.c (.int .i64 (-1))))]
  (.pre [4] .ret))
  (sr [5,6,33] [oo 34 (.padd (.t 6) 0),
oo 35 (.load .one (.t 34)),
om 33 35]
  (.cond (.t 33)
  (sr [4] [oo 4 (.mov (.c (.int .i64 1)))]
  (.pre [4] .ret))
  .skip)))))))))
  (.pre [5,6] (sr [4] [oo 36 (.padd (.t 5) 1),
oo 37 (.load .one (.t 36)),
oo 38 (.padd (.t 6) 1),
oo 39 (.load .one (.t 38)),
oo 40 (.call (.c (.fn 80 [])) [(.t 37), (.t 39)] []),
om 4 40]
  (.pre [4] .ret)))))) }
@[go_sem] def c51_0 : XC := (.pre [9,10]
 (.seq (sr [9,10,28] [om 26 10,
oo 27 (.len false (.t 26)),
oo 28 (.bin .gtr (.t 27) (.c (.int .i64 0)))]
  (.cond (.t 28)
  .skip
  (.pre [9] (.exit 0))))
  (.pre [9,10] (.blk 1
  (sr [10,12] [om 30 9,
om 31 10,
oo 32 (.call (.c (.fn 81 [])) [(.t 30), (.t 31)] []),
om 29 32,
oo 33 (.ext (.t 29) 0),
oo 34 (.ext (.t 29) 1),
om 11 33,
om 12 34]
  (.reg false [9,10] [] [om 35 10,
om 36 12,
om 9 35,
om 10 36]))))))
def b51_0 : XC := c51_0
@[go_sem] theorem e51_0 (L : Lib) (cx : Cx) (env : Env) (h : Heap) : runC L cx b51_0 (env, h) = runC L cx c51_0 (env, h) := rfl
def x51 : XFn := { np := 2, isOpen := false, ns := 2, res := [.tmp 4, .tmp 5], code :=
 (sr [0,1] [oo 4 (.mov (.c (.str []))),
oo 5 (.mov (.c (.int .i64 0)))]
  (sr [6,7,8] [om 14 0,
om 15 1,
oo 16 (.call (.c (.fn 79 [])) [(.t 14), (.t 15)] []),
om 13 16,
oo 17 (.ext (.t 13) 0),
oo 18 (.ext (.t 13) 1),
oo 19 (.ext (.t 13) 2),
oo 6 (.alloc 0 [.bool false, .nilSl]),
oo 7 (.alloc 1 [.bool false, .nilSl]),
⟨none,none,[],.store 2 (.t 6) (.t 17)⟩,
⟨none,none,[],.store 2 (.t 7) (.t 18)⟩,
om 8 19]
  (.seq (sr [6,7,21] [om 20 8,
oo 21 (.un .not (.t 20))]
  (.cond (.t 21)
  (sr [4,5] [oo 4 (.mov (.c (.str []))),
oo 5 (.mov (.c (.int .i64 30)))]
  (.pre [4,5] .ret))
  .skip))
  (.pre [6,7] (.seq (.reg true [9,10] [] [oo 22 (.padd (.t 6) 1),
⟨some 23,none,[.box 22], .load .one (.t 22)⟩,
oo 24 (.padd (.t 7) 1),
⟨some 25,none,[.box 24], .load .one (.t 24)⟩,
om 9 23,
om 10 25])
  (.seq (.blk 0
  (.loop b51_0))
  (.pre [9] (sr [4,5] [om 37 9,
oo 38 (.build [.bool false, .nilSl] [(1, 1, (.t 37))]),
oo 39 (.call (.c (.fn 82 [])) [(.t 38)] []),
oo 40 (.ext (.t 39) 0),
oo 41 (.ext (.t 39) 1),
om 4 40,
om 5 41]
  (.pre [4,5] .ret))))))))) }
@[go_sem] def c52_0 : XC := (.pre [1,6,7]
 (.seq (sr [1,6,7,19] [om 18 7,
oo 19 (.bin .geq (.t 18) (.c (.int .i64 0)))]
  (.cond (.t 19)
  .skip
  (.pre [1,6] (.exit 0))))
  (.pre [1,6,7] (.seq (.blk 1
  (.reg false [1,6,7] [] [om 22 6,
om 23 1,
om 24 7,
oo 25 (.ixS 1 (.t 23) (.t 24)),
oo 26 (.load .one (.t 25)),
oo 27 (.bin .add (.c (.int .i64 48)) (.t 26)),
oo 28 (.conv .u8 (.t 27)),
oo 29 (.bslice 1 (.int .u8 0) 1 [(0, (.t 28))]),
oo 30 (.app 0 1 140737488355328 (.t 22) (.t 29)),
om 6 30]))
  (.pre [1,6,7] (.reg false [1,6,7] [] [om 20 7,
oo 21 (.bin .sub (.t 20) (.c (.int .i64 1))),
om 7 21]))))))
def b52_0 : XC := c52_0
@[go_sem] theorem e52_0 (L : Lib) (cx : Cx) (env : Env) (h : Heap) : runC L cx b52_0 (env, h) = runC L cx c52_0 (env, h) := rfl
def x52 : XFn := { np := 2, isOpen := false, ns := 2, res := [.tmp 4, .tmp 5], code :=
 (sr [0,1] [oo 4 (.mov (.c (.str []))),
oo 5 (.mov (.c (.bool false)))]
  (.seq (sr [0,1,10] [om 8 1,
oo 9 (.len false (.t 8)),
oo 10 (.bin .eql (.t 9) (.c (.int .i64 0)))]
  (.cond (.t 10)
  (sr [4,5] [oo 4 (.mov (.c (.str [48]))),
oo 5 (.mov (.c (.bool true)))]
  (.pre [4,5] .ret))
  .skip))
  (.pre [0,1] (sr [0,1,6] [oo 6 (.mov (.c .nilSl))]
  (.seq (sr [1,6,11] [om 11 0]
  (.cond (.t 11)
  (.reg false [1,6] [] [om 12 6,
oo 13 (.bslice 1 (.int .u8 0) 1 [(0, (.c (.int .u8 45)))]),
oo 14 (.app 1 1 140737488355328 (.t 12) (.t 13)),
om 6 14])
  .skip))
  (.pre [1,6] (.seq (sr [1,6,7] [om 15 1,
oo 16 (.len false (.t 15)),
oo 17 (.bin .sub (.t 16) (.c (.int .i64 1))),
om 7 17]
  (.blk 0
  (.loop b52_0)))
  (.pre [1,6] (sr [4,5] [om 31 6,
oo 32 (.toStr (.t 31)),
om 33 1,
oo 34 (.len false (.t 33)),
oo 35 (.bin .leq (.t 34) (.c (.int .i64 200))),
om 4 32,
om 5 35]
  (.pre [4,5] .ret)))))))))) }
@[go_sem] def c53_0 : XC := (.pre [0,3]
 (.seq (sr [0,3,19] [om 16 3,
om 17 0,
oo 18 (.len true (.t 17)),
oo 19 (.bin .lss (.t 16) (.t 18))]
  (.cond (.t 19)
  .skip
  (.pre [0] (.exit 0))))
  (.pre [0,3] (.seq (.blk 1
  (sr [0,3,31] [om 22 0,
om 23 3,
oo 24 (.ixStr (.t 22) (.t 23)),
oo 25 (.bin .lss (.t 24) (.c (.int .u8 48))),
om 26 25,
og 27 26 false (.mov (.t 0)),
og 28 26 false (.mov (.t 3)),
og 29 26 false (.ixStr (.t 27) (.t 28)),
og 30 26 false (.bin .gtr (.t 29) (.c (.int .u8 57))),
oo 31 (.pick (.t 26) (.c (.bool true)) (.t 30))]
  (.cond (.t 31)
  (sr [2] [oo 2 (.mov (.c (.bool false)))]
  (.pre [2] .ret))
  .skip)))
  (.pre [0,3] (.reg false [0,3] [] [om 20 3,
oo 21 (.bin .add (.t 20) (.c (.int .i64 1))),
om 3 21]))))))
def b53_0 : XC := c53_0
@[go_sem] theorem e53_0 (L : Lib) (cx : Cx) (env : Env) (h : Heap) : runC L cx b53_0 (env, h) = runC L cx c53_0 (env, h) := rfl
def x53 : XFn := { np := 1, isOpen := false, ns := 0, res := [.tmp 2], code :=
 (sr [0] [oo 2 (.mov (.c (.bool false)))]
  (.seq (sr [0,11] [om 4 0,
oo 5 (.len true (.t 4)),
oo 6 (.bin .gtr (.t 5) (.c (.int .i64 0))),
om 7 6,
og 8 7 true (.mov (.t 0)),
og 9 7 true (.ixStr (.t 8) (.c (.int .i64 0))),
og 10 7 true (.bin .eql (.t 9) (.c (.int .u8 45))),
oo 11 (.pick (.t 7) (.t 10) (.c (.bool false)))]
  (.cond (.t 11)
  (sr [0] [om 12 0,
oo 13 (.slice none (.t 12) (some (.c (.int .i64 1))) none),
om 0 13]
  (sr [0,15] [om 14 0,
oo 15 (.bin .eql (.t 14) (.c (.str [48])))]
  (.cond (.t 15)
  (sr [2] [oo 2 (.mov (.c (.bool false)))]
  (.pre [2] .ret))
  .skip)))
  .skip))
  (.pre [0] (.seq (sr [0,3] [oo 3 (.mov (.c (.int .i64 0)))]
  (.blk 0
  (.loop b53_0)))
  (.pre [0] (sr [2] [om 32 0,
oo 33 (.len true (.t 32)),
oo 34 (.bin .gtr (.t 33) (.c (.int .i64 0))),
om 35 34,
og 36 35 true (.mov (.t 0)),
og 37 35 true (.len true (.t 36)),
og 38 35 true (.bin .leq (.t 37) (.c (.int .i64 200))),
oo 39 (.pick (.t 35) (.t 38) (.c (.bool false))),
om 40 39,
og 41 40 true (.mov (.t 0)),
og 42 40 true (.bin .eql (.t 41) (.c (.str [48]))),
og 43 40 true (.mov (.t 42)),
og 44 43 false (.mov (.t 0)),
og 45 43 false (.ixStr (.t 44) (.c (.int .i64 0))),
og 46 43 false (.bin .neq (.t 45) (.c (.int .u8 48))),
og 47 40 true (.pick (.t 43) (.c (.bool true)) (.t 46)),
oo 48 (.pick (.t 40) (.t 47) (.c (.bool false))),
om 2 48]
  (.pre [2] .ret))))))) }
@[go_sem] def c54_0 : XC := (.pre [0,4,5,6]
 (.seq (sr [0,4,5,6,21] [om 16 6,
oo 17 (.bin .geq (.t 16) (.c (.int .i64 0))),
om 18 17,
og 19 18 true (.mov (.t 0)),
og 20 18 true (.bin .neq (.t 19) (.c (.str [48]))),
oo 21 (.pick (.t 18) (.t 20) (.c (.bool false)))]
  (.cond (.t 21)
  .skip
  (.pre [4,5] (.exit 0))))
  (.pre [0,4,5,6] (.seq (.blk 1
  (.reg false [0,4,5,6] [] [om 24 5,
om 25 0,
om 26 6,
oo 27 (.ixStr (.t 25) (.t 26)),
oo 28 (.bin .sub (.t 27) (.c (.int .u8 48))),
oo 29 (.conv .i64 (.t 28)),
oo 30 (.bslice 1 (.int .i64 0) 1 [(0, (.t 29))]),
oo 31 (.app 0 1 17592186044416 (.t 24) (.t 30)),
om 5 31]))
  (.pre [0,4,5,6] (.reg false [0,4,5,6] [] [om 22 6,
oo 23 (.bin .sub (.t 22) (.c (.int .i64 1))),
om 6 23]))))))
def b54_0 : XC := c54_0
@[go_sem] theorem e54_0 (L : Lib) (cx : Cx) (env : Env) (h : Heap) : runC L cx b54_0 (env, h) = runC L cx c54_0 (env, h) := rfl
def x54 : XFn := { np := 1, isOpen := false, ns := 1, res := [.tmp 2, .tmp 3], code :=
 (sr [0] [oo 2 (.mov (.c (.bool false))),
oo 3 (.mov (.c .nilSl))]
  (sr [0,4] [om 7 0,
oo 8 (.ixStr (.t 7) (.c (.int .i64 0))),
oo 9 (.bin .eql (.t 8) (.c (.int .u8 45))),
om 4 9]
  (.seq (sr [0,4,10] [om 10 4]
  (.cond (.t 10)
  (.reg false [0,4] [] [om 11 0,
oo 12 (.slice none (.t 11) (some (.c (.int .i64 1))) none),
om 0 12])
  .skip))
  (.pre [0,4] (sr [0,4,5] [oo 5 (.mov (.c .nilSl))]
  (.seq (sr [0,4,5,6] [om 13 0,
oo 14 (.len true (.t 13)),
oo 15 (.bin .sub (.t 14) (.c (.int .i64 1))),
om 6 15]
  (.blk 0
  (.loop b54_0)))
  (.pre [4,5] (sr [2,3] [om 32 4,
om 33 5,
om 2 32,
om 3 33]
  (.pre [2,3] .ret))))))))) }
def x55 : XFn := { np := 2, isOpen := false, ns := 0, res := [.tmp 4, .tmp 5], code :=
 (sr [0,1] [oo 4 (.mov (.c (.str []))),
oo 5 (.mov (.c (.int .i64 0)))]
  (sr [6,7] [om 9 0,
om 10 1,
oo 11 (.call (.c (.fn 52 [])) [(.t 9), (.t 10)] []),
om 8 11,
oo 12 (.ext (.t 8) 0),
oo 13 (.ext (.t 8) 1),
om 6 12,
om 7 13]
  (.seq (sr [6,15] [om 14 7,
oo 15 (.un .not (.t 14))]
  (.cond (.t 15)
  (sr [4,5] [oo 4 (.mov (.c (.str []))),
oo 5 (.mov (.c (.int .i64 30)))]
  (.pre [4,5] .ret))
  .skip))
  (.pre [6] (sr [4,5] [om 16 6,
om 4 16,
oo 5 (.mov (.c (.int .i64 0)))]
  (.pre [4,5] .ret)))))) }
def x57 : XFn := { np := 3, isOpen := true, ns := 2, res := [.cell 6 (.agg 2), .tmp 7], code :=
 (sr [0,1,2,6] [oo 6 (.alloc 1 [.str [], .str []]),
oo 7 (.mov (.c (.int .i64 0)))]
  (.seq (sr [0,1,2,6,17] [om 10 0,
oo 11 (.nchk (.t 10)),
oo 12 (.padd (.t 11) 0),
oo 13 (.load .one (.t 12)),
om 14 13,
og 15 14 false (.mov (.t 2)),
og 16 14 false (.bin .eql (.t 15) (.c (.str [48]))),
oo 17 (.pick (.t 14) (.c (.bool true)) (.t 16))]
  (.cond (.t 17)
  (sr [6,7] [oo 18 (.build [.str [], .str []] []),
⟨none,none,[],.store 2 (.t 6) (.t 18)⟩,
oo 7 (.mov (.c (.int .i64 40)))]
  (.pre [6,7] .ret))
  .skip))
  (.pre [0,1,2,6] (.seq (sr [0,1,2,6,21] [om 19 2,
oo 20 (.call (.c (.fn 50 [])) [(.t 19), (.c (.str [48]))] []),
oo 21 (.bin .lss (.t 20) (.c (.int .i64 0)))]
  (.cond (.t 21)
  (.reg false [0,1,2,6] [] [om 22 0,
om 23 1,
oo 24 (.call (.c (.fn 84 [])) [(.t 22), (.c (.fn 73 [])), (.c (.str [48])), (.t 23)] []),
om 25 0,
om 26 2,
oo 27 (.call (.c (.fn 84 [])) [(.t 25), (.c (.fn 73 [])), (.c (.str [48])), (.t 26)] []),
om 1 24,
om 2 27])
  .skip))
  (.pre [0,1,2,6] (sr [0,1,2,6,8] [om 28 0,
om 29 1,
om 30 2,
oo 31 (.call (.c (.fn 84 [])) [(.t 28), (.c (.fn 51 [])), (.t 29), (.t 30)] []),
om 8 31]
  (sr [0,6,9] [om 32 0,
om 33 1,
om 34 8,
oo 35 (.call (.c (.fn 85 [])) [(.t 32), (.t 33), (.t 34)] []),
om 36 0,
om 37 2,
om 38 8,
oo 39 (.call (.c (.fn 85 [])) [(.t 36), (.t 37), (.t 38)] []),
oo 40 (.build [.str [], .str []] [(0, 1, (.t 35)), (1, 1, (.t 39))]),
oo 9 (.alloc 0 [.str [], .str []]),
⟨none,none,[],.store 2 (.t 9) (.t 40)⟩]
  (.seq (sr [6,9,44] [om 41 0,
oo 42 (.nchk (.t 41)),
oo 43 (.padd (.t 42) 0),
oo 44 (.load .one (.t 43))]
  (.cond (.t 44)
  (sr [6,7] [oo 45 (.build [.str [], .str []] []),
⟨none,none,[],.store 2 (.t 6) (.t 45)⟩,
oo 7 (.mov (.c (.int .i64 40)))]
  (.pre [6,7] .ret))
  .skip))
  (.pre [6,9] (sr [6,7] [oo 46 (.load (.agg 2) (.t 9)),
⟨none,none,[],.store 2 (.t 6) (.t 46)⟩,
oo 7 (.mov (.c (.int .i64 0)))]
  (.pre [6,7] .ret))))))))))) }
def x58 : XFn := { np := 2, isOpen := false, ns := 2, res := [.tmp 4, .tmp 5, .tmp 6], code :=
 (sr [0,1] [oo 4 (.mov (.c (.str []))),
oo 5 (.mov (.c (.str []))),
oo 6 (.mov (.c (.int .i64 0)))]
  (sr [7,8,9] [om 17 0,
om 18 1,
oo 19 (.call (.c (.fn 79 [])) [(.t 17), (.t 18)] []),
om 16 19,
oo 20 (.ext (.t 16) 0),
oo 21 (.ext (.t 16) 1),
oo 22 (.ext (.t 16) 2),
oo 7 (.alloc 0 [.bool false, .nilSl]),
oo 8 (.alloc 1 [.bool false, .nilSl]),
⟨none,none,[],.store 2 (.t 7) (.t 20)⟩,
⟨none,none,[],.store 2 (.t 8) (.t 21)⟩,
om 9 22]
  (.seq (sr [7,8,30] [om 23 9,
oo 24 (.un .not (.t 23)),
om 25 24,
og 26 25 false (.padd (.t 8) 1),
og 27 25 false (.load .one (.t 26)),
og 28 25 false (.len false (.t 27)),
og 29 25 false (.bin .eql (.t 28) (.c (.int .i64 0))),
oo 30 (.pick (.t 25) (.c (.bool true)) (.t 29))]
  (.cond (.t 30)
  (sr [4,5,6] [oo 4 (.mov (.c (.str []))),
oo 5 (.mov (.c (.str []))),
oo 6 (.mov (.c (.int .i64 30)))]
  (.pre [4,5,6] .ret))
  .skip))
  (.pre [7,8] (sr [7,8,10,11] [oo 32 (.padd (.t 7) 1),
oo 33 (.load .one (.t 32)),
oo 34 (.padd (.t 8) 1),
oo 35 (.load .one (.t 34)),
oo 36 (.call (.c (.fn 81 [])) [(.t 33), (.t 35)] []),
om 31 36,
oo 37 (.ext (.t 31) 0),
oo 38 (.ext (.t 31) 1),
om 10 37,
om 11 38]
  (.seq (sr [7,8,10,11,45] [oo 39 (.padd (.t 7) 0),
oo 40 (.load .one (.t 39)),
om 41 40,
og 42 41 true (.mov (.t 11)),
og 43 41 true (.len false (.t 42)),
og 44 41 true (.bin .gtr (.t 43) (.c (.int .i64 0))),
oo 45 (.pick (.t 41) (.t 44) (.c (.bool false)))]
  (.cond (.t 45)
  (.reg true [7,8,10,11] [] [om 46 10,
oo 47 (.call (.c (.fn 87 [])) [] []),
oo 48 (.call (.c (.fn 86 [])) [(.t 46), (.t 47)] []),
oo 49 (.padd (.t 8) 1),
⟨some 50,none,[.box 49], .load .one (.t 49)⟩,
om 51 11,
oo 52 (.call (.c (.fn 88 [])) [(.t 50), (.t 51)] []),
om 10 48,
om 11 52])
  .skip))
  (.pre [7,8,10,11] (sr [11,12,13] [oo 54 (.padd (.t 7) 0),
oo 55 (.load .one (.t 54)),
oo 56 (.padd (.t 8) 0),
oo 57 (.load .one (.t 56)),
oo 58 (.eqv true [] (.t 55) (.t 57)),
om 59 10,
oo 60 (.build [.bool false, .nilSl] [(0, 1, (.t 58)), (1, 1, (.t 59))]),
oo 61 (.call (.c (.fn 82 [])) [(.t 60)] []),
om 53 61,
oo 62 (.ext (.t 53) 0),
oo 63 (.ext (.t 53) 1),
om 12 62,
om 13 63]
  (.seq (sr [11,12,13,65] [om 64 13,
oo 65 (.bin .neq (.t 64) (.c (.int .i64 0)))]
  (.cond (.t 65)
  (sr [4,5,6] [om 66 13,
oo 4 (.mov (.c (.str []))),
oo 5 (.mov (.c (.str []))),
om 6 66]
  (.pre [4,5,6] .ret))
  .skip))
  (.pre [11,12] (sr [12,14] [om 68 11,
oo 69 (.build [.bool false, .nilSl] [(1, 1, (.t 68))]),
oo 70 (.call (.c (.fn 82 [])) [(.t 69)] []),
om 67 70,
oo 71 (.ext (.t 67) 0),
oo 72 (.ext (.t 67) 1),
om 14 71,
om 15 72]
  (sr [4,5,6] [om 73 12,
om 74 14,
om 4 73,
om 5 74,
oo 6 (.mov (.c (.int .i64 0)))]
  (.pre [4,5,6] .ret))))))))))))) }
@[go_sem] def c59_0 : XC := (.pre [0,6,7,8]
 (sr [0,6,7,8,9] [oo 9 (.bin .lss (.t 8) (.t 7))]
  (.seq (.cond (.t 9)
  .skip
  (.pre [] (.exit 0)))
  (.pre [0,6,7,8] (.seq (.blk 1
  (sr [0,5,6,7,8] [oo 10 (.ixS 2 (.t 6) (.t 8)),
oo 11 (.load (.agg 2) (.t 10)),
oo 5 (.alloc 0 [.str [], .str []]),
⟨none,none,[],.store 2 (.t 5) (.t 11)⟩]
  (.reg false [0,6,7,8] [] [om 12 0,
om 13 0,
oo 14 (.nchk (.t 13)),
oo 15 (.padd (.t 14) 0),
oo 16 (.load .one (.t 15)),
om 17 16,
og 18 17 false (.load (.agg 2) (.t 5)),
og 19 17 false (.call (.c (.fn 17 [])) [(.t 18)] []),
og 20 17 false (.un .not (.t 19)),
oo 21 (.pick (.t 17) (.c (.bool true)) (.t 20)),
oo 22 (.nchk (.t 12)),
oo 23 (.padd (.t 22) 0),
⟨none,none,[],.store 1 (.t 23) (.t 21)⟩])))
  (.pre [0,6,7,8] (.reg false [0,6,7,8] [] [oo 24 (.bin .add (.t 8) (.c (.int .i64 1))),
om 8 24])))))))
def b59_0 : XC := c59_0
@[go_sem] theorem e59_0 (L : Lib) (cx : Cx) (env : Env) (h : Heap) : runC L cx b59_0 (env, h) = runC L cx c59_0 (env, h) := rfl
def x59 : XFn := { np := 2, isOpen := true, ns := 1, res := [], code :=
 (sr [0,6,7,8] [om 6 1,
oo 7 (.len false (.t 6)),
oo 8 (.mov (.c (.int .i64 0)))]
  (.blk 0
  (.loop b59_0))) }
def x60 : XFn := { np := 3, isOpen := true, ns := 0, res := [.tmp 6], code :=
 (sr [0,1,2] [oo 6 (.mov (.c (.str [])))]
  (sr [6] [om 7 0,
om 8 1,
om 9 2,
oo 10 (.call (.c (.fn 84 [])) [(.t 7), (.c (.fn 89 [])), (.t 8), (.t 9)] []),
om 6 10]
  (.pre [6] .ret))) }
def x61 : XFn := { np := 3, isOpen := false, ns := 2, res := [.cell 6 (.agg 2), .tmp 7], code :=
 (sr [0,4,5,6] [oo 4 (.boxR (.t 1)),
oo 5 (.boxR (.t 2)),
oo 6 (.alloc 1 [.str [], .str []]),
oo 7 (.mov (.c (.int .i64 0)))]
  (sr [0,4,5,6,8] [oo 10 (.build [.bool false] []),
oo 11 (.box 0 (.t 10)),
om 8 11]
  (sr [0,4,5,6,8] [om 12 8,
oo 13 (.load (.agg 2) (.t 4)),
oo 14 (.load (.agg 2) (.t 5)),
oo 15 (.bslice 2 (.agg [.str [], .str []]) 2 [(0, (.t 13)), (1, (.t 14))]),
oo 16 (.call (.c (.fn 59 [])) [(.t 12), (.t 15)] [])]
  (.seq (.reg true [4,5,6,8,9] [] [om 17 8,
om 18 0,
om 19 8,
oo 20 (.padd (.t 4) 0),
⟨some 21,none,[.closed 20], .load .one (.t 20)⟩,
oo 22 (.padd (.t 5) 1),
⟨some 23,none,[.closed 22], .load .one (.t 22)⟩,
oo 24 (.call (.c (.fn 60 [])) [(.t 19), (.t 21), (.t 23)] []),
om 25 8,
oo 26 (.padd (.t 5) 0),
⟨some 27,none,[.closed 26], .load .one (.t 26)⟩,
oo 28 (.padd (.t 4) 1),
⟨some 29,none,[.closed 28], .load .one (.t 28)⟩,
oo 30 (.call (.c (.fn 60 [])) [(.t 25), (.t 27), (.t 29)] []),
oo 31 (.call (.c (.fn 84 [])) [(.t 17), (.t 18), (.t 24), (.t 30)] []),
om 9 31])
  (sr [6,7] [om 32 8,
om 33 9,
om 34 8,
oo 35 (.padd (.t 4) 1),
oo 36 (.load .one (.t 35)),
oo 37 (.padd (.t 5) 1),
oo 38 (.load .one (.t 37)),
oo 39 (.call (.c (.fn 60 [])) [(.t 34), (.t 36), (.t 38)] []),
oo 40 (.call (.c (.fn 57 [])) [(.t 32), (.t 33), (.t 39)] []),
oo 41 (.ext (.t 40) 0),
oo 42 (.ext (.t 40) 1),
⟨none,none,[],.store 2 (.t 6) (.t 41)⟩,
om 7 42]
  (.pre [6,7] .ret)))))) }
def x62 : XFn := { np := 2, isOpen := false, ns := 2, res := [.tmp 4, .tmp 5], code :=
 (sr [0,1] [oo 4 (.mov (.c (.str []))),
oo 5 (.mov (.c (.int .i64 0)))]
  (sr [6,7,8] [om 10 0,
om 11 1,
oo 12 (.call (.c (.fn 79 [])) [(.t 10), (.t 11)] []),
om 9 12,
oo 13 (.ext (.t 9) 0),
oo 14 (.ext (.t 9) 1),
oo 15 (.ext (.t 9) 2),
oo 6 (.alloc 0 [.bool false, .nilSl]),
oo 7 (.alloc 1 [.bool false, .nilSl]),
⟨none,none,[],.store 2 (.t 6) (.t 13)⟩,
⟨none,none,[],.store 2 (.t 7) (.t 14)⟩,
om 8 15]
  (.seq (sr [6,7,17] [om 16 8,
oo 17 (.un .not (.t 16))]
  (.cond (.t 17)
  (sr [4,5] [oo 4 (.mov (.c (.str []))),
oo 5 (.mov (.c (.int .i64 30)))]
  (.pre [4,5] .ret))
  .skip))
  (.pre [6,7] (sr [4,5] [oo 18 (.load (.agg 2) (.t 6)),
oo 19 (.load (.agg 2) (.t 7)),
oo 20 (.call (.c (.fn 90 [])) [(.t 18), (.t 19)] []),
oo 21 (.call (.c (.fn 82 [])) [(.t 20)] []),
oo 22 (.ext (.t 21) 0),
oo 23 (.ext (.t 21) 1),
om 4 22,
om 5 23]
  (.pre [4,5] .ret)))))) }
def x65 : XFn := { np := 2, isOpen := false, ns := 0, res := [.tmp 4, .tmp 5], code :=
 (sr [0,1] [oo 4 (.mov (.c (.str []))),
oo 5 (.mov (.c (.int .i64 0)))]
  (.seq (sr [0,1,17] [om 10 0,
oo 11 (.call (.c (.fn 53 [])) [(.t 10)] []),
oo 12 (.un .not (.t 11)),
om 13 12,
og 14 13 false (.mov (.t 1)),
og 15 13 false (.call (.c (.fn 53 [])) [(.t 14)] []),
og 16 13 false (.un .not (.t 15)),
oo 17 (.pick (.t 13) (.c (.bool true)) (.t 16))]
  (.cond (.t 17)
  (sr [4,5] [oo 4 (.mov (.c (.str []))),
oo 5 (.mov (.c (.int .i64 30)))]
  (.pre [4,5] .ret))
  .skip))
  (.pre [0,1] (sr [1,6,7] [om 19 0,
oo 20 (.call (.c (.fn 54 [])) [(.t 19)] []),
om 18 20,
oo 21 (.ext (.t 18) 0),
oo 22 (.ext (.t 18) 1),
om 6 21,
om 7 22]
  (sr [6,7,8,9] [om 24 1,
oo 25 (.call (.c (.fn 54 [])) [(.t 24)] []),
om 23 25,
oo 26 (.ext (.t 23) 0),
oo 27 (.ext (.t 23) 1),
om 8 26,
om 9 27]
  (sr [4,5] [om 28 6,
om 29 7,
om 30 8,
oo 31 (.un .not (.t 30)),
om 32 9,
oo 33 (.call (.c (.fn 91 [])) [(.t 28), (.t 29), (.t 31), (.t 32)] []),
oo 34 (.ext (.t 33) 0),
oo 35 (.ext (.t 33) 1),
om 4 34,
om 5 35]
  (.pre [4,5] .ret))))))) }
def x66 : XFn := { np := 2, isOpen := false, ns := 0, res := [.tmp 4, .tmp 5, .tmp 6], code :=
 (sr [0,1] [oo 4 (.mov (.c (.str []))),
oo 5 (.mov (.c (.str []))),
oo 6 (.mov (.c (.int .i64 0)))]
  (.seq (sr [0,1,28] [om 17 0,
oo 18 (.call (.c (.fn 53 [])) [(.t 17)] []),
oo 19 (.un .not (.t 18)),
om 20 19,
og 21 20 false (.mov (.t 1)),
og 22 20 false (.call (.c (.fn 53 [])) [(.t 21)] []),
og 23 20 false (.un .not (.t 22)),
oo 24 (.pick (.t 20) (.c (.bool true)) (.t 23)),
om 25 24,
og 26 25 false (.mov (.t 1)),
og 27 25 false (.bin .eql (.t 26) (.c (.str [48]))),
oo 28 (.pick (.t 25) (.c (.bool true)) (.t 27))]
  (.cond (.t 28)
  (sr [4,5,6] [oo 4 (.mov (.c (.str []))),
oo 5 (.mov (.c (.str []))),
oo 6 (.mov (.c (.int .i64 30)))]
  (.pre [4,5,6] .ret))
  .skip))
  (.pre [0,1] (sr [1,7,8] [om 30 0,
oo 31 (.call (.c (.fn 54 [])) [(.t 30)] []),
om 29 31,
oo 32 (.ext (.t 29) 0),
oo 33 (.ext (.t 29) 1),
om 7 32,
om 8 33]
  (sr [7,8,9,10] [om 35 1,
oo 36 (.call (.c (.fn 54 [])) [(.t 35)] []),
om 34 36,
oo 37 (.ext (.t 34) 0),
oo 38 (.ext (.t 34) 1),
om 9 37,
om 10 38]
  (sr [7,9,10,11,12] [om 40 8,
om 41 10,
oo 42 (.call (.c (.fn 92 [])) [(.t 40), (.t 41)] []),
om 39 42,
oo 43 (.ext (.t 39) 0),
oo 44 (.ext (.t 39) 1),
om 11 43,
om 12 44]
  (.seq (sr [7,9,10,11,12,50] [om 45 7,
om 46 45,
og 47 46 true (.mov (.t 12)),
og 48 46 true (.len false (.t 47)),
og 49 46 true (.bin .gtr (.t 48) (.c (.int .i64 0))),
oo 50 (.pick (.t 46) (.t 49) (.c (.bool false)))]
  (.cond (.t 50)
  (sr [7,9,10,11,12] [om 51 11,
oo 52 (.bslice 1 (.int .i64 0) 1 [(0, (.c (.int .i64 1)))]),
oo 53 (.call (.c (.fn 93 [])) [(.t 51), (.t 52)] []),
om 11 53]
  (.reg false [7,9,11,12] [] [om 54 10,
om 55 12,
oo 56 (.call (.c (.fn 94 [])) [(.t 54), (.t 55)] []),
om 12 56]))
  .skip))
  (.pre [7,9,11,12] (sr [12,13,14] [om 58 7,
om 59 9,
oo 60 (.eqv true [] (.t 58) (.t 59)),
om 61 11,
oo 62 (.call (.c (.fn 55 [])) [(.t 60), (.t 61)] []),
om 57 62,
oo 63 (.ext (.t 57) 0),
oo 64 (.ext (.t 57) 1),
om 13 63,
om 14 64]
  (sr [13,14,15] [om 66 12,
oo 67 (.call (.c (.fn 52 [])) [(.c (.bool false)), (.t 66)] []),
om 65 67,
oo 68 (.ext (.t 65) 0),
oo 69 (.ext (.t 65) 1),
om 15 68,
om 16 69]
  (.seq (sr [13,14,15,71] [om 70 14,
oo 71 (.bin .neq (.t 70) (.c (.int .i64 0)))]
  (.cond (.t 71)
  (sr [4,5,6] [om 72 14,
oo 4 (.mov (.c (.str []))),
oo 5 (.mov (.c (.str []))),
om 6 72]
  (.pre [4,5,6] .ret))
  .skip))
  (.pre [13,15] (sr [4,5,6] [om 73 13,
om 74 15,
om 4 73,
om 5 74,
oo 6 (.mov (.c (.int .i64 0)))]
  (.pre [4,5,6] .ret)))))))))))))) }
def x67 : XFn := { np := 2, isOpen := false, ns := 0, res := [.tmp 4], code :=
 (sr [0,1] [oo 4 (.mov (.c (.int .i64 0)))]
  (.seq (sr [0,1,16] [om 9 0,
oo 10 (.call (.c (.fn 53 [])) [(.t 9)] []),
oo 11 (.un .not (.t 10)),
om 12 11,
og 13 12 false (.mov (.t 1)),
og 14 12 false (.call (.c (.fn 53 [])) [(.t 13)] []),
og 15 12 false (.un .not (.t 14)),
oo 16 (.pick (.t 12) (.c (.bool true)) (.t 15))]
  (.cond (.t 16)
  (sr [4] [oo 4 (.mov (.c (.int .i64 0)))]
  (.pre [4] .ret))
  .skip))
  (.pre [0,1] (sr [1,5,6] [om 18 0,
oo 19 (.call (.c (.fn 54 [])) [(.t 18)] []),
om 17 19,
oo 20 (.ext (.t 17) 0),
oo 21 (.ext (.t 17) 1),
om 5 20,
om 6 21]
  (sr [5,6,7,8] [om 23 1,
oo 24 (.call (.c (.fn 54 [])) [(.t 23)] []),
om 22 24,
oo 25 (.ext (.t 22) 0),
oo 26 (.ext (.t 22) 1),
om 7 25,
om 8 26]
  (.seq (sr [5,6,8,29] [om 27 5,
om 28 7,
oo 29 (.eqv true [] (.t 27) (.t 28))]
  (.cond (.t 29)
  (.seq (sr [30] [om 30 5]
  (.cond (.t 30)
  (sr [4] [oo 4 (.mov (.c (.int .i64 (-1))))]
  (.pre [4] .ret))
  .skip))
  (.pre [] (sr [4] [oo 4 (.mov (.c (.int .i64 1)))]
  (.pre [4] .ret))))
  .skip))
  (.pre [5,6,8] (.seq (sr [6,8,31] [om 31 5]
  (.cond (.t 31)
  (sr [4] [om 32 8,
om 33 6,
oo 34 (.call (.c (.fn 95 [])) [(.t 32), (.t 33)] []),
om 4 34]
  (.pre [4] .ret))
  .skip))
  (.pre [6,8] (sr [4] [om 35 6,
om 36 8,
oo 37 (.call (.c (.fn 95 [])) [(.t 35), (.t 36)] []),
om 4 37]
  (.pre [4] .ret))))))))))) }
def x69 : XFn := { np := 3, isOpen := false, ns := 2, res := [.cell 6 (.agg 2), .tmp 7], code :=
 (sr [1,2,3,6] [oo 3 (.boxR (.t 0)),
oo 6 (.alloc 1 [.str [], .str []]),
oo 7 (.mov (.c (.int .i64 0)))]
  (sr [1,2,3,6,8] [om 14 1,
oo 15 (.bin .lss (.t 14) (.c (.int .i64 0))),
om 16 15,
og 17 16 false (.mov (.t 1)),
og 18 16 false (.bin .gtr (.t 17) (.c (.int .i64 30))),
oo 19 (.pick (.t 16) (.c (.bool true)) (.t 18)),
oo 20 (.build [.bool false] [(0, 1, (.t 19))]),
oo 21 (.box 0 (.t 20)),
om 8 21]
  (sr [1,2,3,6,8] [om 22 8,
oo 23 (.load (.agg 2) (.t 3)),
oo 24 (.bslice 2 (.agg [.str [], .str []]) 1 [(0, (.t 23))]),
oo 25 (.call (.c (.fn 59 [])) [(.t 22), (.t 24)] [])]
  (.seq (sr [1,2,3,6,8,29] [om 26 8,
oo 27 (.nchk (.t 26)),
oo 28 (.padd (.t 27) 0),
oo 29 (.load .one (.t 28))]
  (.cond (.t 29)
  (sr [6,7] [oo 30 (.build [.str [], .str []] []),
⟨none,none,[],.store 2 (.t 6) (.t 30)⟩,
oo 7 (.mov (.c (.int .i64 40)))]
  (.pre [6,7] .ret))
  .skip))
  (.pre [1,2,3,6,8] (sr [2,3,6,8,9] [om 31 1,
oo 32 (.call (.c (.fn 96 [])) [(.c (.str [48])), (.t 31)] []),
oo 33 (.bin .add (.c (.str [49])) (.t 32)),
om 9 33]
  (sr [2,3,6,8,9,10] [om 34 8,
oo 35 (.padd (.t 3) 0),
oo 36 (.load .one (.t 35)),
om 37 9,
oo 38 (.call (.c (.fn 60 [])) [(.t 34), (.t 36), (.t 37)] []),
om 10 38]
  (.seq (sr [2,3,6,8,9,10,42] [om 39 8,
oo 40 (.nchk (.t 39)),
oo 41 (.padd (.t 40) 0),
oo 42 (.load .one (.t 41))]
  (.cond (.t 42)
  (sr [6,7] [oo 43 (.build [.str [], .str []] []),
⟨none,none,[],.store 2 (.t 6) (.t 43)⟩,
oo 7 (.mov (.c (.int .i64 40)))]
  (.pre [6,7] .ret))
  .skip))
  (.pre [2,3,6,8,9,10] (sr [2,6,8,9,11,12,13] [om 45 10,
oo 46 (.padd (.t 3) 1),
oo 47 (.load .one (.t 46)),
oo 48 (.call (.c (.fn 58 [])) [(.t 45), (.t 47)] []),
om 44 48,
oo 49 (.ext (.t 44) 0),
oo 50 (.ext (.t 44) 1),
oo 51 (.ext (.t 44) 2),
om 11 49,
om 12 50,
om 13 51]
  (.seq (sr [2,6,8,9,11,12] [om 52 8,
om 53 13,
oo 54 (.bin .neq (.t 53) (.c (.int .i64 0))),
oo 55 (.nchk (.t 52)),
oo 56 (.padd (.t 55) 0),
⟨none,none,[],.store 1 (.t 56) (.t 54)⟩]
  (sr [6,8,9,11,61] [om 57 2,
om 58 57,
og 59 58 true (.mov (.t 12)),
og 60 58 true (.bin .neq (.t 59) (.c (.str [48]))),
oo 61 (.pick (.t 58) (.t 60) (.c (.bool false)))]
  (.cond (.t 61)
  (.reg false [6,8,9,11] [] [om 62 8,
om 63 11,
oo 64 (.call (.c (.fn 84 [])) [(.t 62), (.c (.fn 62 [])), (.t 63), (.c (.str [49]))] []),
om 11 64])
  .skip)))
  (.pre [6,8,9,11] (sr [6,7] [om 65 8,
om 66 11,
om 67 9,
oo 68 (.call (.c (.fn 57 [])) [(.t 65), (.t 66), (.t 67)] []),
oo 69 (.ext (.t 68) 0),
oo 70 (.ext (.t 68) 1),
⟨none,none,[],.store 2 (.t 6) (.t 69)⟩,
om 7 70]
  (.pre [6,7] .ret)))))))))))))) }
@[go_sem] def c71_0 : XC := (.pre [7,9]
 (.seq (sr [7,9,32] [om 30 9,
oo 31 (.len false (.t 30)),
oo 32 (.bin .gtr (.t 31) (.c (.int .i64 0)))]
  (.cond (.t 32)
  .skip
  (.pre [7] (.exit 0))))
  (.pre [7,9] (.blk 1
  (sr [9,11] [om 34 7,
om 35 9,
oo 36 (.call (.c (.fn 92 [])) [(.t 34), (.t 35)] []),
om 33 36,
oo 37 (.ext (.t 33) 0),
oo 38 (.ext (.t 33) 1),
om 10 37,
om 11 38]
  (sr [7,11] [om 39 9,
om 7 39]
  (.reg false [7,9] [] [om 40 11,
om 9 40])))))))
def b71_0 : XC := c71_0
@[go_sem] theorem e71_0 (L : Lib) (cx : Cx) (env : Env) (h : Heap) : runC L cx b71_0 (env, h) = runC L cx c71_0 (env, h) := rfl
def x71 : XFn := { np := 2, isOpen := false, ns := 0, res := [.tmp 4, .tmp 5], code :=
 (sr [0,1] [oo 4 (.mov (.c (.str []))),
oo 5 (.mov (.c (.int .i64 0)))]
  (.seq (sr [0,1,19] [om 12 0,
oo 13 (.call (.c (.fn 53 [])) [(.t 12)] []),
oo 14 (.un .not (.t 13)),
om 15 14,
og 16 15 false (.mov (.t 1)),
og 17 15 false (.call (.c (.fn 53 [])) [(.t 16)] []),
og 18 15 false (.un .not (.t 17)),
oo 19 (.pick (.t 15) (.c (.bool true)) (.t 18))]
  (.cond (.t 19)
  (sr [4,5] [oo 4 (.mov (.c (.str []))),
oo 5 (.mov (.c (.int .i64 30)))]
  (.pre [4,5] .ret))
  .skip))
  (.pre [0,1] (sr [1,7] [om 21 0,
oo 22 (.call (.c (.fn 54 [])) [(.t 21)] []),
om 20 22,
oo 23 (.ext (.t 20) 0),
oo 24 (.ext (.t 20) 1),
om 6 23,
om 7 24]
  (sr [7,9] [om 26 1,
oo 27 (.call (.c (.fn 54 [])) [(.t 26)] []),
om 25 27,
oo 28 (.ext (.t 25) 0),
oo 29 (.ext (.t 25) 1),
om 8 28,
om 9 29]
  (.seq (.blk 0
  (.loop b71_0))
  (.pre [7] (sr [4,5] [om 41 7,
oo 42 (.call (.c (.fn 55 [])) [(.c (.bool false)), (.t 41)] []),
oo 43 (.ext (.t 42) 0),
oo 44 (.ext (.t 42) 1),
om 4 43,
om 5 44]
  (.pre [4,5] .ret))))))))) }
def x72 : XFn := { np := 1, isOpen := false, ns := 0, res := [.tmp 2], code :=
 (sr [0] [oo 2 (.mov (.c (.str [])))]
  (sr [2] [om 3 0,
oo 4 (.call (.c (.fn 98 [])) [(.t 3)] []),
om 2 4]
  (.pre [2] .ret))) }
def x73 : XFn := { np := 2, isOpen := false, ns := 2, res := [.tmp 4, .tmp 5], code :=
 (sr [0,1] [oo 4 (.mov (.c (.str []))),
oo 5 (.mov (.c (.int .i64 0)))]
  (sr [6,7,8] [om 10 0,
om 11 1,
oo 12 (.call (.c (.fn 79 [])) [(.t 10), (.t 11)] []),
om 9 12,
oo 13 (.ext (.t 9) 0),
oo 14 (.ext (.t 9) 1),
oo 15 (.ext (.t 9) 2),
oo 6 (.alloc 0 [.bool false, .nilSl]),
oo 7 (.alloc 1 [.bool false, .nilSl]),
⟨none,none,[],.store 2 (.t 6) (.t 13)⟩,
⟨none,none,[],.store 2 (.t 7) (.t 14)⟩,
om 8 15]
  (.seq (sr [6,7,17] [om 16 8,
oo 17 (.un .not (.t 16))]
  (.cond (.t 17)
  (sr [4,5] [oo 4 (.mov (.c (.str []))),
oo 5 (.mov (.c (.int .i64 30)))]
  (.pre [4,5] .ret))
  .skip))
  (.pre [6,7] (sr [6,7] [oo 18 (.padd (.t 7) 0),
oo 19 (.load .one (.t 18)),
oo 20 (.un .not (.t 19)),
oo 21 (.padd (.t 7) 0),
⟨none,none,[],.store 1 (.t 21) (.t 20)⟩]
  (sr [4,5] [oo 22 (.load (.agg 2) (.t 6)),
oo 23 (.load (.agg 2) (.t 7)),
oo 24 (.call (.c (.fn 90 [])) [(.t 22), (.t 23)] []),
oo 25 (.call (.c (.fn 82 [])) [(.t 24)] []),
oo 26 (.ext (.t 25) 0),
oo 27 (.ext (.t 25) 1),
om 4 26,
om 5 27]
  (.pre [4,5] .ret))))))) }
def x78 : XFn := { np := 1, isOpen := false, ns := 0, res := [.tmp 2], code :=
 (sr [0] [oo 2 (.mov (.c (.bool false)))]
  (sr [0,3] [om 4 0,
oo 5 (.call (.c (.fn 102 [])) [(.t 4), (.c (.str [45]))] []),
om 3 5]
  (.seq (sr [0,3,17] [om 6 3,
oo 7 (.bin .eql (.t 6) (.c (.str []))),
om 8 7,
og 9 8 false (.mov (.t 3)),
og 10 8 false (.len true (.t 9)),
og 11 8 false (.bin .gtr (.t 10) (.c (.int .i64 200))),
oo 12 (.pick (.t 8) (.c (.bool true)) (.t 11)),
om 13 12,
og 14 13 false (.mov (.t 3)),
og 15 13 false (.call (.c (.fn 103 [])) [(.t 14), (.c (.str [48,49,50,51,52,53,54,55,56,57]))] []),
og 16 13 false (.bin .neq (.t 15) (.c (.str []))),
oo 17 (.pick (.t 13) (.c (.bool true)) (.t 16))]
  (.cond (.t 17)
  (sr [2] [oo 2 (.mov (.c (.bool false)))]
  (.pre [2] .ret))
  .skip))
  (.pre [0,3] (sr [2] [om 18 0,
oo 19 (.bin .eql (.t 18) (.c (.str [48]))),
om 20 19,
og 21 20 false (.mov (.t 3)),
og 22 20 false (.ixStr (.t 21) (.c (.int .i64 0))),
og 23 20 false (.bin .neq (.t 22) (.c (.int .u8 48))),
oo 24 (.pick (.t 20) (.c (.bool true)) (.t 23)),
om 2 24]
  (.pre [2] .ret)))))) }
def x79 : XFn := { np := 2, isOpen := false, ns := 2, res := [.cell 4 (.agg 2), .cell 5 (.agg 2), .tmp 6], code :=
 (sr [0,1,4,5] [oo 4 (.alloc 0 [.bool false, .nilSl]),
oo 5 (.alloc 1 [.bool false, .nilSl]),
oo 6 (.mov (.c (.bool false)))]
  (.seq (sr [0,1,4,5,14] [om 7 0,
oo 8 (.call (.c (.fn 78 [])) [(.t 7)] []),
oo 9 (.un .not (.t 8)),
om 10 9,
og 11 10 false (.mov (.t 1)),
og 12 10 false (.call (.c (.fn 78 [])) [(.t 11)] []),
og 13 10 false (.un .not (.t 12)),
oo 14 (.pick (.t 10) (.c (.bool true)) (.t 13))]
  (.cond (.t 14)
  (sr [4,5,6] [oo 15 (.build [.bool false, .nilSl] []),
oo 16 (.build [.bool false, .nilSl] []),
⟨none,none,[],.store 2 (.t 4) (.t 15)⟩,
⟨none,none,[],.store 2 (.t 5) (.t 16)⟩,
oo 6 (.mov (.c (.bool false)))]
  (.pre [4,5,6] .ret))
  .skip))
  (.pre [0,1,4,5] (sr [4,5,6] [om 17 0,
oo 18 (.call (.c (.fn 104 [])) [(.t 17)] []),
om 19 1,
oo 20 (.call (.c (.fn 104 [])) [(.t 19)] []),
⟨none,none,[],.store 2 (.t 4) (.t 18)⟩,
⟨none,none,[],.store 2 (.t 5) (.t 20)⟩,
oo 6 (.mov (.c (.bool true)))]
  (.pre [4,5,6] .ret))))) }
def r0 : XRnd := { ps := [19,20], asg := (sr [3,4,5,20] [om 5 19]
  (.reg false [3,4,5,6] [] [om 6 20])), body :=
 (.blk 1
  (sr [3,4,5,6,26] [om 21 6,
oo 22 (.load .one (.t 3)),
om 23 5,
oo 24 (.ixS 1 (.t 22) (.t 23)),
oo 25 (.load .one (.t 24)),
oo 26 (.bin .neq (.t 21) (.t 25))]
  (.cond (.t 26)
  (sr [] [om 27 6,
oo 28 (.load .one (.t 3)),
om 29 5,
oo 30 (.ixS 1 (.t 28) (.t 29)),
oo 31 (.load .one (.t 30)),
oo 32 (.call (.c (.fn 105 [])) [(.t 27), (.t 31)] []),
⟨none,none,[],.store 1 (.t 4) (.t 32)⟩]
  (.pre [] .ret))
  .skip))) }
def x80 : XFn := { np := 2, isOpen := false, ns := 2, res := [.cell 4 .one], code :=
 (sr [0,3,4] [oo 3 (.boxR (.t 1)),
oo 4 (.alloc 1 [.int .i64 0])]
  (.seq (sr [0,3,4,11] [om 7 0,
oo 8 (.len false (.t 7)),
oo 9 (.load .one (.t 3)),
oo 10 (.len false (.t 9)),
oo 11 (.bin .neq (.t 8) (.t 10))]
  (.cond (.t 11)
  (sr [4] [om 12 0,
oo 13 (.len false (.t 12)),
oo 14 (.load .one (.t 3)),
oo 15 (.len false (.t 14)),
oo 16 (.call (.c (.fn 105 [])) [(.t 13), (.t 15)] []),
⟨none,none,[],.store 1 (.t 4) (.t 16)⟩]
  (.pre [4] .ret))
  .skip))
  (.pre [0,3,4] (.seq (sr [3,4,18] [om 17 0,
oo 18 (.call (.c (.fn 106 [])) [(.t 17)] [])]
  (.blk 0
  (.rfn 0 (.t 18) 0)))
  (.pre [4] (sr [4] [⟨none,none,[],.store 1 (.t 4) (.c (.int .i64 0))⟩]
  (.pre [4] .ret))))))) }
def r1 : XRnd := { ps := [15,16], asg := (sr [3,4,5,6,16] [om 6 15]
  (.reg false [3,4,5,6,7] [] [om 7 16])), body :=
 (.blk 1
  (sr [3,4,5,6] [om 17 7,
oo 18 (.bslice 1 (.int .i64 0) 1 [(0, (.t 17))]),
oo 19 (.load .one (.t 5)),
oo 20 (.app 1002 1 17592186044416 (.t 18) (.t 19)),
oo 21 (.call (.c (.fn 107 [])) [(.t 20)] []),
⟨none,none,[],.store 1 (.t 5) (.t 21)⟩]
  (sr [4,5,6,8] [oo 22 (.load .one (.t 3)),
oo 23 (.mkfn 1108 [(.t 22)]),
oo 8 (.alloc 1 [.nilFn]),
⟨none,none,[],.store 1 (.t 8) (.t 23)⟩]
  (sr [4,5,6,8,9] [oo 24 (.mkfn 109 [(.t 8), (.t 5)]),
om 9 24]
  (.seq (.reg true [4,5,6,8] [] [⟨some 25,none,[.box 4], .load .one (.t 4)⟩,
om 26 6,
om 27 9,
oo 28 (.call (.c (.fn 110 [])) [(.c (.int .i64 9999)), (.t 27)] []),
oo 29 (.ixS 1 (.t 25) (.t 26)),
⟨none,none,[.elem 29, .closed 28], .store 1 (.t 29) (.t 28)⟩])
  (.reg true [] [] [⟨some 30,none,[.box 5], .load .one (.t 5)⟩,
⟨some 31,none,[.box 8, .ne 8 5], .load .one (.t 8)⟩,
⟨some 32,none,[.box 4, .ne 4 5], .load .one (.t 4)⟩,
om 33 6,
oo 34 (.ixS 1 (.t 32) (.t 33)),
⟨some 35,none,[.elem 34], .load .one (.t 34)⟩,
⟨some 36,none,[.fn 31 [20,72,97,109,113,115,136,138,1108]], .call (.t 31) [(.t 35)] []⟩,
oo 37 (.call (.c (.fn 88 [])) [(.t 30), (.t 36)] []),
⟨none,none,[.box 5], .store 1 (.t 5) (.t 37)⟩])))))) }
def x81 : XFn := { np := 2, isOpen := false, ns := 6, res := [.cell 4 .one, .cell 5 .one], code :=
 (sr [0,3,4,5] [oo 3 (.boxR (.t 1)),
oo 4 (.alloc 4 [.nilSl]),
oo 5 (.alloc 5 [.nilSl])]
  (sr [0,3,4,5] [om 10 0,
oo 11 (.len false (.t 10)),
oo 12 (.mk 3 1 (.int .i64 0) 17592186044416 (.t 11) (.t 11)),
⟨none,none,[],.store 1 (.t 4) (.t 12)⟩]
  (.seq (sr [3,4,5,14] [om 13 0,
oo 14 (.call (.c (.fn 106 [])) [(.t 13)] [])]
  (.blk 0
  (.rfn 0 (.t 14) 1)))
  (.pre [4,5] (.seq (.reg true [4,5] [] [⟨some 38,none,[.box 4, .ne 4 5], .load .one (.t 4)⟩,
oo 39 (.call (.c (.fn 107 [])) [(.t 38)] []),
⟨some 40,none,[.box 5, .ne 5 4], .load .one (.t 5)⟩,
⟨none,none,[.box 4], .store 1 (.t 4) (.t 39)⟩,
⟨none,none,[.box 5], .store 1 (.t 5) (.t 40)⟩])
  (.pre [4,5] .ret)))))) }
def r2 : XRnd := { ps := [16,17], asg := (sr [1,4,5,17] [om 5 16]
  (.reg false [1,4,5,6] [] [om 6 17])), body :=
 (.blk 1
  (sr [1,4,5,7] [om 18 6,
oo 19 (.call (.c (.fn 98 [])) [(.t 18)] []),
om 7 19]
  (.seq (sr [4,7,25] [om 20 5,
oo 21 (.padd (.t 1) 1),
oo 22 (.load .one (.t 21)),
oo 23 (.len false (.t 22)),
oo 24 (.bin .sub (.t 23) (.c (.int .i64 1))),
oo 25 (.bin .lss (.t 20) (.t 24))]
  (.cond (.t 25)
  (.reg false [4,7] [] [om 26 7,
oo 27 (.len true (.t 26)),
oo 28 (.bin .sub (.c (.int .i64 4)) (.t 27)),
oo 29 (.call (.c (.fn 96 [])) [(.c (.str [48])), (.t 28)] []),
om 30 7,
oo 31 (.bin .add (.t 29) (.t 30)),
om 7 31])
  .skip))
  (.pre [4,7] (.reg false [] [] [om 32 7,
oo 33 (.bwr 1 75 (.t 4) (.t 32))]))))) }
def x82 : XFn := { np := 1, isOpen := false, ns := 3, res := [.tmp 2, .tmp 3], code :=
 (sr [1,2,3] [oo 1 (.boxR (.t 0)),
oo 2 (.mov (.c (.str []))),
oo 3 (.mov (.c (.int .i64 0)))]
  (.seq (sr [1,2,3,12] [oo 9 (.padd (.t 1) 1),
oo 10 (.load .one (.t 9)),
oo 11 (.len false (.t 10)),
oo 12 (.bin .eql (.t 11) (.c (.int .i64 0)))]
  (.cond (.t 12)
  (sr [2,3] [oo 2 (.mov (.c (.str [48]))),
oo 3 (.mov (.c (.int .i64 0)))]
  (.pre [2,3] .ret))
  .skip))
  (.pre [1,2,3] (sr [1,2,3,4] [oo 4 (.mkbld 2)]
  (.seq (sr [1,2,3,4,15] [oo 13 (.padd (.t 1) 1),
oo 14 (.load .one (.t 13)),
oo 15 (.call (.c (.fn 106 [])) [(.t 14)] [])]
  (.blk 0
  (.rfn 0 (.t 15) 2)))
  (.pre [1,4] (sr [1,8] [oo 34 (.bstr 76 (.t 4)),
om 8 34]
  (.seq (sr [1,8,37] [om 35 8,
oo 36 (.len true (.t 35)),
oo 37 (.bin .gtr (.t 36) (.c (.int .i64 200)))]
  (.cond (.t 37)
  (sr [2,3] [oo 2 (.mov (.c (.str []))),
oo 3 (.mov (.c (.int .i64 30)))]
  (.pre [2,3] .ret))
  .skip))
  (.pre [1,8] (.seq (sr [8,39] [oo 38 (.padd (.t 1) 0),
oo 39 (.load .one (.t 38))]
  (.cond (.t 39)
  (sr [2,3] [om 40 8,
oo 41 (.bin .add (.c (.str [45])) (.t 40)),
om 2 41,
oo 3 (.mov (.c (.int .i64 0)))]
  (.pre [2,3] .ret))
  .skip))
  (.pre [8] (sr [2,3] [om 42 8,
om 2 42,
oo 3 (.mov (.c (.int .i64 0)))]
  (.pre [2,3] .ret))))))))))))) }
@[go_sem] def c83_0 : XC := (.pre [0]
 (.seq (sr [0,14] [om 3 0,
oo 4 (.len false (.t 3)),
oo 5 (.bin .gtr (.t 4) (.c (.int .i64 0))),
om 6 5,
og 7 6 true (.mov (.t 0)),
og 8 6 true (.mov (.t 0)),
og 9 6 true (.len false (.t 8)),
og 10 6 true (.bin .sub (.t 9) (.c (.int .i64 1))),
og 11 6 true (.ixS 1 (.t 7) (.t 10)),
og 12 6 true (.load .one (.t 11)),
og 13 6 true (.bin .eql (.t 12) (.c (.int .i64 0))),
oo 14 (.pick (.t 6) (.t 13) (.c (.bool false)))]
  (.cond (.t 14)
  .skip
  (.pre [0] (.exit 0))))
  (.pre [0] (.blk 1
  (.reg false [0] [] [om 15 0,
om 16 0,
oo 17 (.len false (.t 16)),
oo 18 (.bin .sub (.t 17) (.c (.int .i64 1))),
oo 19 (.slice (some 1) (.t 15) none (some (.t 18))),
om 0 19])))))
def b83_0 : XC := c83_0
@[go_sem] theorem e83_0 (L : Lib) (cx : Cx) (env : Env) (h : Heap) : runC L cx b83_0 (env, h) = runC L cx c83_0 (env, h) := rfl
def x83 : XFn := { np := 1, isOpen := false, ns := 0, res := [.tmp 2], code :=
 (sr [0] [oo 2 (.mov (.c .nilSl))]
  (.seq (.blk 0
  (.loop b83_0))
  (.pre [0] (sr [2] [om 20 0,
om 2 20]
  (.pre [2] .ret))))) }
def x84 : XFn := { np := 4, isOpen := true, ns := 0, res := [.tmp 8], code :=
 (sr [0,1,2,3] [oo 8 (.mov (.c (.str [])))]
  (.seq (sr [0,1,2,3,14] [om 11 0,
oo 12 (.nchk (.t 11)),
oo 13 (.padd (.t 12) 0),
oo 14 (.load .one (.t 13))]
  (.cond (.t 14)
  (sr [8] [oo 8 (.mov (.c (.str [])))]
  (.pre [8] .ret))
  .skip))
  (.pre [0,1,2,3] (sr [0,9,10] [om 16 1,
om 17 2,
om 18 3,
oo 19 (.call (.t 16) [(.t 17), (.t 18)] []),
om 15 19,
oo 20 (.ext (.t 15) 0),
oo 21 (.ext (.t 15) 1),
om 9 20,
om 10 21]
  (sr [9] [om 22 0,
om 23 10,
oo 24 (.bin .neq (.t 23) (.c (.int .i64 0))),
oo 25 (.nchk (.t 22)),
oo 26 (.padd (.t 25) 0),
⟨none,none,[],.store 1 (.t 26) (.t 24)⟩]
  (sr [8] [om 27 9,
om 8 27]
  (.pre [8] .ret))))))) }
def x85 : XFn := { np := 3, isOpen := true, ns := 0, res := [.tmp 6], code :=
 (sr [0,1,2] [oo 6 (.mov (.c (.str [])))]
  (sr [6] [om 7 0,
om 8 1,
om 9 2,
oo 10 (.call (.c (.fn 84 [])) [(.t 7), (.c (.fn 111 [])), (.t 8), (.t 9)] []),
om 6 10]
  (.pre [6] .ret))) }
def x86 : XFn := { np := 2, isOpen := false, ns := 1, res := [.tmp 4], code :=
 (sr [2,3] [oo 2 (.boxR (.t 0)),
oo 3 (.boxR (.t 1)),
oo 4 (.mov (.c .nilSl))]
  (sr [4] [oo 5 (.load .one (.t 2)),
oo 6 (.len false (.t 5)),
oo 7 (.load .one (.t 3)),
oo 8 (.len false (.t 7)),
oo 9 (.minmax true [(.t 6), (.t 8)]),
oo 10 (.mkfn 113 [(.t 2), (.t 3)]),
oo 11 (.call (.c (.fn 112 [])) [(.t 9), (.c (.int .i64 0)), (.t 10)] []),
oo 12 (.call (.c (.fn 107 [])) [(.t 11)] [(0, 0)]),
om 4 12]
  (.pre [4] .ret))) }
def x87 : XFn := { np := 0, isOpen := false, ns := 0, res := [.tmp 0], code :=
 (sr [] [oo 0 (.mov (.c .nilSl))]
  (sr [0] [oo 1 (.bslice 1 (.int .i64 0) 1 [(0, (.c (.int .i64 1)))]),
om 0 1]
  (.pre [0] .ret))) }
def x88 : XFn := { np := 2, isOpen := false, ns := 1, res := [.tmp 4], code :=
 (sr [2,3] [oo 2 (.boxR (.t 0)),
oo 3 (.boxR (.t 1)),
oo 4 (.mov (.c .nilSl))]
  (sr [4] [oo 5 (.load .one (.t 2)),
oo 6 (.len false (.t 5)),
oo 7 (.mkfn 115 [(.t 2), (.t 3)]),
oo 8 (.call (.c (.fn 112 [])) [(.t 6), (.c (.int .i64 0)), (.t 7)] []),
oo 9 (.call (.c (.fn 107 [])) [(.t 8)] [(0, 0)]),
om 4 9]
  (.pre [4] .ret))) }
def x89 : XFn := { np := 2, isOpen := false, ns := 2, res := [.tmp 4, .tmp 5], code :=
 (sr [0,1] [oo 4 (.mov (.c (.str []))),
oo 5 (.mov (.c (.int .i64 0)))]
  (sr [6,7,8] [om 10 0,
om 11 1,
oo 12 (.call (.c (.fn 79 [])) [(.t 10), (.t 11)] []),
om 9 12,
oo 13 (.ext (.t 9) 0),
oo 14 (.ext (.t 9) 1),
oo 15 (.ext (.t 9) 2),
oo 6 (.alloc 0 [.bool false, .nilSl]),
oo 7 (.alloc 1 [.bool false, .nilSl]),
⟨none,none,[],.store 2 (.t 6) (.t 13)⟩,
⟨none,none,[],.store 2 (.t 7) (.t 14)⟩,
om 8 15]
  (.seq (sr [6,7,17] [om 16 8,
oo 17 (.un .not (.t 16))]
  (.cond (.t 17)
  (sr [4,5] [oo 4 (.mov (.c (.str []))),
oo 5 (.mov (.c (.int .i64 30)))]
  (.pre [4,5] .ret))
  .skip))
  (.pre [6,7] (.seq (.reg true [4,5] [] [oo 18 (.padd (.t 6) 0),
⟨some 19,none,[.box 18], .load .one (.t 18)⟩,
oo 20 (.padd (.t 7) 0),
⟨some 21,none,[.box 20], .load .one (.t 20)⟩,
oo 22 (.eqv true [] (.t 19) (.t 21)),
oo 23 (.padd (.t 6) 1),
⟨some 24,none,[.box 23], .load .one (.t 23)⟩,
oo 25 (.padd (.t 7) 1),
⟨some 26,none,[.box 25], .load .one (.t 25)⟩,
oo 27 (.call (.c (.fn 116 [])) [(.t 24), (.t 26)] []),
oo 28 (.build [.bool false, .nilSl] [(0, 1, (.t 22)), (1, 1, (.t 27))]),
oo 29 (.call (.c (.fn 82 [])) [(.t 28)] []),
oo 30 (.ext (.t 29) 0),
oo 31 (.ext (.t 29) 1),
om 4 30,
om 5 31])
  (.pre [4,5] .ret)))))) }
def x90 : XFn := { np := 2, isOpen := false, ns := 1, res := [.cell 4 (.agg 2)], code :=
 (sr [2,3,4] [oo 2 (.boxR (.t 0)),
oo 3 (.boxR (.t 1)),
oo 4 (.alloc 0 [.bool false, .nilSl])]
  (.seq (.blk 0
  (sr [2,3,4,5] [oo 6 (.padd (.t 2) 0),
oo 7 (.load .one (.t 6)),
oo 8 (.padd (.t 3) 0),
oo 9 (.load .one (.t 8)),
oo 10 (.eqv false [] (.t 7) (.t 9)),
om 5 10]
  (.cond (.t 5)
  (.seq (.reg true [4] [] [oo 11 (.padd (.t 2) 0),
⟨some 12,none,[.box 11], .load .one (.t 11)⟩,
oo 13 (.padd (.t 2) 1),
⟨some 14,none,[.box 13], .load .one (.t 13)⟩,
oo 15 (.padd (.t 3) 1),
⟨some 16,none,[.box 15], .load .one (.t 15)⟩,
oo 17 (.call (.c (.fn 86 [])) [(.t 14), (.t 16)] []),
oo 18 (.build [.bool false, .nilSl] [(0, 1, (.t 12)), (1, 1, (.t 17))]),
⟨none,none,[.box 4], .store 2 (.t 4) (.t 18)⟩])
  (.pre [4] .ret))
  (sr [2,3,4,19] [oo 20 (.padd (.t 2) 1),
oo 21 (.load .one (.t 20)),
oo 22 (.padd (.t 3) 1),
oo 23 (.load .one (.t 22)),
oo 24 (.call (.c (.fn 80 [])) [(.t 21), (.t 23)] []),
oo 25 (.bin .geq (.t 24) (.c (.int .i64 0))),
om 19 25]
  (.cond (.t 19)
  (.seq (.reg true [4] [] [oo 26 (.padd (.t 2) 0),
⟨some 27,none,[.box 26], .load .one (.t 26)⟩,
oo 28 (.padd (.t 2) 1),
⟨some 29,none,[.box 28], .load .one (.t 28)⟩,
oo 30 (.padd (.t 3) 1),
⟨some 31,none,[.box 30], .load .one (.t 30)⟩,
oo 32 (.call (.c (.fn 88 [])) [(.t 29), (.t 31)] []),
oo 33 (.build [.bool false, .nilSl] [(0, 1, (.t 27)), (1, 1, (.t 32))]),
⟨none,none,[.box 4], .store 2 (.t 4) (.t 33)⟩])
  (.pre [4] .ret))
  .skip)))))
  (.pre [2,3,4] (.seq (.reg true [4] [] [oo 34 (.padd (.t 3) 0),
⟨some 35,none,[.box 34], .load .one (.t 34)⟩,
oo 36 (.padd (.t 3) 1),
⟨some 37,none,[.box 36], .load .one (.t 36)⟩,
oo 38 (.padd (.t 2) 1),
⟨some 39,none,[.box 38], .load .one (.t 38)⟩,
oo 40 (.call (.c (.fn 88 [])) [(.t 37), (.t 39)] []),
oo 41 (.build [.bool false, .nilSl] [(0, 1, (.t 35)), (1, 1, (.t 40))]),
⟨none,none,[.box 4], .store 2 (.t 4) (.t 41)⟩])
  (.pre [4] .ret))))) }
def x91 : XFn := { np := 4, isOpen := false, ns := 0, res := [.tmp 8, .tmp 9], code :=
 (sr [0,1,2,3] [oo 8 (.mov (.c (.str []))),
oo 9 (.mov (.c (.int .i64 0)))]
  (sr [0,1,2,3,10] [om 12 0,
om 10 12]
  (sr [0,1,2,3,10] [oo 11 (.mov (.c .nilSl))]
  (.seq (sr [1,2,3,10,15] [om 13 0,
om 14 2,
oo 15 (.eqv false [] (.t 13) (.t 14))]
  (.cond (.t 15)
  (.reg false [10,11] [] [om 16 1,
om 17 3,
oo 18 (.call (.c (.fn 93 [])) [(.t 16), (.t 17)] []),
om 11 18])
  (sr [1,2,3,10,22] [om 19 1,
om 20 3,
oo 21 (.call (.c (.fn 95 [])) [(.t 19), (.t 20)] []),
oo 22 (.bin .geq (.t 21) (.c (.int .i64 0)))]
  (.cond (.t 22)
  (.reg false [10,11] [] [om 23 1,
om 24 3,
oo 25 (.call (.c (.fn 94 [])) [(.t 23), (.t 24)] []),
om 11 25])
  (sr [1,3,10] [om 26 2,
om 10 26]
  (.reg false [10,11] [] [om 27 3,
om 28 1,
oo 29 (.call (.c (.fn 94 [])) [(.t 27), (.t 28)] []),
om 11 29]))))))
  (.pre [10,11] (sr [8,9] [om 30 10,
om 31 11,
oo 32 (.call (.c (.fn 55 [])) [(.t 30), (.t 31)] []),
oo 33 (.ext (.t 32) 0),
oo 34 (.ext (.t 32) 1),
om 8 33,
om 9 34]
  (.pre [8,9] .ret))))))) }
@[go_sem] def c92_1 : XC := (.pre [0,1,6,7,8]
 (.seq (sr [0,1,6,7,8,30] [om 27 7,
om 28 1,
oo 29 (.call (.c (.fn 95 [])) [(.t 27), (.t 28)] []),
oo 30 (.bin .geq (.t 29) (.c (.int .i64 0)))]
  (.cond (.t 30)
  .skip
  (.pre [0,1,6,7,8] (.exit 2))))
  (.pre [0,1,6,7,8] (.blk 3
  (sr [0,1,6,7,8] [om 31 7,
om 32 1,
oo 33 (.call (.c (.fn 94 [])) [(.t 31), (.t 32)] []),
om 7 33]
  (.reg false [0,1,6,7,8] [] [om 34 6,
om 35 8,
oo 36 (.ixS 1 (.t 34) (.t 35)),
oo 37 (.load .one (.t 36)),
oo 38 (.bin .add (.t 37) (.c (.int .i64 1))),
oo 39 (.ixS 1 (.t 34) (.t 35)),
⟨none,none,[],.store 1 (.t 39) (.t 38)⟩]))))))
def b92_1 : XC := c92_1
@[go_sem] theorem e92_1 (L : Lib) (cx : Cx) (env : Env) (h : Heap) : runC L cx b92_1 (env, h) = runC L cx c92_1 (env, h) := rfl
@[go_sem] def c92_0 : XC := (.pre [0,1,6,7,8]
 (.seq (sr [0,1,6,7,8,16] [om 15 8,
oo 16 (.bin .geq (.t 15) (.c (.int .i64 0)))]
  (.cond (.t 16)
  .skip
  (.pre [6,7] (.exit 0))))
  (.pre [0,1,6,7,8] (.seq (.blk 1
  (sr [0,1,6,7,8] [om 19 0,
om 20 8,
oo 21 (.ixS 1 (.t 19) (.t 20)),
oo 22 (.load .one (.t 21)),
oo 23 (.bslice 1 (.int .i64 0) 1 [(0, (.t 22))]),
om 24 7,
oo 25 (.app 1002 1 17592186044416 (.t 23) (.t 24)),
oo 26 (.call (.c (.fn 83 [])) [(.t 25)] []),
om 7 26]
  (.blk 2
  (.loop b92_1))))
  (.pre [0,1,6,7,8] (.reg false [0,1,6,7,8] [] [om 17 8,
oo 18 (.bin .sub (.t 17) (.c (.int .i64 1))),
om 8 18]))))))
def b92_0 : XC := c92_0
@[go_sem] theorem e92_0 (L : Lib) (cx : Cx) (env : Env) (h : Heap) : runC L cx b92_0 (env, h) = runC L cx c92_0 (env, h) := rfl
def x92 : XFn := { np := 2, isOpen := false, ns := 5, res := [.tmp 4, .tmp 5], code :=
 (sr [0,1] [oo 4 (.mov (.c .nilSl)),
oo 5 (.mov (.c .nilSl))]
  (sr [0,1,6] [om 9 0,
oo 10 (.len false (.t 9)),
oo 11 (.mk 4 1 (.int .i64 0) 17592186044416 (.t 10) (.t 10)),
om 6 11]
  (sr [0,1,6,7] [oo 7 (.mov (.c .nilSl))]
  (.seq (sr [0,1,6,7,8] [om 12 0,
oo 13 (.len false (.t 12)),
oo 14 (.bin .sub (.t 13) (.c (.int .i64 1))),
om 8 14]
  (.blk 0
  (.loop b92_0)))
  (.pre [6,7] (sr [4,5] [om 40 6,
oo 41 (.call (.c (.fn 83 [])) [(.t 40)] []),
om 42 7,
om 4 41,
om 5 42]
  (.pre [4,5] .ret))))))) }
@[go_sem] def c93_0 : XC := (.pre [0,1,5,6,7]
 (.seq (sr [0,1,5,6,7,22] [om 9 7,
om 10 0,
oo 11 (.len false (.t 10)),
oo 12 (.bin .lss (.t 9) (.t 11)),
om 13 12,
og 14 13 false (.mov (.t 7)),
og 15 13 false (.mov (.t 1)),
og 16 13 false (.len false (.t 15)),
og 17 13 false (.bin .lss (.t 14) (.t 16)),
oo 18 (.pick (.t 13) (.c (.bool true)) (.t 17)),
om 19 18,
og 20 19 false (.mov (.t 6)),
og 21 19 false (.bin .gtr (.t 20) (.c (.int .i64 0))),
oo 22 (.pick (.t 19) (.c (.bool true)) (.t 21))]
  (.cond (.t 22)
  .skip
  (.pre [5] (.exit 0))))
  (.pre [0,1,5,6,7] (.seq (.blk 1
  (sr [0,1,5,7,8] [om 25 6,
om 8 25]
  (.seq (sr [0,1,5,7,8,29] [om 26 7,
om 27 0,
oo 28 (.len false (.t 27)),
oo 29 (.bin .lss (.t 26) (.t 28))]
  (.cond (.t 29)
  (.reg false [0,1,5,7,8] [] [om 30 8,
om 31 0,
om 32 7,
oo 33 (.ixS 1 (.t 31) (.t 32)),
oo 34 (.load .one (.t 33)),
oo 35 (.bin .add (.t 30) (.t 34)),
om 8 35])
  .skip))
  (.pre [0,1,5,7,8] (.seq (sr [0,1,5,7,8,39] [om 36 7,
om 37 1,
oo 38 (.len false (.t 37)),
oo 39 (.bin .lss (.t 36) (.t 38))]
  (.cond (.t 39)
  (.reg false [0,1,5,7,8] [] [om 40 8,
om 41 1,
om 42 7,
oo 43 (.ixS 1 (.t 41) (.t 42)),
oo 44 (.load .one (.t 43)),
oo 45 (.bin .add (.t 40) (.t 44)),
om 8 45])
  .skip))
  (.pre [0,1,5,7,8] (sr [0,1,5,7,8] [om 46 5,
om 47 8,
oo 48 (.bin .rem (.t 47) (.c (.int .i64 10))),
oo 49 (.bslice 1 (.int .i64 0) 1 [(0, (.t 48))]),
oo 50 (.app 0 1 17592186044416 (.t 46) (.t 49)),
om 5 50]
  (.reg false [0,1,5,6,7] [] [om 51 8,
oo 52 (.bin .quo (.t 51) (.c (.int .i64 10))),
om 6 52]))))))))
  (.pre [0,1,5,6,7] (.reg false [0,1,5,6,7] [] [om 23 7,
oo 24 (.bin .add (.t 23) (.c (.int .i64 1))),
om 7 24]))))))
def b93_0 : XC := c93_0
@[go_sem] theorem e93_0 (L : Lib) (cx : Cx) (env : Env) (h : Heap) : runC L cx b93_0 (env, h) = runC L cx c93_0 (env, h) := rfl
def x93 : XFn := { np := 2, isOpen := false, ns := 1, res := [.tmp 4], code :=
 (sr [0,1] [oo 4 (.mov (.c .nilSl))]
  (sr [0,1,5] [oo 5 (.mov (.c .nilSl))]
  (sr [0,1,5,6] [oo 6 (.mov (.c (.int .i64 0)))]
  (.seq (sr [0,1,5,6,7] [oo 7 (.mov (.c (.int .i64 0)))]
  (.blk 0
  (.loop b93_0)))
  (.pre [5] (sr [4] [om 53 5,
om 4 53]
  (.pre [4] .ret))))))) }
@[go_sem] def c94_0 : XC := (.pre [0,1,5,6,7]
 (.seq (sr [0,1,5,6,7,12] [om 9 7,
om 10 0,
oo 11 (.len false (.t 10)),
oo 12 (.bin .lss (.t 9) (.t 11))]
  (.cond (.t 12)
  .skip
  (.pre [5] (.exit 0))))
  (.pre [0,1,5,6,7] (.seq (.blk 1
  (sr [0,1,5,7,8] [om 15 0,
om 16 7,
oo 17 (.ixS 1 (.t 15) (.t 16)),
oo 18 (.load .one (.t 17)),
om 19 6,
oo 20 (.bin .sub (.t 18) (.t 19)),
om 8 20]
  (.seq (sr [0,1,5,7,8,24] [om 21 7,
om 22 1,
oo 23 (.len false (.t 22)),
oo 24 (.bin .lss (.t 21) (.t 23))]
  (.cond (.t 24)
  (.reg false [0,1,5,7,8] [] [om 25 8,
om 26 1,
om 27 7,
oo 28 (.ixS 1 (.t 26) (.t 27)),
oo 29 (.load .one (.t 28)),
oo 30 (.bin .sub (.t 25) (.t 29)),
om 8 30])
  .skip))
  (.pre [0,1,5,7,8] (sr [0,1,5,6,7,8] [oo 6 (.mov (.c (.int .i64 0)))]
  (.seq (sr [0,1,5,6,7,8,32] [om 31 8,
oo 32 (.bin .lss (.t 31) (.c (.int .i64 0)))]
  (.cond (.t 32)
  (sr [0,1,5,7,8] [om 33 8,
oo 34 (.bin .add (.t 33) (.c (.int .i64 10))),
om 8 34]
  (.reg false [0,1,5,6,7,8] [] [oo 6 (.mov (.c (.int .i64 1)))]))
  .skip))
  (.pre [0,1,5,6,7,8] (.reg false [0,1,5,6,7] [] [om 35 5,
om 36 8,
oo 37 (.bslice 1 (.int .i64 0) 1 [(0, (.t 36))]),
oo 38 (.app 1 1 17592186044416 (.t 35) (.t 37)),
om 5 38]))))))))
  (.pre [0,1,5,6,7] (.reg false [0,1,5,6,7] [] [om 13 7,
oo 14 (.bin .add (.t 13) (.c (.int .i64 1))),
om 7 14]))))))
def b94_0 : XC := c94_0
@[go_sem] theorem e94_0 (L : Lib) (cx : Cx) (env : Env) (h : Heap) : runC L cx b94_0 (env, h) = runC L cx c94_0 (env, h) := rfl
def x94 : XFn := { np := 2, isOpen := false, ns := 2, res := [.tmp 4], code :=
 (sr [0,1] [oo 4 (.mov (.c .nilSl))]
  (sr [0,1,5] [oo 5 (.mov (.c .nilSl))]
  (sr [0,1,5,6] [oo 6 (.mov (.c (.int .i64 0)))]
  (.seq (sr [0,1,5,6,7] [oo 7 (.mov (.c (.int .i64 0)))]
  (.blk 0
  (.loop b94_0)))
  (.pre [5] (sr [4] [om 39 5,
oo 40 (.call (.c (.fn 83 [])) [(.t 39)] []),
om 4 40]
  (.pre [4] .ret))))))) }
@[go_sem] def c95_0 : XC := (.pre [0,1,5]
 (.seq (sr [0,1,5,20] [om 19 5,
oo 20 (.bin .geq (.t 19) (.c (.int .i64 0)))]
  (.cond (.t 20)
  .skip
  (.pre [] (.exit 0))))
  (.pre [0,1,5] (.seq (.blk 1
  (.seq (.reg true [0,1,5,31] [] [om 23 0,
om 24 5,
oo 25 (.ixS 1 (.t 23) (.t 24)),
⟨some 26,none,[.elem 25], .load .one (.t 25)⟩,
om 27 1,
om 28 5,
oo 29 (.ixS 1 (.t 27) (.t 28)),
⟨some 30,none,[.elem 29], .load .one (.t 29)⟩,
oo 31 (.bin .neq (.t 26) (.t 30))])
  (.cond (.t 31)
  (.seq (.seq (.reg true [40] [] [om 32 0,
om 33 5,
oo 34 (.ixS 1 (.t 32) (.t 33)),
⟨some 35,none,[.elem 34], .load .one (.t 34)⟩,
om 36 1,
om 37 5,
oo 38 (.ixS 1 (.t 36) (.t 37)),
⟨some 39,none,[.elem 38], .load .one (.t 38)⟩,
oo 40 (.bin .lss (.t 35) (.t 39))])
  (.cond (.t 40)
  (sr [4] [oo 4 (.mov (.c (.int .i64 (-1))))]
  (.pre [4] .ret))
  .skip))
  (.pre [] (sr [4] [oo 4 (.mov (.c (.int .i64 1)))]
  (.pre [4] .ret))))
  .skip)))
  (.pre [0,1,5] (.reg false [0,1,5] [] [om 21 5,
oo 22 (.bin .sub (.t 21) (.c (.int .i64 1))),
om 5 22]))))))
def b95_0 : XC := c95_0
@[go_sem] theorem e95_0 (L : Lib) (cx : Cx) (env : Env) (h : Heap) : runC L cx b95_0 (env, h) = runC L cx c95_0 (env, h) := rfl
def x95 : XFn := { np := 2, isOpen := false, ns := 0, res := [.tmp 4], code :=
 (sr [0,1] [oo 4 (.mov (.c (.int .i64 0)))]
  (.seq (sr [0,1,10] [om 6 0,
oo 7 (.len false (.t 6)),
om 8 1,
oo 9 (.len false (.t 8)),
oo 10 (.bin .neq (.t 7) (.t 9))]
  (.cond (.t 10)
  (.seq (sr [15] [om 11 0,
oo 12 (.len false (.t 11)),
om 13 1,
oo 14 (.len false (.t 13)),
oo 15 (.bin .lss (.t 12) (.t 14))]
  (.cond (.t 15)
  (sr [4] [oo 4 (.mov (.c (.int .i64 (-1))))]
  (.pre [4] .ret))
  .skip))
  (.pre [] (sr [4] [oo 4 (.mov (.c (.int .i64 1)))]
  (.pre [4] .ret))))
  .skip))
  (.pre [0,1] (.seq (sr [0,1,5] [om 16 0,
oo 17 (.len false (.t 16)),
oo 18 (.bin .sub (.t 17) (.c (.int .i64 1))),
om 5 18]
  (.blk 0
  (.loop b95_0)))
  (.pre [] (sr [4] [oo 4 (.mov (.c (.int .i64 0)))]
  (.pre [4] .ret))))))) }
@[go_sem] def c97_0 : XC := (.pre [0,3,4]
 (.seq (sr [0,3,4,7] [om 5 4,
om 6 0,
oo 7 (.bin .lss (.t 5) (.t 6))]
  (.cond (.t 7)
  .skip
  (.pre [3] (.exit 0))))
  (.pre [0,3,4] (.seq (.blk 1
  (.reg false [0,3,4] [] [om 10 3,
oo 11 (.bin .add (.t 10) (.c (.str [48]))),
om 3 11]))
  (.pre [0,3,4] (.reg false [0,3,4] [] [om 8 4,
oo 9 (.bin .add (.t 8) (.c (.int .i64 1))),
om 4 9]))))))
def b97_0 : XC := c97_0
@[go_sem] theorem e97_0 (L : Lib) (cx : Cx) (env : Env) (h : Heap) : runC L cx b97_0 (env, h) = runC L cx c97_0 (env, h) := rfl
def x97 : XFn := { np := 1, isOpen := false, ns := 0, res := [.tmp 2], code :=
 (sr [0] [oo 2 (.mov (.c (.str [])))]
  (sr [0,3] [oo 3 (.mov (.c (.str [49])))]
  (.seq (sr [0,3,4] [oo 4 (.mov (.c (.int .i64 0)))]
  (.blk 0
  (.loop b97_0)))
  (.pre [3] (sr [2] [om 12 3,
om 2 12]
  (.pre [2] .ret)))))) }
@[go_sem] def c104_0 : XC := (.pre [2,3,4]
 (.seq (sr [2,3,4,18] [om 16 3,
oo 17 (.len true (.t 16)),
oo 18 (.bin .gtr (.t 17) (.c (.int .i64 0)))]
  (.cond (.t 18)
  .skip
  (.pre [2,4] (.exit 0))))
  (.pre [2,3,4] (.blk 1
  (sr [2,3,4,5] [om 19 3,
oo 20 (.len true (.t 19)),
oo 21 (.bin .sub (.t 20) (.c (.int .i64 4))),
oo 22 (.minmax true [(.c (.int .i64 0)), (.t 21)]),
om 5 22]
  (sr [2,3,4,5,6] [om 24 3,
om 25 5,
oo 26 (.slice none (.t 24) (some (.t 25)) none),
oo 27 (.call (.c (.fn 135 [])) [(.t 26)] []),
om 23 27,
oo 28 (.ext (.t 23) 0),
oo 29 (.ext (.t 23) 1),
om 6 28,
om 7 29]
  (sr [2,3,4,5] [oo 30 (.padd (.t 4) 1),
oo 31 (.load .one (.t 30)),
om 32 6,
oo 33 (.bslice 1 (.int .i64 0) 1 [(0, (.t 32))]),
oo 34 (.app 0 1 17592186044416 (.t 31) (.t 33)),
oo 35 (.padd (.t 4) 1),
⟨none,none,[],.store 1 (.t 35) (.t 34)⟩]
  (.reg false [2,3,4] [] [om 36 3,
om 37 5,
oo 38 (.slice none (.t 36) none (some (.t 37))),
om 3 38]))))))))
def b104_0 : XC := c104_0
@[go_sem] theorem e104_0 (L : Lib) (cx : Cx) (env : Env) (h : Heap) : runC L cx b104_0 (env, h) = runC L cx c104_0 (env, h) := rfl
def x104 : XFn := { np := 1, isOpen := false, ns := 3, res := [.cell 2 (.agg 2)], code :=
 (sr [0,2] [oo 2 (.alloc 2 [.bool false, .nilSl])]
  (sr [0,2,3] [om 8 0,
oo 9 (.call (.c (.fn 102 [])) [(.t 8), (.c (.str [45]))] []),
om 3 9]
  (sr [2,3,4] [om 10 3,
oo 11 (.len true (.t 10)),
om 12 0,
oo 13 (.len true (.t 12)),
oo 14 (.bin .lss (.t 11) (.t 13)),
oo 15 (.build [.bool false, .nilSl] [(0, 1, (.t 14))]),
oo 4 (.alloc 1 [.bool false, .nilSl]),
⟨none,none,[],.store 2 (.t 4) (.t 15)⟩]
  (.seq (.blk 0
  (.loop b104_0))
  (.pre [2,4] (sr [2,4] [oo 39 (.padd (.t 4) 1),
oo 40 (.load .one (.t 39)),
oo 41 (.call (.c (.fn 107 [])) [(.t 40)] []),
oo 42 (.padd (.t 4) 1),
⟨none,none,[],.store 1 (.t 42) (.t 41)⟩]
  (sr [2] [oo 43 (.load (.agg 2) (.t 4)),
⟨none,none,[],.store 2 (.t 2) (.t 43)⟩]
  (.pre [2] .ret)))))))) }
def x105 : XFn := { np := 2, isOpen := false, ns := 0, res := [.tmp 4], code :=
 (sr [0,1] [oo 4 (.mov (.c (.int .i64 0)))]
  (sr [0,1,5] [om 7 0,
oo 8 (.call (.c (.fn 136 [])) [(.t 7)] []),
om 5 8]
  (sr [0,1,5,6] [om 9 1,
oo 10 (.call (.c (.fn 136 [])) [(.t 9)] []),
om 6 10]
  (.seq (sr [0,1,6,11] [om 11 5]
  (.cond (.t 11)
  (.seq (sr [12] [om 12 6]
  (.cond (.t 12)
  (sr [4] [oo 4 (.mov (.c (.int .i64 0)))]
  (.pre [4] .ret))
  .skip))
  (.pre [] (sr [4] [oo 4 (.mov (.c (.int .i64 (-1))))]
  (.pre [4] .ret))))
  .skip))
  (.pre [0,1,6] (.seq (sr [0,1,13] [om 13 6]
  (.cond (.t 13)
  (sr [4] [oo 4 (.mov (.c (.int .i64 1)))]
  (.pre [4] .ret))
  .skip))
  (.pre [0,1] (.seq (sr [0,1,16] [om 14 0,
om 15 1,
oo 16 (.bin .lss (.t 14) (.t 15))]
  (.cond (.t 16)
  (sr [4] [oo 4 (.mov (.c (.int .i64 (-1))))]
  (.pre [4] .ret))
  .skip))
  (.pre [0,1] (.seq (sr [19] [om 17 0,
om 18 1,
oo 19 (.bin .gtr (.t 17) (.t 18))]
  (.cond (.t 19)
  (sr [4] [oo 4 (.mov (.c (.int .i64 1)))]
  (.pre [4] .ret))
  .skip))
  (.pre [] (sr [4] [oo 4 (.mov (.c (.int .i64 0)))]
  (.pre [4] .ret))))))))))))) }
def x106 : XFn := { np := 1, isOpen := false, ns := 0, res := [.tmp 2], code :=
 (sr [1] [oo 1 (.boxR (.t 0)),
oo 2 (.mov (.c .nilFn))]
  (sr [2] [oo 3 (.mkfn 137 [(.t 1)]),
om 2 3]
  (.pre [2] .ret))) }
@[go_sem] def c107_0 : XC := (.pre [0]
 (.seq (sr [0,14] [om 3 0,
oo 4 (.len false (.t 3)),
oo 5 (.bin .gtr (.t 4) (.c (.int .i64 0))),
om 6 5,
og 7 6 true (.mov (.t 0)),
og 8 6 true (.mov (.t 0)),
og 9 6 true (.len false (.t 8)),
og 10 6 true (.bin .sub (.t 9) (.c (.int .i64 1))),
og 11 6 true (.ixS 1 (.t 7) (.t 10)),
og 12 6 true (.load .one (.t 11)),
og 13 6 true (.bin .eql (.t 12) (.c (.int .i64 0))),
oo 14 (.pick (.t 6) (.t 13) (.c (.bool false)))]
  (.cond (.t 14)
  .skip
  (.pre [0] (.exit 0))))
  (.pre [0] (.blk 1
  (.reg false [0] [] [om 15 0,
om 16 0,
oo 17 (.len false (.t 16)),
oo 18 (.bin .sub (.t 17) (.c (.int .i64 1))),
oo 19 (.slice (some 1) (.t 15) none (some (.t 18))),
om 0 19])))))
def b107_0 : XC := c107_0
@[go_sem] theorem e107_0 (L : Lib) (cx : Cx) (env : Env) (h : Heap) : runC L cx b107_0 (env, h) = runC L cx c107_0 (env, h) := rfl
def x107 : XFn := { np := 1, isOpen := false, ns := 0, res := [.tmp 2], code :=
 (sr [0] [oo 2 (.mov (.c .nilSl))]
  (.seq (.blk 0
  (.loop b107_0))
  (.pre [0] (sr [2] [om 20 0,
om 2 20]
  (.pre [2] .ret))))) }
def x108 : XFn := { np := 2, isOpen := false, ns := 1, res := [.tmp 4], code :=
 (sr [2,3] [oo 2 (.boxR (.t 0)),
oo 3 (.boxR (.t 1)),
oo 4 (.mov (.c .nilSl))]
  (sr [4] [oo 5 (.load .one (.t 2)),
oo 6 (.len false (.t 5)),
oo 7 (.mkfn 138 [(.t 2), (.t 3)]),
oo 8 (.call (.c (.fn 112 [])) [(.t 6), (.c (.int .i64 0)), (.t 7)] []),
oo 9 (.call (.c (.fn 107 [])) [(.t 8)] [(0, 0)]),
om 4 9]
  (.pre [4] .ret))) }
def x109 : XFn := { np := 3, isOpen := false, ns := 0, res := [.tmp 4], code :=
 (sr [0,1,2] [oo 4 (.mov (.c (.bool false)))]
  (.seq (.reg true [4] [] [⟨some 5,none,[.box 1], .load .one (.t 1)⟩,
om 6 0,
oo 7 (.bin .add (.t 6) (.c (.int .i64 1))),
⟨some 8,none,[.fn 5 [20,72,97,109,113,115,136,138,1108]], .call (.t 5) [(.t 7)] []⟩,
⟨some 9,none,[.box 2], .load .one (.t 2)⟩,
oo 10 (.call (.c (.fn 80 [])) [(.t 8), (.t 9)] []),
oo 11 (.bin .gtr (.t 10) (.c (.int .i64 0))),
om 4 11])
  (.pre [4] .ret))) }
@[go_sem] def c110_0 : XC := (.pre [1,5,6]
 (.seq (sr [1,5,6,11] [om 9 5,
om 10 6,
oo 11 (.bin .lss (.t 9) (.t 10))]
  (.cond (.t 11)
  .skip
  (.pre [5] (.exit 0))))
  (.pre [1,5,6] (.blk 1
  (sr [1,5,6,7] [om 12 5,
om 13 6,
oo 14 (.bin .add (.t 12) (.t 13)),
oo 15 (.conv .u64 (.t 14)),
oo 16 (.bin .shr (.t 15) (.c (.int .u64 1))),
oo 17 (.conv .i64 (.t 16)),
om 7 17]
  (sr [1,5,6,7,21] [om 18 1,
om 19 7,
oo 20 (.call (.t 18) [(.t 19)] []),
oo 21 (.un .not (.t 20))]
  (.cond (.t 21)
  (.reg false [1,5,6] [] [om 22 7,
oo 23 (.bin .add (.t 22) (.c (.int .i64 1))),
om 5 23])
  (.reg false [1,5,6] [] [om 24 7,
om 6 24]))))))))
def b110_0 : XC := c110_0
@[go_sem] theorem e110_0 (L : Lib) (cx : Cx) (env : Env) (h : Heap) : runC L cx b110_0 (env, h) = runC L cx c110_0 (env, h) := rfl
def x110 : XFn := { np := 2, isOpen := false, ns := 0, res := [.tmp 4], code :=
 (sr [0,1] [oo 4 (.mov (.c (.int .i64 0)))]
  (sr [1,5,6] [om 8 0,
oo 5 (.mov (.c (.int .i64 0))),
om 6 8]
  (.seq (.blk 0
  (.loop b110_0))
  (.pre [5] (sr [4] [om 25 5,
om 4 25]
  (.pre [4] .ret)))))) }
def x111 : XFn := { np := 2, isOpen := false, ns := 0, res := [.tmp 4, .tmp 5], code :=
 (sr [0,1] [oo 4 (.mov (.c (.str []))),
oo 5 (.mov (.c (.int .i64 0)))]
  (sr [6,8] [om 10 0,
om 11 1,
oo 12 (.call (.c (.fn 58 [])) [(.t 10), (.t 11)] []),
om 9 12,
oo 13 (.ext (.t 9) 0),
oo 14 (.ext (.t 9) 1),
oo 15 (.ext (.t 9) 2),
om 6 13,
om 7 14,
om 8 15]
  (sr [4,5] [om 16 6,
om 17 8,
om 4 16,
om 5 17]
  (.pre [4,5] .ret)))) }
@[go_sem] def c112_0 : XC := (.pre [0,1,2,7,8]
 (.seq (sr [0,1,2,7,8,19] [om 13 8,
om 14 0,
oo 15 (.bin .lss (.t 13) (.t 14)),
om 16 15,
og 17 16 false (.mov (.t 1)),
og 18 16 false (.bin .neq (.t 17) (.c (.int .i64 0))),
oo 19 (.pick (.t 16) (.c (.bool true)) (.t 18))]
  (.cond (.t 19)
  .skip
  (.pre [7] (.exit 0))))
  (.pre [0,1,2,7,8] (.seq (.blk 1
  (sr [0,2,7,8,9] [om 22 2,
om 23 8,
oo 24 (.call (.t 22) [(.t 23)] []),
om 25 1,
oo 26 (.bin .add (.t 24) (.t 25)),
om 9 26]
  (sr [0,1,2,7,8,9] [oo 1 (.mov (.c (.int .i64 0)))]
  (.seq (sr [0,1,2,7,8,9,28] [om 27 9,
oo 28 (.bin .lss (.t 27) (.c (.int .i64 0)))]
  (.cond (.t 28)
  (sr [0,2,7,8,9] [om 29 9,
oo 30 (.bin .add (.t 29) (.c (.int .i64 10000))),
om 9 30]
  (.reg false [0,1,2,7,8,9] [] [oo 1 (.mov (.c (.int .i64 (-1))))]))
  (sr [0,1,2,7,8,9,32] [om 31 9,
oo 32 (.bin .geq (.t 31) (.c (.int .i64 10000)))]
  (.cond (.t 32)
  (sr [0,1,2,7,8,9] [om 33 9,
oo 34 (.bin .quo (.t 33) (.c (.int .i64 10000))),
om 1 34]
  (.reg false [0,1,2,7,8,9] [] [om 35 9,
oo 36 (.bin .rem (.t 35) (.c (.int .i64 10000))),
om 9 36]))
  .skip))))
  (.pre [0,1,2,7,8,9] (.reg false [0,1,2,7,8] [] [om 37 7,
om 38 9,
oo 39 (.bslice 1 (.int .i64 0) 1 [(0, (.t 38))]),
oo 40 (.app 0 1 17592186044416 (.t 37) (.t 39)),
om 7 40]))))))
  (.pre [0,1,2,7,8] (.reg false [0,1,2,7,8] [] [om 20 8,
oo 21 (.bin .add (.t 20) (.c (.int .i64 1))),
om 8 21]))))))
def b112_0 : XC := c112_0
@[go_sem] theorem e112_0 (L : Lib) (cx : Cx) (env : Env) (h : Heap) : runC L cx b112_0 (env, h) = runC L cx c112_0 (env, h) := rfl
def x112 : XFn := { np := 3, isOpen := false, ns := 2, res := [.tmp 6], code :=
 (sr [0,1,2] [oo 6 (.mov (.c .nilSl))]
  (sr [0,1,2,7] [om 10 0,
oo 11 (.bin .add (.t 10) (.c (.int .i64 1))),
oo 12 (.mk 1 1 (.int .i64 0) 17592186044416 (.c (.int .i64 0)) (.t 11)),
om 7 12]
  (.seq (sr [0,1,2,7,8] [oo 8 (.mov (.c (.int .i64 0)))]
  (.blk 0
  (.loop b112_0)))
  (.pre [7] (sr [6] [om 41 7,
om 6 41]
  (.pre [6] .ret)))))) }
def x113 : XFn := { np := 3, isOpen := false, ns := 0, res := [.tmp 4], code :=
 (sr [0,1,2] [oo 4 (.mov (.c (.int .i64 0)))]
  (.seq (.reg true [4] [] [⟨some 5,none,[.box 1], .load .one (.t 1)⟩,
om 6 0,
oo 7 (.call (.c (.fn 114 [])) [(.t 5), (.t 6)] []),
⟨some 8,none,[.box 2], .load .one (.t 2)⟩,
om 9 0,
oo 10 (.call (.c (.fn 114 [])) [(.t 8), (.t 9)] []),
oo 11 (.bin .add (.t 7) (.t 10)),
om 4 11])
  (.pre [4] .ret))) }
def x114 : XFn := { np := 2, isOpen := false, ns := 0, res := [.tmp 4], code :=
 (sr [0,1] [oo 4 (.mov (.c (.int .i64 0)))]
  (.seq (sr [0,1,8] [om 5 1,
om 6 0,
oo 7 (.len false (.t 6)),
oo 8 (.bin .lss (.t 5) (.t 7))]
  (.cond (.t 8)
  (sr [4] [om 9 0,
om 10 1,
oo 11 (.ixS 1 (.t 9) (.t 10)),
oo 12 (.load .one (.t 11)),
om 4 12]
  (.pre [4] .ret))
  .skip))
  (.pre [] (sr [4] [oo 4 (.mov (.c (.int .i64 0)))]
  (.pre [4] .ret))))) }
def x115 : XFn := { np := 3, isOpen := false, ns := 0, res := [.tmp 4], code :=
 (sr [0,1,2] [oo 4 (.mov (.c (.int .i64 0)))]
  (.seq (.reg true [4] [] [⟨some 5,none,[.box 1], .load .one (.t 1)⟩,
om 6 0,
oo 7 (.call (.c (.fn 114 [])) [(.t 5), (.t 6)] []),
⟨some 8,none,[.box 2], .load .one (.t 2)⟩,
om 9 0,
oo 10 (.call (.c (.fn 114 [])) [(.t 8), (.t 9)] []),
oo 11 (.bin .sub (.t 7) (.t 10)),
om 4 11])
  (.pre [4] .ret))) }
def r3 : XRnd := { ps := [10,11], asg := (.reg false [2,5,7] [] [om 7 11]), body :=
 (.blk 1
  (.seq (sr [2,5,7,14] [oo 12 (.load .one (.t 5)),
oo 13 (.len false (.t 12)),
oo 14 (.bin .gtr (.t 13) (.c (.int .i64 0)))]
  (.cond (.t 14)
  (.reg false [2,5,7] [] [oo 15 (.bslice 1 (.int .i64 0) 1 [(0, (.c (.int .i64 0)))]),
oo 16 (.load .one (.t 5)),
oo 17 (.app 1001 1 17592186044416 (.t 15) (.t 16)),
⟨none,none,[],.store 1 (.t 5) (.t 17)⟩])
  .skip))
  (.pre [2,5,7] (.reg true [] [] [⟨some 18,none,[.box 5], .load .one (.t 5)⟩,
⟨some 19,none,[.box 2], .load .one (.t 2)⟩,
om 20 7,
oo 21 (.call (.c (.fn 108 [])) [(.t 19), (.t 20)] []),
oo 22 (.call (.c (.fn 86 [])) [(.t 18), (.t 21)] []),
⟨none,none,[.box 5], .store 1 (.t 5) (.t 22)⟩])))) }
def x116 : XFn := { np := 2, isOpen := false, ns := 3, res := [.tmp 4], code :=
 (sr [1,2,4] [oo 2 (.boxR (.t 0)),
oo 4 (.mov (.c .nilSl))]
  (sr [1,2,4,5] [oo 5 (.alloc 2 [.nilSl])]
  (.seq (sr [2,4,5,9] [om 8 1,
oo 9 (.call (.c (.fn 106 [])) [(.t 8)] [])]
  (.blk 0
  (.rfn 0 (.t 9) 3)))
  (.pre [5] (sr [4] [oo 23 (.load .one (.t 5)),
om 4 23]
  (.pre [4] .ret)))))) }
def x136 : XFn := { np := 1, isOpen := false, ns := 0, res := [.tmp 2], code :=
 (sr [0] [oo 2 (.mov (.c (.bool false)))]
  (sr [2] [om 3 0,
om 4 0,
oo 5 (.bin .neq (.t 3) (.t 4)),
om 2 5]
  (.pre [2] .ret))) }
@[go_sem] def c137_0 : XC := (.pre [0,1,3]
 (.seq (sr [0,1,3,8] [om 7 3,
oo 8 (.bin .geq (.t 7) (.c (.int .i64 0)))]
  (.cond (.t 8)
  .skip
  (.pre [] (.exit 0))))
  (.pre [0,1,3] (.seq (.blk 1
  (sr [0,1,3,18] [om 11 0,
om 12 3,
oo 13 (.load .one (.t 1)),
om 14 3,
oo 15 (.ixS 1 (.t 13) (.t 14)),
oo 16 (.load .one (.t 15)),
oo 17 (.call (.t 11) [(.t 12), (.t 16)] []),
oo 18 (.un .not (.t 17))]
  (.cond (.t 18)
  (.pre [] .ret)
  .skip)))
  (.pre [0,1,3] (.reg false [0,1,3] [] [om 9 3,
oo 10 (.bin .sub (.t 9) (.c (.int .i64 1))),
om 3 10]))))))
def b137_0 : XC := c137_0
@[go_sem] theorem e137_0 (L : Lib) (cx : Cx) (env : Env) (h : Heap) : runC L cx b137_0 (env, h) = runC L cx c137_0 (env, h) := rfl
def x137 : XFn := { np := 2, isOpen := true, ns := 0, res := [], code :=
 (sr [0,1,3] [oo 4 (.load .one (.t 1)),
oo 5 (.len false (.t 4)),
oo 6 (.bin .sub (.t 5) (.c (.int .i64 1))),
om 3 6]
  (.blk 0
  (.loop b137_0))) }
def x138 : XFn := { np := 3, isOpen := false, ns := 0, res := [.tmp 4], code :=
 (sr [0,1,2] [oo 4 (.mov (.c (.int .i64 0)))]
  (.seq (.reg true [4] [] [⟨some 5,none,[.box 1], .load .one (.t 1)⟩,
om 6 0,
oo 7 (.call (.c (.fn 114 [])) [(.t 5), (.t 6)] []),
⟨some 8,none,[.box 2], .load .one (.t 2)⟩,
oo 9 (.bin .mul (.t 7) (.t 8)),
om 4 9])
  (.pre [4] .ret))) }
def rdT : List (Option XRnd) := [some r0, some r1, some r2, some r3]
def rds (g : Nat) : Option XRnd := (rdT[g]?).getD none
def fnT : List (Option XFn) := [none, none, none, some x3, none, some x5, none, none, none, none, none, some x11, some x12, some x13, some x14, some x15, some x16, some x17, some x18, some x19, some x20, none, some x22, some x23, some x24, some x25, some x26, some x27, none, none, none, none, none, none, none, some x35, none, some x37, none, some x39, some x40, some x41, none, none, none, none, some x46, none, none, some x49, some x50, some x51, some x52, some x53, some x54, some x55, none, some x57, some x58, some x59, some x60, some x61, some x62, none, none, some x65, some x66, some x67, none, some x69, none, some x71, some x72, some x73, none, none, none, none, some x78, some x79, some x80, some x81, some x82, some x83, some x84, some x85, some x86, some x87, some x88, some x89, some x90, some x91, some x92, some x93, some x94, some x95, none, some x97, none, none, none, none, none, none, some x104, some x105, some x106, some x107, some x108, some x109, some x110, some x111, some x112, some x113, some x114, some x115, some x116, none, none, none, none, none, none, none, none, none, none, none, none, none, none, none, none, none, none, none, some x136, some x137, some x138]
def fns (f : Nat) : Option XFn := (fnT[f]?).getD none
def clo (f : Nat) : Bool := [3,4,5,6,7,8,9,10,11,12,13,14,15,16,17,18,19,20,21,22,23,24,25,26,27,28,29,30,31,32,33,34,35,36,37,38,39,40,41,42,43,44,45,46,49,50,51,52,53,54,55,56,58,61,62,63,64,65,66,67,68,69,70,71,72,73,78,79,80,81,82,83,86,87,88,89,90,91,92,93,94,95,97,104,105,106,107,108,109,110,111,112,113,114,115,116,136,138,47,48,96,98,102,103,135].contains f
def kinds (f : Nat) : Option OK := match f with | 47 => some .join | 48 => some .cut | 96 => some .repeat_ | 98 => some .itoa | 102 => some .trimPrefix | 103 => some .trim | 135 => some (.atoi 165) | _ => none
def lib : Lib := { fns := fns, rds := rds, orc := orcT kinds, brw := fun f => ([] : List Nat).contains f }
end Go.VI.Rational
