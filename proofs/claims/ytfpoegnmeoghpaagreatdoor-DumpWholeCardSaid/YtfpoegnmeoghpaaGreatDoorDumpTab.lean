/- the functions of dump for the own evaluator -/
import Derived.Test.YtfpoegnmeoghpaaGreatDoorVSO
set_option linter.unusedVariables false
set_option linter.unusedSimpArgs false
namespace Go.VI.Dump
@[go_sem] abbrev oo (d : Nat) (x : XI) : XOp := ⟨some d,none,[],x⟩
@[go_sem] abbrev om (d s : Nat) : XOp := ⟨some d,none,[],.mov (.t s)⟩
@[go_sem] abbrev og (d g : Nat) (b : Bool) (x : XI) : XOp := ⟨some d,some (g,b),[],x⟩
@[go_sem] abbrev sr (k : List Nat) (o : List XOp) (r : XC) : XC := .seq (.reg false k [] o) r
def g0 : List AV := [(.int .u64 1),(.int .u64 10),(.int .u64 100),(.int .u64 1000),(.int .u64 10000),(.int .u64 100000),(.int .u64 1000000),(.int .u64 10000000),(.int .u64 100000000),(.int .u64 1000000000),(.int .u64 10000000000),(.int .u64 100000000000),(.int .u64 1000000000000),(.int .u64 10000000000000),(.int .u64 100000000000000),(.int .u64 1000000000000000),(.int .u64 10000000000000000),(.int .u64 100000000000000000),(.int .u64 1000000000000000000),(.int .u64 10000000000000000000)]
def g5 : List AV := [(.int .u8 128),(.int .u8 191),(.int .u8 160),(.int .u8 191),(.int .u8 128),(.int .u8 159),(.int .u8 144),(.int .u8 191),(.int .u8 128),(.int .u8 143),(.int .u8 0),(.int .u8 0),(.int .u8 0),(.int .u8 0),(.int .u8 0),(.int .u8 0),(.int .u8 0),(.int .u8 0),(.int .u8 0),(.int .u8 0),(.int .u8 0),(.int .u8 0),(.int .u8 0),(.int .u8 0),(.int .u8 0),(.int .u8 0),(.int .u8 0),(.int .u8 0),(.int .u8 0),(.int .u8 0),(.int .u8 0),(.int .u8 0)]
def g6 : List AV := [(.int .u8 0),(.int .u8 1),(.int .u8 28),(.int .u8 2),(.int .u8 29),(.int .u8 14),(.int .u8 24),(.int .u8 3),(.int .u8 30),(.int .u8 22),(.int .u8 20),(.int .u8 15),(.int .u8 25),(.int .u8 17),(.int .u8 4),(.int .u8 8),(.int .u8 31),(.int .u8 27),(.int .u8 13),(.int .u8 23),(.int .u8 21),(.int .u8 19),(.int .u8 16),(.int .u8 7),(.int .u8 26),(.int .u8 12),(.int .u8 18),(.int .u8 6),(.int .u8 11),(.int .u8 5),(.int .u8 10),(.int .u8 9)]
def g7 : List AV := [(.int .u8 0),(.int .u8 1),(.int .u8 56),(.int .u8 2),(.int .u8 57),(.int .u8 49),(.int .u8 28),(.int .u8 3),(.int .u8 61),(.int .u8 58),(.int .u8 42),(.int .u8 50),(.int .u8 38),(.int .u8 29),(.int .u8 17),(.int .u8 4),(.int .u8 62),(.int .u8 47),(.int .u8 59),(.int .u8 36),(.int .u8 45),(.int .u8 43),(.int .u8 51),(.int .u8 22),(.int .u8 53),(.int .u8 39),(.int .u8 33),(.int .u8 30),(.int .u8 24),(.int .u8 18),(.int .u8 12),(.int .u8 5),(.int .u8 63),(.int .u8 55),(.int .u8 48),(.int .u8 27),(.int .u8 60),(.int .u8 41),(.int .u8 37),(.int .u8 16),(.int .u8 46),(.int .u8 35),(.int .u8 44),(.int .u8 21),(.int .u8 52),(.int .u8 32),(.int .u8 23),(.int .u8 11),(.int .u8 54),(.int .u8 26),(.int .u8 40),(.int .u8 15),(.int .u8 34),(.int .u8 20),(.int .u8 31),(.int .u8 10),(.int .u8 25),(.int .u8 14),(.int .u8 19),(.int .u8 9),(.int .u8 13),(.int .u8 8),(.int .u8 7),(.int .u8 6)]
@[go_sem] def c5_1 : XC := (.pre [9,10,11,13,14,15,16,17]
 (.seq (sr [9,10,11,13,14,15,16,17,69] [om 67 17,
om 68 15,
oo 69 (.bin .lss (.t 67) (.t 68))]
  (.cond (.t 69)
  .skip
  (.pre [9,10,11,13,14,15,16] (.exit 2))))
  (.pre [9,10,11,13,14,15,16,17] (.seq (.blk 3
  (sr [9,10,11,13,14,15,16,17,81] [om 72 11,
om 73 16,
om 74 17,
oo 75 (.bin .add (.t 73) (.t 74)),
oo 76 (.ixS 1 (.t 72) (.t 75)),
oo 77 (.load .one (.t 76)),
om 78 14,
om 79 17,
oo 80 (.bin .add (.t 78) (.t 79)),
oo 81 (.bin .neq (.t 77) (.t 80))]
  (.cond (.t 81)
  (sr [8] [oo 8 (.mov (.c (.bool false)))]
  (.pre [8] .ret))
  .skip)))
  (.pre [9,10,11,13,14,15,16,17] (.reg false [9,10,11,13,14,15,16,17] [] [om 70 17,
oo 71 (.bin .add (.t 70) (.c (.int .i64 1))),
om 17 71]))))))
def b5_1 : XC := c5_1
@[go_sem] def c5_0 : XC := (.pre [9,10,11,13]
 (.seq (sr [9,10,11,13,37] [om 33 13,
oo 34 (.padd (.t 10) 3),
oo 35 (.load .one (.t 34)),
oo 36 (.len false (.t 35)),
oo 37 (.bin .lss (.t 33) (.t 36))]
  (.cond (.t 37)
  .skip
  (.pre [9] (.exit 0))))
  (.pre [9,10,11,13] (.seq (.blk 1
  (sr [9,10,11,13,14] [oo 40 (.padd (.t 10) 3),
oo 41 (.load .one (.t 40)),
om 42 13,
oo 43 (.ixS 2 (.t 41) (.t 42)),
oo 44 (.padd (.t 43) 0),
oo 45 (.load .one (.t 44)),
om 14 45]
  (sr [9,10,11,13,14,15] [oo 46 (.padd (.t 10) 3),
oo 47 (.load .one (.t 46)),
om 48 13,
oo 49 (.ixS 2 (.t 47) (.t 48)),
oo 50 (.padd (.t 49) 1),
oo 51 (.load .one (.t 50)),
om 52 14,
oo 53 (.bin .sub (.t 51) (.t 52)),
om 15 53]
  (sr [9,10,11,13,14,15,16] [om 54 11,
om 55 14,
oo 56 (.call (.c (.fn 34 [])) [(.t 54),(.t 55)] []),
om 16 56]
  (.seq (sr [9,10,11,13,14,15,16,66] [om 57 16,
oo 58 (.bin .lss (.t 57) (.c (.int .i64 0))),
om 59 58,
og 60 59 false (.mov (.t 16)),
og 61 59 false (.mov (.t 15)),
og 62 59 false (.bin .add (.t 60) (.t 61)),
og 63 59 false (.mov (.t 11)),
og 64 59 false (.len false (.t 63)),
og 65 59 false (.bin .gtr (.t 62) (.t 64)),
oo 66 (.pick (.t 59) (.c (.bool true)) (.t 65))]
  (.cond (.t 66)
  (sr [8] [oo 8 (.mov (.c (.bool false)))]
  (.pre [8] .ret))
  .skip))
  (.pre [9,10,11,13,14,15,16] (.seq (sr [9,10,11,13,14,15,16,17] [oo 17 (.mov (.c (.int .i64 0)))]
  (.blk 2
  (.loop b5_1)))
  (.pre [9,10,11,13,14,15,16] (sr [9,10,11,13,104] [om 82 16,
om 83 15,
oo 84 (.bin .add (.t 82) (.t 83)),
om 85 11,
oo 86 (.len false (.t 85)),
oo 87 (.bin .lss (.t 84) (.t 86)),
om 88 87,
og 89 88 true (.mov (.t 11)),
og 90 88 true (.mov (.t 16)),
og 91 88 true (.mov (.t 15)),
og 92 88 true (.bin .add (.t 90) (.t 91)),
og 93 88 true (.mov (.t 11)),
og 94 88 true (.len false (.t 93)),
og 95 88 true (.bin .sub (.t 94) (.c (.int .i64 1))),
og 96 88 true (.minmax false [(.t 92),(.t 95)]),
og 97 88 true (.ixS 1 (.t 89) (.t 96)),
og 98 88 true (.load .one (.t 97)),
og 99 88 true (.mov (.t 14)),
og 100 88 true (.mov (.t 15)),
og 101 88 true (.bin .add (.t 99) (.t 100)),
og 102 88 true (.bin .sub (.t 101) (.c (.int .i64 1))),
og 103 88 true (.bin .eql (.t 98) (.t 102)),
oo 104 (.pick (.t 88) (.t 103) (.c (.bool false)))]
  (.cond (.t 104)
  (sr [8] [oo 8 (.mov (.c (.bool false)))]
  (.pre [8] .ret))
  .skip))))))))))
  (.pre [9,10,11,13] (.reg false [9,10,11,13] [] [om 38 13,
oo 39 (.bin .add (.t 38) (.c (.int .i64 1))),
om 13 39]))))))
def b5_0 : XC := c5_0
def x5 : XFn := { np := 4,isOpen := false,ns := 1,res := [.tmp 8],code :=
 (sr [0,1,2,3] [oo 8 (.mov (.c (.bool false)))]
  (sr [0,1,2,3,9] [oo 18 (.call (.c (.fn 11 [])) [] []),
om 9 18]
  (.seq (sr [0,1,2,3,9,20] [om 19 9,
oo 20 (.un .not (.t 19))]
  (.cond (.t 20)
  (sr [8] [oo 8 (.mov (.c (.bool false)))]
  (.pre [8] .ret))
  .skip))
  (.pre [0,1,2,3,9] (sr [9,10] [om 21 0,
om 22 1,
om 23 2,
om 24 3,
oo 25 (.call (.c (.fn 32 [])) [(.t 21),(.t 22),(.t 23),(.t 24)] []),
oo 10 (.alloc 0 [.int .i64 0,.int .i64 0,.int .i64 0,.nilSl,.nilSl]),
⟨none,none,[],.store 5 (.t 10) (.t 25)⟩]
  (sr [9,10,11,12] [oo 27 (.load (.agg 5) (.t 10)),
oo 28 (.call (.c (.fn 14 [])) [(.t 27)] []),
om 26 28,
oo 29 (.ext (.t 26) 0),
oo 30 (.ext (.t 26) 1),
om 11 29,
om 12 30]
  (.seq (sr [9,10,11,32] [om 31 12,
oo 32 (.bin .neq (.t 31) (.c (.int .i64 0)))]
  (.cond (.t 32)
  (sr [8] [oo 8 (.mov (.c (.bool false)))]
  (.pre [8] .ret))
  .skip))
  (.pre [9,10,11] (.seq (sr [9,10,11,13] [oo 13 (.mov (.c (.int .i64 0)))]
  (.blk 0
  (.loop b5_0)))
  (.pre [9] (sr [8] [om 105 9,
om 8 105]
  (.pre [8] .ret)))))))))))) }
@[go_sem] def c8_0 : XC := (.pre [9,10,11,13,17]
 (.seq (sr [9,10,11,13,17,70] [om 67 17,
om 68 11,
oo 69 (.len false (.t 68)),
oo 70 (.bin .lss (.t 67) (.t 69))]
  (.cond (.t 70)
  .skip
  (.pre [9,10,13] (.exit 0))))
  (.pre [9,10,11,13,17] (.seq (.blk 1
  (.seq (.reg true [9,10,11,13,17,82] [] [om 73 11,
om 74 17,
oo 75 (.ixS 1 (.t 73) (.t 74)),
⟨some 76,none,[.elem 75],.load .one (.t 75)⟩,
om 77 17,
oo 78 (.padd (.t 10) 1),
⟨some 79,none,[.box 78],.load .one (.t 78)⟩,
oo 80 (.bin .sub (.t 77) (.t 79)),
oo 81 (.minmax true [(.t 80),(.c (.int .i64 (-1)))]),
oo 82 (.bin .neq (.t 76) (.t 81))])
  (.cond (.t 82)
  (sr [8] [oo 8 (.mov (.c (.bool false)))]
  (.pre [8] .ret))
  .skip)))
  (.pre [9,10,11,13,17] (.reg false [9,10,11,13,17] [] [om 71 17,
oo 72 (.bin .add (.t 71) (.c (.int .i64 1))),
om 17 72]))))))
def b8_0 : XC := c8_0
@[go_sem] theorem e8_0 (L : Lib) (cx : Cx) (env : Env) (h : Heap) : runC L cx b8_0 (env,h) = runC L cx c8_0 (env,h) := rfl
def x8 : XFn := { np := 4,isOpen := false,ns := 1,res := [.tmp 8],code :=
 (sr [0,1,2,3] [oo 8 (.mov (.c (.bool false)))]
  (sr [0,1,2,3,9] [oo 18 (.call (.c (.fn 11 [])) [] []),
om 9 18]
  (.seq (sr [0,1,2,3,9,20] [om 19 9,
oo 20 (.un .not (.t 19))]
  (.cond (.t 20)
  (sr [8] [oo 8 (.mov (.c (.bool false)))]
  (.pre [8] .ret))
  .skip))
  (.pre [0,1,2,3,9] (sr [9,10] [om 21 0,
om 22 1,
om 23 2,
om 24 3,
oo 25 (.call (.c (.fn 32 [])) [(.t 21),(.t 22),(.t 23),(.t 24)] []),
oo 10 (.alloc 0 [.int .i64 0,.int .i64 0,.int .i64 0,.nilSl,.nilSl]),
⟨none,none,[],.store 5 (.t 10) (.t 25)⟩]
  (sr [9,10] [oo 26 (.padd (.t 10) 4),
⟨none,none,[],.store 1 (.t 26) (.c .nilSl)⟩]
  (sr [9,10,11,12] [oo 28 (.load (.agg 5) (.t 10)),
oo 29 (.call (.c (.fn 14 [])) [(.t 28)] []),
om 27 29,
oo 30 (.ext (.t 27) 0),
oo 31 (.ext (.t 27) 1),
om 11 30,
om 12 31]
  (sr [9,10,11,12,13,14] [oo 33 (.load (.agg 5) (.t 10)),
oo 34 (.call (.c (.fn 20 [])) [(.t 33)] []),
om 32 34,
oo 35 (.ext (.t 32) 0),
oo 36 (.ext (.t 32) 1),
om 13 35,
om 14 36]
  (sr [9,10,11,12,13,14,15,16] [oo 38 (.load (.agg 5) (.t 10)),
oo 39 (.call (.c (.fn 18 [])) [(.t 38)] []),
om 37 39,
oo 40 (.ext (.t 37) 0),
oo 41 (.ext (.t 37) 1),
om 15 40,
om 16 41]
  (.seq (sr [9,10,11,13,66] [om 42 12,
oo 43 (.bin .neq (.t 42) (.c (.int .i64 0))),
om 44 43,
og 45 44 false (.mov (.t 14)),
og 46 44 false (.bin .neq (.t 45) (.c (.int .i64 0))),
oo 47 (.pick (.t 44) (.c (.bool true)) (.t 46)),
om 48 47,
og 49 48 false (.mov (.t 16)),
og 50 48 false (.bin .neq (.t 49) (.c (.int .i64 0))),
oo 51 (.pick (.t 48) (.c (.bool true)) (.t 50)),
om 52 51,
og 53 52 false (.mov (.t 11)),
og 54 52 false (.len false (.t 53)),
og 55 52 false (.padd (.t 10) 0),
og 56 52 false (.load .one (.t 55)),
og 57 52 false (.padd (.t 10) 1),
og 58 52 false (.load .one (.t 57)),
og 59 52 false (.bin .add (.t 56) (.t 58)),
og 60 52 false (.bin .neq (.t 54) (.t 59)),
oo 61 (.pick (.t 52) (.c (.bool true)) (.t 60)),
om 62 61,
og 63 62 false (.mov (.t 15)),
og 64 62 false (.len false (.t 63)),
og 65 62 false (.bin .gtr (.t 64) (.c (.int .i64 0))),
oo 66 (.pick (.t 62) (.c (.bool true)) (.t 65))]
  (.cond (.t 66)
  (sr [8] [oo 8 (.mov (.c (.bool false)))]
  (.pre [8] .ret))
  .skip))
  (.pre [9,10,11,13] (.seq (sr [9,10,11,13,17] [oo 17 (.mov (.c (.int .i64 0)))]
  (.blk 0
  (.loop b8_0)))
  (.pre [9,10,13] (sr [8] [om 83 9,
om 84 83,
og 85 84 true (.mov (.t 13)),
og 86 84 true (.padd (.t 10) 0),
og 87 84 true (.load .one (.t 86)),
og 88 84 true (.build [.int .i64 0,.int .i64 0] [(1,1,(.t 87))]),
og 89 84 true (.bslice 2 (.agg [.int .i64 0,.int .i64 0]) 1 [(0,(.t 88))]),
og 90 84 true (.call (.c (.fn 25 [])) [(.t 85),(.t 89)] []),
oo 91 (.pick (.t 84) (.t 90) (.c (.bool false))),
om 8 91]
  (.pre [8] .ret))))))))))))))) }
def x11 : XFn := { np := 0,isOpen := false,ns := 3,res := [.tmp 0],code :=
 (sr [] [oo 0 (.mov (.c (.bool false)))]
  (sr [1] [oo 23 (.call (.c (.fn 45 [])) [] []),
oo 1 (.alloc 2 [.int .i64 0,.int .i64 0,.int .i64 0,.nilSl,.nilSl]),
⟨none,none,[],.store 5 (.t 1) (.t 23)⟩]
  (sr [1,2,3] [oo 25 (.load (.agg 5) (.t 1)),
oo 26 (.call (.c (.fn 14 [])) [(.t 25)] []),
om 24 26,
oo 27 (.ext (.t 24) 0),
oo 28 (.ext (.t 24) 1),
om 2 27,
om 3 28]
  (sr [1,2,3,4,5] [oo 30 (.load (.agg 5) (.t 1)),
oo 31 (.call (.c (.fn 16 [])) [(.t 30)] []),
om 29 31,
oo 32 (.ext (.t 29) 0),
oo 33 (.ext (.t 29) 1),
om 4 32,
om 5 33]
  (sr [1,2,3,4,5,6,7] [oo 35 (.load (.agg 5) (.t 1)),
oo 36 (.call (.c (.fn 18 [])) [(.t 35)] []),
om 34 36,
oo 37 (.ext (.t 34) 0),
oo 38 (.ext (.t 34) 1),
om 6 37,
om 7 38]
  (sr [1,2,3,4,5,6,7,8,9] [oo 40 (.load (.agg 5) (.t 1)),
oo 41 (.call (.c (.fn 20 [])) [(.t 40)] []),
om 39 41,
oo 42 (.ext (.t 39) 0),
oo 43 (.ext (.t 39) 1),
om 8 42,
om 9 43]
  (sr [1,2,3,4,5,6,7,8,9,10,11] [oo 45 (.load (.agg 5) (.t 1)),
oo 46 (.call (.c (.fn 26 [])) [(.t 45),(.c (.int .i64 1))] []),
om 44 46,
oo 47 (.ext (.t 44) 0),
oo 48 (.ext (.t 44) 1),
oo 10 (.alloc 1 [.nilSl]),
⟨none,none,[],.store 1 (.t 10) (.t 47)⟩,
om 11 48]
  (sr [1,2,3,4,5,6,7,8,9,10,11,13] [oo 50 (.load (.agg 5) (.t 1)),
oo 51 (.call (.c (.fn 26 [])) [(.t 50),(.c (.int .i64 2))] []),
om 49 51,
oo 52 (.ext (.t 49) 0),
oo 53 (.ext (.t 49) 1),
oo 12 (.alloc 0 [.nilSl]),
⟨none,none,[],.store 1 (.t 12) (.t 52)⟩,
om 13 53]
  (sr [1,2,3,4,5,6,7,8,9,10,11,13,14,15] [oo 55 (.build [.int .i64 0,.int .i64 0] [(1,1,(.c (.int .i64 3)))]),
oo 56 (.bslice 2 (.agg [.int .i64 0,.int .i64 0]) 1 [(0,(.t 55))]),
oo 57 (.build [.int .i64 0,.int .i64 0,.int .i64 0,.nilSl,.nilSl] [(0,1,(.c (.int .i64 4))),(1,1,(.c (.int .i64 1))),(2,1,(.c (.int .i64 2))),(4,1,(.t 56))]),
oo 58 (.call (.c (.fn 14 [])) [(.t 57)] []),
om 54 58,
oo 59 (.ext (.t 54) 0),
oo 60 (.ext (.t 54) 1),
om 14 59,
om 15 60]
  (sr [1,2,3,4,5,6,7,8,9,10,11,13,14,15,16,17] [oo 62 (.load (.agg 5) (.t 1)),
oo 63 (.build [.int .i64 0,.int .i64 0,.int .i64 0] [(1,1,(.c (.int .i64 5))),(2,1,(.c (.int .i64 7)))]),
oo 64 (.build [.int .i64 0,.int .i64 0,.int .i64 0] [(0,1,(.c (.int .i64 5))),(1,1,(.c (.int .i64 12))),(2,1,(.c (.int .i64 8)))]),
oo 65 (.bslice 3 (.agg [.int .i64 0,.int .i64 0,.int .i64 0]) 2 [(0,(.t 63)),(1,(.t 64))]),
oo 66 (.call (.c (.fn 29 [])) [(.t 62),(.t 65)] []),
om 61 66,
oo 67 (.ext (.t 61) 0),
oo 68 (.ext (.t 61) 1),
om 16 67,
om 17 68]
  (sr [1,2,3,4,5,6,7,8,9,10,11,13,14,15,16,17,19] [oo 70 (.build [.int .i64 0,.int .i64 0,.int .i64 0,.nilSl,.nilSl] []),
oo 71 (.call (.c (.fn 14 [])) [(.t 70)] []),
om 69 71,
oo 72 (.ext (.t 69) 0),
oo 73 (.ext (.t 69) 1),
om 18 72,
om 19 73]
  (.seq (sr [1,2,4,6,8,10,14,16,107] [om 74 3,
oo 75 (.bin .neq (.t 74) (.c (.int .i64 0))),
om 76 75,
og 77 76 false (.mov (.t 5)),
og 78 76 false (.bin .neq (.t 77) (.c (.int .i64 0))),
oo 79 (.pick (.t 76) (.c (.bool true)) (.t 78)),
om 80 79,
og 81 80 false (.mov (.t 7)),
og 82 80 false (.bin .neq (.t 81) (.c (.int .i64 0))),
oo 83 (.pick (.t 80) (.c (.bool true)) (.t 82)),
om 84 83,
og 85 84 false (.mov (.t 9)),
og 86 84 false (.bin .neq (.t 85) (.c (.int .i64 0))),
oo 87 (.pick (.t 84) (.c (.bool true)) (.t 86)),
om 88 87,
og 89 88 false (.mov (.t 11)),
og 90 88 false (.bin .neq (.t 89) (.c (.int .i64 0))),
oo 91 (.pick (.t 88) (.c (.bool true)) (.t 90)),
om 92 91,
og 93 92 false (.mov (.t 13)),
og 94 92 false (.bin .neq (.t 93) (.c (.int .i64 200))),
oo 95 (.pick (.t 92) (.c (.bool true)) (.t 94)),
om 96 95,
og 97 96 false (.mov (.t 15)),
og 98 96 false (.bin .neq (.t 97) (.c (.int .i64 0))),
oo 99 (.pick (.t 96) (.c (.bool true)) (.t 98)),
om 100 99,
og 101 100 false (.mov (.t 17)),
og 102 100 false (.bin .neq (.t 101) (.c (.int .i64 0))),
oo 103 (.pick (.t 100) (.c (.bool true)) (.t 102)),
om 104 103,
og 105 104 false (.mov (.t 19)),
og 106 104 false (.bin .neq (.t 105) (.c (.int .i64 200))),
oo 107 (.pick (.t 104) (.c (.bool true)) (.t 106))]
  (.cond (.t 107)
  (sr [0] [oo 0 (.mov (.c (.bool false)))]
  (.pre [0] .ret))
  .skip))
  (.pre [1,2,4,6,8,10,14,16] (sr [1,8,10,16,20] [om 108 2,
oo 109 (.bslice 1 (.int .i64 0) 15 [(0,(.c (.int .i64 (-1)))),(1,(.c (.int .i64 (-1)))),(2,(.c (.int .i64 (-1)))),(3,(.c (.int .i64 0))),(4,(.c (.int .i64 1))),(5,(.c (.int .i64 4))),(6,(.c (.int .i64 4))),(7,(.c (.int .i64 5))),(8,(.c (.int .i64 6))),(9,(.c (.int .i64 6))),(10,(.c (.int .i64 7))),(11,(.c (.int .i64 8))),(12,(.c (.int .i64 9))),(13,(.c (.int .i64 10))),(14,(.c (.int .i64 11)))]),
oo 110 (.call (.c (.fn 24 [])) [(.t 108),(.t 109)] []),
om 111 110,
og 112 111 true (.mov (.t 4)),
og 113 111 true (.bslice 1 (.int .i64 0) 12 [(0,(.c (.int .i64 3))),(1,(.c (.int .i64 3))),(2,(.c (.int .i64 3))),(3,(.c (.int .i64 2))),(4,(.c (.int .i64 1))),(5,(.c (.int .i64 1))),(6,(.c (.int .i64 2))),(7,(.c (.int .i64 2))),(8,(.c (.int .i64 3))),(9,(.c (.int .i64 3))),(10,(.c (.int .i64 3))),(11,(.c (.int .i64 3)))]),
og 114 111 true (.call (.c (.fn 24 [])) [(.t 112),(.t 113)] []),
oo 115 (.pick (.t 111) (.t 114) (.c (.bool false))),
om 116 115,
og 117 116 true (.mov (.t 6)),
og 118 116 true (.bslice 1 (.int .i64 0) 1 [(0,(.c (.int .i64 8)))]),
og 119 116 true (.call (.c (.fn 24 [])) [(.t 117),(.t 118)] []),
oo 120 (.pick (.t 116) (.t 119) (.c (.bool false))),
om 121 120,
og 122 121 true (.mov (.t 14)),
og 123 121 true (.bslice 1 (.int .i64 0) 4 [(0,(.c (.int .i64 (-1)))),(1,(.c (.int .i64 (-1)))),(2,(.c (.int .i64 (-1)))),(3,(.c (.int .i64 3)))]),
og 124 121 true (.call (.c (.fn 24 [])) [(.t 122),(.t 123)] []),
oo 125 (.pick (.t 121) (.t 124) (.c (.bool false))),
om 20 125]
  (sr [1,8,10,16,20,21] [oo 126 (.call (.c (.fn 41 [])) [(.c (.int .i64 4))] []),
oo 127 (.call (.c (.fn 41 [])) [(.c (.int .i64 5))] []),
oo 128 (.build [.str [],.str [],.str [],.str []] [(0,2,(.t 126)),(2,2,(.t 127))]),
oo 129 (.call (.c (.fn 41 [])) [(.c (.int .i64 8))] []),
oo 130 (.call (.c (.fn 41 [])) [(.c (.int .i64 11))] []),
oo 131 (.build [.str [],.str [],.str [],.str []] [(0,2,(.t 129)),(2,2,(.t 130))]),
oo 132 (.call (.c (.fn 41 [])) [(.c (.int .i64 12))] []),
oo 133 (.call (.c (.fn 41 [])) [(.c (.int .i64 15))] []),
oo 134 (.build [.str [],.str [],.str [],.str []] [(0,2,(.t 132)),(2,2,(.t 133))]),
oo 135 (.bslice 4 (.agg [.str [],.str [],.str [],.str []]) 3 [(0,(.t 128)),(1,(.t 131)),(2,(.t 134))]),
om 21 135]
  (sr [1,8,20,22] [oo 136 (.load (.agg 1) (.t 10)),
om 137 21,
oo 138 (.build [.nilSl] [(0,1,(.t 137))]),
oo 139 (.call (.c (.fn 28 [])) [(.t 136),(.t 138)] []),
om 140 139,
og 141 140 true (.mov (.t 16)),
og 142 140 true (.build [.int .i64 0,.int .i64 0,.int .i64 0] [(1,1,(.c (.int .i64 3)))]),
og 143 140 true (.build [.int .i64 0,.int .i64 0,.int .i64 0] [(0,1,(.c (.int .i64 3))),(1,1,(.c (.int .i64 7))),(2,1,(.c (.int .i64 7)))]),
og 144 140 true (.build [.int .i64 0,.int .i64 0,.int .i64 0] [(0,1,(.c (.int .i64 7))),(1,1,(.c (.int .i64 15))),(2,1,(.c (.int .i64 8)))]),
og 145 140 true (.bslice 3 (.agg [.int .i64 0,.int .i64 0,.int .i64 0]) 3 [(0,(.t 142)),(1,(.t 143)),(2,(.t 144))]),
og 146 140 true (.call (.c (.fn 31 [])) [(.t 141),(.t 145)] []),
oo 147 (.pick (.t 140) (.t 146) (.c (.bool false))),
om 22 147]
  (sr [0] [om 148 20,
om 149 148,
og 150 149 true (.mov (.t 22)),
oo 151 (.pick (.t 149) (.t 150) (.c (.bool false))),
om 152 151,
og 153 152 true (.mov (.t 8)),
og 154 152 true (.build [.int .i64 0,.int .i64 0] [(1,1,(.c (.int .i64 2)))]),
og 155 152 true (.build [.int .i64 0,.int .i64 0] [(0,1,(.c (.int .i64 4))),(1,1,(.c (.int .i64 12)))]),
og 156 152 true (.bslice 2 (.agg [.int .i64 0,.int .i64 0]) 2 [(0,(.t 154)),(1,(.t 155))]),
og 157 152 true (.call (.c (.fn 25 [])) [(.t 153),(.t 156)] []),
oo 158 (.pick (.t 152) (.t 157) (.c (.bool false))),
om 159 158,
og 160 159 true (.load (.agg 5) (.t 1)),
og 161 159 true (.call (.c (.fn 22 [])) [(.t 160)] []),
oo 162 (.pick (.t 159) (.t 161) (.c (.bool false))),
om 163 162,
og 164 163 true (.build [.int .i64 0,.int .i64 0,.int .i64 0,.nilSl,.nilSl] []),
og 165 163 true (.call (.c (.fn 22 [])) [(.t 164)] []),
og 166 163 true (.un .not (.t 165)),
oo 167 (.pick (.t 163) (.t 166) (.c (.bool false))),
om 0 167]
  (.pre [0] .ret)))))))))))))))))) }
@[go_sem] def c14_0 : XC := (.pre [4,5,6]
 (.seq (sr [4,5,6,23] [om 20 6,
oo 21 (.padd (.t 5) 3),
oo 22 (.load .one (.t 21)),
oo 23 (.bin .lss (.t 20) (.t 22))]
  (.cond (.t 23)
  .skip
  (.pre [] (.exit 2))))
  (.pre [4,5,6] (.seq (.blk 3
  (sr [4,5,6,7] [oo 7 (.mov (.c (.int .i64 (-1))))]
  (.seq (sr [4,5,6,7,28] [oo 26 (.padd (.t 5) 5),
oo 27 (.load .one (.t 26)),
oo 28 (.un .not (.t 27))]
  (.cond (.t 28)
  (.reg false [4,5,6,7] [] [oo 29 (.padd (.t 5) 0),
oo 30 (.padd (.t 29) 1),
oo 31 (.load .one (.t 30)),
oo 32 (.padd (.t 5) 3),
oo 33 (.load .one (.t 32)),
om 34 6,
oo 35 (.bin .sub (.t 33) (.t 34)),
oo 36 (.bin .sub (.t 31) (.t 35)),
oo 37 (.padd (.t 5) 0),
oo 38 (.padd (.t 37) 0),
oo 39 (.load .one (.t 38)),
oo 40 (.minmax true [(.t 36),(.t 39)]),
om 7 40])
  .skip))
  (.pre [4,5,6,7] (.reg false [4,5,6] [] [oo 41 (.load .one (.t 4)),
om 42 7,
oo 43 (.bslice 1 (.int .i64 0) 1 [(0,(.t 42))]),
oo 44 (.app 2 1 17592186044416 (.t 41) (.t 43)),
⟨none,none,[],.store 1 (.t 4) (.t 44)⟩])))))
  (.pre [4,5,6] (.reg false [4,5,6] [] [om 24 6,
oo 25 (.bin .add (.t 24) (.c (.int .i64 1))),
om 6 25]))))))
def b14_0 : XC := c14_0
@[go_sem] theorem e14_0 (L : Lib) (cx : Cx) (env : Env) (h : Heap) : runC L cx b14_0 (env,h) = runC L cx c14_0 (env,h) := rfl
def r0 : XRnd := { ps := [17],asg := (.reg false [4,5] [] [oo 5 (.alloc 1 [.int .i64 0,.int .i64 0,.int .i64 0,.int .i64 0,.int .i64 0,.bool false,.bool false]),
⟨none,none,[],.store 7 (.t 5) (.t 17)⟩]),body :=
 (.blk 1
  (sr [4,5,6] [oo 18 (.padd (.t 5) 2),
oo 19 (.load .one (.t 18)),
om 6 19]
  (.blk 2
  (.loop b14_0)))) }
def x14 : XFn := { np := 1,isOpen := false,ns := 5,res := [.tmp 2,.tmp 3],code :=
 (sr [1,2,3] [oo 1 (.boxR (.t 0)),
oo 2 (.mov (.c .nilSl)),
oo 3 (.mov (.c (.int .i64 0)))]
  (.seq (sr [1,2,3,10] [oo 8 (.load (.agg 5) (.t 1)),
oo 9 (.call (.c (.fn 22 [])) [(.t 8)] []),
oo 10 (.un .not (.t 9))]
  (.cond (.t 10)
  (sr [2,3] [oo 2 (.mov (.c .nilSl)),
oo 3 (.mov (.c (.int .i64 200)))]
  (.pre [2,3] .ret))
  .skip))
  (.pre [1,2,3] (sr [1,2,3,4] [oo 11 (.bslice 1 (.int .i64 0) 1 [(0,(.c (.int .i64 (-1))))]),
oo 12 (.padd (.t 1) 1),
oo 13 (.load .one (.t 12)),
oo 14 (.call (.c (.fn 48 [])) [(.t 11),(.t 13)] [(0,3)]),
oo 4 (.alloc 4 [.nilSl]),
⟨none,none,[],.store 1 (.t 4) (.t 14)⟩]
  (.seq (sr [2,3,4,16] [oo 15 (.load (.agg 5) (.t 1)),
oo 16 (.call (.c (.fn 49 [])) [(.t 15)] [])]
  (.blk 0
  (.rfn 0 (.t 16) 0)))
  (.pre [4] (sr [2,3] [oo 45 (.load .one (.t 4)),
om 2 45,
oo 3 (.mov (.c (.int .i64 0)))]
  (.pre [2,3] .ret)))))))) }
@[go_sem] def c16_0 : XC := (.pre [4,5,18,19]
 (sr [4,5,18,19,20] [oo 20 (.bin .lss (.t 19) (.t 18))]
  (.seq (.cond (.t 20)
  .skip
  (.pre [] (.exit 2)))
  (.pre [4,5,18,19] (.seq (.blk 3
  (.reg false [4,5,18,19] [] [oo 21 (.load .one (.t 4)),
oo 22 (.padd (.t 5) 4),
oo 23 (.load .one (.t 22)),
oo 24 (.bslice 1 (.int .i64 0) 1 [(0,(.t 23))]),
oo 25 (.app 2 1 17592186044416 (.t 21) (.t 24)),
⟨none,none,[],.store 1 (.t 4) (.t 25)⟩]))
  (.pre [4,5,18,19] (.reg false [4,5,18,19] [] [oo 26 (.bin .add (.t 19) (.c (.int .i64 1))),
om 19 26])))))))
def b16_0 : XC := c16_0
@[go_sem] theorem e16_0 (L : Lib) (cx : Cx) (env : Env) (h : Heap) : runC L cx b16_0 (env,h) = runC L cx c16_0 (env,h) := rfl
def r1 : XRnd := { ps := [11],asg := (.reg false [4,5] [] [oo 5 (.alloc 1 [.int .i64 0,.int .i64 0,.int .i64 0,.int .i64 0,.int .i64 0,.bool false,.bool false]),
⟨none,none,[],.store 7 (.t 5) (.t 11)⟩]),body :=
 (.blk 1
  (sr [4,5,18,19] [oo 12 (.padd (.t 5) 0),
oo 13 (.padd (.t 12) 1),
oo 14 (.load .one (.t 13)),
oo 15 (.padd (.t 5) 0),
oo 16 (.padd (.t 15) 0),
oo 17 (.load .one (.t 16)),
oo 18 (.bin .sub (.t 14) (.t 17)),
oo 19 (.mov (.c (.int .i64 0)))]
  (.blk 2
  (.loop b16_0)))) }
def x16 : XFn := { np := 1,isOpen := false,ns := 4,res := [.tmp 2,.tmp 3],code :=
 (sr [1,2,3] [oo 1 (.boxR (.t 0)),
oo 2 (.mov (.c .nilSl)),
oo 3 (.mov (.c (.int .i64 0)))]
  (.seq (sr [1,2,3,8] [oo 6 (.load (.agg 5) (.t 1)),
oo 7 (.call (.c (.fn 22 [])) [(.t 6)] []),
oo 8 (.un .not (.t 7))]
  (.cond (.t 8)
  (sr [2,3] [oo 2 (.mov (.c .nilSl)),
oo 3 (.mov (.c (.int .i64 200)))]
  (.pre [2,3] .ret))
  .skip))
  (.pre [1,2,3] (sr [1,2,3,4] [oo 4 (.alloc 3 [.nilSl])]
  (.seq (sr [2,3,4,10] [oo 9 (.load (.agg 5) (.t 1)),
oo 10 (.call (.c (.fn 49 [])) [(.t 9)] [])]
  (.blk 0
  (.rfn 0 (.t 10) 1)))
  (.pre [4] (sr [2,3] [oo 27 (.load .one (.t 4)),
om 2 27,
oo 3 (.mov (.c (.int .i64 0)))]
  (.pre [2,3] .ret)))))))) }
@[go_sem] def c17_1 : XC := (.pre [4,7,8,9]
 (.seq (sr [4,7,8,9,36] [om 30 9,
om 31 4,
om 32 8,
oo 33 (.ixS 5 (.t 31) (.t 32)),
oo 34 (.padd (.t 33) 1),
oo 35 (.load .one (.t 34)),
oo 36 (.bin .lss (.t 30) (.t 35))]
  (.cond (.t 36)
  .skip
  (.pre [4,7,8] (.exit 2))))
  (.pre [4,7,8,9] (.seq (.blk 3
  (.reg false [4,7,8,9] [] [om 39 7,
om 40 4,
om 41 8,
oo 42 (.ixS 5 (.t 40) (.t 41)),
oo 43 (.padd (.t 42) 3),
oo 44 (.load .one (.t 43)),
oo 45 (.bslice 1 (.int .i64 0) 1 [(0,(.t 44))]),
oo 46 (.app 0 1 17592186044416 (.t 39) (.t 45)),
om 7 46]))
  (.pre [4,7,8,9] (.reg false [4,7,8,9] [] [om 37 9,
oo 38 (.bin .add (.t 37) (.c (.int .i64 1))),
om 9 38]))))))
def b17_1 : XC := c17_1
@[go_sem] def c17_0 : XC := (.pre [4,7,8]
 (.seq (sr [4,7,8,22] [om 19 8,
om 20 4,
oo 21 (.len false (.t 20)),
oo 22 (.bin .lss (.t 19) (.t 21))]
  (.cond (.t 22)
  .skip
  (.pre [7] (.exit 0))))
  (.pre [4,7,8] (.seq (.blk 1
  (sr [4,7,8,9] [om 25 4,
om 26 8,
oo 27 (.ixS 5 (.t 25) (.t 26)),
oo 28 (.padd (.t 27) 0),
oo 29 (.load .one (.t 28)),
om 9 29]
  (.blk 2
  (.loop b17_1))))
  (.pre [4,7,8] (.reg false [4,7,8] [] [om 23 8,
oo 24 (.bin .add (.t 23) (.c (.int .i64 1))),
om 8 24]))))))
def b17_0 : XC := c17_0
def x17 : XFn := { np := 1,isOpen := false,ns := 1,res := [.tmp 2,.tmp 3],code :=
 (sr [1] [oo 1 (.boxR (.t 0)),
oo 2 (.mov (.c .nilSl)),
oo 3 (.mov (.c (.int .i64 0)))]
  (.seq (sr [1,12] [oo 10 (.load (.agg 5) (.t 1)),
oo 11 (.call (.c (.fn 23 [])) [(.t 10)] []),
oo 12 (.un .not (.t 11))]
  (.cond (.t 12)
  (sr [2,3] [oo 2 (.mov (.c .nilSl)),
oo 3 (.mov (.c (.int .i64 200)))]
  (.pre [2,3] .ret))
  .skip))
  (.pre [1] (sr [4] [oo 14 (.load (.agg 5) (.t 1)),
oo 15 (.call (.c (.fn 50 [])) [(.t 14)] []),
om 13 15,
oo 16 (.ext (.t 13) 0),
oo 17 (.ext (.t 13) 1),
oo 18 (.ext (.t 13) 2),
om 4 16,
om 5 17,
om 6 18]
  (sr [4,7] [oo 7 (.mov (.c .nilSl))]
  (.seq (sr [4,7,8] [oo 8 (.mov (.c (.int .i64 0)))]
  (.blk 0
  (.loop b17_0)))
  (.pre [7] (sr [2,3] [om 47 7,
om 2 47,
oo 3 (.mov (.c (.int .i64 0)))]
  (.pre [2,3] .ret))))))))) }
@[go_sem] def c18_0 : XC := (.pre [1,4,5,22,23,24]
 (sr [1,4,5,22,23,24,25] [oo 25 (.bin .lss (.t 24) (.t 23))]
  (.seq (.cond (.t 25)
  .skip
  (.pre [] (.exit 2)))
  (.pre [1,4,5,22,23,24] (.seq (.blk 3
  (sr [1,4,5,6,7,22,23,24] [om 26 24,
oo 27 (.ixS 2 (.t 22) (.t 24)),
oo 28 (.load (.agg 2) (.t 27)),
oo 7 (.alloc 2 [.int .i64 0,.int .i64 0]),
om 6 26,
⟨none,none,[],.store 2 (.t 7) (.t 28)⟩]
  (.seq (.reg true [1,4,5,6,22,23,24,50] [] [⟨some 29,none,[.box 4],.load .one (.t 4)⟩,
om 30 6,
oo 31 (.ixS 1 (.t 29) (.t 30)),
⟨some 32,none,[.elem 31],.load .one (.t 31)⟩,
oo 33 (.padd (.t 1) 0),
⟨some 34,none,[.box 33],.load .one (.t 33)⟩,
oo 35 (.bin .eql (.t 32) (.t 34)),
om 36 35,
og 37 36 true (.padd (.t 5) 0),
og 38 36 true (.padd (.t 37) 0),
⟨some 39,some (36,true),[.box 38],.load .one (.t 38)⟩,
og 40 36 true (.padd (.t 7) 1),
⟨some 41,some (36,true),[.box 40],.load .one (.t 40)⟩,
og 42 36 true (.bin .geq (.t 39) (.t 41)),
oo 43 (.pick (.t 36) (.t 42) (.c (.bool false))),
om 44 43,
og 45 44 true (.padd (.t 5) 4),
⟨some 46,some (44,true),[.box 45],.load .one (.t 45)⟩,
og 47 44 true (.padd (.t 1) 1),
⟨some 48,some (44,true),[.box 47],.load .one (.t 47)⟩,
og 49 44 true (.bin .eql (.t 46) (.t 48)),
oo 50 (.pick (.t 44) (.t 49) (.c (.bool false)))])
  (.cond (.t 50)
  (.reg false [1,4,5,22,23,24] [] [oo 51 (.load .one (.t 4)),
om 52 6,
oo 53 (.padd (.t 5) 0),
oo 54 (.padd (.t 53) 0),
oo 55 (.load .one (.t 54)),
oo 56 (.ixS 1 (.t 51) (.t 52)),
⟨none,none,[],.store 1 (.t 56) (.t 55)⟩])
  .skip))))
  (.pre [1,4,5,22,23,24] (.reg false [1,4,5,22,23,24] [] [oo 57 (.bin .add (.t 24) (.c (.int .i64 1))),
om 24 57])))))))
def b18_0 : XC := c18_0
@[go_sem] theorem e18_0 (L : Lib) (cx : Cx) (env : Env) (h : Heap) : runC L cx b18_0 (env,h) = runC L cx c18_0 (env,h) := rfl
def r2 : XRnd := { ps := [20],asg := (.reg false [1,4,5] [] [oo 5 (.alloc 1 [.int .i64 0,.int .i64 0,.int .i64 0,.int .i64 0,.int .i64 0,.bool false,.bool false]),
⟨none,none,[],.store 7 (.t 5) (.t 20)⟩]),body :=
 (.blk 1
  (sr [1,4,5,22,23,24] [oo 21 (.padd (.t 1) 4),
oo 22 (.load .one (.t 21)),
oo 23 (.len false (.t 22)),
oo 24 (.mov (.c (.int .i64 0)))]
  (.blk 2
  (.loop b18_0)))) }
def x18 : XFn := { np := 1,isOpen := false,ns := 5,res := [.tmp 2,.tmp 3],code :=
 (sr [1,2,3] [oo 1 (.boxR (.t 0)),
oo 2 (.mov (.c .nilSl)),
oo 3 (.mov (.c (.int .i64 0)))]
  (.seq (sr [1,2,3,10] [oo 8 (.load (.agg 5) (.t 1)),
oo 9 (.call (.c (.fn 22 [])) [(.t 8)] []),
oo 10 (.un .not (.t 9))]
  (.cond (.t 10)
  (sr [2,3] [oo 2 (.mov (.c .nilSl)),
oo 3 (.mov (.c (.int .i64 200)))]
  (.pre [2,3] .ret))
  .skip))
  (.pre [1,2,3] (sr [1,2,3,4] [oo 11 (.padd (.t 1) 0),
oo 12 (.load .one (.t 11)),
oo 13 (.bslice 1 (.int .i64 0) 1 [(0,(.t 12))]),
oo 14 (.padd (.t 1) 4),
oo 15 (.load .one (.t 14)),
oo 16 (.len false (.t 15)),
oo 17 (.call (.c (.fn 48 [])) [(.t 13),(.t 16)] [(0,3)]),
oo 4 (.alloc 4 [.nilSl]),
⟨none,none,[],.store 1 (.t 4) (.t 17)⟩]
  (.seq (sr [1,2,3,4,19] [oo 18 (.load (.agg 5) (.t 1)),
oo 19 (.call (.c (.fn 49 [])) [(.t 18)] [])]
  (.blk 0
  (.rfn 0 (.t 19) 2)))
  (.pre [4] (sr [2,3] [oo 58 (.load .one (.t 4)),
om 2 58,
oo 3 (.mov (.c (.int .i64 0)))]
  (.pre [2,3] .ret)))))))) }
@[go_sem] def c20_0 : XC := (.pre [1,4,5,12,13,14]
 (sr [1,4,5,12,13,14,15] [oo 15 (.bin .lss (.t 14) (.t 13))]
  (.seq (.cond (.t 15)
  .skip
  (.pre [1,4,5] (.exit 0)))
  (.pre [1,4,5,12,13,14] (.seq (.blk 1
  (sr [1,4,5,7,12,13,14] [oo 16 (.ixS 2 (.t 12) (.t 14)),
oo 17 (.load (.agg 2) (.t 16)),
oo 7 (.alloc 2 [.int .i64 0,.int .i64 0]),
⟨none,none,[],.store 2 (.t 7) (.t 17)⟩]
  (.seq (sr [1,4,5,7,12,13,14,21] [oo 18 (.padd (.t 7) 0),
oo 19 (.load .one (.t 18)),
om 20 5,
oo 21 (.bin .gtr (.t 19) (.t 20))]
  (.cond (.t 21)
  (.reg false [1,4,7,12,13,14] [] [om 22 4,
om 23 5,
oo 24 (.padd (.t 7) 0),
oo 25 (.load .one (.t 24)),
oo 26 (.build [.int .i64 0,.int .i64 0] [(0,1,(.t 23)),(1,1,(.t 25))]),
oo 27 (.bslice 2 (.agg [.int .i64 0,.int .i64 0]) 1 [(0,(.t 26))]),
oo 28 (.app 1 2 8796093022208 (.t 22) (.t 27)),
om 4 28])
  .skip))
  (.pre [1,4,7,12,13,14] (.reg false [1,4,5,12,13,14] [] [oo 29 (.padd (.t 7) 1),
oo 30 (.load .one (.t 29)),
om 5 30])))))
  (.pre [1,4,5,12,13,14] (.reg false [1,4,5,12,13,14] [] [oo 31 (.bin .add (.t 14) (.c (.int .i64 1))),
om 14 31])))))))
def b20_0 : XC := c20_0
@[go_sem] theorem e20_0 (L : Lib) (cx : Cx) (env : Env) (h : Heap) : runC L cx b20_0 (env,h) = runC L cx c20_0 (env,h) := rfl
def x20 : XFn := { np := 1,isOpen := false,ns := 3,res := [.tmp 2,.tmp 3],code :=
 (sr [1] [oo 1 (.boxR (.t 0)),
oo 2 (.mov (.c .nilSl)),
oo 3 (.mov (.c (.int .i64 0)))]
  (.seq (sr [1,10] [oo 8 (.load (.agg 5) (.t 1)),
oo 9 (.call (.c (.fn 22 [])) [(.t 8)] []),
oo 10 (.un .not (.t 9))]
  (.cond (.t 10)
  (sr [2,3] [oo 2 (.mov (.c .nilSl)),
oo 3 (.mov (.c (.int .i64 200)))]
  (.pre [2,3] .ret))
  .skip))
  (.pre [1] (sr [1,4] [oo 4 (.mov (.c .nilSl))]
  (sr [1,4,5] [oo 5 (.mov (.c (.int .i64 0)))]
  (.seq (sr [1,4,5,12,13,14] [oo 11 (.padd (.t 1) 4),
oo 12 (.load .one (.t 11)),
oo 13 (.len false (.t 12)),
oo 14 (.mov (.c (.int .i64 0)))]
  (.blk 0
  (.loop b20_0)))
  (.pre [1,4,5] (.seq (sr [1,4,5,35] [om 32 5,
oo 33 (.padd (.t 1) 0),
oo 34 (.load .one (.t 33)),
oo 35 (.bin .lss (.t 32) (.t 34))]
  (.cond (.t 35)
  (.reg false [4] [] [om 36 4,
om 37 5,
oo 38 (.padd (.t 1) 0),
oo 39 (.load .one (.t 38)),
oo 40 (.build [.int .i64 0,.int .i64 0] [(0,1,(.t 37)),(1,1,(.t 39))]),
oo 41 (.bslice 2 (.agg [.int .i64 0,.int .i64 0]) 1 [(0,(.t 40))]),
oo 42 (.app 0 2 8796093022208 (.t 36) (.t 41)),
om 4 42])
  .skip))
  (.pre [4] (sr [2,3] [om 43 4,
om 2 43,
oo 3 (.mov (.c (.int .i64 0)))]
  (.pre [2,3] .ret))))))))))) }
def x22 : XFn := { np := 1,isOpen := false,ns := 0,res := [.tmp 2],code :=
 (sr [1] [oo 1 (.boxR (.t 0)),
oo 2 (.mov (.c (.bool false)))]
  (.seq (sr [1,30] [oo 3 (.padd (.t 1) 0),
oo 4 (.load .one (.t 3)),
oo 5 (.bin .lss (.t 4) (.c (.int .i64 1))),
om 6 5,
og 7 6 false (.padd (.t 1) 0),
og 8 6 false (.load .one (.t 7)),
og 9 6 false (.bin .gtr (.t 8) (.c (.int .i64 600))),
oo 10 (.pick (.t 6) (.c (.bool true)) (.t 9)),
om 11 10,
og 12 11 false (.padd (.t 1) 1),
og 13 11 false (.load .one (.t 12)),
og 14 11 false (.bin .lss (.t 13) (.c (.int .i64 0))),
oo 15 (.pick (.t 11) (.c (.bool true)) (.t 14)),
om 16 15,
og 17 16 false (.padd (.t 1) 1),
og 18 16 false (.load .one (.t 17)),
og 19 16 false (.bin .gtr (.t 18) (.c (.int .i64 60))),
oo 20 (.pick (.t 16) (.c (.bool true)) (.t 19)),
om 21 20,
og 22 21 false (.padd (.t 1) 2),
og 23 21 false (.load .one (.t 22)),
og 24 21 false (.bin .lss (.t 23) (.c (.int .i64 1))),
oo 25 (.pick (.t 21) (.c (.bool true)) (.t 24)),
om 26 25,
og 27 26 false (.padd (.t 1) 2),
og 28 26 false (.load .one (.t 27)),
og 29 26 false (.bin .gtr (.t 28) (.c (.int .i64 60))),
oo 30 (.pick (.t 26) (.c (.bool true)) (.t 29))]
  (.cond (.t 30)
  (sr [2] [oo 2 (.mov (.c (.bool false)))]
  (.pre [2] .ret))
  .skip))
  (.pre [1] (.seq (sr [1,44] [oo 31 (.padd (.t 1) 3),
oo 32 (.load .one (.t 31)),
oo 33 (.padd (.t 1) 0),
oo 34 (.load .one (.t 33)),
oo 35 (.call (.c (.fn 51 [])) [(.t 32),(.t 34),(.c (.int .i64 4))] []),
oo 36 (.un .not (.t 35)),
om 37 36,
og 38 37 false (.padd (.t 1) 4),
og 39 37 false (.load .one (.t 38)),
og 40 37 false (.padd (.t 1) 0),
og 41 37 false (.load .one (.t 40)),
og 42 37 false (.call (.c (.fn 51 [])) [(.t 39),(.t 41),(.c (.int .i64 4))] []),
og 43 37 false (.un .not (.t 42)),
oo 44 (.pick (.t 37) (.c (.bool true)) (.t 43))]
  (.cond (.t 44)
  (sr [2] [oo 2 (.mov (.c (.bool false)))]
  (.pre [2] .ret))
  .skip))
  (.pre [1] (sr [2] [oo 45 (.padd (.t 1) 3),
oo 46 (.load .one (.t 45)),
oo 47 (.mkfn 53 [(.t 1)]),
oo 48 (.call (.c (.fn 52 [])) [(.t 46),(.t 47)] []),
oo 49 (.un .not (.t 48)),
om 2 49]
  (.pre [2] .ret))))))) }
@[go_sem] def c23_0 : XC := (.pre [1,3]
 (.seq (sr [1,3,37] [om 34 3,
oo 35 (.padd (.t 1) 0),
oo 36 (.load .one (.t 35)),
oo 37 (.bin .lss (.t 34) (.t 36))]
  (.cond (.t 37)
  .skip
  (.pre [] (.exit 0))))
  (.pre [1,3] (.seq (.blk 1
  (sr [1,3,49] [oo 40 (.padd (.t 1) 3),
oo 41 (.load .one (.t 40)),
om 42 3,
oo 43 (.call (.c (.fn 33 [])) [(.t 41),(.t 42)] []),
om 44 43,
og 45 44 true (.padd (.t 1) 4),
og 46 44 true (.load .one (.t 45)),
og 47 44 true (.mov (.t 3)),
og 48 44 true (.call (.c (.fn 33 [])) [(.t 46),(.t 47)] []),
oo 49 (.pick (.t 44) (.t 48) (.c (.bool false)))]
  (.cond (.t 49)
  (sr [2] [oo 2 (.mov (.c (.bool false)))]
  (.pre [2] .ret))
  .skip)))
  (.pre [1,3] (.reg false [1,3] [] [om 38 3,
oo 39 (.bin .add (.t 38) (.c (.int .i64 1))),
om 3 39]))))))
def b23_0 : XC := c23_0
def x23 : XFn := { np := 1,isOpen := false,ns := 0,res := [.tmp 2],code :=
 (sr [1] [oo 1 (.boxR (.t 0)),
oo 2 (.mov (.c (.bool false)))]
  (.seq (sr [1,19] [oo 4 (.padd (.t 1) 0),
oo 5 (.load .one (.t 4)),
oo 6 (.call (.c (.fn 55 [])) [(.t 5),(.c (.int .i64 1)),(.c (.int .i64 600))] []),
oo 7 (.un .not (.t 6)),
om 8 7,
og 9 8 false (.padd (.t 1) 1),
og 10 8 false (.load .one (.t 9)),
og 11 8 false (.call (.c (.fn 55 [])) [(.t 10),(.c (.int .i64 0)),(.c (.int .i64 60))] []),
og 12 8 false (.un .not (.t 11)),
oo 13 (.pick (.t 8) (.c (.bool true)) (.t 12)),
om 14 13,
og 15 14 false (.padd (.t 1) 2),
og 16 14 false (.load .one (.t 15)),
og 17 14 false (.call (.c (.fn 55 [])) [(.t 16),(.c (.int .i64 1)),(.c (.int .i64 60))] []),
og 18 14 false (.un .not (.t 17)),
oo 19 (.pick (.t 14) (.c (.bool true)) (.t 18))]
  (.cond (.t 19)
  (sr [2] [oo 2 (.mov (.c (.bool false)))]
  (.pre [2] .ret))
  .skip))
  (.pre [1] (.seq (sr [1,33] [oo 20 (.padd (.t 1) 3),
oo 21 (.load .one (.t 20)),
oo 22 (.padd (.t 1) 0),
oo 23 (.load .one (.t 22)),
oo 24 (.call (.c (.fn 56 [])) [(.t 21),(.t 23),(.c (.int .i64 4))] []),
oo 25 (.un .not (.t 24)),
om 26 25,
og 27 26 false (.padd (.t 1) 4),
og 28 26 false (.load .one (.t 27)),
og 29 26 false (.padd (.t 1) 0),
og 30 26 false (.load .one (.t 29)),
og 31 26 false (.call (.c (.fn 56 [])) [(.t 28),(.t 30),(.c (.int .i64 4))] []),
og 32 26 false (.un .not (.t 31)),
oo 33 (.pick (.t 26) (.c (.bool true)) (.t 32))]
  (.cond (.t 33)
  (sr [2] [oo 2 (.mov (.c (.bool false)))]
  (.pre [2] .ret))
  .skip))
  (.pre [1] (.seq (sr [1,3] [oo 3 (.mov (.c (.int .i64 0)))]
  (.blk 0
  (.loop b23_0)))
  (.pre [] (sr [2] [oo 2 (.mov (.c (.bool true)))]
  (.pre [2] .ret))))))))) }
@[go_sem] def c24_0 : XC := (.pre [0,1,5]
 (.seq (sr [0,1,5,14] [om 11 5,
om 12 0,
oo 13 (.len false (.t 12)),
oo 14 (.bin .lss (.t 11) (.t 13))]
  (.cond (.t 14)
  .skip
  (.pre [] (.exit 0))))
  (.pre [0,1,5] (.seq (.blk 1
  (.seq (.reg true [0,1,5,25] [] [om 17 0,
om 18 5,
oo 19 (.ixS 1 (.t 17) (.t 18)),
⟨some 20,none,[.elem 19],.load .one (.t 19)⟩,
om 21 1,
om 22 5,
oo 23 (.ixS 1 (.t 21) (.t 22)),
⟨some 24,none,[.elem 23],.load .one (.t 23)⟩,
oo 25 (.bin .neq (.t 20) (.t 24))])
  (.cond (.t 25)
  (sr [4] [oo 4 (.mov (.c (.bool false)))]
  (.pre [4] .ret))
  .skip)))
  (.pre [0,1,5] (.reg false [0,1,5] [] [om 15 5,
oo 16 (.bin .add (.t 15) (.c (.int .i64 1))),
om 5 16]))))))
def b24_0 : XC := c24_0
def x24 : XFn := { np := 2,isOpen := false,ns := 0,res := [.tmp 4],code :=
 (sr [0,1] [oo 4 (.mov (.c (.bool false)))]
  (.seq (sr [0,1,10] [om 6 0,
oo 7 (.len false (.t 6)),
om 8 1,
oo 9 (.len false (.t 8)),
oo 10 (.bin .neq (.t 7) (.t 9))]
  (.cond (.t 10)
  (sr [4] [oo 4 (.mov (.c (.bool false)))]
  (.pre [4] .ret))
  .skip))
  (.pre [0,1] (.seq (sr [0,1,5] [oo 5 (.mov (.c (.int .i64 0)))]
  (.blk 0
  (.loop b24_0)))
  (.pre [] (sr [4] [oo 4 (.mov (.c (.bool true)))]
  (.pre [4] .ret))))))) }
@[go_sem] def c25_0 : XC := (.pre [0,1,5]
 (.seq (sr [0,1,5,14] [om 11 5,
om 12 0,
oo 13 (.len false (.t 12)),
oo 14 (.bin .lss (.t 11) (.t 13))]
  (.cond (.t 14)
  .skip
  (.pre [] (.exit 0))))
  (.pre [0,1,5] (.seq (.blk 1
  (.seq (.reg true [0,1,5,25] [] [om 17 0,
om 18 5,
oo 19 (.ixS 2 (.t 17) (.t 18)),
⟨some 20,none,[.elem 19],.load (.agg 2) (.t 19)⟩,
om 21 1,
om 22 5,
oo 23 (.ixS 2 (.t 21) (.t 22)),
⟨some 24,none,[.elem 23],.load (.agg 2) (.t 23)⟩,
oo 25 (.eqv true [.i .i64,.i .i64] (.t 20) (.t 24))])
  (.cond (.t 25)
  (sr [4] [oo 4 (.mov (.c (.bool false)))]
  (.pre [4] .ret))
  .skip)))
  (.pre [0,1,5] (.reg false [0,1,5] [] [om 15 5,
oo 16 (.bin .add (.t 15) (.c (.int .i64 1))),
om 5 16]))))))
def b25_0 : XC := c25_0
@[go_sem] theorem e25_0 (L : Lib) (cx : Cx) (env : Env) (h : Heap) : runC L cx b25_0 (env,h) = runC L cx c25_0 (env,h) := rfl
def x25 : XFn := { np := 2,isOpen := false,ns := 0,res := [.tmp 4],code :=
 (sr [0,1] [oo 4 (.mov (.c (.bool false)))]
  (.seq (sr [0,1,10] [om 6 0,
oo 7 (.len false (.t 6)),
om 8 1,
oo 9 (.len false (.t 8)),
oo 10 (.bin .neq (.t 7) (.t 9))]
  (.cond (.t 10)
  (sr [4] [oo 4 (.mov (.c (.bool false)))]
  (.pre [4] .ret))
  .skip))
  (.pre [0,1] (.seq (sr [0,1,5] [oo 5 (.mov (.c (.int .i64 0)))]
  (.blk 0
  (.loop b25_0)))
  (.pre [] (sr [4] [oo 4 (.mov (.c (.bool true)))]
  (.pre [4] .ret))))))) }
def r3 : XRnd := { ps := [36],asg := (.reg false [8,9,10,11] [] [oo 11 (.alloc 1 [.int .i64 0,.int .i64 0,.int .i64 0,.int .i64 0,.int .i64 0,.bool false,.bool false]),
⟨none,none,[],.store 7 (.t 11) (.t 36)⟩]),body :=
 (.blk 1
  (.seq (sr [8,9,10,11,50] [oo 37 (.padd (.t 11) 0),
oo 38 (.padd (.t 37) 0),
oo 39 (.load .one (.t 38)),
oo 40 (.padd (.t 8) 0),
oo 41 (.load .one (.t 40)),
oo 42 (.bin .lss (.t 39) (.t 41)),
om 43 42,
og 44 43 false (.padd (.t 11) 0),
og 45 43 false (.padd (.t 44) 0),
og 46 43 false (.load .one (.t 45)),
og 47 43 false (.padd (.t 8) 1),
og 48 43 false (.load .one (.t 47)),
og 49 43 false (.bin .geq (.t 46) (.t 48)),
oo 50 (.pick (.t 43) (.c (.bool true)) (.t 49))]
  (.cond (.t 50)
  (.pre [] (.exit 1))
  .skip))
  (.pre [8,9,10,11] (.seq (sr [8,9,10,11,62] [oo 51 (.padd (.t 11) 0),
oo 52 (.padd (.t 51) 0),
oo 53 (.load .one (.t 52)),
oo 54 (.padd (.t 8) 0),
oo 55 (.load .one (.t 54)),
oo 56 (.bin .eql (.t 53) (.t 55)),
om 57 56,
og 58 57 false (.padd (.t 11) 6),
og 59 57 false (.load .one (.t 58)),
og 60 57 false (.load .one (.t 10)),
og 61 57 false (.eqv true [] (.t 59) (.t 60)),
oo 62 (.pick (.t 57) (.c (.bool true)) (.t 61))]
  (.cond (.t 62)
  (.reg true [8,9,10,11] [] [oo 63 (.padd (.t 9) 0),
⟨some 64,none,[.box 63],.load .one (.t 63)⟩,
oo 65 (.padd (.t 11) 0),
oo 66 (.padd (.t 65) 0),
⟨some 67,none,[.box 66],.load .one (.t 66)⟩,
oo 68 (.padd (.t 11) 2),
⟨some 69,none,[.box 68],.load .one (.t 68)⟩,
oo 70 (.call (.c (.fn 57 [])) [(.t 67),(.t 69)] []),
⟨some 71,none,[.closed 70],.bslice 4 (.agg [.str [],.str [],.str [],.str []]) 1 [(0,(.t 70))]⟩,
⟨some 72,none,[.nobox 3],.app 3 4 2199023255552 (.t 64) (.t 71)⟩,
oo 73 (.padd (.t 9) 0),
⟨none,none,[.box 73],.store 1 (.t 73) (.t 72)⟩])
  .skip))
  (.pre [8,9,10,11] (sr [8,9,11] [oo 74 (.padd (.t 11) 6),
oo 75 (.load .one (.t 74)),
⟨none,none,[],.store 1 (.t 10) (.t 75)⟩]
  (sr [9,11,81] [oo 76 (.padd (.t 11) 0),
oo 77 (.padd (.t 76) 1),
oo 78 (.load .one (.t 77)),
oo 79 (.padd (.t 8) 1),
oo 80 (.load .one (.t 79)),
oo 81 (.bin .eql (.t 78) (.t 80))]
  (.cond (.t 81)
  (.reg true [] [] [oo 82 (.padd (.t 9) 0),
⟨some 83,none,[.box 82],.load .one (.t 82)⟩,
oo 84 (.padd (.t 11) 0),
oo 85 (.padd (.t 84) 1),
⟨some 86,none,[.box 85],.load .one (.t 85)⟩,
oo 87 (.padd (.t 11) 3),
⟨some 88,none,[.box 87],.load .one (.t 87)⟩,
oo 89 (.call (.c (.fn 57 [])) [(.t 86),(.t 88)] []),
⟨some 90,none,[.closed 89],.bslice 4 (.agg [.str [],.str [],.str [],.str []]) 1 [(0,(.t 89))]⟩,
⟨some 91,none,[.nobox 2],.app 2 4 2199023255552 (.t 83) (.t 90)⟩,
oo 92 (.padd (.t 9) 0),
⟨none,none,[.box 92],.store 1 (.t 92) (.t 91)⟩])
  .skip)))))))) }
def x26 : XFn := { np := 2,isOpen := false,ns := 8,res := [.cell 4 (.agg 1),.tmp 5],code :=
 (sr [1,2,4,5] [oo 2 (.boxR (.t 0)),
oo 4 (.alloc 7 [.nilSl]),
oo 5 (.mov (.c (.int .i64 0)))]
  (sr [1,2,4,5,6,7] [oo 13 (.load (.agg 5) (.t 2)),
oo 14 (.call (.c (.fn 20 [])) [(.t 13)] []),
om 12 14,
oo 15 (.ext (.t 12) 0),
oo 16 (.ext (.t 12) 1),
om 6 15,
om 7 16]
  (.seq (sr [1,2,4,5,6,28] [om 17 7,
oo 18 (.bin .neq (.t 17) (.c (.int .i64 0))),
om 19 18,
og 20 19 false (.mov (.t 1)),
og 21 19 false (.bin .lss (.t 20) (.c (.int .i64 0))),
oo 22 (.pick (.t 19) (.c (.bool true)) (.t 21)),
om 23 22,
og 24 23 false (.mov (.t 1)),
og 25 23 false (.mov (.t 6)),
og 26 23 false (.len false (.t 25)),
og 27 23 false (.bin .geq (.t 24) (.t 26)),
oo 28 (.pick (.t 23) (.c (.bool true)) (.t 27))]
  (.cond (.t 28)
  (sr [4,5] [oo 29 (.build [.nilSl] []),
⟨none,none,[],.store 1 (.t 4) (.t 29)⟩,
oo 5 (.mov (.c (.int .i64 200)))]
  (.pre [4,5] .ret))
  .skip))
  (.pre [1,2,4,5,6] (sr [2,4,5,8] [om 30 6,
om 31 1,
oo 32 (.ixS 2 (.t 30) (.t 31)),
oo 33 (.load (.agg 2) (.t 32)),
oo 8 (.alloc 6 [.int .i64 0,.int .i64 0]),
⟨none,none,[],.store 2 (.t 8) (.t 33)⟩]
  (sr [2,4,5,8,9] [oo 9 (.alloc 5 [.nilSl])]
  (sr [2,4,5,8,9,10] [oo 10 (.alloc 4 [.bool false]),
⟨none,none,[],.store 1 (.t 10) (.c (.bool false))⟩]
  (.seq (sr [4,5,8,9,10,35] [oo 34 (.load (.agg 5) (.t 2)),
oo 35 (.call (.c (.fn 49 [])) [(.t 34)] [])]
  (.blk 0
  (.rfn 0 (.t 35) 3)))
  (.pre [4,9] (.seq (sr [4,9,95] [oo 93 (.load (.agg 1) (.t 9)),
oo 94 (.call (.c (.fn 58 [])) [(.t 93)] []),
oo 95 (.un .not (.t 94))]
  (.cond (.t 95)
  (sr [4,5] [oo 96 (.build [.nilSl] []),
⟨none,none,[],.store 1 (.t 4) (.t 96)⟩,
oo 5 (.mov (.c (.int .i64 200)))]
  (.pre [4,5] .ret))
  .skip))
  (.pre [4,9] (sr [4,5] [oo 97 (.load (.agg 1) (.t 9)),
⟨none,none,[],.store 1 (.t 4) (.t 97)⟩,
oo 5 (.mov (.c (.int .i64 0)))]
  (.pre [4,5] .ret))))))))))))) }
@[go_sem] def c28_0 : XC := (.pre [2,3,5]
 (.seq (sr [2,3,5,17] [om 13 5,
oo 14 (.padd (.t 2) 0),
oo 15 (.load .one (.t 14)),
oo 16 (.len false (.t 15)),
oo 17 (.bin .lss (.t 13) (.t 16))]
  (.cond (.t 17)
  .skip
  (.pre [] (.exit 0))))
  (.pre [2,3,5] (.seq (.blk 1
  (.seq (.reg true [2,3,5,30] [] [oo 20 (.padd (.t 2) 0),
⟨some 21,none,[.box 20],.load .one (.t 20)⟩,
om 22 5,
oo 23 (.ixS 4 (.t 21) (.t 22)),
⟨some 24,none,[.elem 23],.load (.agg 4) (.t 23)⟩,
oo 25 (.padd (.t 3) 0),
⟨some 26,none,[.box 25],.load .one (.t 25)⟩,
om 27 5,
oo 28 (.ixS 4 (.t 26) (.t 27)),
⟨some 29,none,[.elem 28],.load (.agg 4) (.t 28)⟩,
oo 30 (.eqv true [.s,.s,.s,.s] (.t 24) (.t 29))])
  (.cond (.t 30)
  (sr [4] [oo 4 (.mov (.c (.bool false)))]
  (.pre [4] .ret))
  .skip)))
  (.pre [2,3,5] (.reg false [2,3,5] [] [om 18 5,
oo 19 (.bin .add (.t 18) (.c (.int .i64 1))),
om 5 19]))))))
def b28_0 : XC := c28_0
def x28 : XFn := { np := 2,isOpen := false,ns := 0,res := [.tmp 4],code :=
 (sr [2,3] [oo 2 (.boxR (.t 0)),
oo 3 (.boxR (.t 1)),
oo 4 (.mov (.c (.bool false)))]
  (.seq (sr [2,3,12] [oo 6 (.padd (.t 2) 0),
oo 7 (.load .one (.t 6)),
oo 8 (.len false (.t 7)),
oo 9 (.padd (.t 3) 0),
oo 10 (.load .one (.t 9)),
oo 11 (.len false (.t 10)),
oo 12 (.bin .neq (.t 8) (.t 11))]
  (.cond (.t 12)
  (sr [4] [oo 4 (.mov (.c (.bool false)))]
  (.pre [4] .ret))
  .skip))
  (.pre [2,3] (.seq (sr [2,3,5] [oo 5 (.mov (.c (.int .i64 0)))]
  (.blk 0
  (.loop b28_0)))
  (.pre [] (sr [4] [oo 4 (.mov (.c (.bool true)))]
  (.pre [4] .ret))))))) }
@[go_sem] def c29_0 : XC := (.pre [1,8,27,28,29]
 (sr [1,8,27,28,29,30] [oo 30 (.bin .lss (.t 29) (.t 28))]
  (.seq (.cond (.t 30)
  .skip
  (.pre [8] (.exit 0)))
  (.pre [1,8,27,28,29] (.seq (.blk 1
  (sr [1,8,9,10,27,28,29] [om 31 29,
oo 32 (.ixS 1 (.t 27) (.t 29)),
oo 33 (.load .one (.t 32)),
om 9 31,
om 10 33]
  (sr [1,8,9,10,11,27,28,29] [oo 11 (.mov (.c (.int .i64 0)))]
  (.seq (sr [1,8,9,10,11,27,28,29,35] [om 34 10,
oo 35 (.bin .neq (.t 34) (.c (.int .i64 (-1))))]
  (.cond (.t 35)
  (.reg false [1,8,9,11,27,28,29] [] [om 37 1,
om 38 10,
oo 39 (.call (.c (.fn 36 [])) [(.t 37),(.t 38)] []),
om 36 39,
oo 40 (.ext (.t 36) 0),
oo 41 (.ext (.t 36) 1),
om 11 40])
  .skip))
  (.pre [1,8,9,11,27,28,29] (.seq (sr [1,8,9,11,12,27,28,29] [om 42 8,
oo 43 (.len false (.t 42)),
om 12 43]
  (sr [1,8,9,11,12,27,28,29,55] [om 44 12,
oo 45 (.bin .gtr (.t 44) (.c (.int .i64 0))),
om 46 45,
og 47 46 true (.mov (.t 8)),
og 48 46 true (.mov (.t 12)),
og 49 46 true (.bin .sub (.t 48) (.c (.int .i64 1))),
og 50 46 true (.ixS 3 (.t 47) (.t 49)),
og 51 46 true (.padd (.t 50) 2),
og 52 46 true (.load .one (.t 51)),
og 53 46 true (.mov (.t 11)),
og 54 46 true (.bin .eql (.t 52) (.t 53)),
oo 55 (.pick (.t 46) (.t 54) (.c (.bool false)))]
  (.cond (.t 55)
  (sr [1,8,27,28,29] [om 56 8,
om 57 12,
oo 58 (.bin .sub (.t 57) (.c (.int .i64 1))),
om 59 9,
oo 60 (.bin .add (.t 59) (.c (.int .i64 1))),
oo 61 (.ixS 3 (.t 56) (.t 58)),
oo 62 (.padd (.t 61) 1),
⟨none,none,[],.store 1 (.t 62) (.t 60)⟩]
  (.pre [1,8,27,28,29] (.exit 1)))
  .skip)))
  (.pre [1,8,9,11,27,28,29] (.reg false [1,8,27,28,29] [] [om 63 8,
om 64 9,
om 65 9,
oo 66 (.bin .add (.t 65) (.c (.int .i64 1))),
om 67 11,
oo 68 (.build [.int .i64 0,.int .i64 0,.int .i64 0] [(0,1,(.t 64)),(1,1,(.t 66)),(2,1,(.t 67))]),
oo 69 (.bslice 3 (.agg [.int .i64 0,.int .i64 0,.int .i64 0]) 1 [(0,(.t 68))]),
oo 70 (.app 0 3 5864062014805 (.t 63) (.t 69)),
om 8 70]))))))))
  (.pre [1,8,27,28,29] (.reg false [1,8,27,28,29] [] [oo 71 (.bin .add (.t 29) (.c (.int .i64 1))),
om 29 71])))))))
def b29_0 : XC := c29_0
def x29 : XFn := { np := 2,isOpen := false,ns := 1,res := [.tmp 4,.tmp 5],code :=
 (sr [1,2] [oo 2 (.boxR (.t 0)),
oo 4 (.mov (.c .nilSl)),
oo 5 (.mov (.c (.int .i64 0)))]
  (sr [1,2,6,7] [oo 14 (.load (.agg 5) (.t 2)),
oo 15 (.call (.c (.fn 14 [])) [(.t 14)] []),
om 13 15,
oo 16 (.ext (.t 13) 0),
oo 17 (.ext (.t 13) 1),
om 6 16,
om 7 17]
  (.seq (.seq (.reg true [1,6,26] [] [om 18 7,
oo 19 (.bin .neq (.t 18) (.c (.int .i64 0))),
om 20 19,
og 21 20 false (.mov (.t 1)),
og 22 20 false (.call (.c (.fn 35 [])) [(.t 21)] []),
og 23 20 false (.padd (.t 2) 0),
⟨some 24,some (20,false),[.box 23],.load .one (.t 23)⟩,
og 25 20 false (.bin .neq (.t 22) (.t 24)),
oo 26 (.pick (.t 20) (.c (.bool true)) (.t 25))])
  (.cond (.t 26)
  (sr [4,5] [oo 4 (.mov (.c .nilSl)),
oo 5 (.mov (.c (.int .i64 200)))]
  (.pre [4,5] .ret))
  .skip))
  (.pre [1,6] (sr [1,6,8] [oo 8 (.mov (.c .nilSl))]
  (.seq (sr [1,8,27,28,29] [om 27 6,
oo 28 (.len false (.t 27)),
oo 29 (.mov (.c (.int .i64 0)))]
  (.blk 0
  (.loop b29_0)))
  (.pre [8] (.seq (sr [8,74] [om 72 8,
oo 73 (.call (.c (.fn 60 [])) [(.t 72)] []),
oo 74 (.un .not (.t 73))]
  (.cond (.t 74)
  (sr [4,5] [oo 4 (.mov (.c .nilSl)),
oo 5 (.mov (.c (.int .i64 200)))]
  (.pre [4,5] .ret))
  .skip))
  (.pre [8] (sr [4,5] [om 75 8,
om 4 75,
oo 5 (.mov (.c (.int .i64 0)))]
  (.pre [4,5] .ret))))))))))) }
@[go_sem] def c31_0 : XC := (.pre [0,1,5]
 (.seq (sr [0,1,5,14] [om 11 5,
om 12 0,
oo 13 (.len false (.t 12)),
oo 14 (.bin .lss (.t 11) (.t 13))]
  (.cond (.t 14)
  .skip
  (.pre [] (.exit 0))))
  (.pre [0,1,5] (.seq (.blk 1
  (.seq (.reg true [0,1,5,25] [] [om 17 0,
om 18 5,
oo 19 (.ixS 3 (.t 17) (.t 18)),
⟨some 20,none,[.elem 19],.load (.agg 3) (.t 19)⟩,
om 21 1,
om 22 5,
oo 23 (.ixS 3 (.t 21) (.t 22)),
⟨some 24,none,[.elem 23],.load (.agg 3) (.t 23)⟩,
oo 25 (.eqv true [.i .i64,.i .i64,.i .i64] (.t 20) (.t 24))])
  (.cond (.t 25)
  (sr [4] [oo 4 (.mov (.c (.bool false)))]
  (.pre [4] .ret))
  .skip)))
  (.pre [0,1,5] (.reg false [0,1,5] [] [om 15 5,
oo 16 (.bin .add (.t 15) (.c (.int .i64 1))),
om 5 16]))))))
def b31_0 : XC := c31_0
def x31 : XFn := { np := 2,isOpen := false,ns := 0,res := [.tmp 4],code :=
 (sr [0,1] [oo 4 (.mov (.c (.bool false)))]
  (.seq (sr [0,1,10] [om 6 0,
oo 7 (.len false (.t 6)),
om 8 1,
oo 9 (.len false (.t 8)),
oo 10 (.bin .neq (.t 7) (.t 9))]
  (.cond (.t 10)
  (sr [4] [oo 4 (.mov (.c (.bool false)))]
  (.pre [4] .ret))
  .skip))
  (.pre [0,1] (.seq (sr [0,1,5] [oo 5 (.mov (.c (.int .i64 0)))]
  (.blk 0
  (.loop b31_0)))
  (.pre [] (sr [4] [oo 4 (.mov (.c (.bool true)))]
  (.pre [4] .ret))))))) }
@[go_sem] def c32_0 : XC := (.pre [3,8,9,10,11]
 (.seq (sr [3,8,9,10,11,29] [om 22 11,
om 23 3,
oo 24 (.len false (.t 23)),
oo 25 (.bin .lss (.t 22) (.t 24)),
om 26 25,
og 27 26 true (.mov (.t 11)),
og 28 26 true (.bin .lss (.t 27) (.c (.int .i64 6))),
oo 29 (.pick (.t 26) (.t 28) (.c (.bool false)))]
  (.cond (.t 29)
  .skip
  (.pre [8,9] (.exit 0))))
  (.pre [3,8,9,10,11] (.seq (.blk 1
  (sr [3,8,9,11,12] [om 32 10,
om 33 3,
om 34 11,
oo 35 (.ixS 3 (.t 33) (.t 34)),
oo 36 (.ixA 3 1 (.t 35) (.c (.int .i64 0))),
oo 37 (.load .one (.t 36)),
oo 38 (.call (.c (.fn 64 [])) [(.t 37),(.c (.int .i64 25))] []),
oo 39 (.bin .add (.t 32) (.t 38)),
oo 40 (.build [.int .i64 0,.int .i64 0] [(0,1,(.t 39))]),
oo 12 (.alloc 2 [.int .i64 0,.int .i64 0]),
⟨none,none,[],.store 2 (.t 12) (.t 40)⟩]
  (.seq (.reg true [3,8,9,11,12] [] [oo 41 (.padd (.t 12) 0),
⟨some 42,none,[.box 41],.load .one (.t 41)⟩,
oo 43 (.bin .add (.t 42) (.c (.int .i64 1))),
om 44 3,
om 45 11,
oo 46 (.ixS 3 (.t 44) (.t 45)),
oo 47 (.ixA 3 1 (.t 46) (.c (.int .i64 1))),
⟨some 48,none,[.elem 47],.load .one (.t 47)⟩,
oo 49 (.call (.c (.fn 64 [])) [(.t 48),(.c (.int .i64 9))] []),
oo 50 (.bin .add (.t 43) (.t 49)),
oo 51 (.padd (.t 12) 1),
⟨none,none,[.box 51],.store 1 (.t 51) (.t 50)⟩])
  (.seq (sr [3,8,9,11,12,56] [oo 52 (.padd (.t 12) 1),
oo 53 (.load .one (.t 52)),
oo 54 (.padd (.t 9) 0),
oo 55 (.load .one (.t 54)),
oo 56 (.bin .gtr (.t 53) (.t 55))]
  (.cond (.t 56)
  (.pre [8,9] (.exit 0))
  .skip))
  (.pre [3,8,9,11,12] (.seq (sr [3,8,9,11,12,69] [om 57 3,
om 58 11,
oo 59 (.ixS 3 (.t 57) (.t 58)),
oo 60 (.ixA 3 1 (.t 59) (.c (.int .i64 2))),
oo 61 (.load .one (.t 60)),
oo 62 (.call (.c (.fn 64 [])) [(.t 61),(.c (.int .i64 3))] []),
oo 63 (.bin .eql (.t 62) (.c (.int .i64 0))),
om 64 63,
og 65 64 true (.padd (.t 9) 3),
og 66 64 true (.load .one (.t 65)),
og 67 64 true (.len false (.t 66)),
og 68 64 true (.bin .lss (.t 67) (.c (.int .i64 4))),
oo 69 (.pick (.t 64) (.t 68) (.c (.bool false)))]
  (.cond (.t 69)
  (.reg false [3,8,9,11,12] [] [oo 70 (.padd (.t 9) 3),
oo 71 (.load .one (.t 70)),
oo 72 (.load (.agg 2) (.t 12)),
oo 73 (.bslice 2 (.agg [.int .i64 0,.int .i64 0]) 1 [(0,(.t 72))]),
oo 74 (.app 0 2 8796093022208 (.t 71) (.t 73)),
oo 75 (.padd (.t 9) 3),
⟨none,none,[],.store 1 (.t 75) (.t 74)⟩])
  (sr [3,8,9,11,12,79] [oo 76 (.padd (.t 9) 4),
oo 77 (.load .one (.t 76)),
oo 78 (.len false (.t 77)),
oo 79 (.bin .lss (.t 78) (.c (.int .i64 4)))]
  (.cond (.t 79)
  (.reg false [3,8,9,11,12] [] [oo 80 (.padd (.t 9) 4),
oo 81 (.load .one (.t 80)),
oo 82 (.load (.agg 2) (.t 12)),
oo 83 (.bslice 2 (.agg [.int .i64 0,.int .i64 0]) 1 [(0,(.t 82))]),
oo 84 (.app 1 2 8796093022208 (.t 81) (.t 83)),
oo 85 (.padd (.t 9) 4),
⟨none,none,[],.store 1 (.t 85) (.t 84)⟩])
  .skip))))
  (.pre [3,8,9,11,12] (.reg false [3,8,9,10,11] [] [oo 86 (.padd (.t 12) 1),
oo 87 (.load .one (.t 86)),
oo 88 (.bin .add (.t 87) (.c (.int .i64 1))),
om 10 88]))))))))
  (.pre [3,8,9,10,11] (.reg false [3,8,9,10,11] [] [om 30 11,
oo 31 (.bin .add (.t 30) (.c (.int .i64 1))),
om 11 31]))))))
def b32_0 : XC := c32_0
@[go_sem] theorem e32_0 (L : Lib) (cx : Cx) (env : Env) (h : Heap) : runC L cx b32_0 (env,h) = runC L cx c32_0 (env,h) := rfl
def x32 : XFn := { np := 4,isOpen := false,ns := 5,res := [.cell 8 (.agg 5)],code :=
 (sr [0,1,2,3,8] [oo 8 (.alloc 4 [.int .i64 0,.int .i64 0,.int .i64 0,.nilSl,.nilSl])]
  (sr [3,8,9] [om 13 0,
oo 14 (.call (.c (.fn 64 [])) [(.t 13),(.c (.int .i64 120))] []),
oo 15 (.bin .add (.c (.int .i64 1)) (.t 14)),
om 16 1,
oo 17 (.call (.c (.fn 64 [])) [(.t 16),(.c (.int .i64 13))] []),
om 18 2,
oo 19 (.call (.c (.fn 64 [])) [(.t 18),(.c (.int .i64 8))] []),
oo 20 (.bin .add (.c (.int .i64 1)) (.t 19)),
oo 21 (.build [.int .i64 0,.int .i64 0,.int .i64 0,.nilSl,.nilSl] [(0,1,(.t 15)),(1,1,(.t 17)),(2,1,(.t 20))]),
oo 9 (.alloc 3 [.int .i64 0,.int .i64 0,.int .i64 0,.nilSl,.nilSl]),
⟨none,none,[],.store 5 (.t 9) (.t 21)⟩]
  (sr [3,8,9,10] [oo 10 (.mov (.c (.int .i64 0)))]
  (.seq (sr [3,8,9,10,11] [oo 11 (.mov (.c (.int .i64 0)))]
  (.blk 0
  (.loop b32_0)))
  (.pre [8,9] (sr [8] [oo 89 (.load (.agg 5) (.t 9)),
⟨none,none,[],.store 5 (.t 8) (.t 89)⟩]
  (.pre [8] .ret))))))) }
@[go_sem] def c33_0 : XC := (.pre [0,1,5]
 (.seq (sr [0,1,5,9] [om 6 5,
om 7 0,
oo 8 (.len false (.t 7)),
oo 9 (.bin .lss (.t 6) (.t 8))]
  (.cond (.t 9)
  .skip
  (.pre [] (.exit 0))))
  (.pre [0,1,5] (.seq (.blk 1
  (sr [0,1,5,27] [om 12 1,
om 13 0,
om 14 5,
oo 15 (.ixS 2 (.t 13) (.t 14)),
oo 16 (.padd (.t 15) 0),
oo 17 (.load .one (.t 16)),
oo 18 (.bin .geq (.t 12) (.t 17)),
om 19 18,
og 20 19 true (.mov (.t 1)),
og 21 19 true (.mov (.t 0)),
og 22 19 true (.mov (.t 5)),
og 23 19 true (.ixS 2 (.t 21) (.t 22)),
og 24 19 true (.padd (.t 23) 1),
og 25 19 true (.load .one (.t 24)),
og 26 19 true (.bin .lss (.t 20) (.t 25)),
oo 27 (.pick (.t 19) (.t 26) (.c (.bool false)))]
  (.cond (.t 27)
  (sr [4] [oo 4 (.mov (.c (.bool true)))]
  (.pre [4] .ret))
  .skip)))
  (.pre [0,1,5] (.reg false [0,1,5] [] [om 10 5,
oo 11 (.bin .add (.t 10) (.c (.int .i64 1))),
om 5 11]))))))
def b33_0 : XC := c33_0
def x33 : XFn := { np := 2,isOpen := false,ns := 0,res := [.tmp 4],code :=
 (sr [0,1] [oo 4 (.mov (.c (.bool false)))]
  (.seq (sr [0,1,5] [oo 5 (.mov (.c (.int .i64 0)))]
  (.blk 0
  (.loop b33_0)))
  (.pre [] (sr [4] [oo 4 (.mov (.c (.bool false)))]
  (.pre [4] .ret))))) }
@[go_sem] def c34_0 : XC := (.pre [0,1,5]
 (.seq (sr [0,1,5,9] [om 6 5,
om 7 0,
oo 8 (.len false (.t 7)),
oo 9 (.bin .lss (.t 6) (.t 8))]
  (.cond (.t 9)
  .skip
  (.pre [] (.exit 0))))
  (.pre [0,1,5] (.seq (.blk 1
  (sr [0,1,5,17] [om 12 0,
om 13 5,
oo 14 (.ixS 1 (.t 12) (.t 13)),
oo 15 (.load .one (.t 14)),
om 16 1,
oo 17 (.bin .eql (.t 15) (.t 16))]
  (.cond (.t 17)
  (sr [4] [om 18 5,
om 4 18]
  (.pre [4] .ret))
  .skip)))
  (.pre [0,1,5] (.reg false [0,1,5] [] [om 10 5,
oo 11 (.bin .add (.t 10) (.c (.int .i64 1))),
om 5 11]))))))
def b34_0 : XC := c34_0
def x34 : XFn := { np := 2,isOpen := false,ns := 0,res := [.tmp 4],code :=
 (sr [0,1] [oo 4 (.mov (.c (.int .i64 0)))]
  (.seq (sr [0,1,5] [oo 5 (.mov (.c (.int .i64 0)))]
  (.blk 0
  (.loop b34_0)))
  (.pre [] (sr [4] [oo 4 (.mov (.c (.int .i64 (-1))))]
  (.pre [4] .ret))))) }
def x35 : XFn := { np := 1,isOpen := false,ns := 0,res := [.tmp 2],code :=
 (sr [0] [oo 2 (.mov (.c (.int .i64 0)))]
  (.seq (sr [0,5] [om 3 0,
oo 4 (.call (.c (.fn 60 [])) [(.t 3)] []),
oo 5 (.un .not (.t 4))]
  (.cond (.t 5)
  (sr [2] [oo 2 (.mov (.c (.int .i64 (-1))))]
  (.pre [2] .ret))
  .skip))
  (.pre [0] (sr [2] [om 6 0,
oo 7 (.call (.c (.fn 65 [])) [(.t 6)] []),
om 2 7]
  (.pre [2] .ret))))) }
def r4 : XRnd := { ps := [14],asg := (.reg false [4,5,6] [] [oo 6 (.alloc 1 [.int .i64 0,.int .i64 0,.int .i64 0]),
⟨none,none,[],.store 3 (.t 6) (.t 14)⟩]),body :=
 (.blk 1
  (sr [] [oo 15 (.padd (.t 6) 2),
oo 16 (.load .one (.t 15)),
⟨none,none,[],.store 1 (.t 4) (.t 16)⟩,
⟨none,none,[],.store 1 (.t 5) (.c (.int .i64 0))⟩]
  (.pre [] .ret))) }
def x36 : XFn := { np := 2,isOpen := false,ns := 4,res := [.cell 4 .one,.cell 5 .one],code :=
 (sr [0,1,4,5] [oo 4 (.alloc 2 [.int .i64 0]),
oo 5 (.alloc 3 [.int .i64 0])]
  (.seq (sr [0,1,4,5,8] [om 7 0,
oo 8 (.call (.c (.fn 60 [])) [(.t 7)] [])]
  (.cond (.t 8)
  (sr [4,5,13] [om 9 0,
om 10 1,
om 11 1,
oo 12 (.bin .add (.t 11) (.c (.int .i64 1))),
oo 13 (.call (.c (.fn 66 [])) [(.t 9),(.t 10),(.t 12)] [])]
  (.blk 0
  (.rfn 0 (.t 13) 4)))
  .skip))
  (.pre [4,5] (sr [4,5] [⟨none,none,[],.store 1 (.t 4) (.c (.int .i64 0))⟩,
⟨none,none,[],.store 1 (.t 5) (.c (.int .i64 150))⟩]
  (.pre [4,5] .ret))))) }
def x39 : XFn := { np := 2,isOpen := false,ns := 1,res := [.cell 4 (.agg 2),.tmp 5],code :=
 (sr [0,1,4] [oo 4 (.alloc 0 [.str [],.str []]),
oo 5 (.mov (.c (.int .i64 0)))]
  (sr [4,5] [om 6 0,
oo 7 (.call (.c (.fn 74 [])) [(.t 6)] []),
om 8 1,
oo 9 (.call (.c (.fn 74 [])) [(.t 8)] []),
oo 10 (.call (.c (.fn 73 [])) [(.t 7),(.t 9)] []),
oo 11 (.ext (.t 10) 0),
oo 12 (.ext (.t 10) 1),
⟨none,none,[],.store 2 (.t 4) (.t 11)⟩,
om 5 12]
  (.pre [4,5] .ret))) }
def x41 : XFn := { np := 1,isOpen := false,ns := 2,res := [.cell 2 (.agg 2)],code :=
 (sr [0,2] [oo 2 (.alloc 1 [.str [],.str []])]
  (sr [2,3] [om 6 0,
oo 7 (.call (.c (.fn 80 [])) [(.t 6),(.c (.int .i64 1))] []),
om 5 7,
oo 8 (.ext (.t 5) 0),
oo 9 (.ext (.t 5) 1),
oo 3 (.alloc 0 [.str [],.str []]),
⟨none,none,[],.store 2 (.t 3) (.t 8)⟩,
om 4 9]
  (sr [2] [oo 10 (.load (.agg 2) (.t 3)),
⟨none,none,[],.store 2 (.t 2) (.t 10)⟩]
  (.pre [2] .ret)))) }
@[go_sem] def c42_0 : XC := (.blk 1000 (.seq (.pre [2,3,5]
 (sr [2,3,5,6,7] [oo 22 (.padd (.t 2) 0),
oo 23 (.load .one (.t 22)),
oo 24 (.padd (.t 2) 1),
oo 25 (.load .one (.t 24)),
oo 26 (.call (.c (.fn 81 [])) [(.t 23),(.t 25)] []),
om 21 26,
oo 27 (.ext (.t 21) 0),
oo 28 (.ext (.t 21) 1),
oo 29 (.ext (.t 21) 2),
om 6 27,
om 7 28,
om 8 29]
  (sr [2,3,5,6,7,9,10] [oo 31 (.padd (.t 3) 0),
oo 32 (.load .one (.t 31)),
oo 33 (.padd (.t 3) 1),
oo 34 (.load .one (.t 33)),
oo 35 (.call (.c (.fn 81 [])) [(.t 32),(.t 34)] []),
om 30 35,
oo 36 (.ext (.t 30) 0),
oo 37 (.ext (.t 30) 1),
oo 38 (.ext (.t 30) 2),
om 9 36,
om 10 37,
om 11 38]
  (.seq (sr [2,3,5,7,10,12] [om 39 6,
om 40 9,
oo 41 (.call (.c (.fn 82 [])) [(.t 39),(.t 40)] []),
om 12 41]
  (.blk 0
  (sr [2,3,5,7,10,12,42] [om 43 12,
oo 44 (.bin .neq (.t 43) (.c (.int .i64 0))),
om 42 44]
  (.cond (.t 42)
  (sr [4] [om 45 5,
om 46 12,
oo 47 (.bin .mul (.t 45) (.t 46)),
om 4 47]
  (.pre [4] .ret))
  (sr [2,3,5,7,10,48] [om 49 7,
oo 50 (.bin .eql (.t 49) (.c (.str [48]))),
om 51 50,
og 52 51 true (.mov (.t 10)),
og 53 51 true (.bin .eql (.t 52) (.c (.str [48]))),
oo 54 (.pick (.t 51) (.t 53) (.c (.bool false))),
om 48 54]
  (.cond (.t 48)
  (sr [4] [oo 4 (.mov (.c (.int .i64 0)))]
  (.pre [4] .ret))
  (sr [2,3,5,7,10,55] [om 56 7,
oo 57 (.bin .eql (.t 56) (.c (.str [48]))),
om 55 57]
  (.cond (.t 55)
  (sr [4] [om 58 5,
oo 59 (.un .neg (.t 58)),
om 4 59]
  (.pre [4] .ret))
  (sr [2,3,5,7,10,60] [om 61 10,
oo 62 (.bin .eql (.t 61) (.c (.str [48]))),
om 60 62]
  (.cond (.t 60)
  (sr [4] [om 63 5,
om 4 63]
  (.pre [4] .ret))
  .skip))))))))))
  (.pre [2,3,5,7,10] (.seq (.reg true [2,3,5] [] [oo 64 (.padd (.t 2) 1),
⟨some 65,none,[.box 64,.ne 64 3],.load .one (.t 64)⟩,
om 66 7,
oo 67 (.build [.str [],.str []] [(0,1,(.t 65)),(1,1,(.t 66))]),
oo 68 (.padd (.t 3) 1),
⟨some 69,none,[.box 68,.ne 68 2],.load .one (.t 68)⟩,
om 70 10,
oo 71 (.build [.str [],.str []] [(0,1,(.t 69)),(1,1,(.t 70))]),
om 72 5,
oo 73 (.un .neg (.t 72)),
⟨none,none,[.box 2],.store 2 (.t 2) (.t 67)⟩,
⟨none,none,[.box 3],.store 2 (.t 3) (.t 71)⟩,
om 5 73])
  (.pre [2,3,5] (.exit 1000)))))))) (.exit 5000)))
def b42_0 : XC := c42_0
@[go_sem] theorem e42_0 (L : Lib) (cx : Cx) (env : Env) (h : Heap) : runC L cx b42_0 (env,h) = runC L cx c42_0 (env,h) := rfl
def x42 : XFn := { np := 2,isOpen := false,ns := 2,res := [.tmp 4],code :=
 (sr [2,3] [oo 2 (.box 0 (.t 0)),
oo 3 (.box 1 (.t 1)),
oo 4 (.mov (.c (.int .i64 0)))]
  (.blk 5000 (.seq (.blk 1000 (.seq (sr [2,3,20] [oo 13 (.load (.agg 2) (.t 2)),
oo 14 (.call (.c (.fn 78 [])) [(.t 13)] []),
oo 15 (.un .not (.t 14)),
om 16 15,
og 17 16 false (.load (.agg 2) (.t 3)),
og 18 16 false (.call (.c (.fn 78 [])) [(.t 17)] []),
og 19 16 false (.un .not (.t 18)),
oo 20 (.pick (.t 16) (.c (.bool true)) (.t 19))]
  (.cond (.t 20)
  (sr [4] [oo 4 (.mov (.c (.int .i64 0)))]
  (.pre [4] .ret))
  .skip))
  (.pre [2,3] (.reg false [2,3,5] [] [oo 5 (.mov (.c (.int .i64 1)))]))))
  (.loop b42_0)))) }
def x45 : XFn := { np := 0,isOpen := false,ns := 1,res := [.cell 0 (.agg 5)],code :=
 (sr [0] [oo 0 (.alloc 0 [.int .i64 0,.int .i64 0,.int .i64 0,.nilSl,.nilSl])]
  (sr [0] [oo 1 (.build [.int .i64 0,.int .i64 0] [(0,1,(.c (.int .i64 8))),(1,1,(.c (.int .i64 9)))]),
oo 2 (.bslice 2 (.agg [.int .i64 0,.int .i64 0]) 1 [(0,(.t 1))]),
oo 3 (.build [.int .i64 0,.int .i64 0] [(0,1,(.c (.int .i64 2))),(1,1,(.c (.int .i64 4)))]),
oo 4 (.bslice 2 (.agg [.int .i64 0,.int .i64 0]) 1 [(0,(.t 3))]),
oo 5 (.build [.int .i64 0,.int .i64 0,.int .i64 0,.nilSl,.nilSl] [(0,1,(.c (.int .i64 12))),(1,1,(.c (.int .i64 3))),(2,1,(.c (.int .i64 2))),(3,1,(.t 2)),(4,1,(.t 4))]),
⟨none,none,[],.store 5 (.t 0) (.t 5)⟩]
  (.pre [0] .ret))) }
@[go_sem] def c48_0 : XC := (.pre [7,8]
 (.seq (sr [7,8,37] [om 34 8,
om 35 7,
oo 36 (.len false (.t 35)),
oo 37 (.bin .lss (.t 34) (.t 36))]
  (.cond (.t 37)
  .skip
  (.pre [7] (.exit 0))))
  (.pre [7,8] (.blk 1
  (.reg true [7,8] [] [om 38 8,
om 39 7,
om 40 8,
oo 41 (.slice (some 1) (.t 39) (some (.t 40)) none),
om 42 7,
om 43 8,
oo 44 (.slice (some 1) (.t 42) none (some (.t 43))),
oo 45 (.copy 1 (.t 41) (.t 44)),
oo 46 (.bin .add (.t 38) (.t 45)),
om 8 46])))))
def b48_0 : XC := c48_0
@[go_sem] theorem e48_0 (L : Lib) (cx : Cx) (env : Env) (h : Heap) : runC L cx b48_0 (env,h) = runC L cx c48_0 (env,h) := rfl
def x48 : XFn := { np := 2,isOpen := false,ns := 1,res := [.tmp 4],code :=
 (sr [0,1] [oo 4 (.mov (.c .nilSl))]
  (.seq (sr [0,1,10] [om 9 1,
oo 10 (.bin .lss (.t 9) (.c (.int .i64 0)))]
  (.cond (.t 10)
  (.reg false [0,1] [] [oo 11 (.mkif 9 (.c (.str [99,97,110,110,111,116,32,98,101,32,110,101,103,97,116,105,118,101]))),
⟨none,none,[],.pnc (.t 11)⟩])
  .skip))
  (.pre [0,1] (sr [0,5,6] [om 13 0,
oo 14 (.len false (.t 13)),
oo 15 (.conv .u64 (.t 14)),
om 16 1,
oo 17 (.conv .u64 (.t 16)),
oo 18 (.call (.c (.fn 88 [])) [(.t 15),(.t 17)] []),
om 12 18,
oo 19 (.ext (.t 12) 0),
oo 20 (.ext (.t 12) 1),
om 5 19,
om 6 20]
  (.seq (sr [0,6,26] [om 21 5,
oo 22 (.bin .gtr (.t 21) (.c (.int .u64 0))),
om 23 22,
og 24 23 false (.mov (.t 6)),
og 25 23 false (.bin .gtr (.t 24) (.c (.int .u64 9223372036854775807))),
oo 26 (.pick (.t 23) (.c (.bool true)) (.t 25))]
  (.cond (.t 26)
  (.reg false [0,6] [] [oo 27 (.mkif 9 (.c (.str [116,104,101,32,114,101,115,117,108,116,32,111,102,32,40,108,101,110,40,120,41,32,42,32,99,111,117,110,116,41,32,111,118,101,114,102,108,111,119,115]))),
⟨none,none,[],.pnc (.t 27)⟩])
  .skip))
  (.pre [0,6] (sr [0,7] [om 28 6,
oo 29 (.conv .i64 (.t 28)),
oo 30 (.mk 1000 1 (.int .i64 0) 17592186044416 (.t 29) (.t 29)),
om 7 30]
  (sr [7,8] [om 31 7,
om 32 0,
oo 33 (.copy 1 (.t 31) (.t 32)),
om 8 33]
  (.seq (.blk 0
  (.loop b48_0))
  (.pre [7] (sr [4] [om 47 7,
om 4 47]
  (.pre [4] .ret)))))))))))) }
def x49 : XFn := { np := 1,isOpen := false,ns := 0,res := [.tmp 2],code :=
 (sr [1] [oo 1 (.boxR (.t 0)),
oo 2 (.mov (.c .nilFn))]
  (sr [2] [oo 3 (.mkfn 89 [(.t 1)]),
om 2 3]
  (.pre [2] .ret))) }
@[go_sem] def c50_1 : XC := (.pre [1,5,7,8,10,12]
 (.seq (sr [1,5,7,8,10,12,103] [om 100 12,
oo 101 (.padd (.t 10) 1),
oo 102 (.load .one (.t 101)),
oo 103 (.bin .lss (.t 100) (.t 102))]
  (.cond (.t 103)
  .skip
  (.pre [1,5,7,8,10] (.exit 6))))
  (.pre [1,5,7,8,10,12] (.seq (.blk 7
  (.reg false [1,5,7,8,10,12] [] [om 106 5,
om 107 12,
oo 108 (.bslice 1 (.int .i64 0) 1 [(0,(.t 107))]),
oo 109 (.app 2 1 17592186044416 (.t 106) (.t 108)),
om 5 109]))
  (.pre [1,5,7,8,10,12] (.reg false [1,5,7,8,10,12] [] [om 104 12,
oo 105 (.bin .add (.t 104) (.c (.int .i64 1))),
om 12 105]))))))
def b50_1 : XC := c50_1
@[go_sem] def c50_2 : XC := (.pre [1,5,7,8,9,10,11]
 (.seq (sr [1,5,7,8,9,10,11,70] [om 61 11,
om 62 9,
oo 63 (.padd (.t 1) 2),
oo 64 (.load .one (.t 63)),
oo 65 (.bin .add (.t 62) (.t 64)),
oo 66 (.bin .lss (.t 61) (.t 65)),
om 67 66,
og 68 67 true (.padd (.t 10) 4),
og 69 67 true (.load .one (.t 68)),
oo 70 (.pick (.t 67) (.t 69) (.c (.bool false)))]
  (.cond (.t 70)
  .skip
  (.pre [1,5,7,8,9,10] (.exit 4))))
  (.pre [1,5,7,8,9,10,11] (.seq (.blk 5
  (.reg false [1,5,7,8,9,10,11] [] [oo 73 (.padd (.t 1) 4),
oo 74 (.load .one (.t 73)),
om 75 11,
oo 76 (.call (.c (.fn 33 [])) [(.t 74),(.t 75)] []),
oo 77 (.un .not (.t 76)),
om 78 77,
og 79 78 true (.padd (.t 1) 3),
og 80 78 true (.load .one (.t 79)),
og 81 78 true (.mov (.t 11)),
og 82 78 true (.call (.c (.fn 33 [])) [(.t 80),(.t 81)] []),
og 83 78 true (.un .not (.t 82)),
oo 84 (.pick (.t 78) (.t 83) (.c (.bool false))),
oo 85 (.padd (.t 10) 4),
⟨none,none,[],.store 1 (.t 85) (.t 84)⟩]))
  (.pre [1,5,7,8,9,10,11] (.reg false [1,5,7,8,9,10,11] [] [om 71 11,
oo 72 (.bin .add (.t 71) (.c (.int .i64 1))),
om 11 72]))))))
def b50_2 : XC := c50_2
@[go_sem] def c50_0 : XC := (.pre [1,5,7,8,9]
 (.seq (sr [1,5,7,8,9,27] [om 24 9,
oo 25 (.padd (.t 1) 0),
oo 26 (.load .one (.t 25)),
oo 27 (.bin .lss (.t 24) (.t 26))]
  (.cond (.t 27)
  .skip
  (.pre [5,7,8] (.exit 2))))
  (.pre [1,5,7,8,9] (.blk 3
  (sr [1,5,7,8,9,10] [om 28 9,
om 29 9,
oo 30 (.bin .add (.t 29) (.c (.int .i64 1))),
om 31 5,
oo 32 (.len false (.t 31)),
om 33 8,
oo 34 (.build [.int .i64 0,.int .i64 0,.int .i64 0,.int .i64 0,.bool false] [(0,1,(.t 28)),(1,1,(.t 30)),(2,1,(.t 32)),(3,1,(.t 33))]),
oo 10 (.alloc 4 [.int .i64 0,.int .i64 0,.int .i64 0,.int .i64 0,.bool false]),
⟨none,none,[],.store 5 (.t 10) (.t 34)⟩]
  (.seq (sr [1,5,7,8,9,10,38] [oo 35 (.padd (.t 1) 4),
oo 36 (.load .one (.t 35)),
om 37 9,
oo 38 (.call (.c (.fn 33 [])) [(.t 36),(.t 37)] [])]
  (.cond (.t 38)
  (sr [1,5,7,8,10,40] [om 39 8,
oo 40 (.bin .gtr (.t 39) (.c (.int .i64 0)))]
  (.cond (.t 40)
  (.reg false [1,5,7,8,10] [] [om 41 8,
oo 42 (.bin .sub (.t 41) (.c (.int .i64 1))),
om 8 42])
  (.reg false [1,5,7,8,10] [] [om 43 5,
oo 44 (.bslice 1 (.int .i64 0) 1 [(0,(.c (.int .i64 (-1))))]),
oo 45 (.app 1 1 17592186044416 (.t 43) (.t 44)),
om 5 45])))
  (sr [1,5,7,8,9,10] [om 46 8,
oo 47 (.padd (.t 1) 1),
oo 48 (.load .one (.t 47)),
oo 49 (.bin .lss (.t 46) (.t 48)),
om 50 49,
og 51 50 true (.mov (.t 9)),
og 52 50 true (.padd (.t 1) 2),
og 53 50 true (.load .one (.t 52)),
og 54 50 true (.bin .add (.t 51) (.t 53)),
og 55 50 true (.padd (.t 1) 0),
og 56 50 true (.load .one (.t 55)),
og 57 50 true (.bin .leq (.t 54) (.t 56)),
oo 58 (.pick (.t 50) (.t 57) (.c (.bool false))),
oo 59 (.padd (.t 10) 4),
⟨none,none,[],.store 1 (.t 59) (.t 58)⟩]
  (.seq (sr [1,5,7,8,9,10,11] [om 60 9,
om 11 60]
  (.blk 4
  (.loop b50_2)))
  (.pre [1,5,7,8,9,10] (sr [1,5,7,8,9,10] [om 86 5,
om 87 9,
oo 88 (.bslice 1 (.int .i64 0) 1 [(0,(.t 87))]),
oo 89 (.app 3 1 17592186044416 (.t 86) (.t 88)),
om 5 89]
  (sr [1,5,7,8,9,10,91] [oo 90 (.padd (.t 10) 4),
oo 91 (.load .one (.t 90))]
  (.cond (.t 91)
  (sr [1,5,7,8,9,10] [om 92 8,
oo 93 (.bin .add (.t 92) (.c (.int .i64 1))),
om 8 93]
  (sr [1,5,7,8,9,10] [om 94 9,
oo 95 (.padd (.t 1) 2),
oo 96 (.load .one (.t 95)),
oo 97 (.bin .add (.t 94) (.t 96)),
oo 98 (.padd (.t 10) 1),
⟨none,none,[],.store 1 (.t 98) (.t 97)⟩]
  (sr [1,5,7,8,10,12] [om 99 9,
om 12 99]
  (.blk 6
  (.loop b50_1)))))
  .skip))))))))
  (.pre [1,5,7,8,10] (sr [1,5,7,8,10] [om 110 7,
oo 111 (.load (.agg 5) (.t 10)),
oo 112 (.bslice 5 (.agg [.int .i64 0,.int .i64 0,.int .i64 0,.int .i64 0,.bool false]) 1 [(0,(.t 111))]),
oo 113 (.app 0 5 3518437208883 (.t 110) (.t 112)),
om 7 113]
  (.reg false [1,5,7,8,9] [] [oo 114 (.padd (.t 10) 1),
oo 115 (.load .one (.t 114)),
om 9 115])))))))))
def b50_0 : XC := c50_0
@[go_sem] def c50_3 : XC := (.pre [1,5,6]
 (.seq (sr [1,5,6,16] [om 13 6,
oo 14 (.padd (.t 1) 1),
oo 15 (.load .one (.t 14)),
oo 16 (.bin .lss (.t 13) (.t 15))]
  (.cond (.t 16)
  .skip
  (.pre [1,5] (.exit 0))))
  (.pre [1,5,6] (.seq (.blk 1
  (.reg false [1,5,6] [] [om 19 5,
oo 20 (.bslice 1 (.int .i64 0) 1 [(0,(.c (.int .i64 (-1))))]),
oo 21 (.app 5 1 17592186044416 (.t 19) (.t 20)),
om 5 21]))
  (.pre [1,5,6] (.reg false [1,5,6] [] [om 17 6,
oo 18 (.bin .add (.t 17) (.c (.int .i64 1))),
om 6 18]))))))
def b50_3 : XC := c50_3
def x50 : XFn := { np := 1,isOpen := false,ns := 6,res := [.tmp 2,.tmp 3,.tmp 4],code :=
 (sr [1] [oo 1 (.boxR (.t 0)),
oo 2 (.mov (.c .nilSl)),
oo 3 (.mov (.c .nilSl)),
oo 4 (.mov (.c (.int .i64 0)))]
  (sr [1,5] [oo 5 (.mov (.c .nilSl))]
  (.seq (sr [1,5,6] [oo 6 (.mov (.c (.int .i64 0)))]
  (.blk 0
  (.loop b50_3)))
  (.pre [1,5] (sr [1,5,7] [oo 7 (.mov (.c .nilSl))]
  (sr [1,5,7,8] [oo 22 (.padd (.t 1) 1),
oo 23 (.load .one (.t 22)),
om 8 23]
  (sr [1,5,7,8,9] [oo 9 (.mov (.c (.int .i64 0)))]
  (.seq (.blk 2
  (.loop b50_0))
  (.pre [5,7,8] (sr [2,3,4] [om 116 7,
om 117 5,
om 118 8,
om 2 116,
om 3 117,
om 4 118]
  (.pre [2,3,4] .ret))))))))))) }
@[go_sem] def c51_0 : XC := (.pre [0,1,2,7,10,11,12]
 (sr [0,1,2,7,10,11,12,13] [oo 13 (.bin .lss (.t 12) (.t 11))]
  (.seq (.cond (.t 13)
  .skip
  (.pre [0,2] (.exit 0)))
  (.pre [0,1,2,7,10,11,12] (.seq (.blk 1
  (sr [0,1,2,7,9,10,11,12] [oo 14 (.ixS 2 (.t 10) (.t 12)),
oo 15 (.load (.agg 2) (.t 14)),
oo 9 (.alloc 0 [.int .i64 0,.int .i64 0]),
⟨none,none,[],.store 2 (.t 9) (.t 15)⟩]
  (.seq (sr [0,1,2,9,10,11,12,32] [oo 16 (.padd (.t 9) 0),
oo 17 (.load .one (.t 16)),
om 18 7,
oo 19 (.bin .leq (.t 17) (.t 18)),
om 20 19,
og 21 20 false (.padd (.t 9) 1),
og 22 20 false (.load .one (.t 21)),
og 23 20 false (.padd (.t 9) 0),
og 24 20 false (.load .one (.t 23)),
og 25 20 false (.bin .leq (.t 22) (.t 24)),
oo 26 (.pick (.t 20) (.c (.bool true)) (.t 25)),
om 27 26,
og 28 27 false (.padd (.t 9) 1),
og 29 27 false (.load .one (.t 28)),
og 30 27 false (.mov (.t 1)),
og 31 27 false (.bin .gtr (.t 29) (.t 30)),
oo 32 (.pick (.t 27) (.c (.bool true)) (.t 31))]
  (.cond (.t 32)
  (sr [6] [oo 6 (.mov (.c (.bool false)))]
  (.pre [6] .ret))
  .skip))
  (.pre [0,1,2,9,10,11,12] (.reg false [0,1,2,7,10,11,12] [] [oo 33 (.padd (.t 9) 1),
oo 34 (.load .one (.t 33)),
om 7 34])))))
  (.pre [0,1,2,7,10,11,12] (.reg false [0,1,2,7,10,11,12] [] [oo 35 (.bin .add (.t 12) (.c (.int .i64 1))),
om 12 35])))))))
def b51_0 : XC := c51_0
@[go_sem] theorem e51_0 (L : Lib) (cx : Cx) (env : Env) (h : Heap) : runC L cx b51_0 (env,h) = runC L cx c51_0 (env,h) := rfl
def x51 : XFn := { np := 3,isOpen := false,ns := 1,res := [.tmp 6],code :=
 (sr [0,1,2] [oo 6 (.mov (.c (.bool false)))]
  (sr [0,1,2,7] [oo 7 (.mov (.c (.int .i64 (-1))))]
  (.seq (sr [0,1,2,7,10,11,12] [om 10 0,
oo 11 (.len false (.t 10)),
oo 12 (.mov (.c (.int .i64 0)))]
  (.blk 0
  (.loop b51_0)))
  (.pre [0,2] (sr [6] [om 36 0,
oo 37 (.len false (.t 36)),
om 38 2,
oo 39 (.bin .leq (.t 37) (.t 38)),
om 6 39]
  (.pre [6] .ret)))))) }
def x52 : XFn := { np := 2,isOpen := false,ns := 0,res := [.tmp 4],code :=
 (sr [0,1] [oo 4 (.mov (.c (.bool false)))]
  (sr [4] [om 5 0,
om 6 1,
oo 7 (.call (.c (.fn 92 [])) [(.t 5),(.t 6)] []),
oo 8 (.bin .geq (.t 7) (.c (.int .i64 0))),
om 4 8]
  (.pre [4] .ret))) }
def x53 : XFn := { np := 2,isOpen := false,ns := 0,res := [.tmp 3],code :=
 (sr [1,2] [oo 2 (.boxR (.t 0)),
oo 3 (.mov (.c (.bool false)))]
  (sr [3] [oo 4 (.padd (.t 1) 4),
oo 5 (.load .one (.t 4)),
oo 6 (.mkfn 54 [(.t 2)]),
oo 7 (.call (.c (.fn 52 [])) [(.t 5),(.t 6)] []),
om 3 7]
  (.pre [3] .ret))) }
def x54 : XFn := { np := 2,isOpen := false,ns := 0,res := [.tmp 3],code :=
 (sr [1,2] [oo 2 (.boxR (.t 0)),
oo 3 (.mov (.c (.bool false)))]
  (sr [3] [oo 4 (.padd (.t 1) 0),
oo 5 (.load .one (.t 4)),
oo 6 (.padd (.t 2) 1),
oo 7 (.load .one (.t 6)),
oo 8 (.bin .lss (.t 5) (.t 7)),
om 9 8,
og 10 9 true (.padd (.t 2) 0),
og 11 9 true (.load .one (.t 10)),
og 12 9 true (.padd (.t 1) 1),
og 13 9 true (.load .one (.t 12)),
og 14 9 true (.bin .lss (.t 11) (.t 13)),
oo 15 (.pick (.t 9) (.t 14) (.c (.bool false))),
om 3 15]
  (.pre [3] .ret))) }
def x55 : XFn := { np := 3,isOpen := false,ns := 0,res := [.tmp 6],code :=
 (sr [0,1,2] [oo 6 (.mov (.c (.bool false)))]
  (sr [6] [om 7 0,
om 8 1,
oo 9 (.bin .geq (.t 7) (.t 8)),
om 10 9,
og 11 10 true (.mov (.t 0)),
og 12 10 true (.mov (.t 2)),
og 13 10 true (.bin .leq (.t 11) (.t 12)),
oo 14 (.pick (.t 10) (.t 13) (.c (.bool false))),
om 6 14]
  (.pre [6] .ret))) }
@[go_sem] def c56_0 : XC := (.pre [0,1,2,7]
 (.seq (sr [0,1,2,7,11] [om 8 7,
om 9 0,
oo 10 (.len false (.t 9)),
oo 11 (.bin .lss (.t 8) (.t 10))]
  (.cond (.t 11)
  .skip
  (.pre [0,2] (.exit 0))))
  (.pre [0,1,2,7] (.seq (.blk 1
  (.seq (.reg true [0,1,2,7,60] [] [om 14 0,
om 15 7,
oo 16 (.ixS 2 (.t 14) (.t 15)),
oo 17 (.padd (.t 16) 0),
⟨some 18,none,[.elem 17],.load .one (.t 17)⟩,
oo 19 (.bin .lss (.t 18) (.c (.int .i64 0))),
om 20 19,
og 21 20 false (.mov (.t 0)),
og 22 20 false (.mov (.t 7)),
og 23 20 false (.ixS 2 (.t 21) (.t 22)),
og 24 20 false (.padd (.t 23) 0),
⟨some 25,some (20,false),[.elem 24],.load .one (.t 24)⟩,
og 26 20 false (.mov (.t 0)),
og 27 20 false (.mov (.t 7)),
og 28 20 false (.ixS 2 (.t 26) (.t 27)),
og 29 20 false (.padd (.t 28) 1),
⟨some 30,some (20,false),[.elem 29],.load .one (.t 29)⟩,
og 31 20 false (.bin .geq (.t 25) (.t 30)),
oo 32 (.pick (.t 20) (.c (.bool true)) (.t 31)),
om 33 32,
og 34 33 false (.mov (.t 0)),
og 35 33 false (.mov (.t 7)),
og 36 33 false (.ixS 2 (.t 34) (.t 35)),
og 37 33 false (.padd (.t 36) 1),
⟨some 38,some (33,false),[.elem 37],.load .one (.t 37)⟩,
og 39 33 false (.mov (.t 1)),
og 40 33 false (.bin .gtr (.t 38) (.t 39)),
oo 41 (.pick (.t 33) (.c (.bool true)) (.t 40)),
om 42 41,
og 43 42 false (.mov (.t 7)),
og 44 42 false (.bin .gtr (.t 43) (.c (.int .i64 0))),
og 45 42 false (.mov (.t 44)),
og 46 45 true (.mov (.t 0)),
og 47 45 true (.mov (.t 7)),
og 48 45 true (.ixS 2 (.t 46) (.t 47)),
og 49 45 true (.padd (.t 48) 0),
⟨some 50,some (45,true),[.elem 49],.load .one (.t 49)⟩,
og 51 45 true (.mov (.t 0)),
og 52 45 true (.mov (.t 7)),
og 53 45 true (.bin .sub (.t 52) (.c (.int .i64 1))),
og 54 45 true (.minmax true [(.t 53),(.c (.int .i64 0))]),
og 55 45 true (.ixS 2 (.t 51) (.t 54)),
og 56 45 true (.padd (.t 55) 1),
⟨some 57,some (45,true),[.elem 56],.load .one (.t 56)⟩,
og 58 45 true (.bin .leq (.t 50) (.t 57)),
og 59 42 false (.pick (.t 45) (.t 58) (.c (.bool false))),
oo 60 (.pick (.t 42) (.c (.bool true)) (.t 59))])
  (.cond (.t 60)
  (sr [6] [oo 6 (.mov (.c (.bool false)))]
  (.pre [6] .ret))
  .skip)))
  (.pre [0,1,2,7] (.reg false [0,1,2,7] [] [om 12 7,
oo 13 (.bin .add (.t 12) (.c (.int .i64 1))),
om 7 13]))))))
def b56_0 : XC := c56_0
def x56 : XFn := { np := 3,isOpen := false,ns := 0,res := [.tmp 6],code :=
 (sr [0,1,2] [oo 6 (.mov (.c (.bool false)))]
  (.seq (sr [0,1,2,7] [oo 7 (.mov (.c (.int .i64 0)))]
  (.blk 0
  (.loop b56_0)))
  (.pre [0,2] (sr [6] [om 61 0,
oo 62 (.len false (.t 61)),
om 63 2,
oo 64 (.bin .leq (.t 62) (.t 63)),
om 6 64]
  (.pre [6] .ret))))) }
def x57 : XFn := { np := 2,isOpen := false,ns := 3,res := [.cell 4 (.agg 4)],code :=
 (sr [0,1,4] [oo 4 (.alloc 2 [.str [],.str [],.str [],.str []])]
  (sr [1,4,5] [om 10 0,
oo 11 (.call (.c (.fn 39 [])) [(.t 10),(.c (.int .i64 1))] []),
om 9 11,
oo 12 (.ext (.t 9) 0),
oo 13 (.ext (.t 9) 1),
oo 5 (.alloc 1 [.str [],.str []]),
⟨none,none,[],.store 2 (.t 5) (.t 12)⟩,
om 6 13]
  (sr [4,5,7] [om 15 1,
oo 16 (.call (.c (.fn 39 [])) [(.t 15),(.c (.int .i64 1))] []),
om 14 16,
oo 17 (.ext (.t 14) 0),
oo 18 (.ext (.t 14) 1),
oo 7 (.alloc 0 [.str [],.str []]),
⟨none,none,[],.store 2 (.t 7) (.t 17)⟩,
om 8 18]
  (sr [4] [oo 19 (.load (.agg 2) (.t 5)),
oo 20 (.load (.agg 2) (.t 7)),
oo 21 (.build [.str [],.str [],.str [],.str []] [(0,2,(.t 19)),(2,2,(.t 20))]),
⟨none,none,[],.store 4 (.t 4) (.t 21)⟩]
  (.pre [4] .ret))))) }
def r5 : XRnd := { ps := [24,25],asg := (sr [2,4,5,25] [oo 5 (.alloc 2 [.str [],.str [],.str [],.str []]),
⟨none,none,[],.store 4 (.t 5) (.t 24)⟩]
  (.reg false [2,4,5,6] [] [oo 6 (.alloc 1 [.str [],.str [],.str [],.str []]),
⟨none,none,[],.store 4 (.t 6) (.t 25)⟩])),body :=
 (.blk 1
  (.seq (sr [2,4,5,6,39] [oo 26 (.padd (.t 5) 0),
oo 27 (.load (.agg 2) (.t 26)),
oo 28 (.padd (.t 6) 0),
oo 29 (.load (.agg 2) (.t 28)),
oo 30 (.call (.c (.fn 42 [])) [(.t 27),(.t 29)] []),
oo 31 (.bin .geq (.t 30) (.c (.int .i64 0))),
om 32 31,
og 33 32 false (.padd (.t 5) 2),
og 34 32 false (.load (.agg 2) (.t 33)),
og 35 32 false (.padd (.t 6) 2),
og 36 32 false (.load (.agg 2) (.t 35)),
og 37 32 false (.call (.c (.fn 42 [])) [(.t 34),(.t 36)] []),
og 38 32 false (.bin .geq (.t 37) (.c (.int .i64 0))),
oo 39 (.pick (.t 32) (.c (.bool true)) (.t 38))]
  (.cond (.t 39)
  (sr [] [⟨none,none,[],.store 1 (.t 2) (.c (.bool false))⟩]
  (.pre [] .ret))
  .skip))
  (.pre [4,5,6] (.reg false [] [] [oo 40 (.load (.agg 4) (.t 5)),
oo 41 (.load (.agg 4) (.t 6)),
oo 42 (.call (.c (.fn 96 [])) [(.t 4),(.t 40),(.t 41)] [])])))) }
def x58 : XFn := { np := 1,isOpen := false,ns := 5,res := [.cell 2 .one],code :=
 (sr [1,2] [oo 1 (.boxR (.t 0)),
oo 2 (.alloc 4 [.bool false])]
  (.seq (sr [1,2,16] [oo 7 (.padd (.t 1) 0),
oo 8 (.load .one (.t 7)),
oo 9 (.len false (.t 8)),
oo 10 (.bin .lss (.t 9) (.c (.int .i64 2))),
om 11 10,
og 12 11 false (.padd (.t 1) 0),
og 13 11 false (.load .one (.t 12)),
og 14 11 false (.len false (.t 13)),
og 15 11 false (.bin .gtr (.t 14) (.c (.int .i64 24))),
oo 16 (.pick (.t 11) (.c (.bool true)) (.t 15))]
  (.cond (.t 16)
  (sr [2] [⟨none,none,[],.store 1 (.t 2) (.c (.bool false))⟩]
  (.pre [2] .ret))
  .skip))
  (.pre [1,2] (sr [1,2,3] [oo 3 (.mov (.c (.fn 93 [])))]
  (.seq (sr [1,2,20] [oo 17 (.padd (.t 1) 0),
oo 18 (.load .one (.t 17)),
om 19 3,
oo 20 (.call (.c (.fn 94 [])) [(.t 18),(.t 19)] [])]
  (.cond (.t 20)
  (sr [2] [⟨none,none,[],.store 1 (.t 2) (.c (.bool false))⟩]
  (.pre [2] .ret))
  .skip))
  (.pre [1,2] (sr [1,2,4] [oo 4 (.alloc 3 [.bool false])]
  (.seq (sr [2,4,23] [oo 21 (.padd (.t 1) 0),
oo 22 (.load .one (.t 21)),
oo 23 (.call (.c (.fn 95 [])) [(.t 22)] [])]
  (.blk 0
  (.rfn 0 (.t 23) 5)))
  (.pre [2,4] (sr [2] [oo 43 (.padd (.t 4) 0),
oo 44 (.load .one (.t 43)),
oo 45 (.un .not (.t 44)),
⟨none,none,[],.store 1 (.t 2) (.t 45)⟩]
  (.pre [2] .ret))))))))))) }
def x59 : XFn := { np := 1,isOpen := false,ns := 2,res := [.cell 2 (.agg 2)],code :=
 (sr [0,2] [oo 2 (.alloc 1 [.str [],.str []])]
  (sr [2,3] [om 6 0,
oo 7 (.call (.c (.fn 80 [])) [(.t 6),(.c (.int .i64 1))] []),
om 5 7,
oo 8 (.ext (.t 5) 0),
oo 9 (.ext (.t 5) 1),
oo 3 (.alloc 0 [.str [],.str []]),
⟨none,none,[],.store 2 (.t 3) (.t 8)⟩,
om 4 9]
  (sr [2] [oo 10 (.load (.agg 2) (.t 3)),
⟨none,none,[],.store 2 (.t 2) (.t 10)⟩]
  (.pre [2] .ret)))) }
@[go_sem] def c60_0 : XC := (.pre [0,3,4,7,8,9]
 (sr [0,3,4,7,8,9,10] [oo 10 (.bin .lss (.t 9) (.t 8))]
  (.seq (.cond (.t 10)
  .skip
  (.pre [0] (.exit 0)))
  (.pre [0,3,4,7,8,9] (.seq (.blk 1
  (sr [0,3,4,6,7,8,9] [oo 11 (.ixS 3 (.t 7) (.t 9)),
oo 12 (.load (.agg 3) (.t 11)),
oo 6 (.alloc 0 [.int .i64 0,.int .i64 0,.int .i64 0]),
⟨none,none,[],.store 3 (.t 6) (.t 12)⟩]
  (.seq (sr [0,6,7,8,9,39] [oo 13 (.padd (.t 6) 0),
oo 14 (.load .one (.t 13)),
om 15 3,
oo 16 (.bin .neq (.t 14) (.t 15)),
om 17 16,
og 18 17 false (.padd (.t 6) 1),
og 19 17 false (.load .one (.t 18)),
og 20 17 false (.mov (.t 3)),
og 21 17 false (.bin .leq (.t 19) (.t 20)),
oo 22 (.pick (.t 17) (.c (.bool true)) (.t 21)),
om 23 22,
og 24 23 false (.padd (.t 6) 1),
og 25 23 false (.load .one (.t 24)),
og 26 23 false (.bin .gtr (.t 25) (.c (.int .i64 10000000))),
oo 27 (.pick (.t 23) (.c (.bool true)) (.t 26)),
om 28 27,
og 29 28 false (.padd (.t 6) 2),
og 30 28 false (.load .one (.t 29)),
og 31 28 false (.call (.c (.fn 97 [])) [(.t 30)] []),
og 32 28 false (.un .not (.t 31)),
oo 33 (.pick (.t 28) (.c (.bool true)) (.t 32)),
om 34 33,
og 35 34 false (.padd (.t 6) 2),
og 36 34 false (.load .one (.t 35)),
og 37 34 false (.mov (.t 4)),
og 38 34 false (.bin .eql (.t 36) (.t 37)),
oo 39 (.pick (.t 34) (.c (.bool true)) (.t 38))]
  (.cond (.t 39)
  (sr [2] [oo 2 (.mov (.c (.bool false)))]
  (.pre [2] .ret))
  .skip))
  (.pre [0,6,7,8,9] (.reg true [0,3,4,7,8,9] [] [oo 40 (.padd (.t 6) 1),
⟨some 41,none,[.box 40],.load .one (.t 40)⟩,
oo 42 (.padd (.t 6) 2),
⟨some 43,none,[.box 42],.load .one (.t 42)⟩,
om 3 41,
om 4 43])))))
  (.pre [0,3,4,7,8,9] (.reg false [0,3,4,7,8,9] [] [oo 44 (.bin .add (.t 9) (.c (.int .i64 1))),
om 9 44])))))))
def b60_0 : XC := c60_0
def x60 : XFn := { np := 1,isOpen := false,ns := 1,res := [.tmp 2],code :=
 (sr [0] [oo 2 (.mov (.c (.bool false)))]
  (sr [0,3,4] [oo 3 (.mov (.c (.int .i64 0))),
oo 4 (.mov (.c (.int .i64 (-1))))]
  (.seq (sr [0,3,4,7,8,9] [om 7 0,
oo 8 (.len false (.t 7)),
oo 9 (.mov (.c (.int .i64 0)))]
  (.blk 0
  (.loop b60_0)))
  (.pre [0] (sr [2] [om 45 0,
oo 46 (.len false (.t 45)),
oo 47 (.bin .leq (.t 46) (.c (.int .i64 200))),
om 2 47]
  (.pre [2] .ret)))))) }
def x64 : XFn := { np := 2,isOpen := false,ns := 0,res := [.tmp 4],code :=
 (sr [0,1] [oo 4 (.mov (.c (.int .i64 0)))]
  (.seq (sr [0,1,6] [om 5 0,
oo 6 (.bin .lss (.t 5) (.c (.int .i64 0)))]
  (.cond (.t 6)
  (.reg false [0,1] [] [om 7 0,
oo 8 (.bin .add (.t 7) (.c (.int .i64 1))),
oo 9 (.un .neg (.t 8)),
om 0 9])
  .skip))
  (.pre [0,1] (sr [4] [om 10 0,
om 11 1,
oo 12 (.bin .rem (.t 10) (.t 11)),
om 4 12]
  (.pre [4] .ret))))) }
def x65 : XFn := { np := 1,isOpen := false,ns := 0,res := [.tmp 2],code :=
 (sr [0] [oo 2 (.mov (.c (.int .i64 0)))]
  (.seq (sr [0,5] [om 3 0,
oo 4 (.len false (.t 3)),
oo 5 (.bin .eql (.t 4) (.c (.int .i64 0)))]
  (.cond (.t 5)
  (sr [2] [oo 2 (.mov (.c (.int .i64 0)))]
  (.pre [2] .ret))
  .skip))
  (.pre [0] (sr [2] [om 6 0,
om 7 0,
oo 8 (.len false (.t 7)),
oo 9 (.bin .sub (.t 8) (.c (.int .i64 1))),
oo 10 (.ixS 3 (.t 6) (.t 9)),
oo 11 (.padd (.t 10) 1),
oo 12 (.load .one (.t 11)),
om 2 12]
  (.pre [2] .ret))))) }
def x66 : XFn := { np := 3,isOpen := false,ns := 0,res := [.tmp 6],code :=
 (sr [3,4,5] [oo 3 (.boxR (.t 0)),
oo 4 (.boxR (.t 1)),
oo 5 (.boxR (.t 2)),
oo 6 (.mov (.c .nilFn))]
  (sr [6] [oo 7 (.mkfn 99 [(.t 3),(.t 4),(.t 5)]),
om 6 7]
  (.pre [6] .ret))) }
def r6 : XRnd := { ps := [6],asg := (.reg false [3,4] [] [oo 4 (.alloc 1 [.int .i64 0,.int .i64 0,.int .i64 0]),
⟨none,none,[],.store 3 (.t 4) (.t 6)⟩]),body :=
 (.blk 1
  (.reg false [] [] [oo 7 (.load .one (.t 3)),
oo 8 (.load (.agg 3) (.t 4)),
oo 9 (.call (.t 7) [(.t 8)] [])])) }
def x73 : XFn := { np := 2,isOpen := false,ns := 2,res := [.cell 4 (.agg 2),.tmp 5],code :=
 (sr [0,1,4] [oo 4 (.alloc 1 [.str [],.str []]),
oo 5 (.mov (.c (.int .i64 0)))]
  (sr [0,1,4,6] [om 7 0,
oo 8 (.call (.c (.fn 102 [])) [(.t 7)] []),
oo 9 (.un .not (.t 8)),
om 10 9,
og 11 10 false (.mov (.t 1)),
og 12 10 false (.call (.c (.fn 102 [])) [(.t 11)] []),
og 13 10 false (.un .not (.t 12)),
oo 14 (.pick (.t 10) (.c (.bool true)) (.t 13)),
oo 15 (.build [.bool false] [(0,1,(.t 14))]),
oo 16 (.box 0 (.t 15)),
om 6 16]
  (sr [4,5] [om 17 6,
om 18 0,
om 19 1,
oo 20 (.call (.c (.fn 103 [])) [(.t 17),(.t 18),(.t 19)] []),
oo 21 (.ext (.t 20) 0),
oo 22 (.ext (.t 20) 1),
⟨none,none,[],.store 2 (.t 4) (.t 21)⟩,
om 5 22]
  (.pre [4,5] .ret)))) }
def x74 : XFn := { np := 1,isOpen := false,ns := 0,res := [.tmp 2],code :=
 (sr [0] [oo 2 (.mov (.c (.str [])))]
  (sr [2] [om 3 0,
oo 4 (.call (.c (.fn 104 [])) [(.t 3)] []),
om 2 4]
  (.pre [2] .ret))) }
def x78 : XFn := { np := 1,isOpen := false,ns := 0,res := [.tmp 2],code :=
 (sr [1] [oo 1 (.boxR (.t 0)),
oo 2 (.mov (.c (.bool false)))]
  (.seq (sr [1,20] [oo 5 (.padd (.t 1) 0),
oo 6 (.load .one (.t 5)),
oo 7 (.call (.c (.fn 102 [])) [(.t 6)] []),
oo 8 (.un .not (.t 7)),
om 9 8,
og 10 9 false (.padd (.t 1) 1),
og 11 9 false (.load .one (.t 10)),
og 12 9 false (.call (.c (.fn 102 [])) [(.t 11)] []),
og 13 9 false (.un .not (.t 12)),
oo 14 (.pick (.t 9) (.c (.bool true)) (.t 13)),
om 15 14,
og 16 15 false (.padd (.t 1) 1),
og 17 15 false (.load .one (.t 16)),
og 18 15 false (.call (.c (.fn 82 [])) [(.t 17),(.c (.str [48]))] []),
og 19 15 false (.bin .leq (.t 18) (.c (.int .i64 0))),
oo 20 (.pick (.t 15) (.c (.bool true)) (.t 19))]
  (.cond (.t 20)
  (sr [2] [oo 2 (.mov (.c (.bool false)))]
  (.pre [2] .ret))
  .skip))
  (.pre [1] (sr [3,4] [oo 22 (.padd (.t 1) 0),
oo 23 (.load .one (.t 22)),
oo 24 (.padd (.t 1) 1),
oo 25 (.load .one (.t 24)),
oo 26 (.call (.c (.fn 105 [])) [(.t 23),(.t 25)] []),
om 21 26,
oo 27 (.ext (.t 21) 0),
oo 28 (.ext (.t 21) 1),
om 3 27,
om 4 28]
  (sr [2] [om 29 4,
oo 30 (.bin .eql (.t 29) (.c (.int .i64 0))),
om 31 30,
og 32 31 true (.mov (.t 3)),
og 33 31 true (.bin .eql (.t 32) (.c (.str [49]))),
oo 34 (.pick (.t 31) (.t 33) (.c (.bool false))),
om 2 34]
  (.pre [2] .ret)))))) }
def x80 : XFn := { np := 2,isOpen := false,ns := 1,res := [.cell 4 (.agg 2),.tmp 5],code :=
 (sr [0,1,4] [oo 4 (.alloc 0 [.str [],.str []]),
oo 5 (.mov (.c (.int .i64 0)))]
  (sr [4,5] [om 6 0,
oo 7 (.call (.c (.fn 108 [])) [(.t 6)] []),
om 8 1,
oo 9 (.call (.c (.fn 108 [])) [(.t 8)] []),
oo 10 (.call (.c (.fn 107 [])) [(.t 7),(.t 9)] []),
oo 11 (.ext (.t 10) 0),
oo 12 (.ext (.t 10) 1),
⟨none,none,[],.store 2 (.t 4) (.t 11)⟩,
om 5 12]
  (.pre [4,5] .ret))) }
def x81 : XFn := { np := 2,isOpen := false,ns := 2,res := [.tmp 4,.tmp 5,.tmp 6],code :=
 (sr [0,1] [oo 4 (.mov (.c (.str []))),
oo 5 (.mov (.c (.str []))),
oo 6 (.mov (.c (.int .i64 0)))]
  (sr [7,8,9] [om 17 0,
om 18 1,
oo 19 (.call (.c (.fn 109 [])) [(.t 17),(.t 18)] []),
om 16 19,
oo 20 (.ext (.t 16) 0),
oo 21 (.ext (.t 16) 1),
oo 22 (.ext (.t 16) 2),
oo 7 (.alloc 0 [.bool false,.nilSl]),
oo 8 (.alloc 1 [.bool false,.nilSl]),
⟨none,none,[],.store 2 (.t 7) (.t 20)⟩,
⟨none,none,[],.store 2 (.t 8) (.t 21)⟩,
om 9 22]
  (.seq (sr [7,8,30] [om 23 9,
oo 24 (.un .not (.t 23)),
om 25 24,
og 26 25 false (.padd (.t 8) 1),
og 27 25 false (.load .one (.t 26)),
og 28 25 false (.len false (.t 27)),
og 29 25 false (.bin .eql (.t 28) (.c (.int .i64 0))),
oo 30 (.pick (.t 25) (.c (.bool true)) (.t 29))]
  (.cond (.t 30)
  (sr [4,5,6] [oo 4 (.mov (.c (.str []))),
oo 5 (.mov (.c (.str []))),
oo 6 (.mov (.c (.int .i64 30)))]
  (.pre [4,5,6] .ret))
  .skip))
  (.pre [7,8] (sr [7,8,10,11] [oo 32 (.padd (.t 7) 1),
oo 33 (.load .one (.t 32)),
oo 34 (.padd (.t 8) 1),
oo 35 (.load .one (.t 34)),
oo 36 (.call (.c (.fn 110 [])) [(.t 33),(.t 35)] []),
om 31 36,
oo 37 (.ext (.t 31) 0),
oo 38 (.ext (.t 31) 1),
om 10 37,
om 11 38]
  (.seq (sr [7,8,10,11,45] [oo 39 (.padd (.t 7) 0),
oo 40 (.load .one (.t 39)),
om 41 40,
og 42 41 true (.mov (.t 11)),
og 43 41 true (.len false (.t 42)),
og 44 41 true (.bin .gtr (.t 43) (.c (.int .i64 0))),
oo 45 (.pick (.t 41) (.t 44) (.c (.bool false)))]
  (.cond (.t 45)
  (.reg true [7,8,10,11] [] [om 46 10,
oo 47 (.call (.c (.fn 112 [])) [] []),
oo 48 (.call (.c (.fn 111 [])) [(.t 46),(.t 47)] []),
oo 49 (.padd (.t 8) 1),
⟨some 50,none,[.box 49],.load .one (.t 49)⟩,
om 51 11,
oo 52 (.call (.c (.fn 113 [])) [(.t 50),(.t 51)] []),
om 10 48,
om 11 52])
  .skip))
  (.pre [7,8,10,11] (sr [11,12,13] [oo 54 (.padd (.t 7) 0),
oo 55 (.load .one (.t 54)),
oo 56 (.padd (.t 8) 0),
oo 57 (.load .one (.t 56)),
oo 58 (.eqv true [] (.t 55) (.t 57)),
om 59 10,
oo 60 (.build [.bool false,.nilSl] [(0,1,(.t 58)),(1,1,(.t 59))]),
oo 61 (.call (.c (.fn 114 [])) [(.t 60)] []),
om 53 61,
oo 62 (.ext (.t 53) 0),
oo 63 (.ext (.t 53) 1),
om 12 62,
om 13 63]
  (.seq (sr [11,12,13,65] [om 64 13,
oo 65 (.bin .neq (.t 64) (.c (.int .i64 0)))]
  (.cond (.t 65)
  (sr [4,5,6] [om 66 13,
oo 4 (.mov (.c (.str []))),
oo 5 (.mov (.c (.str []))),
om 6 66]
  (.pre [4,5,6] .ret))
  .skip))
  (.pre [11,12] (sr [12,14] [om 68 11,
oo 69 (.build [.bool false,.nilSl] [(1,1,(.t 68))]),
oo 70 (.call (.c (.fn 114 [])) [(.t 69)] []),
om 67 70,
oo 71 (.ext (.t 67) 0),
oo 72 (.ext (.t 67) 1),
om 14 71,
om 15 72]
  (sr [4,5,6] [om 73 12,
om 74 14,
om 4 73,
om 5 74,
oo 6 (.mov (.c (.int .i64 0)))]
  (.pre [4,5,6] .ret))))))))))))) }
def x82 : XFn := { np := 2,isOpen := false,ns := 2,res := [.tmp 4],code :=
 (sr [0,1] [oo 4 (.mov (.c (.int .i64 0)))]
  (sr [5,6,7] [om 9 0,
om 10 1,
oo 11 (.call (.c (.fn 109 [])) [(.t 9),(.t 10)] []),
om 8 11,
oo 12 (.ext (.t 8) 0),
oo 13 (.ext (.t 8) 1),
oo 14 (.ext (.t 8) 2),
oo 5 (.alloc 0 [.bool false,.nilSl]),
oo 6 (.alloc 1 [.bool false,.nilSl]),
⟨none,none,[],.store 2 (.t 5) (.t 12)⟩,
⟨none,none,[],.store 2 (.t 6) (.t 13)⟩,
om 7 14]
  (.seq (.blk 0
  (sr [5,6,15] [om 16 7,
oo 17 (.un .not (.t 16)),
om 15 17]
  (.cond (.t 15)
  (sr [4] [oo 4 (.mov (.c (.int .i64 0)))]
  (.pre [4] .ret))
  (sr [5,6,18] [oo 19 (.padd (.t 5) 0),
oo 20 (.load .one (.t 19)),
om 21 20,
og 22 21 true (.padd (.t 6) 0),
og 23 21 true (.load .one (.t 22)),
oo 24 (.pick (.t 21) (.t 23) (.c (.bool false))),
om 18 24]
  (.cond (.t 18)
  (sr [4] [oo 25 (.padd (.t 6) 1),
oo 26 (.load .one (.t 25)),
oo 27 (.padd (.t 5) 1),
oo 28 (.load .one (.t 27)),
oo 29 (.call (.c (.fn 115 [])) [(.t 26),(.t 28)] []),
om 4 29]
  (.pre [4] .ret))
  (sr [5,6,30] [oo 31 (.padd (.t 5) 0),
oo 32 (.load .one (.t 31)),
om 30 32]
  (.cond (.t 30)
  (sr [4] [oo 4 (.mov (.c (.int .i64 (-1))))]
  (.pre [4] .ret))
  (sr [5,6,33] [oo 34 (.padd (.t 6) 0),
oo 35 (.load .one (.t 34)),
om 33 35]
  (.cond (.t 33)
  (sr [4] [oo 4 (.mov (.c (.int .i64 1)))]
  (.pre [4] .ret))
  .skip)))))))))
  (.pre [5,6] (sr [4] [oo 36 (.padd (.t 5) 1),
oo 37 (.load .one (.t 36)),
oo 38 (.padd (.t 6) 1),
oo 39 (.load .one (.t 38)),
oo 40 (.call (.c (.fn 115 [])) [(.t 37),(.t 39)] []),
om 4 40]
  (.pre [4] .ret)))))) }
def x88 : XFn := { np := 2,isOpen := false,ns := 0,res := [.tmp 4,.tmp 5],code :=
 (sr [0,1] [oo 4 (.mov (.c (.int .u64 0))),
oo 5 (.mov (.c (.int .u64 0)))]
  (.seq (.cond (.c (.bool false))
  (sr [6,7] [om 11 0,
oo 12 (.conv .u32 (.t 11)),
om 13 1,
oo 14 (.conv .u32 (.t 13)),
oo 15 (.call (.c (.fn 129 [])) [(.t 12),(.t 14)] []),
om 10 15,
oo 16 (.ext (.t 10) 0),
oo 17 (.ext (.t 10) 1),
om 6 16,
om 7 17]
  (sr [4,5] [om 18 6,
oo 19 (.conv .u64 (.t 18)),
om 20 7,
oo 21 (.conv .u64 (.t 20)),
om 4 19,
om 5 21]
  (.pre [4,5] .ret)))
  .skip)
  (.pre [0,1] (sr [8,9] [om 23 0,
om 24 1,
oo 25 (.call (.c (.fn 130 [])) [(.t 23),(.t 24)] []),
om 22 25,
oo 26 (.ext (.t 22) 0),
oo 27 (.ext (.t 22) 1),
om 8 26,
om 9 27]
  (sr [4,5] [om 28 8,
om 29 9,
om 4 28,
om 5 29]
  (.pre [4,5] .ret)))))) }
@[go_sem] def c89_0 : XC := (.pre [0,1,3,4,5]
 (.seq (sr [0,1,3,4,5,15] [oo 12 (.load .one (.t 5)),
oo 13 (.padd (.t 1) 0),
oo 14 (.load .one (.t 13)),
oo 15 (.bin .lss (.t 12) (.t 14))]
  (.cond (.t 15)
  .skip
  (.pre [] (.exit 0))))
  (.pre [0,1,3,4,5] (.seq (.blk 1
  (.seq (.reg true [0,1,3,4,5,6] [1] [⟨some 16,none,[.box 5],.load .one (.t 5)⟩,
⟨some 17,none,[.box 5],.load .one (.t 5)⟩,
oo 18 (.bin .add (.t 17) (.c (.int .i64 1))),
oo 19 (.build [.int .i64 0,.int .i64 0] [(0,1,(.t 16)),(1,1,(.t 18))]),
om 20 4,
om 21 4,
oo 22 (.bin .add (.t 21) (.c (.int .i64 1))),
om 23 3,
oo 24 (.padd (.t 1) 4),
⟨some 25,none,[.closed 24],.load .one (.t 24)⟩,
⟨some 26,none,[.box 5],.load .one (.t 5)⟩,
oo 27 (.call (.c (.fn 90 [])) [(.t 25),(.t 26)] []),
oo 28 (.build [.int .i64 0,.int .i64 0,.int .i64 0,.int .i64 0,.int .i64 0,.bool false,.bool false] [(0,2,(.t 19)),(2,1,(.t 20)),(3,1,(.t 22)),(4,1,(.t 23)),(5,1,(.t 27))]),
⟨some 6,none,[.dead 1],.alloc 1 [.int .i64 0,.int .i64 0,.int .i64 0,.int .i64 0,.int .i64 0,.bool false,.bool false]⟩,
⟨none,none,[.box 6],.store 7 (.t 6) (.t 28)⟩])
  (sr [0,1,3,4,5,6,7] [oo 29 (.mkfn 91 [(.t 5),(.t 1)]),
om 7 29]
  (.seq (.blk 2
  (sr [0,1,3,4,5,6,7,30] [oo 31 (.padd (.t 6) 5),
oo 32 (.load .one (.t 31)),
om 33 32,
og 34 33 true (.mov (.t 3)),
og 35 33 true (.bin .gtr (.t 34) (.c (.int .i64 0))),
oo 36 (.pick (.t 33) (.t 35) (.c (.bool false))),
om 30 36]
  (.cond (.t 30)
  (sr [0,1,3,5,6] [om 37 4,
oo 38 (.padd (.t 6) 3),
⟨none,none,[],.store 1 (.t 38) (.t 37)⟩]
  (.reg false [0,1,3,5,6] [] [om 39 3,
oo 40 (.bin .sub (.t 39) (.c (.int .i64 1))),
om 3 40]))
  (sr [0,1,3,4,5,6,41] [oo 42 (.padd (.t 6) 5),
oo 43 (.load .one (.t 42)),
oo 44 (.un .not (.t 43)),
om 45 44,
og 46 45 true (.mov (.t 3)),
og 47 45 true (.padd (.t 1) 1),
og 48 45 true (.load .one (.t 47)),
og 49 45 true (.bin .lss (.t 46) (.t 48)),
oo 50 (.pick (.t 45) (.t 49) (.c (.bool false))),
om 51 50,
og 52 51 true (.load .one (.t 5)),
og 53 51 true (.padd (.t 1) 2),
og 54 51 true (.load .one (.t 53)),
og 55 51 true (.bin .add (.t 52) (.t 54)),
og 56 51 true (.padd (.t 1) 0),
og 57 51 true (.load .one (.t 56)),
og 58 51 true (.bin .leq (.t 55) (.t 57)),
oo 59 (.pick (.t 51) (.t 58) (.c (.bool false))),
om 60 59,
og 61 60 true (.padd (.t 1) 4),
og 62 60 true (.load .one (.t 61)),
og 63 60 true (.mov (.t 7)),
og 64 60 true (.call (.c (.fn 52 [])) [(.t 62),(.t 63)] []),
og 65 60 true (.un .not (.t 64)),
oo 66 (.pick (.t 60) (.t 65) (.c (.bool false))),
om 67 66,
og 68 67 true (.padd (.t 1) 3),
og 69 67 true (.load .one (.t 68)),
og 70 67 true (.mov (.t 7)),
og 71 67 true (.call (.c (.fn 52 [])) [(.t 69),(.t 70)] []),
og 72 67 true (.un .not (.t 71)),
oo 73 (.pick (.t 67) (.t 72) (.c (.bool false))),
om 41 73]
  (.cond (.t 41)
  (sr [0,1,3,4,5,6] [oo 74 (.padd (.t 6) 6),
⟨none,none,[],.store 1 (.t 74) (.c (.bool true))⟩]
  (.seq (.reg true [0,1,3,5,6] [] [⟨some 75,none,[.box 5],.load .one (.t 5)⟩,
oo 76 (.padd (.t 1) 2),
⟨some 77,none,[.closed 76],.load .one (.t 76)⟩,
oo 78 (.bin .add (.t 75) (.t 77)),
om 79 4,
oo 80 (.padd (.t 1) 2),
⟨some 81,none,[.closed 80],.load .one (.t 80)⟩,
oo 82 (.bin .add (.t 79) (.t 81)),
oo 83 (.bin .add (.t 82) (.c (.int .i64 1))),
oo 84 (.padd (.t 6) 0),
oo 85 (.padd (.t 84) 1),
⟨none,none,[.box 85],.store 1 (.t 85) (.t 78)⟩,
oo 86 (.padd (.t 6) 3),
⟨none,none,[.box 86],.store 1 (.t 86) (.t 83)⟩])
  (.reg false [0,1,3,5,6] [] [om 87 3,
oo 88 (.bin .add (.t 87) (.c (.int .i64 1))),
om 3 88])))
  .skip)))))
  (.pre [0,1,3,5,6] (.seq (sr [0,1,3,5,6,92] [om 89 0,
oo 90 (.load (.agg 7) (.t 6)),
oo 91 (.call (.t 89) [(.t 90)] []),
oo 92 (.un .not (.t 91))]
  (.cond (.t 92)
  (.pre [] .ret)
  .skip))
  (.pre [0,1,3,5,6] (.reg true [0,1,3,4,5] [] [oo 93 (.padd (.t 6) 0),
oo 94 (.padd (.t 93) 1),
⟨some 95,none,[.box 94,.ne 94 5],.load .one (.t 94)⟩,
oo 96 (.padd (.t 6) 3),
⟨some 97,none,[.box 96,.ne 96 5],.load .one (.t 96)⟩,
⟨none,none,[.box 5],.store 1 (.t 5) (.t 95)⟩,
om 4 97]))))))))
  (.pre [0,1,3,4,5] (sr [0,1,3,4,98] [oo 98 (.load .one (.t 5))]
  (.reg false [0,1,3,4,5] [] [oo 5 (.alloc 0 [.int .i64 0]),
⟨none,none,[],.store 1 (.t 5) (.t 98)⟩])))))))
def b89_0 : XC := c89_0
@[go_sem] theorem e89_0 (L : Lib) (cx : Cx) (env : Env) (h : Heap) : runC L cx b89_0 (env,h) = runC L cx c89_0 (env,h) := rfl
def x89 : XFn := { np := 2,isOpen := true,ns := 3,res := [],code :=
 (.seq (.reg true [0,1,3,4] [] [oo 8 (.padd (.t 1) 1),
⟨some 9,none,[.closed 8],.load .one (.t 8)⟩,
oo 10 (.padd (.t 1) 1),
⟨some 11,none,[.closed 10],.load .one (.t 10)⟩,
om 3 9,
om 4 11])
  (sr [0,1,3,4,5] [oo 5 (.alloc 2 [.int .i64 0]),
⟨none,none,[],.store 1 (.t 5) (.c (.int .i64 0))⟩]
  (.blk 0
  (.loop b89_0)))) }
def x90 : XFn := { np := 2,isOpen := false,ns := 0,res := [.tmp 4],code :=
 (sr [0,3] [oo 3 (.boxR (.t 1)),
oo 4 (.mov (.c (.bool false)))]
  (sr [4] [om 5 0,
oo 6 (.mkfn 131 [(.t 3)]),
oo 7 (.call (.c (.fn 52 [])) [(.t 5),(.t 6)] []),
om 4 7]
  (.pre [4] .ret))) }
def x91 : XFn := { np := 3,isOpen := false,ns := 0,res := [.tmp 4],code :=
 (sr [1,2,3] [oo 3 (.boxR (.t 0)),
oo 4 (.mov (.c (.bool false)))]
  (sr [4] [oo 5 (.padd (.t 3) 0),
oo 6 (.load .one (.t 5)),
oo 7 (.load .one (.t 1)),
oo 8 (.padd (.t 2) 2),
oo 9 (.load .one (.t 8)),
oo 10 (.bin .add (.t 7) (.t 9)),
oo 11 (.bin .lss (.t 6) (.t 10)),
om 12 11,
og 13 12 true (.load .one (.t 1)),
og 14 12 true (.padd (.t 3) 1),
og 15 12 true (.load .one (.t 14)),
og 16 12 true (.bin .lss (.t 13) (.t 15)),
oo 17 (.pick (.t 12) (.t 16) (.c (.bool false))),
om 4 17]
  (.pre [4] .ret))) }
@[go_sem] def c92_0 : XC := (.pre [0,1,7,8]
 (sr [0,1,7,8,9] [oo 9 (.bin .lss (.t 8) (.t 7))]
  (.seq (.cond (.t 9)
  .skip
  (.pre [] (.exit 0)))
  (.pre [0,1,7,8] (.seq (.blk 1
  (sr [0,1,5,7,8] [om 10 8,
om 5 10]
  (sr [0,1,5,7,8,16] [om 11 1,
om 12 0,
om 13 5,
oo 14 (.ixS 2 (.t 12) (.t 13)),
oo 15 (.load (.agg 2) (.t 14)),
oo 16 (.call (.t 11) [(.t 15)] [])]
  (.cond (.t 16)
  (sr [4] [om 17 5,
om 4 17]
  (.pre [4] .ret))
  .skip))))
  (.pre [0,1,7,8] (.reg false [0,1,7,8] [] [oo 18 (.bin .add (.t 8) (.c (.int .i64 1))),
om 8 18])))))))
def b92_0 : XC := c92_0
@[go_sem] theorem e92_0 (L : Lib) (cx : Cx) (env : Env) (h : Heap) : runC L cx b92_0 (env,h) = runC L cx c92_0 (env,h) := rfl
def x92 : XFn := { np := 2,isOpen := false,ns := 0,res := [.tmp 4],code :=
 (sr [0,1] [oo 4 (.mov (.c (.int .i64 0)))]
  (.seq (sr [0,1,7,8] [om 6 0,
oo 7 (.len false (.t 6)),
oo 8 (.mov (.c (.int .i64 0)))]
  (.blk 0
  (.loop b92_0)))
  (.pre [] (sr [4] [oo 4 (.mov (.c (.int .i64 (-1))))]
  (.pre [4] .ret))))) }
def x93 : XFn := { np := 1,isOpen := false,ns := 0,res := [.tmp 2],code :=
 (sr [1] [oo 1 (.boxR (.t 0)),
oo 2 (.mov (.c (.bool false)))]
  (sr [2] [oo 3 (.padd (.t 1) 0),
oo 4 (.load (.agg 2) (.t 3)),
oo 5 (.call (.c (.fn 78 [])) [(.t 4)] []),
oo 6 (.un .not (.t 5)),
om 7 6,
og 8 7 false (.padd (.t 1) 2),
og 9 7 false (.load (.agg 2) (.t 8)),
og 10 7 false (.call (.c (.fn 78 [])) [(.t 9)] []),
og 11 7 false (.un .not (.t 10)),
oo 12 (.pick (.t 7) (.c (.bool true)) (.t 11)),
om 2 12]
  (.pre [2] .ret))) }
def x94 : XFn := { np := 2,isOpen := false,ns := 0,res := [.tmp 4],code :=
 (sr [0,1] [oo 4 (.mov (.c (.bool false)))]
  (sr [4] [om 5 0,
om 6 1,
oo 7 (.call (.c (.fn 116 [])) [(.t 5),(.t 6)] []),
oo 8 (.bin .geq (.t 7) (.c (.int .i64 0))),
om 4 8]
  (.pre [4] .ret))) }
def x95 : XFn := { np := 1,isOpen := false,ns := 0,res := [.tmp 2],code :=
 (sr [1] [oo 1 (.boxR (.t 0)),
oo 2 (.mov (.c .nilFn))]
  (sr [2] [oo 3 (.mkfn 132 [(.t 1)]),
om 2 3]
  (.pre [2] .ret))) }
def x96 : XFn := { np := 3,isOpen := true,ns := 3,res := [.cell 6 (.agg 2)],code :=
 (sr [0,4,5,6] [oo 4 (.boxR (.t 1)),
oo 5 (.boxR (.t 2)),
oo 6 (.alloc 2 [.str [],.str []])]
  (.seq (.reg true [0,6,7,8] [0,1] [om 9 0,
oo 10 (.padd (.t 5) 2),
⟨some 11,none,[.closed 10],.load (.agg 2) (.t 10)⟩,
oo 12 (.padd (.t 4) 2),
⟨some 13,none,[.closed 12],.load (.agg 2) (.t 12)⟩,
oo 14 (.call (.c (.fn 118 [])) [(.t 9),(.c (.fn 119 [])),(.t 11),(.t 13)] []),
om 15 0,
oo 16 (.padd (.t 5) 0),
⟨some 17,none,[.closed 16],.load (.agg 2) (.t 16)⟩,
oo 18 (.padd (.t 4) 0),
⟨some 19,none,[.closed 18],.load (.agg 2) (.t 18)⟩,
oo 20 (.call (.c (.fn 118 [])) [(.t 15),(.c (.fn 119 [])),(.t 17),(.t 19)] []),
⟨some 7,none,[.dead 0],.alloc 0 [.str [],.str []]⟩,
⟨some 8,none,[.dead 1],.alloc 1 [.str [],.str []]⟩,
⟨none,none,[.box 7],.store 2 (.t 7) (.t 14)⟩,
⟨none,none,[.box 8],.store 2 (.t 8) (.t 20)⟩])
  (sr [6] [om 21 0,
oo 22 (.load (.agg 2) (.t 7)),
oo 23 (.load (.agg 2) (.t 8)),
oo 24 (.call (.c (.fn 118 [])) [(.t 21),(.c (.fn 133 [])),(.t 22),(.t 23)] []),
⟨none,none,[],.store 2 (.t 6) (.t 24)⟩]
  (.pre [6] .ret)))) }
def x97 : XFn := { np := 1,isOpen := false,ns := 0,res := [.tmp 2],code :=
 (sr [0] [oo 2 (.mov (.c (.bool false)))]
  (sr [2] [om 3 0,
oo 4 (.bin .geq (.t 3) (.c (.int .i64 0))),
om 5 4,
og 6 5 true (.mov (.t 0)),
og 7 5 true (.bin .leq (.t 6) (.c (.int .i64 2999))),
oo 8 (.pick (.t 5) (.t 7) (.c (.bool false))),
om 2 8]
  (.pre [2] .ret))) }
@[go_sem] def c99_0 : XC := (.pre [0,2,3,7,8,9]
 (sr [0,2,3,7,8,9,10] [oo 10 (.bin .lss (.t 9) (.t 8))]
  (.seq (.cond (.t 10)
  .skip
  (.pre [] (.exit 0)))
  (.pre [0,2,3,7,8,9] (.seq (.blk 1
  (sr [0,2,3,6,7,8,9] [oo 11 (.ixS 3 (.t 7) (.t 9)),
oo 12 (.load (.agg 3) (.t 11)),
oo 6 (.alloc 0 [.int .i64 0,.int .i64 0,.int .i64 0]),
⟨none,none,[],.store 3 (.t 6) (.t 12)⟩]
  (.seq (.reg true [0,2,3,6,7,8,9] [] [oo 13 (.padd (.t 6) 0),
⟨some 14,none,[.box 13],.load .one (.t 13)⟩,
⟨some 15,none,[.closed 2],.load .one (.t 2)⟩,
oo 16 (.minmax true [(.t 14),(.t 15)]),
oo 17 (.padd (.t 6) 1),
⟨some 18,none,[.box 17],.load .one (.t 17)⟩,
⟨some 19,none,[.closed 3],.load .one (.t 3)⟩,
oo 20 (.minmax false [(.t 18),(.t 19)]),
oo 21 (.padd (.t 6) 0),
⟨none,none,[.box 21],.store 1 (.t 21) (.t 16)⟩,
oo 22 (.padd (.t 6) 1),
⟨none,none,[.box 22],.store 1 (.t 22) (.t 20)⟩])
  (sr [0,2,3,7,8,9,33] [oo 23 (.padd (.t 6) 0),
oo 24 (.load .one (.t 23)),
oo 25 (.padd (.t 6) 1),
oo 26 (.load .one (.t 25)),
oo 27 (.bin .lss (.t 24) (.t 26)),
om 28 27,
og 29 28 true (.mov (.t 0)),
og 30 28 true (.load (.agg 3) (.t 6)),
og 31 28 true (.call (.t 29) [(.t 30)] []),
og 32 28 true (.un .not (.t 31)),
oo 33 (.pick (.t 28) (.t 32) (.c (.bool false)))]
  (.cond (.t 33)
  (.pre [] .ret)
  .skip)))))
  (.pre [0,2,3,7,8,9] (.reg false [0,2,3,7,8,9] [] [oo 34 (.bin .add (.t 9) (.c (.int .i64 1))),
om 9 34])))))))
def b99_0 : XC := c99_0
def x99 : XFn := { np := 4,isOpen := true,ns := 1,res := [],code :=
 (sr [0,2,3,7,8,9] [oo 7 (.load .one (.t 1)),
oo 8 (.len false (.t 7)),
oo 9 (.mov (.c (.int .i64 0)))]
  (.blk 0
  (.loop b99_0))) }
def x102 : XFn := { np := 1,isOpen := false,ns := 0,res := [.tmp 2],code :=
 (sr [0] [oo 2 (.mov (.c (.bool false)))]
  (sr [2] [om 3 0,
oo 4 (.call (.c (.fn 134 [])) [(.t 3)] []),
om 2 4]
  (.pre [2] .ret))) }
def x103 : XFn := { np := 3,isOpen := true,ns := 2,res := [.cell 6 (.agg 2),.tmp 7],code :=
 (sr [0,1,2,6] [oo 6 (.alloc 1 [.str [],.str []]),
oo 7 (.mov (.c (.int .i64 0)))]
  (.seq (sr [0,1,2,6,17] [om 10 0,
oo 11 (.nchk (.t 10)),
oo 12 (.padd (.t 11) 0),
oo 13 (.load .one (.t 12)),
om 14 13,
og 15 14 false (.mov (.t 2)),
og 16 14 false (.bin .eql (.t 15) (.c (.str [48]))),
oo 17 (.pick (.t 14) (.c (.bool true)) (.t 16))]
  (.cond (.t 17)
  (sr [6,7] [oo 18 (.build [.str [],.str []] []),
⟨none,none,[],.store 2 (.t 6) (.t 18)⟩,
oo 7 (.mov (.c (.int .i64 40)))]
  (.pre [6,7] .ret))
  .skip))
  (.pre [0,1,2,6] (.seq (sr [0,1,2,6,21] [om 19 2,
oo 20 (.call (.c (.fn 82 [])) [(.t 19),(.c (.str [48]))] []),
oo 21 (.bin .lss (.t 20) (.c (.int .i64 0)))]
  (.cond (.t 21)
  (.reg false [0,1,2,6] [] [om 22 0,
om 23 1,
oo 24 (.call (.c (.fn 125 [])) [(.t 22),(.c (.fn 135 [])),(.c (.str [48])),(.t 23)] []),
om 25 0,
om 26 2,
oo 27 (.call (.c (.fn 125 [])) [(.t 25),(.c (.fn 135 [])),(.c (.str [48])),(.t 26)] []),
om 1 24,
om 2 27])
  .skip))
  (.pre [0,1,2,6] (sr [0,1,2,6,8] [om 28 0,
om 29 1,
om 30 2,
oo 31 (.call (.c (.fn 125 [])) [(.t 28),(.c (.fn 105 [])),(.t 29),(.t 30)] []),
om 8 31]
  (sr [0,6,9] [om 32 0,
om 33 1,
om 34 8,
oo 35 (.call (.c (.fn 136 [])) [(.t 32),(.t 33),(.t 34)] []),
om 36 0,
om 37 2,
om 38 8,
oo 39 (.call (.c (.fn 136 [])) [(.t 36),(.t 37),(.t 38)] []),
oo 40 (.build [.str [],.str []] [(0,1,(.t 35)),(1,1,(.t 39))]),
oo 9 (.alloc 0 [.str [],.str []]),
⟨none,none,[],.store 2 (.t 9) (.t 40)⟩]
  (.seq (sr [6,9,44] [om 41 0,
oo 42 (.nchk (.t 41)),
oo 43 (.padd (.t 42) 0),
oo 44 (.load .one (.t 43))]
  (.cond (.t 44)
  (sr [6,7] [oo 45 (.build [.str [],.str []] []),
⟨none,none,[],.store 2 (.t 6) (.t 45)⟩,
oo 7 (.mov (.c (.int .i64 40)))]
  (.pre [6,7] .ret))
  .skip))
  (.pre [6,9] (sr [6,7] [oo 46 (.load (.agg 2) (.t 9)),
⟨none,none,[],.store 2 (.t 6) (.t 46)⟩,
oo 7 (.mov (.c (.int .i64 0)))]
  (.pre [6,7] .ret))))))))))) }
@[go_sem] def c105_0 : XC := (.pre [9,10]
 (.seq (sr [9,10,28] [om 26 10,
oo 27 (.len false (.t 26)),
oo 28 (.bin .gtr (.t 27) (.c (.int .i64 0)))]
  (.cond (.t 28)
  .skip
  (.pre [9] (.exit 0))))
  (.pre [9,10] (.blk 1
  (sr [10,12] [om 30 9,
om 31 10,
oo 32 (.call (.c (.fn 110 [])) [(.t 30),(.t 31)] []),
om 29 32,
oo 33 (.ext (.t 29) 0),
oo 34 (.ext (.t 29) 1),
om 11 33,
om 12 34]
  (.reg false [9,10] [] [om 35 10,
om 36 12,
om 9 35,
om 10 36]))))))
def b105_0 : XC := c105_0
@[go_sem] theorem e105_0 (L : Lib) (cx : Cx) (env : Env) (h : Heap) : runC L cx b105_0 (env,h) = runC L cx c105_0 (env,h) := rfl
def x105 : XFn := { np := 2,isOpen := false,ns := 2,res := [.tmp 4,.tmp 5],code :=
 (sr [0,1] [oo 4 (.mov (.c (.str []))),
oo 5 (.mov (.c (.int .i64 0)))]
  (sr [6,7,8] [om 14 0,
om 15 1,
oo 16 (.call (.c (.fn 109 [])) [(.t 14),(.t 15)] []),
om 13 16,
oo 17 (.ext (.t 13) 0),
oo 18 (.ext (.t 13) 1),
oo 19 (.ext (.t 13) 2),
oo 6 (.alloc 0 [.bool false,.nilSl]),
oo 7 (.alloc 1 [.bool false,.nilSl]),
⟨none,none,[],.store 2 (.t 6) (.t 17)⟩,
⟨none,none,[],.store 2 (.t 7) (.t 18)⟩,
om 8 19]
  (.seq (sr [6,7,21] [om 20 8,
oo 21 (.un .not (.t 20))]
  (.cond (.t 21)
  (sr [4,5] [oo 4 (.mov (.c (.str []))),
oo 5 (.mov (.c (.int .i64 30)))]
  (.pre [4,5] .ret))
  .skip))
  (.pre [6,7] (.seq (.reg true [9,10] [] [oo 22 (.padd (.t 6) 1),
⟨some 23,none,[.box 22],.load .one (.t 22)⟩,
oo 24 (.padd (.t 7) 1),
⟨some 25,none,[.box 24],.load .one (.t 24)⟩,
om 9 23,
om 10 25])
  (.seq (.blk 0
  (.loop b105_0))
  (.pre [9] (sr [4,5] [om 37 9,
oo 38 (.build [.bool false,.nilSl] [(1,1,(.t 37))]),
oo 39 (.call (.c (.fn 114 [])) [(.t 38)] []),
oo 40 (.ext (.t 39) 0),
oo 41 (.ext (.t 39) 1),
om 4 40,
om 5 41]
  (.pre [4,5] .ret))))))))) }
def x107 : XFn := { np := 2,isOpen := false,ns := 1,res := [.cell 4 (.agg 2),.tmp 5],code :=
 (sr [0,1,4] [oo 4 (.alloc 0 [.str [],.str []]),
oo 5 (.mov (.c (.int .i64 0)))]
  (sr [0,1,4,6] [om 16 0,
oo 17 (.call (.c (.fn 138 [])) [(.t 16)] []),
om 6 17]
  (sr [0,1,4,6,7] [om 18 1,
oo 19 (.call (.c (.fn 138 [])) [(.t 18)] []),
om 7 19]
  (.seq (sr [0,1,4,29] [om 20 6,
oo 21 (.un .not (.t 20)),
om 22 21,
og 23 22 false (.mov (.t 7)),
og 24 22 false (.un .not (.t 23)),
oo 25 (.pick (.t 22) (.c (.bool true)) (.t 24)),
om 26 25,
og 27 26 false (.mov (.t 1)),
og 28 26 false (.bin .eql (.t 27) (.c (.str [48]))),
oo 29 (.pick (.t 26) (.c (.bool true)) (.t 28))]
  (.cond (.t 29)
  (sr [4,5] [oo 30 (.build [.str [],.str []] []),
⟨none,none,[],.store 2 (.t 4) (.t 30)⟩,
oo 5 (.mov (.c (.int .i64 40)))]
  (.pre [4,5] .ret))
  .skip))
  (.pre [0,1,4] (.seq (sr [0,1,4,33] [om 31 1,
oo 32 (.call (.c (.fn 139 [])) [(.t 31),(.c (.str [48]))] []),
oo 33 (.bin .lss (.t 32) (.c (.int .i64 0)))]
  (.cond (.t 33)
  (sr [0,1,4] [om 35 0,
oo 36 (.call (.c (.fn 140 [])) [(.c (.str [48])),(.t 35)] []),
om 34 36,
oo 37 (.ext (.t 34) 0),
oo 38 (.ext (.t 34) 1),
om 0 37]
  (.reg false [0,1,4] [] [om 40 1,
oo 41 (.call (.c (.fn 140 [])) [(.c (.str [48])),(.t 40)] []),
om 39 41,
oo 42 (.ext (.t 39) 0),
oo 43 (.ext (.t 39) 1),
om 1 42]))
  .skip))
  (.pre [0,1,4] (sr [0,1,4,8] [om 45 0,
om 46 1,
oo 47 (.call (.c (.fn 141 [])) [(.t 45),(.t 46)] []),
om 44 47,
oo 48 (.ext (.t 44) 0),
oo 49 (.ext (.t 44) 1),
om 8 48,
om 9 49]
  (sr [1,4,8,10,12] [om 51 0,
om 52 8,
oo 53 (.call (.c (.fn 142 [])) [(.t 51),(.t 52)] []),
om 50 53,
oo 54 (.ext (.t 50) 0),
oo 55 (.ext (.t 50) 1),
oo 56 (.ext (.t 50) 2),
om 10 54,
om 11 55,
om 12 56]
  (sr [4,10,12,13,15] [om 58 1,
om 59 8,
oo 60 (.call (.c (.fn 142 [])) [(.t 58),(.t 59)] []),
om 57 60,
oo 61 (.ext (.t 57) 0),
oo 62 (.ext (.t 57) 1),
oo 63 (.ext (.t 57) 2),
om 13 61,
om 14 62,
om 15 63]
  (.seq (sr [4,10,13,69] [om 64 12,
oo 65 (.bin .neq (.t 64) (.c (.int .i64 0))),
om 66 65,
og 67 66 false (.mov (.t 15)),
og 68 66 false (.bin .neq (.t 67) (.c (.int .i64 0))),
oo 69 (.pick (.t 66) (.c (.bool true)) (.t 68))]
  (.cond (.t 69)
  (sr [4,5] [oo 70 (.build [.str [],.str []] []),
⟨none,none,[],.store 2 (.t 4) (.t 70)⟩,
oo 5 (.mov (.c (.int .i64 40)))]
  (.pre [4,5] .ret))
  .skip))
  (.pre [4,10,13] (sr [4,5] [om 71 10,
om 72 13,
oo 73 (.build [.str [],.str []] [(0,1,(.t 71)),(1,1,(.t 72))]),
⟨none,none,[],.store 2 (.t 4) (.t 73)⟩,
oo 5 (.mov (.c (.int .i64 0)))]
  (.pre [4,5] .ret)))))))))))))) }
@[go_sem] def c108_0 : XC := (.pre [0,3,4]
 (.seq (sr [0,3,4,10] [om 9 4,
oo 10 (.bin .neq (.t 9) (.c (.int .i64 0)))]
  (.cond (.t 10)
  .skip
  (.pre [0,3] (.exit 0))))
  (.pre [0,3,4] (.seq (.blk 1
  (sr [0,3,4,5] [om 13 4,
oo 14 (.bin .rem (.t 13) (.c (.int .i64 10))),
om 5 14]
  (.seq (sr [0,3,4,5,16] [om 15 5,
oo 16 (.bin .lss (.t 15) (.c (.int .i64 0)))]
  (.cond (.t 16)
  (.reg false [0,3,4,5] [] [om 17 5,
oo 18 (.un .neg (.t 17)),
om 5 18])
  .skip))
  (.pre [0,3,4,5] (.reg false [0,3,4] [] [om 19 3,
om 20 5,
oo 21 (.bslice 1 (.int .i64 0) 1 [(0,(.t 20))]),
oo 22 (.app 0 1 17592186044416 (.t 19) (.t 21)),
om 3 22])))))
  (.pre [0,3,4] (.reg false [0,3,4] [] [om 11 4,
oo 12 (.bin .quo (.t 11) (.c (.int .i64 10))),
om 4 12]))))))
def b108_0 : XC := c108_0
def x108 : XFn := { np := 1,isOpen := false,ns := 1,res := [.tmp 2],code :=
 (sr [0] [oo 2 (.mov (.c (.str [])))]
  (sr [0,3] [oo 3 (.mov (.c .nilSl))]
  (.seq (sr [0,3,4] [om 8 0,
om 4 8]
  (.blk 0
  (.loop b108_0)))
  (.pre [0,3] (sr [6] [om 24 0,
oo 25 (.bin .lss (.t 24) (.c (.int .i64 0))),
om 26 3,
oo 27 (.call (.c (.fn 143 [])) [(.t 25),(.t 26)] []),
om 23 27,
oo 28 (.ext (.t 23) 0),
oo 29 (.ext (.t 23) 1),
om 6 28,
om 7 29]
  (sr [2] [om 30 6,
om 2 30]
  (.pre [2] .ret))))))) }
def x109 : XFn := { np := 2,isOpen := false,ns := 2,res := [.cell 4 (.agg 2),.cell 5 (.agg 2),.tmp 6],code :=
 (sr [0,1,4,5] [oo 4 (.alloc 0 [.bool false,.nilSl]),
oo 5 (.alloc 1 [.bool false,.nilSl]),
oo 6 (.mov (.c (.bool false)))]
  (.seq (sr [0,1,4,5,14] [om 7 0,
oo 8 (.call (.c (.fn 134 [])) [(.t 7)] []),
oo 9 (.un .not (.t 8)),
om 10 9,
og 11 10 false (.mov (.t 1)),
og 12 10 false (.call (.c (.fn 134 [])) [(.t 11)] []),
og 13 10 false (.un .not (.t 12)),
oo 14 (.pick (.t 10) (.c (.bool true)) (.t 13))]
  (.cond (.t 14)
  (sr [4,5,6] [oo 15 (.build [.bool false,.nilSl] []),
oo 16 (.build [.bool false,.nilSl] []),
⟨none,none,[],.store 2 (.t 4) (.t 15)⟩,
⟨none,none,[],.store 2 (.t 5) (.t 16)⟩,
oo 6 (.mov (.c (.bool false)))]
  (.pre [4,5,6] .ret))
  .skip))
  (.pre [0,1,4,5] (sr [4,5,6] [om 17 0,
oo 18 (.call (.c (.fn 144 [])) [(.t 17)] []),
om 19 1,
oo 20 (.call (.c (.fn 144 [])) [(.t 19)] []),
⟨none,none,[],.store 2 (.t 4) (.t 18)⟩,
⟨none,none,[],.store 2 (.t 5) (.t 20)⟩,
oo 6 (.mov (.c (.bool true)))]
  (.pre [4,5,6] .ret))))) }
def r7 : XRnd := { ps := [15,16],asg := (sr [3,4,5,6,16] [om 6 15]
  (.reg false [3,4,5,6,7] [] [om 7 16])),body :=
 (.blk 1
  (sr [3,4,5,6] [om 17 7,
oo 18 (.bslice 1 (.int .i64 0) 1 [(0,(.t 17))]),
oo 19 (.load .one (.t 5)),
oo 20 (.app 1002 1 17592186044416 (.t 18) (.t 19)),
oo 21 (.call (.c (.fn 146 [])) [(.t 20)] []),
⟨none,none,[],.store 1 (.t 5) (.t 21)⟩]
  (sr [4,5,6,8] [oo 22 (.load .one (.t 3)),
oo 23 (.mkfn 1147 [(.t 22)]),
oo 8 (.alloc 1 [.nilFn]),
⟨none,none,[],.store 1 (.t 8) (.t 23)⟩]
  (sr [4,5,6,8,9] [oo 24 (.mkfn 148 [(.t 8),(.t 5)]),
om 9 24]
  (.seq (.reg true [4,5,6,8] [] [⟨some 25,none,[.box 4],.load .one (.t 4)⟩,
om 26 6,
om 27 9,
oo 28 (.call (.c (.fn 149 [])) [(.c (.int .i64 9999)),(.t 27)] []),
oo 29 (.ixS 1 (.t 25) (.t 26)),
⟨none,none,[.elem 29,.closed 28],.store 1 (.t 29) (.t 28)⟩])
  (.reg true [] [] [⟨some 30,none,[.box 5],.load .one (.t 5)⟩,
⟨some 31,none,[.box 8,.ne 8 5],.load .one (.t 8)⟩,
⟨some 32,none,[.box 4,.ne 4 5],.load .one (.t 4)⟩,
om 33 6,
oo 34 (.ixS 1 (.t 32) (.t 33)),
⟨some 35,none,[.elem 34],.load .one (.t 34)⟩,
⟨some 36,none,[.fn 31 [41,59,74,97,108,148,151,153,176,178,1147]],.call (.t 31) [(.t 35)] []⟩,
oo 37 (.call (.c (.fn 113 [])) [(.t 30),(.t 36)] []),
⟨none,none,[.box 5],.store 1 (.t 5) (.t 37)⟩])))))) }
def x110 : XFn := { np := 2,isOpen := false,ns := 6,res := [.cell 4 .one,.cell 5 .one],code :=
 (sr [0,3,4,5] [oo 3 (.boxR (.t 1)),
oo 4 (.alloc 4 [.nilSl]),
oo 5 (.alloc 5 [.nilSl])]
  (sr [0,3,4,5] [om 10 0,
oo 11 (.len false (.t 10)),
oo 12 (.mk 3 1 (.int .i64 0) 17592186044416 (.t 11) (.t 11)),
⟨none,none,[],.store 1 (.t 4) (.t 12)⟩]
  (.seq (sr [3,4,5,14] [om 13 0,
oo 14 (.call (.c (.fn 145 [])) [(.t 13)] [])]
  (.blk 0
  (.rfn 0 (.t 14) 7)))
  (.pre [4,5] (.seq (.reg true [4,5] [] [⟨some 38,none,[.box 4,.ne 4 5],.load .one (.t 4)⟩,
oo 39 (.call (.c (.fn 146 [])) [(.t 38)] []),
⟨some 40,none,[.box 5,.ne 5 4],.load .one (.t 5)⟩,
⟨none,none,[.box 4],.store 1 (.t 4) (.t 39)⟩,
⟨none,none,[.box 5],.store 1 (.t 5) (.t 40)⟩])
  (.pre [4,5] .ret)))))) }
def x111 : XFn := { np := 2,isOpen := false,ns := 1,res := [.tmp 4],code :=
 (sr [2,3] [oo 2 (.boxR (.t 0)),
oo 3 (.boxR (.t 1)),
oo 4 (.mov (.c .nilSl))]
  (sr [4] [oo 5 (.load .one (.t 2)),
oo 6 (.len false (.t 5)),
oo 7 (.load .one (.t 3)),
oo 8 (.len false (.t 7)),
oo 9 (.minmax true [(.t 6),(.t 8)]),
oo 10 (.mkfn 151 [(.t 2),(.t 3)]),
oo 11 (.call (.c (.fn 150 [])) [(.t 9),(.c (.int .i64 0)),(.t 10)] []),
oo 12 (.call (.c (.fn 146 [])) [(.t 11)] [(0,0)]),
om 4 12]
  (.pre [4] .ret))) }
def x112 : XFn := { np := 0,isOpen := false,ns := 0,res := [.tmp 0],code :=
 (sr [] [oo 0 (.mov (.c .nilSl))]
  (sr [0] [oo 1 (.bslice 1 (.int .i64 0) 1 [(0,(.c (.int .i64 1)))]),
om 0 1]
  (.pre [0] .ret))) }
def x113 : XFn := { np := 2,isOpen := false,ns := 1,res := [.tmp 4],code :=
 (sr [2,3] [oo 2 (.boxR (.t 0)),
oo 3 (.boxR (.t 1)),
oo 4 (.mov (.c .nilSl))]
  (sr [4] [oo 5 (.load .one (.t 2)),
oo 6 (.len false (.t 5)),
oo 7 (.mkfn 153 [(.t 2),(.t 3)]),
oo 8 (.call (.c (.fn 150 [])) [(.t 6),(.c (.int .i64 0)),(.t 7)] []),
oo 9 (.call (.c (.fn 146 [])) [(.t 8)] [(0,0)]),
om 4 9]
  (.pre [4] .ret))) }
def r8 : XRnd := { ps := [16,17],asg := (sr [1,4,5,17] [om 5 16]
  (.reg false [1,4,5,6] [] [om 6 17])),body :=
 (.blk 1
  (sr [1,4,5,7] [om 18 6,
oo 19 (.call (.c (.fn 104 [])) [(.t 18)] []),
om 7 19]
  (.seq (sr [4,7,25] [om 20 5,
oo 21 (.padd (.t 1) 1),
oo 22 (.load .one (.t 21)),
oo 23 (.len false (.t 22)),
oo 24 (.bin .sub (.t 23) (.c (.int .i64 1))),
oo 25 (.bin .lss (.t 20) (.t 24))]
  (.cond (.t 25)
  (.reg false [4,7] [] [om 26 7,
oo 27 (.len true (.t 26)),
oo 28 (.bin .sub (.c (.int .i64 4)) (.t 27)),
oo 29 (.call (.c (.fn 123 [])) [(.c (.str [48])),(.t 28)] []),
om 30 7,
oo 31 (.bin .add (.t 29) (.t 30)),
om 7 31])
  .skip))
  (.pre [4,7] (.reg false [] [] [om 32 7,
oo 33 (.bwr 1 154 (.t 4) (.t 32))]))))) }
def x114 : XFn := { np := 1,isOpen := false,ns := 3,res := [.tmp 2,.tmp 3],code :=
 (sr [1,2,3] [oo 1 (.boxR (.t 0)),
oo 2 (.mov (.c (.str []))),
oo 3 (.mov (.c (.int .i64 0)))]
  (.seq (sr [1,2,3,12] [oo 9 (.padd (.t 1) 1),
oo 10 (.load .one (.t 9)),
oo 11 (.len false (.t 10)),
oo 12 (.bin .eql (.t 11) (.c (.int .i64 0)))]
  (.cond (.t 12)
  (sr [2,3] [oo 2 (.mov (.c (.str [48]))),
oo 3 (.mov (.c (.int .i64 0)))]
  (.pre [2,3] .ret))
  .skip))
  (.pre [1,2,3] (sr [1,2,3,4] [oo 4 (.mkbld 2)]
  (.seq (sr [1,2,3,4,15] [oo 13 (.padd (.t 1) 1),
oo 14 (.load .one (.t 13)),
oo 15 (.call (.c (.fn 145 [])) [(.t 14)] [])]
  (.blk 0
  (.rfn 0 (.t 15) 8)))
  (.pre [1,4] (sr [1,8] [oo 34 (.bstr 155 (.t 4)),
om 8 34]
  (.seq (sr [1,8,37] [om 35 8,
oo 36 (.len true (.t 35)),
oo 37 (.bin .gtr (.t 36) (.c (.int .i64 200)))]
  (.cond (.t 37)
  (sr [2,3] [oo 2 (.mov (.c (.str []))),
oo 3 (.mov (.c (.int .i64 30)))]
  (.pre [2,3] .ret))
  .skip))
  (.pre [1,8] (.seq (sr [8,39] [oo 38 (.padd (.t 1) 0),
oo 39 (.load .one (.t 38))]
  (.cond (.t 39)
  (sr [2,3] [om 40 8,
oo 41 (.bin .add (.c (.str [45])) (.t 40)),
om 2 41,
oo 3 (.mov (.c (.int .i64 0)))]
  (.pre [2,3] .ret))
  .skip))
  (.pre [8] (sr [2,3] [om 42 8,
om 2 42,
oo 3 (.mov (.c (.int .i64 0)))]
  (.pre [2,3] .ret))))))))))))) }
def r9 : XRnd := { ps := [19,20],asg := (sr [3,4,5,20] [om 5 19]
  (.reg false [3,4,5,6] [] [om 6 20])),body :=
 (.blk 1
  (sr [3,4,5,6,26] [om 21 6,
oo 22 (.load .one (.t 3)),
om 23 5,
oo 24 (.ixS 1 (.t 22) (.t 23)),
oo 25 (.load .one (.t 24)),
oo 26 (.bin .neq (.t 21) (.t 25))]
  (.cond (.t 26)
  (sr [] [om 27 6,
oo 28 (.load .one (.t 3)),
om 29 5,
oo 30 (.ixS 1 (.t 28) (.t 29)),
oo 31 (.load .one (.t 30)),
oo 32 (.call (.c (.fn 156 [])) [(.t 27),(.t 31)] []),
⟨none,none,[],.store 1 (.t 4) (.t 32)⟩]
  (.pre [] .ret))
  .skip))) }
def x115 : XFn := { np := 2,isOpen := false,ns := 2,res := [.cell 4 .one],code :=
 (sr [0,3,4] [oo 3 (.boxR (.t 1)),
oo 4 (.alloc 1 [.int .i64 0])]
  (.seq (sr [0,3,4,11] [om 7 0,
oo 8 (.len false (.t 7)),
oo 9 (.load .one (.t 3)),
oo 10 (.len false (.t 9)),
oo 11 (.bin .neq (.t 8) (.t 10))]
  (.cond (.t 11)
  (sr [4] [om 12 0,
oo 13 (.len false (.t 12)),
oo 14 (.load .one (.t 3)),
oo 15 (.len false (.t 14)),
oo 16 (.call (.c (.fn 156 [])) [(.t 13),(.t 15)] []),
⟨none,none,[],.store 1 (.t 4) (.t 16)⟩]
  (.pre [4] .ret))
  .skip))
  (.pre [0,3,4] (.seq (sr [3,4,18] [om 17 0,
oo 18 (.call (.c (.fn 145 [])) [(.t 17)] [])]
  (.blk 0
  (.rfn 0 (.t 18) 9)))
  (.pre [4] (sr [4] [⟨none,none,[],.store 1 (.t 4) (.c (.int .i64 0))⟩]
  (.pre [4] .ret))))))) }
@[go_sem] def c116_0 : XC := (.pre [0,1,7,8]
 (sr [0,1,7,8,9] [oo 9 (.bin .lss (.t 8) (.t 7))]
  (.seq (.cond (.t 9)
  .skip
  (.pre [] (.exit 0)))
  (.pre [0,1,7,8] (.seq (.blk 1
  (sr [0,1,5,7,8] [om 10 8,
om 5 10]
  (sr [0,1,5,7,8,16] [om 11 1,
om 12 0,
om 13 5,
oo 14 (.ixS 4 (.t 12) (.t 13)),
oo 15 (.load (.agg 4) (.t 14)),
oo 16 (.call (.t 11) [(.t 15)] [])]
  (.cond (.t 16)
  (sr [4] [om 17 5,
om 4 17]
  (.pre [4] .ret))
  .skip))))
  (.pre [0,1,7,8] (.reg false [0,1,7,8] [] [oo 18 (.bin .add (.t 8) (.c (.int .i64 1))),
om 8 18])))))))
def b116_0 : XC := c116_0
@[go_sem] theorem e116_0 (L : Lib) (cx : Cx) (env : Env) (h : Heap) : runC L cx b116_0 (env,h) = runC L cx c116_0 (env,h) := rfl
def x116 : XFn := { np := 2,isOpen := false,ns := 0,res := [.tmp 4],code :=
 (sr [0,1] [oo 4 (.mov (.c (.int .i64 0)))]
  (.seq (sr [0,1,7,8] [om 6 0,
oo 7 (.len false (.t 6)),
oo 8 (.mov (.c (.int .i64 0)))]
  (.blk 0
  (.loop b116_0)))
  (.pre [] (sr [4] [oo 4 (.mov (.c (.int .i64 (-1))))]
  (.pre [4] .ret))))) }
def x118 : XFn := { np := 4,isOpen := true,ns := 2,res := [.cell 8 (.agg 2)],code :=
 (sr [0,1,6,7,8] [oo 6 (.boxR (.t 2)),
oo 7 (.boxR (.t 3)),
oo 8 (.alloc 1 [.str [],.str []])]
  (.seq (sr [0,1,6,7,8,14] [om 11 0,
oo 12 (.nchk (.t 11)),
oo 13 (.padd (.t 12) 0),
oo 14 (.load .one (.t 13))]
  (.cond (.t 14)
  (sr [8] [oo 15 (.build [.str [],.str []] []),
⟨none,none,[],.store 2 (.t 8) (.t 15)⟩]
  (.pre [8] .ret))
  .skip))
  (.pre [0,1,6,7,8] (sr [0,8,9,10] [om 17 1,
oo 18 (.load (.agg 2) (.t 6)),
oo 19 (.load (.agg 2) (.t 7)),
⟨some 20,none,[.fn 17 [42,119,120,121,133]],.call (.t 17) [(.t 18),(.t 19)] []⟩,
om 16 20,
oo 21 (.ext (.t 16) 0),
oo 22 (.ext (.t 16) 1),
oo 9 (.alloc 0 [.str [],.str []]),
⟨none,none,[],.store 2 (.t 9) (.t 21)⟩,
om 10 22]
  (sr [8,9] [om 23 0,
om 24 10,
oo 25 (.bin .neq (.t 24) (.c (.int .i64 0))),
oo 26 (.nchk (.t 23)),
oo 27 (.padd (.t 26) 0),
⟨none,none,[],.store 1 (.t 27) (.t 25)⟩]
  (sr [8] [oo 28 (.load (.agg 2) (.t 9)),
⟨none,none,[],.store 2 (.t 8) (.t 28)⟩]
  (.pre [8] .ret))))))) }
def x119 : XFn := { np := 2,isOpen := false,ns := 1,res := [.cell 4 (.agg 2),.tmp 5],code :=
 (sr [2,3,4] [oo 2 (.boxR (.t 0)),
oo 3 (.boxR (.t 1)),
oo 4 (.alloc 0 [.str [],.str []]),
oo 5 (.mov (.c (.int .i64 0)))]
  (sr [4,5] [oo 6 (.load (.agg 2) (.t 2)),
oo 7 (.load (.agg 2) (.t 3)),
oo 8 (.call (.c (.fn 157 [])) [(.c (.fn 135 [])),(.t 6),(.t 7)] []),
oo 9 (.ext (.t 8) 0),
oo 10 (.ext (.t 8) 1),
⟨none,none,[],.store 2 (.t 4) (.t 9)⟩,
om 5 10]
  (.pre [4,5] .ret))) }
def x120 : XFn := { np := 2,isOpen := false,ns := 1,res := [.cell 4 (.agg 2),.tmp 5],code :=
 (sr [2,3,4] [oo 2 (.boxR (.t 0)),
oo 3 (.boxR (.t 1)),
oo 4 (.alloc 0 [.str [],.str []]),
oo 5 (.mov (.c (.int .i64 0)))]
  (sr [4,5] [oo 6 (.load (.agg 2) (.t 2)),
oo 7 (.load (.agg 2) (.t 3)),
oo 8 (.call (.c (.fn 157 [])) [(.c (.fn 126 [])),(.t 6),(.t 7)] []),
oo 9 (.ext (.t 8) 0),
oo 10 (.ext (.t 8) 1),
⟨none,none,[],.store 2 (.t 4) (.t 9)⟩,
om 5 10]
  (.pre [4,5] .ret))) }
def x121 : XFn := { np := 2,isOpen := false,ns := 2,res := [.cell 4 (.agg 2),.tmp 5],code :=
 (sr [2,3,4] [oo 2 (.boxR (.t 0)),
oo 3 (.boxR (.t 1)),
oo 4 (.alloc 1 [.str [],.str []]),
oo 5 (.mov (.c (.int .i64 0)))]
  (sr [2,3,4,6] [oo 8 (.build [.bool false] []),
oo 9 (.box 0 (.t 8)),
om 6 9]
  (sr [2,3,4,6] [om 10 6,
oo 11 (.load (.agg 2) (.t 2)),
oo 12 (.load (.agg 2) (.t 3)),
oo 13 (.bslice 2 (.agg [.str [],.str []]) 2 [(0,(.t 11)),(1,(.t 12))]),
oo 14 (.call (.c (.fn 122 [])) [(.t 10),(.t 13)] [])]
  (sr [2,3,4,6,7] [om 15 6,
oo 16 (.padd (.t 2) 0),
oo 17 (.load .one (.t 16)),
oo 18 (.padd (.t 3) 0),
oo 19 (.load .one (.t 18)),
oo 20 (.call (.c (.fn 124 [])) [(.t 15),(.t 17),(.t 19)] []),
om 7 20]
  (sr [4,5] [om 21 6,
om 22 7,
om 23 6,
oo 24 (.padd (.t 2) 1),
oo 25 (.load .one (.t 24)),
oo 26 (.padd (.t 3) 1),
oo 27 (.load .one (.t 26)),
oo 28 (.call (.c (.fn 124 [])) [(.t 23),(.t 25),(.t 27)] []),
oo 29 (.call (.c (.fn 103 [])) [(.t 21),(.t 22),(.t 28)] []),
oo 30 (.ext (.t 29) 0),
oo 31 (.ext (.t 29) 1),
⟨none,none,[],.store 2 (.t 4) (.t 30)⟩,
om 5 31]
  (.pre [4,5] .ret)))))) }
@[go_sem] def c122_0 : XC := (.pre [0,6,7,8]
 (sr [0,6,7,8,9] [oo 9 (.bin .lss (.t 8) (.t 7))]
  (.seq (.cond (.t 9)
  .skip
  (.pre [] (.exit 0)))
  (.pre [0,6,7,8] (.seq (.blk 1
  (sr [0,5,6,7,8] [oo 10 (.ixS 2 (.t 6) (.t 8)),
oo 11 (.load (.agg 2) (.t 10)),
oo 5 (.alloc 0 [.str [],.str []]),
⟨none,none,[],.store 2 (.t 5) (.t 11)⟩]
  (.reg false [0,6,7,8] [] [om 12 0,
om 13 0,
oo 14 (.nchk (.t 13)),
oo 15 (.padd (.t 14) 0),
oo 16 (.load .one (.t 15)),
om 17 16,
og 18 17 false (.load (.agg 2) (.t 5)),
og 19 17 false (.call (.c (.fn 78 [])) [(.t 18)] []),
og 20 17 false (.un .not (.t 19)),
oo 21 (.pick (.t 17) (.c (.bool true)) (.t 20)),
oo 22 (.nchk (.t 12)),
oo 23 (.padd (.t 22) 0),
⟨none,none,[],.store 1 (.t 23) (.t 21)⟩])))
  (.pre [0,6,7,8] (.reg false [0,6,7,8] [] [oo 24 (.bin .add (.t 8) (.c (.int .i64 1))),
om 8 24])))))))
def b122_0 : XC := c122_0
@[go_sem] theorem e122_0 (L : Lib) (cx : Cx) (env : Env) (h : Heap) : runC L cx b122_0 (env,h) = runC L cx c122_0 (env,h) := rfl
def x122 : XFn := { np := 2,isOpen := true,ns := 1,res := [],code :=
 (sr [0,6,7,8] [om 6 1,
oo 7 (.len false (.t 6)),
oo 8 (.mov (.c (.int .i64 0)))]
  (.blk 0
  (.loop b122_0))) }
def x124 : XFn := { np := 3,isOpen := true,ns := 0,res := [.tmp 6],code :=
 (sr [0,1,2] [oo 6 (.mov (.c (.str [])))]
  (sr [6] [om 7 0,
om 8 1,
om 9 2,
oo 10 (.call (.c (.fn 125 [])) [(.t 7),(.c (.fn 161 [])),(.t 8),(.t 9)] []),
om 6 10]
  (.pre [6] .ret))) }
def x125 : XFn := { np := 4,isOpen := true,ns := 0,res := [.tmp 8],code :=
 (sr [0,1,2,3] [oo 8 (.mov (.c (.str [])))]
  (.seq (sr [0,1,2,3,14] [om 11 0,
oo 12 (.nchk (.t 11)),
oo 13 (.padd (.t 12) 0),
oo 14 (.load .one (.t 13))]
  (.cond (.t 14)
  (sr [8] [oo 8 (.mov (.c (.str [])))]
  (.pre [8] .ret))
  .skip))
  (.pre [0,1,2,3] (sr [0,9,10] [om 16 1,
om 17 2,
om 18 3,
oo 19 (.call (.t 16) [(.t 17),(.t 18)] []),
om 15 19,
oo 20 (.ext (.t 15) 0),
oo 21 (.ext (.t 15) 1),
om 9 20,
om 10 21]
  (sr [9] [om 22 0,
om 23 10,
oo 24 (.bin .neq (.t 23) (.c (.int .i64 0))),
oo 25 (.nchk (.t 22)),
oo 26 (.padd (.t 25) 0),
⟨none,none,[],.store 1 (.t 26) (.t 24)⟩]
  (sr [8] [om 27 9,
om 8 27]
  (.pre [8] .ret))))))) }
def x126 : XFn := { np := 2,isOpen := false,ns := 2,res := [.tmp 4,.tmp 5],code :=
 (sr [0,1] [oo 4 (.mov (.c (.str []))),
oo 5 (.mov (.c (.int .i64 0)))]
  (sr [6,7,8] [om 10 0,
om 11 1,
oo 12 (.call (.c (.fn 109 [])) [(.t 10),(.t 11)] []),
om 9 12,
oo 13 (.ext (.t 9) 0),
oo 14 (.ext (.t 9) 1),
oo 15 (.ext (.t 9) 2),
oo 6 (.alloc 0 [.bool false,.nilSl]),
oo 7 (.alloc 1 [.bool false,.nilSl]),
⟨none,none,[],.store 2 (.t 6) (.t 13)⟩,
⟨none,none,[],.store 2 (.t 7) (.t 14)⟩,
om 8 15]
  (.seq (sr [6,7,17] [om 16 8,
oo 17 (.un .not (.t 16))]
  (.cond (.t 17)
  (sr [4,5] [oo 4 (.mov (.c (.str []))),
oo 5 (.mov (.c (.int .i64 30)))]
  (.pre [4,5] .ret))
  .skip))
  (.pre [6,7] (sr [4,5] [oo 18 (.load (.agg 2) (.t 6)),
oo 19 (.load (.agg 2) (.t 7)),
oo 20 (.call (.c (.fn 162 [])) [(.t 18),(.t 19)] []),
oo 21 (.call (.c (.fn 114 [])) [(.t 20)] []),
oo 22 (.ext (.t 21) 0),
oo 23 (.ext (.t 21) 1),
om 4 22,
om 5 23]
  (.pre [4,5] .ret)))))) }
def x129 : XFn := { np := 2,isOpen := false,ns := 0,res := [.tmp 4,.tmp 5],code :=
 (sr [0,1] [oo 4 (.mov (.c (.int .u32 0))),
oo 5 (.mov (.c (.int .u32 0)))]
  (sr [6] [om 7 0,
oo 8 (.conv .u64 (.t 7)),
om 9 1,
oo 10 (.conv .u64 (.t 9)),
oo 11 (.bin .mul (.t 8) (.t 10)),
om 6 11]
  (sr [4,5] [om 12 6,
oo 13 (.bin .shr (.t 12) (.c (.int .u64 32))),
oo 14 (.conv .u32 (.t 13)),
om 15 6,
oo 16 (.conv .u32 (.t 15)),
om 4 14,
om 5 16]
  (.pre [4,5] .ret)))) }
def x130 : XFn := { np := 2,isOpen := false,ns := 0,res := [.tmp 4,.tmp 5],code :=
 (sr [0,1] [oo 4 (.mov (.c (.int .u64 0))),
oo 5 (.mov (.c (.int .u64 0)))]
  (sr [0,1,6] [om 14 0,
oo 15 (.bin .and (.t 14) (.c (.int .u64 4294967295))),
om 6 15]
  (sr [0,1,6,7] [om 16 0,
oo 17 (.bin .shr (.t 16) (.c (.int .u64 32))),
om 7 17]
  (sr [0,1,6,7,8] [om 18 1,
oo 19 (.bin .and (.t 18) (.c (.int .u64 4294967295))),
om 8 19]
  (sr [0,1,6,7,8,9] [om 20 1,
oo 21 (.bin .shr (.t 20) (.c (.int .u64 32))),
om 9 21]
  (sr [0,1,6,7,8,9,10] [om 22 6,
om 23 8,
oo 24 (.bin .mul (.t 22) (.t 23)),
om 10 24]
  (sr [0,1,6,7,9,11] [om 25 7,
om 26 8,
oo 27 (.bin .mul (.t 25) (.t 26)),
om 28 10,
oo 29 (.bin .shr (.t 28) (.c (.int .u64 32))),
oo 30 (.bin .add (.t 27) (.t 29)),
om 11 30]
  (sr [0,1,6,7,9,11,12] [om 31 11,
oo 32 (.bin .and (.t 31) (.c (.int .u64 4294967295))),
om 12 32]
  (sr [0,1,6,7,9,12,13] [om 33 11,
oo 34 (.bin .shr (.t 33) (.c (.int .u64 32))),
om 13 34]
  (sr [0,1,7,9,12,13] [om 35 12,
om 36 6,
om 37 9,
oo 38 (.bin .mul (.t 36) (.t 37)),
oo 39 (.bin .add (.t 35) (.t 38)),
om 12 39]
  (sr [0,1,4] [om 40 7,
om 41 9,
oo 42 (.bin .mul (.t 40) (.t 41)),
om 43 13,
oo 44 (.bin .add (.t 42) (.t 43)),
om 45 12,
oo 46 (.bin .shr (.t 45) (.c (.int .u64 32))),
oo 47 (.bin .add (.t 44) (.t 46)),
om 4 47]
  (sr [4,5] [om 48 0,
om 49 1,
oo 50 (.bin .mul (.t 48) (.t 49)),
om 5 50]
  (.pre [4,5] .ret))))))))))))) }
def x131 : XFn := { np := 2,isOpen := false,ns := 0,res := [.tmp 3],code :=
 (sr [1,2] [oo 2 (.boxR (.t 0)),
oo 3 (.mov (.c (.bool false)))]
  (sr [3] [oo 4 (.load .one (.t 1)),
oo 5 (.padd (.t 2) 0),
oo 6 (.load .one (.t 5)),
oo 7 (.bin .geq (.t 4) (.t 6)),
om 8 7,
og 9 8 true (.load .one (.t 1)),
og 10 8 true (.padd (.t 2) 1),
og 11 8 true (.load .one (.t 10)),
og 12 8 true (.bin .lss (.t 9) (.t 11)),
oo 13 (.pick (.t 8) (.t 12) (.c (.bool false))),
om 3 13]
  (.pre [3] .ret))) }
@[go_sem] def c132_0 : XC := (.pre [0,1,3]
 (.seq (sr [0,1,3,7] [om 4 3,
oo 5 (.load .one (.t 1)),
oo 6 (.len false (.t 5)),
oo 7 (.bin .lss (.t 4) (.t 6))]
  (.cond (.t 7)
  .skip
  (.pre [] (.exit 0))))
  (.pre [0,1,3] (.seq (.blk 1
  (.seq (.reg true [0,1,3,21] [] [om 10 0,
⟨some 11,none,[.closed 1],.load .one (.t 1)⟩,
om 12 3,
oo 13 (.bin .sub (.t 12) (.c (.int .i64 1))),
oo 14 (.ixS 4 (.t 11) (.t 13)),
⟨some 15,none,[.elem 14],.load (.agg 4) (.t 14)⟩,
⟨some 16,none,[.closed 1],.load .one (.t 1)⟩,
om 17 3,
oo 18 (.ixS 4 (.t 16) (.t 17)),
⟨some 19,none,[.elem 18],.load (.agg 4) (.t 18)⟩,
oo 20 (.call (.t 10) [(.t 15),(.t 19)] []),
oo 21 (.un .not (.t 20))])
  (.cond (.t 21)
  (.pre [] .ret)
  .skip)))
  (.pre [0,1,3] (.reg false [0,1,3] [] [om 8 3,
oo 9 (.bin .add (.t 8) (.c (.int .i64 1))),
om 3 9]))))))
def b132_0 : XC := c132_0
@[go_sem] theorem e132_0 (L : Lib) (cx : Cx) (env : Env) (h : Heap) : runC L cx b132_0 (env,h) = runC L cx c132_0 (env,h) := rfl
def x132 : XFn := { np := 2,isOpen := true,ns := 0,res := [],code :=
 (sr [0,1,3] [oo 3 (.mov (.c (.int .i64 1)))]
  (.blk 0
  (.loop b132_0))) }
def x133 : XFn := { np := 2,isOpen := false,ns := 2,res := [.cell 4 (.agg 2),.tmp 5],code :=
 (sr [2,3,4] [oo 2 (.boxR (.t 0)),
oo 3 (.boxR (.t 1)),
oo 4 (.alloc 1 [.str [],.str []]),
oo 5 (.mov (.c (.int .i64 0)))]
  (sr [2,3,4,6] [oo 8 (.build [.bool false] []),
oo 9 (.box 0 (.t 8)),
om 6 9]
  (sr [2,3,4,6] [om 10 6,
oo 11 (.load (.agg 2) (.t 2)),
oo 12 (.load (.agg 2) (.t 3)),
oo 13 (.bslice 2 (.agg [.str [],.str []]) 2 [(0,(.t 11)),(1,(.t 12))]),
oo 14 (.call (.c (.fn 122 [])) [(.t 10),(.t 13)] [])]
  (sr [2,3,4,6,7] [om 15 6,
oo 16 (.padd (.t 2) 0),
oo 17 (.load .one (.t 16)),
oo 18 (.padd (.t 3) 1),
oo 19 (.load .one (.t 18)),
oo 20 (.call (.c (.fn 124 [])) [(.t 15),(.t 17),(.t 19)] []),
om 7 20]
  (sr [4,5] [om 21 6,
om 22 7,
om 23 6,
oo 24 (.padd (.t 2) 1),
oo 25 (.load .one (.t 24)),
oo 26 (.padd (.t 3) 0),
oo 27 (.load .one (.t 26)),
oo 28 (.call (.c (.fn 124 [])) [(.t 23),(.t 25),(.t 27)] []),
oo 29 (.call (.c (.fn 103 [])) [(.t 21),(.t 22),(.t 28)] []),
oo 30 (.ext (.t 29) 0),
oo 31 (.ext (.t 29) 1),
⟨none,none,[],.store 2 (.t 4) (.t 30)⟩,
om 5 31]
  (.pre [4,5] .ret)))))) }
def x134 : XFn := { np := 1,isOpen := false,ns := 0,res := [.tmp 2],code :=
 (sr [0] [oo 2 (.mov (.c (.bool false)))]
  (sr [0,3] [om 4 0,
oo 5 (.call (.c (.fn 163 [])) [(.t 4),(.c (.str [45]))] []),
om 3 5]
  (.seq (sr [0,3,17] [om 6 3,
oo 7 (.bin .eql (.t 6) (.c (.str []))),
om 8 7,
og 9 8 false (.mov (.t 3)),
og 10 8 false (.len true (.t 9)),
og 11 8 false (.bin .gtr (.t 10) (.c (.int .i64 200))),
oo 12 (.pick (.t 8) (.c (.bool true)) (.t 11)),
om 13 12,
og 14 13 false (.mov (.t 3)),
og 15 13 false (.call (.c (.fn 164 [])) [(.t 14),(.c (.str [48,49,50,51,52,53,54,55,56,57]))] []),
og 16 13 false (.bin .neq (.t 15) (.c (.str []))),
oo 17 (.pick (.t 13) (.c (.bool true)) (.t 16))]
  (.cond (.t 17)
  (sr [2] [oo 2 (.mov (.c (.bool false)))]
  (.pre [2] .ret))
  .skip))
  (.pre [0,3] (sr [2] [om 18 0,
oo 19 (.bin .eql (.t 18) (.c (.str [48]))),
om 20 19,
og 21 20 false (.mov (.t 3)),
og 22 20 false (.ixStr (.t 21) (.c (.int .i64 0))),
og 23 20 false (.bin .neq (.t 22) (.c (.int .u8 48))),
oo 24 (.pick (.t 20) (.c (.bool true)) (.t 23)),
om 2 24]
  (.pre [2] .ret)))))) }
def x135 : XFn := { np := 2,isOpen := false,ns := 2,res := [.tmp 4,.tmp 5],code :=
 (sr [0,1] [oo 4 (.mov (.c (.str []))),
oo 5 (.mov (.c (.int .i64 0)))]
  (sr [6,7,8] [om 10 0,
om 11 1,
oo 12 (.call (.c (.fn 109 [])) [(.t 10),(.t 11)] []),
om 9 12,
oo 13 (.ext (.t 9) 0),
oo 14 (.ext (.t 9) 1),
oo 15 (.ext (.t 9) 2),
oo 6 (.alloc 0 [.bool false,.nilSl]),
oo 7 (.alloc 1 [.bool false,.nilSl]),
⟨none,none,[],.store 2 (.t 6) (.t 13)⟩,
⟨none,none,[],.store 2 (.t 7) (.t 14)⟩,
om 8 15]
  (.seq (sr [6,7,17] [om 16 8,
oo 17 (.un .not (.t 16))]
  (.cond (.t 17)
  (sr [4,5] [oo 4 (.mov (.c (.str []))),
oo 5 (.mov (.c (.int .i64 30)))]
  (.pre [4,5] .ret))
  .skip))
  (.pre [6,7] (sr [6,7] [oo 18 (.padd (.t 7) 0),
oo 19 (.load .one (.t 18)),
oo 20 (.un .not (.t 19)),
oo 21 (.padd (.t 7) 0),
⟨none,none,[],.store 1 (.t 21) (.t 20)⟩]
  (sr [4,5] [oo 22 (.load (.agg 2) (.t 6)),
oo 23 (.load (.agg 2) (.t 7)),
oo 24 (.call (.c (.fn 162 [])) [(.t 22),(.t 23)] []),
oo 25 (.call (.c (.fn 114 [])) [(.t 24)] []),
oo 26 (.ext (.t 25) 0),
oo 27 (.ext (.t 25) 1),
om 4 26,
om 5 27]
  (.pre [4,5] .ret))))))) }
def x136 : XFn := { np := 3,isOpen := true,ns := 0,res := [.tmp 6],code :=
 (sr [0,1,2] [oo 6 (.mov (.c (.str [])))]
  (sr [6] [om 7 0,
om 8 1,
om 9 2,
oo 10 (.call (.c (.fn 125 [])) [(.t 7),(.c (.fn 165 [])),(.t 8),(.t 9)] []),
om 6 10]
  (.pre [6] .ret))) }
@[go_sem] def c138_0 : XC := (.pre [0,3]
 (.seq (sr [0,3,19] [om 16 3,
om 17 0,
oo 18 (.len true (.t 17)),
oo 19 (.bin .lss (.t 16) (.t 18))]
  (.cond (.t 19)
  .skip
  (.pre [0] (.exit 0))))
  (.pre [0,3] (.seq (.blk 1
  (sr [0,3,31] [om 22 0,
om 23 3,
oo 24 (.ixStr (.t 22) (.t 23)),
oo 25 (.bin .lss (.t 24) (.c (.int .u8 48))),
om 26 25,
og 27 26 false (.mov (.t 0)),
og 28 26 false (.mov (.t 3)),
og 29 26 false (.ixStr (.t 27) (.t 28)),
og 30 26 false (.bin .gtr (.t 29) (.c (.int .u8 57))),
oo 31 (.pick (.t 26) (.c (.bool true)) (.t 30))]
  (.cond (.t 31)
  (sr [2] [oo 2 (.mov (.c (.bool false)))]
  (.pre [2] .ret))
  .skip)))
  (.pre [0,3] (.reg false [0,3] [] [om 20 3,
oo 21 (.bin .add (.t 20) (.c (.int .i64 1))),
om 3 21]))))))
def b138_0 : XC := c138_0
def x138 : XFn := { np := 1,isOpen := false,ns := 0,res := [.tmp 2],code :=
 (sr [0] [oo 2 (.mov (.c (.bool false)))]
  (.seq (sr [0,11] [om 4 0,
oo 5 (.len true (.t 4)),
oo 6 (.bin .gtr (.t 5) (.c (.int .i64 0))),
om 7 6,
og 8 7 true (.mov (.t 0)),
og 9 7 true (.ixStr (.t 8) (.c (.int .i64 0))),
og 10 7 true (.bin .eql (.t 9) (.c (.int .u8 45))),
oo 11 (.pick (.t 7) (.t 10) (.c (.bool false)))]
  (.cond (.t 11)
  (sr [0] [om 12 0,
oo 13 (.slice none (.t 12) (some (.c (.int .i64 1))) none),
om 0 13]
  (sr [0,15] [om 14 0,
oo 15 (.bin .eql (.t 14) (.c (.str [48])))]
  (.cond (.t 15)
  (sr [2] [oo 2 (.mov (.c (.bool false)))]
  (.pre [2] .ret))
  .skip)))
  .skip))
  (.pre [0] (.seq (sr [0,3] [oo 3 (.mov (.c (.int .i64 0)))]
  (.blk 0
  (.loop b138_0)))
  (.pre [0] (sr [2] [om 32 0,
oo 33 (.len true (.t 32)),
oo 34 (.bin .gtr (.t 33) (.c (.int .i64 0))),
om 35 34,
og 36 35 true (.mov (.t 0)),
og 37 35 true (.len true (.t 36)),
og 38 35 true (.bin .leq (.t 37) (.c (.int .i64 200))),
oo 39 (.pick (.t 35) (.t 38) (.c (.bool false))),
om 40 39,
og 41 40 true (.mov (.t 0)),
og 42 40 true (.bin .eql (.t 41) (.c (.str [48]))),
og 43 40 true (.mov (.t 42)),
og 44 43 false (.mov (.t 0)),
og 45 43 false (.ixStr (.t 44) (.c (.int .i64 0))),
og 46 43 false (.bin .neq (.t 45) (.c (.int .u8 48))),
og 47 40 true (.pick (.t 43) (.c (.bool true)) (.t 46)),
oo 48 (.pick (.t 40) (.t 47) (.c (.bool false))),
om 2 48]
  (.pre [2] .ret))))))) }
def x139 : XFn := { np := 2,isOpen := false,ns := 0,res := [.tmp 4],code :=
 (sr [0,1] [oo 4 (.mov (.c (.int .i64 0)))]
  (.seq (sr [0,1,16] [om 9 0,
oo 10 (.call (.c (.fn 138 [])) [(.t 9)] []),
oo 11 (.un .not (.t 10)),
om 12 11,
og 13 12 false (.mov (.t 1)),
og 14 12 false (.call (.c (.fn 138 [])) [(.t 13)] []),
og 15 12 false (.un .not (.t 14)),
oo 16 (.pick (.t 12) (.c (.bool true)) (.t 15))]
  (.cond (.t 16)
  (sr [4] [oo 4 (.mov (.c (.int .i64 0)))]
  (.pre [4] .ret))
  .skip))
  (.pre [0,1] (sr [1,5,6] [om 18 0,
oo 19 (.call (.c (.fn 167 [])) [(.t 18)] []),
om 17 19,
oo 20 (.ext (.t 17) 0),
oo 21 (.ext (.t 17) 1),
om 5 20,
om 6 21]
  (sr [5,6,7,8] [om 23 1,
oo 24 (.call (.c (.fn 167 [])) [(.t 23)] []),
om 22 24,
oo 25 (.ext (.t 22) 0),
oo 26 (.ext (.t 22) 1),
om 7 25,
om 8 26]
  (.seq (sr [5,6,8,29] [om 27 5,
om 28 7,
oo 29 (.eqv true [] (.t 27) (.t 28))]
  (.cond (.t 29)
  (.seq (sr [30] [om 30 5]
  (.cond (.t 30)
  (sr [4] [oo 4 (.mov (.c (.int .i64 (-1))))]
  (.pre [4] .ret))
  .skip))
  (.pre [] (sr [4] [oo 4 (.mov (.c (.int .i64 1)))]
  (.pre [4] .ret))))
  .skip))
  (.pre [5,6,8] (.seq (sr [6,8,31] [om 31 5]
  (.cond (.t 31)
  (sr [4] [om 32 8,
om 33 6,
oo 34 (.call (.c (.fn 168 [])) [(.t 32),(.t 33)] []),
om 4 34]
  (.pre [4] .ret))
  .skip))
  (.pre [6,8] (sr [4] [om 35 6,
om 36 8,
oo 37 (.call (.c (.fn 168 [])) [(.t 35),(.t 36)] []),
om 4 37]
  (.pre [4] .ret))))))))))) }
def x140 : XFn := { np := 2,isOpen := false,ns := 0,res := [.tmp 4,.tmp 5],code :=
 (sr [0,1] [oo 4 (.mov (.c (.str []))),
oo 5 (.mov (.c (.int .i64 0)))]
  (.seq (sr [0,1,17] [om 10 0,
oo 11 (.call (.c (.fn 138 [])) [(.t 10)] []),
oo 12 (.un .not (.t 11)),
om 13 12,
og 14 13 false (.mov (.t 1)),
og 15 13 false (.call (.c (.fn 138 [])) [(.t 14)] []),
og 16 13 false (.un .not (.t 15)),
oo 17 (.pick (.t 13) (.c (.bool true)) (.t 16))]
  (.cond (.t 17)
  (sr [4,5] [oo 4 (.mov (.c (.str []))),
oo 5 (.mov (.c (.int .i64 30)))]
  (.pre [4,5] .ret))
  .skip))
  (.pre [0,1] (sr [1,6,7] [om 19 0,
oo 20 (.call (.c (.fn 167 [])) [(.t 19)] []),
om 18 20,
oo 21 (.ext (.t 18) 0),
oo 22 (.ext (.t 18) 1),
om 6 21,
om 7 22]
  (sr [6,7,8,9] [om 24 1,
oo 25 (.call (.c (.fn 167 [])) [(.t 24)] []),
om 23 25,
oo 26 (.ext (.t 23) 0),
oo 27 (.ext (.t 23) 1),
om 8 26,
om 9 27]
  (sr [4,5] [om 28 6,
om 29 7,
om 30 8,
oo 31 (.un .not (.t 30)),
om 32 9,
oo 33 (.call (.c (.fn 169 [])) [(.t 28),(.t 29),(.t 31),(.t 32)] []),
oo 34 (.ext (.t 33) 0),
oo 35 (.ext (.t 33) 1),
om 4 34,
om 5 35]
  (.pre [4,5] .ret))))))) }
@[go_sem] def c141_0 : XC := (.pre [7,9]
 (.seq (sr [7,9,32] [om 30 9,
oo 31 (.len false (.t 30)),
oo 32 (.bin .gtr (.t 31) (.c (.int .i64 0)))]
  (.cond (.t 32)
  .skip
  (.pre [7] (.exit 0))))
  (.pre [7,9] (.blk 1
  (sr [9,11] [om 34 7,
om 35 9,
oo 36 (.call (.c (.fn 170 [])) [(.t 34),(.t 35)] []),
om 33 36,
oo 37 (.ext (.t 33) 0),
oo 38 (.ext (.t 33) 1),
om 10 37,
om 11 38]
  (sr [7,11] [om 39 9,
om 7 39]
  (.reg false [7,9] [] [om 40 11,
om 9 40])))))))
def b141_0 : XC := c141_0
def x141 : XFn := { np := 2,isOpen := false,ns := 0,res := [.tmp 4,.tmp 5],code :=
 (sr [0,1] [oo 4 (.mov (.c (.str []))),
oo 5 (.mov (.c (.int .i64 0)))]
  (.seq (sr [0,1,19] [om 12 0,
oo 13 (.call (.c (.fn 138 [])) [(.t 12)] []),
oo 14 (.un .not (.t 13)),
om 15 14,
og 16 15 false (.mov (.t 1)),
og 17 15 false (.call (.c (.fn 138 [])) [(.t 16)] []),
og 18 15 false (.un .not (.t 17)),
oo 19 (.pick (.t 15) (.c (.bool true)) (.t 18))]
  (.cond (.t 19)
  (sr [4,5] [oo 4 (.mov (.c (.str []))),
oo 5 (.mov (.c (.int .i64 30)))]
  (.pre [4,5] .ret))
  .skip))
  (.pre [0,1] (sr [1,7] [om 21 0,
oo 22 (.call (.c (.fn 167 [])) [(.t 21)] []),
om 20 22,
oo 23 (.ext (.t 20) 0),
oo 24 (.ext (.t 20) 1),
om 6 23,
om 7 24]
  (sr [7,9] [om 26 1,
oo 27 (.call (.c (.fn 167 [])) [(.t 26)] []),
om 25 27,
oo 28 (.ext (.t 25) 0),
oo 29 (.ext (.t 25) 1),
om 8 28,
om 9 29]
  (.seq (.blk 0
  (.loop b141_0))
  (.pre [7] (sr [4,5] [om 41 7,
oo 42 (.call (.c (.fn 171 [])) [(.c (.bool false)),(.t 41)] []),
oo 43 (.ext (.t 42) 0),
oo 44 (.ext (.t 42) 1),
om 4 43,
om 5 44]
  (.pre [4,5] .ret))))))))) }
def x142 : XFn := { np := 2,isOpen := false,ns := 0,res := [.tmp 4,.tmp 5,.tmp 6],code :=
 (sr [0,1] [oo 4 (.mov (.c (.str []))),
oo 5 (.mov (.c (.str []))),
oo 6 (.mov (.c (.int .i64 0)))]
  (.seq (sr [0,1,28] [om 17 0,
oo 18 (.call (.c (.fn 138 [])) [(.t 17)] []),
oo 19 (.un .not (.t 18)),
om 20 19,
og 21 20 false (.mov (.t 1)),
og 22 20 false (.call (.c (.fn 138 [])) [(.t 21)] []),
og 23 20 false (.un .not (.t 22)),
oo 24 (.pick (.t 20) (.c (.bool true)) (.t 23)),
om 25 24,
og 26 25 false (.mov (.t 1)),
og 27 25 false (.bin .eql (.t 26) (.c (.str [48]))),
oo 28 (.pick (.t 25) (.c (.bool true)) (.t 27))]
  (.cond (.t 28)
  (sr [4,5,6] [oo 4 (.mov (.c (.str []))),
oo 5 (.mov (.c (.str []))),
oo 6 (.mov (.c (.int .i64 30)))]
  (.pre [4,5,6] .ret))
  .skip))
  (.pre [0,1] (sr [1,7,8] [om 30 0,
oo 31 (.call (.c (.fn 167 [])) [(.t 30)] []),
om 29 31,
oo 32 (.ext (.t 29) 0),
oo 33 (.ext (.t 29) 1),
om 7 32,
om 8 33]
  (sr [7,8,9,10] [om 35 1,
oo 36 (.call (.c (.fn 167 [])) [(.t 35)] []),
om 34 36,
oo 37 (.ext (.t 34) 0),
oo 38 (.ext (.t 34) 1),
om 9 37,
om 10 38]
  (sr [7,9,10,11,12] [om 40 8,
om 41 10,
oo 42 (.call (.c (.fn 170 [])) [(.t 40),(.t 41)] []),
om 39 42,
oo 43 (.ext (.t 39) 0),
oo 44 (.ext (.t 39) 1),
om 11 43,
om 12 44]
  (.seq (sr [7,9,10,11,12,50] [om 45 7,
om 46 45,
og 47 46 true (.mov (.t 12)),
og 48 46 true (.len false (.t 47)),
og 49 46 true (.bin .gtr (.t 48) (.c (.int .i64 0))),
oo 50 (.pick (.t 46) (.t 49) (.c (.bool false)))]
  (.cond (.t 50)
  (sr [7,9,10,11,12] [om 51 11,
oo 52 (.bslice 1 (.int .i64 0) 1 [(0,(.c (.int .i64 1)))]),
oo 53 (.call (.c (.fn 172 [])) [(.t 51),(.t 52)] []),
om 11 53]
  (.reg false [7,9,11,12] [] [om 54 10,
om 55 12,
oo 56 (.call (.c (.fn 173 [])) [(.t 54),(.t 55)] []),
om 12 56]))
  .skip))
  (.pre [7,9,11,12] (sr [12,13,14] [om 58 7,
om 59 9,
oo 60 (.eqv true [] (.t 58) (.t 59)),
om 61 11,
oo 62 (.call (.c (.fn 171 [])) [(.t 60),(.t 61)] []),
om 57 62,
oo 63 (.ext (.t 57) 0),
oo 64 (.ext (.t 57) 1),
om 13 63,
om 14 64]
  (sr [13,14,15] [om 66 12,
oo 67 (.call (.c (.fn 143 [])) [(.c (.bool false)),(.t 66)] []),
om 65 67,
oo 68 (.ext (.t 65) 0),
oo 69 (.ext (.t 65) 1),
om 15 68,
om 16 69]
  (.seq (sr [13,14,15,71] [om 70 14,
oo 71 (.bin .neq (.t 70) (.c (.int .i64 0)))]
  (.cond (.t 71)
  (sr [4,5,6] [om 72 14,
oo 4 (.mov (.c (.str []))),
oo 5 (.mov (.c (.str []))),
om 6 72]
  (.pre [4,5,6] .ret))
  .skip))
  (.pre [13,15] (sr [4,5,6] [om 73 13,
om 74 15,
om 4 73,
om 5 74,
oo 6 (.mov (.c (.int .i64 0)))]
  (.pre [4,5,6] .ret)))))))))))))) }
@[go_sem] def c143_0 : XC := (.pre [1,6,7]
 (.seq (sr [1,6,7,19] [om 18 7,
oo 19 (.bin .geq (.t 18) (.c (.int .i64 0)))]
  (.cond (.t 19)
  .skip
  (.pre [1,6] (.exit 0))))
  (.pre [1,6,7] (.seq (.blk 1
  (.reg false [1,6,7] [] [om 22 6,
om 23 1,
om 24 7,
oo 25 (.ixS 1 (.t 23) (.t 24)),
oo 26 (.load .one (.t 25)),
oo 27 (.bin .add (.c (.int .i64 48)) (.t 26)),
oo 28 (.conv .u8 (.t 27)),
oo 29 (.bslice 1 (.int .u8 0) 1 [(0,(.t 28))]),
oo 30 (.app 0 1 140737488355328 (.t 22) (.t 29)),
om 6 30]))
  (.pre [1,6,7] (.reg false [1,6,7] [] [om 20 7,
oo 21 (.bin .sub (.t 20) (.c (.int .i64 1))),
om 7 21]))))))
def b143_0 : XC := c143_0
def x143 : XFn := { np := 2,isOpen := false,ns := 2,res := [.tmp 4,.tmp 5],code :=
 (sr [0,1] [oo 4 (.mov (.c (.str []))),
oo 5 (.mov (.c (.bool false)))]
  (.seq (sr [0,1,10] [om 8 1,
oo 9 (.len false (.t 8)),
oo 10 (.bin .eql (.t 9) (.c (.int .i64 0)))]
  (.cond (.t 10)
  (sr [4,5] [oo 4 (.mov (.c (.str [48]))),
oo 5 (.mov (.c (.bool true)))]
  (.pre [4,5] .ret))
  .skip))
  (.pre [0,1] (sr [0,1,6] [oo 6 (.mov (.c .nilSl))]
  (.seq (sr [1,6,11] [om 11 0]
  (.cond (.t 11)
  (.reg false [1,6] [] [om 12 6,
oo 13 (.bslice 1 (.int .u8 0) 1 [(0,(.c (.int .u8 45)))]),
oo 14 (.app 1 1 140737488355328 (.t 12) (.t 13)),
om 6 14])
  .skip))
  (.pre [1,6] (.seq (sr [1,6,7] [om 15 1,
oo 16 (.len false (.t 15)),
oo 17 (.bin .sub (.t 16) (.c (.int .i64 1))),
om 7 17]
  (.blk 0
  (.loop b143_0)))
  (.pre [1,6] (sr [4,5] [om 31 6,
oo 32 (.toStr (.t 31)),
om 33 1,
oo 34 (.len false (.t 33)),
oo 35 (.bin .leq (.t 34) (.c (.int .i64 200))),
om 4 32,
om 5 35]
  (.pre [4,5] .ret)))))))))) }
@[go_sem] def c144_0 : XC := (.pre [2,3,4]
 (.seq (sr [2,3,4,18] [om 16 3,
oo 17 (.len true (.t 16)),
oo 18 (.bin .gtr (.t 17) (.c (.int .i64 0)))]
  (.cond (.t 18)
  .skip
  (.pre [2,4] (.exit 0))))
  (.pre [2,3,4] (.blk 1
  (sr [2,3,4,5] [om 19 3,
oo 20 (.len true (.t 19)),
oo 21 (.bin .sub (.t 20) (.c (.int .i64 4))),
oo 22 (.minmax true [(.c (.int .i64 0)),(.t 21)]),
om 5 22]
  (sr [2,3,4,5,6] [om 24 3,
om 25 5,
oo 26 (.slice none (.t 24) (some (.t 25)) none),
oo 27 (.call (.c (.fn 174 [])) [(.t 26)] []),
om 23 27,
oo 28 (.ext (.t 23) 0),
oo 29 (.ext (.t 23) 1),
om 6 28,
om 7 29]
  (sr [2,3,4,5] [oo 30 (.padd (.t 4) 1),
oo 31 (.load .one (.t 30)),
om 32 6,
oo 33 (.bslice 1 (.int .i64 0) 1 [(0,(.t 32))]),
oo 34 (.app 0 1 17592186044416 (.t 31) (.t 33)),
oo 35 (.padd (.t 4) 1),
⟨none,none,[],.store 1 (.t 35) (.t 34)⟩]
  (.reg false [2,3,4] [] [om 36 3,
om 37 5,
oo 38 (.slice none (.t 36) none (some (.t 37))),
om 3 38]))))))))
def b144_0 : XC := c144_0
@[go_sem] theorem e144_0 (L : Lib) (cx : Cx) (env : Env) (h : Heap) : runC L cx b144_0 (env,h) = runC L cx c144_0 (env,h) := rfl
def x144 : XFn := { np := 1,isOpen := false,ns := 3,res := [.cell 2 (.agg 2)],code :=
 (sr [0,2] [oo 2 (.alloc 2 [.bool false,.nilSl])]
  (sr [0,2,3] [om 8 0,
oo 9 (.call (.c (.fn 163 [])) [(.t 8),(.c (.str [45]))] []),
om 3 9]
  (sr [2,3,4] [om 10 3,
oo 11 (.len true (.t 10)),
om 12 0,
oo 13 (.len true (.t 12)),
oo 14 (.bin .lss (.t 11) (.t 13)),
oo 15 (.build [.bool false,.nilSl] [(0,1,(.t 14))]),
oo 4 (.alloc 1 [.bool false,.nilSl]),
⟨none,none,[],.store 2 (.t 4) (.t 15)⟩]
  (.seq (.blk 0
  (.loop b144_0))
  (.pre [2,4] (sr [2,4] [oo 39 (.padd (.t 4) 1),
oo 40 (.load .one (.t 39)),
oo 41 (.call (.c (.fn 146 [])) [(.t 40)] []),
oo 42 (.padd (.t 4) 1),
⟨none,none,[],.store 1 (.t 42) (.t 41)⟩]
  (sr [2] [oo 43 (.load (.agg 2) (.t 4)),
⟨none,none,[],.store 2 (.t 2) (.t 43)⟩]
  (.pre [2] .ret)))))))) }
def x145 : XFn := { np := 1,isOpen := false,ns := 0,res := [.tmp 2],code :=
 (sr [1] [oo 1 (.boxR (.t 0)),
oo 2 (.mov (.c .nilFn))]
  (sr [2] [oo 3 (.mkfn 175 [(.t 1)]),
om 2 3]
  (.pre [2] .ret))) }
@[go_sem] def c146_0 : XC := (.pre [0]
 (.seq (sr [0,14] [om 3 0,
oo 4 (.len false (.t 3)),
oo 5 (.bin .gtr (.t 4) (.c (.int .i64 0))),
om 6 5,
og 7 6 true (.mov (.t 0)),
og 8 6 true (.mov (.t 0)),
og 9 6 true (.len false (.t 8)),
og 10 6 true (.bin .sub (.t 9) (.c (.int .i64 1))),
og 11 6 true (.ixS 1 (.t 7) (.t 10)),
og 12 6 true (.load .one (.t 11)),
og 13 6 true (.bin .eql (.t 12) (.c (.int .i64 0))),
oo 14 (.pick (.t 6) (.t 13) (.c (.bool false)))]
  (.cond (.t 14)
  .skip
  (.pre [0] (.exit 0))))
  (.pre [0] (.blk 1
  (.reg false [0] [] [om 15 0,
om 16 0,
oo 17 (.len false (.t 16)),
oo 18 (.bin .sub (.t 17) (.c (.int .i64 1))),
oo 19 (.slice (some 1) (.t 15) none (some (.t 18))),
om 0 19])))))
def b146_0 : XC := c146_0
@[go_sem] theorem e146_0 (L : Lib) (cx : Cx) (env : Env) (h : Heap) : runC L cx b146_0 (env,h) = runC L cx c146_0 (env,h) := rfl
def x146 : XFn := { np := 1,isOpen := false,ns := 0,res := [.tmp 2],code :=
 (sr [0] [oo 2 (.mov (.c .nilSl))]
  (.seq (.blk 0
  (.loop b146_0))
  (.pre [0] (sr [2] [om 20 0,
om 2 20]
  (.pre [2] .ret))))) }
def x147 : XFn := { np := 2,isOpen := false,ns := 1,res := [.tmp 4],code :=
 (sr [2,3] [oo 2 (.boxR (.t 0)),
oo 3 (.boxR (.t 1)),
oo 4 (.mov (.c .nilSl))]
  (sr [4] [oo 5 (.load .one (.t 2)),
oo 6 (.len false (.t 5)),
oo 7 (.mkfn 176 [(.t 2),(.t 3)]),
oo 8 (.call (.c (.fn 150 [])) [(.t 6),(.c (.int .i64 0)),(.t 7)] []),
oo 9 (.call (.c (.fn 146 [])) [(.t 8)] [(0,0)]),
om 4 9]
  (.pre [4] .ret))) }
def x148 : XFn := { np := 3,isOpen := false,ns := 0,res := [.tmp 4],code :=
 (sr [0,1,2] [oo 4 (.mov (.c (.bool false)))]
  (.seq (.reg true [4] [] [⟨some 5,none,[.box 1],.load .one (.t 1)⟩,
om 6 0,
oo 7 (.bin .add (.t 6) (.c (.int .i64 1))),
⟨some 8,none,[.fn 5 [41,59,74,97,108,148,151,153,176,178,1147]],.call (.t 5) [(.t 7)] []⟩,
⟨some 9,none,[.box 2],.load .one (.t 2)⟩,
oo 10 (.call (.c (.fn 115 [])) [(.t 8),(.t 9)] []),
oo 11 (.bin .gtr (.t 10) (.c (.int .i64 0))),
om 4 11])
  (.pre [4] .ret))) }
@[go_sem] def c149_0 : XC := (.pre [1,5,6]
 (.seq (sr [1,5,6,11] [om 9 5,
om 10 6,
oo 11 (.bin .lss (.t 9) (.t 10))]
  (.cond (.t 11)
  .skip
  (.pre [5] (.exit 0))))
  (.pre [1,5,6] (.blk 1
  (sr [1,5,6,7] [om 12 5,
om 13 6,
oo 14 (.bin .add (.t 12) (.t 13)),
oo 15 (.conv .u64 (.t 14)),
oo 16 (.bin .shr (.t 15) (.c (.int .u64 1))),
oo 17 (.conv .i64 (.t 16)),
om 7 17]
  (sr [1,5,6,7,21] [om 18 1,
om 19 7,
oo 20 (.call (.t 18) [(.t 19)] []),
oo 21 (.un .not (.t 20))]
  (.cond (.t 21)
  (.reg false [1,5,6] [] [om 22 7,
oo 23 (.bin .add (.t 22) (.c (.int .i64 1))),
om 5 23])
  (.reg false [1,5,6] [] [om 24 7,
om 6 24]))))))))
def b149_0 : XC := c149_0
@[go_sem] theorem e149_0 (L : Lib) (cx : Cx) (env : Env) (h : Heap) : runC L cx b149_0 (env,h) = runC L cx c149_0 (env,h) := rfl
def x149 : XFn := { np := 2,isOpen := false,ns := 0,res := [.tmp 4],code :=
 (sr [0,1] [oo 4 (.mov (.c (.int .i64 0)))]
  (sr [1,5,6] [om 8 0,
oo 5 (.mov (.c (.int .i64 0))),
om 6 8]
  (.seq (.blk 0
  (.loop b149_0))
  (.pre [5] (sr [4] [om 25 5,
om 4 25]
  (.pre [4] .ret)))))) }
@[go_sem] def c150_0 : XC := (.pre [0,1,2,7,8]
 (.seq (sr [0,1,2,7,8,19] [om 13 8,
om 14 0,
oo 15 (.bin .lss (.t 13) (.t 14)),
om 16 15,
og 17 16 false (.mov (.t 1)),
og 18 16 false (.bin .neq (.t 17) (.c (.int .i64 0))),
oo 19 (.pick (.t 16) (.c (.bool true)) (.t 18))]
  (.cond (.t 19)
  .skip
  (.pre [7] (.exit 0))))
  (.pre [0,1,2,7,8] (.seq (.blk 1
  (sr [0,2,7,8,9] [om 22 2,
om 23 8,
oo 24 (.call (.t 22) [(.t 23)] []),
om 25 1,
oo 26 (.bin .add (.t 24) (.t 25)),
om 9 26]
  (sr [0,1,2,7,8,9] [oo 1 (.mov (.c (.int .i64 0)))]
  (.seq (sr [0,1,2,7,8,9,28] [om 27 9,
oo 28 (.bin .lss (.t 27) (.c (.int .i64 0)))]
  (.cond (.t 28)
  (sr [0,2,7,8,9] [om 29 9,
oo 30 (.bin .add (.t 29) (.c (.int .i64 10000))),
om 9 30]
  (.reg false [0,1,2,7,8,9] [] [oo 1 (.mov (.c (.int .i64 (-1))))]))
  (sr [0,1,2,7,8,9,32] [om 31 9,
oo 32 (.bin .geq (.t 31) (.c (.int .i64 10000)))]
  (.cond (.t 32)
  (sr [0,1,2,7,8,9] [om 33 9,
oo 34 (.bin .quo (.t 33) (.c (.int .i64 10000))),
om 1 34]
  (.reg false [0,1,2,7,8,9] [] [om 35 9,
oo 36 (.bin .rem (.t 35) (.c (.int .i64 10000))),
om 9 36]))
  .skip))))
  (.pre [0,1,2,7,8,9] (.reg false [0,1,2,7,8] [] [om 37 7,
om 38 9,
oo 39 (.bslice 1 (.int .i64 0) 1 [(0,(.t 38))]),
oo 40 (.app 0 1 17592186044416 (.t 37) (.t 39)),
om 7 40]))))))
  (.pre [0,1,2,7,8] (.reg false [0,1,2,7,8] [] [om 20 8,
oo 21 (.bin .add (.t 20) (.c (.int .i64 1))),
om 8 21]))))))
def b150_0 : XC := c150_0
@[go_sem] theorem e150_0 (L : Lib) (cx : Cx) (env : Env) (h : Heap) : runC L cx b150_0 (env,h) = runC L cx c150_0 (env,h) := rfl
def x150 : XFn := { np := 3,isOpen := false,ns := 2,res := [.tmp 6],code :=
 (sr [0,1,2] [oo 6 (.mov (.c .nilSl))]
  (sr [0,1,2,7] [om 10 0,
oo 11 (.bin .add (.t 10) (.c (.int .i64 1))),
oo 12 (.mk 1 1 (.int .i64 0) 17592186044416 (.c (.int .i64 0)) (.t 11)),
om 7 12]
  (.seq (sr [0,1,2,7,8] [oo 8 (.mov (.c (.int .i64 0)))]
  (.blk 0
  (.loop b150_0)))
  (.pre [7] (sr [6] [om 41 7,
om 6 41]
  (.pre [6] .ret)))))) }
def x151 : XFn := { np := 3,isOpen := false,ns := 0,res := [.tmp 4],code :=
 (sr [0,1,2] [oo 4 (.mov (.c (.int .i64 0)))]
  (.seq (.reg true [4] [] [⟨some 5,none,[.box 1],.load .one (.t 1)⟩,
om 6 0,
oo 7 (.call (.c (.fn 152 [])) [(.t 5),(.t 6)] []),
⟨some 8,none,[.box 2],.load .one (.t 2)⟩,
om 9 0,
oo 10 (.call (.c (.fn 152 [])) [(.t 8),(.t 9)] []),
oo 11 (.bin .add (.t 7) (.t 10)),
om 4 11])
  (.pre [4] .ret))) }
def x152 : XFn := { np := 2,isOpen := false,ns := 0,res := [.tmp 4],code :=
 (sr [0,1] [oo 4 (.mov (.c (.int .i64 0)))]
  (.seq (sr [0,1,8] [om 5 1,
om 6 0,
oo 7 (.len false (.t 6)),
oo 8 (.bin .lss (.t 5) (.t 7))]
  (.cond (.t 8)
  (sr [4] [om 9 0,
om 10 1,
oo 11 (.ixS 1 (.t 9) (.t 10)),
oo 12 (.load .one (.t 11)),
om 4 12]
  (.pre [4] .ret))
  .skip))
  (.pre [] (sr [4] [oo 4 (.mov (.c (.int .i64 0)))]
  (.pre [4] .ret))))) }
def x153 : XFn := { np := 3,isOpen := false,ns := 0,res := [.tmp 4],code :=
 (sr [0,1,2] [oo 4 (.mov (.c (.int .i64 0)))]
  (.seq (.reg true [4] [] [⟨some 5,none,[.box 1],.load .one (.t 1)⟩,
om 6 0,
oo 7 (.call (.c (.fn 152 [])) [(.t 5),(.t 6)] []),
⟨some 8,none,[.box 2],.load .one (.t 2)⟩,
om 9 0,
oo 10 (.call (.c (.fn 152 [])) [(.t 8),(.t 9)] []),
oo 11 (.bin .sub (.t 7) (.t 10)),
om 4 11])
  (.pre [4] .ret))) }
def x156 : XFn := { np := 2,isOpen := false,ns := 0,res := [.tmp 4],code :=
 (sr [0,1] [oo 4 (.mov (.c (.int .i64 0)))]
  (sr [0,1,5] [om 7 0,
oo 8 (.call (.c (.fn 178 [])) [(.t 7)] []),
om 5 8]
  (sr [0,1,5,6] [om 9 1,
oo 10 (.call (.c (.fn 178 [])) [(.t 9)] []),
om 6 10]
  (.seq (sr [0,1,6,11] [om 11 5]
  (.cond (.t 11)
  (.seq (sr [12] [om 12 6]
  (.cond (.t 12)
  (sr [4] [oo 4 (.mov (.c (.int .i64 0)))]
  (.pre [4] .ret))
  .skip))
  (.pre [] (sr [4] [oo 4 (.mov (.c (.int .i64 (-1))))]
  (.pre [4] .ret))))
  .skip))
  (.pre [0,1,6] (.seq (sr [0,1,13] [om 13 6]
  (.cond (.t 13)
  (sr [4] [oo 4 (.mov (.c (.int .i64 1)))]
  (.pre [4] .ret))
  .skip))
  (.pre [0,1] (.seq (sr [0,1,16] [om 14 0,
om 15 1,
oo 16 (.bin .lss (.t 14) (.t 15))]
  (.cond (.t 16)
  (sr [4] [oo 4 (.mov (.c (.int .i64 (-1))))]
  (.pre [4] .ret))
  .skip))
  (.pre [0,1] (.seq (sr [19] [om 17 0,
om 18 1,
oo 19 (.bin .gtr (.t 17) (.t 18))]
  (.cond (.t 19)
  (sr [4] [oo 4 (.mov (.c (.int .i64 1)))]
  (.pre [4] .ret))
  .skip))
  (.pre [] (sr [4] [oo 4 (.mov (.c (.int .i64 0)))]
  (.pre [4] .ret))))))))))))) }
def x157 : XFn := { np := 3,isOpen := false,ns := 2,res := [.cell 6 (.agg 2),.tmp 7],code :=
 (sr [0,4,5,6] [oo 4 (.boxR (.t 1)),
oo 5 (.boxR (.t 2)),
oo 6 (.alloc 1 [.str [],.str []]),
oo 7 (.mov (.c (.int .i64 0)))]
  (sr [0,4,5,6,8] [oo 10 (.build [.bool false] []),
oo 11 (.box 0 (.t 10)),
om 8 11]
  (sr [0,4,5,6,8] [om 12 8,
oo 13 (.load (.agg 2) (.t 4)),
oo 14 (.load (.agg 2) (.t 5)),
oo 15 (.bslice 2 (.agg [.str [],.str []]) 2 [(0,(.t 13)),(1,(.t 14))]),
oo 16 (.call (.c (.fn 122 [])) [(.t 12),(.t 15)] [])]
  (.seq (.reg true [4,5,6,8,9] [] [om 17 8,
om 18 0,
om 19 8,
oo 20 (.padd (.t 4) 0),
⟨some 21,none,[.closed 20],.load .one (.t 20)⟩,
oo 22 (.padd (.t 5) 1),
⟨some 23,none,[.closed 22],.load .one (.t 22)⟩,
oo 24 (.call (.c (.fn 124 [])) [(.t 19),(.t 21),(.t 23)] []),
om 25 8,
oo 26 (.padd (.t 5) 0),
⟨some 27,none,[.closed 26],.load .one (.t 26)⟩,
oo 28 (.padd (.t 4) 1),
⟨some 29,none,[.closed 28],.load .one (.t 28)⟩,
oo 30 (.call (.c (.fn 124 [])) [(.t 25),(.t 27),(.t 29)] []),
oo 31 (.call (.c (.fn 125 [])) [(.t 17),(.t 18),(.t 24),(.t 30)] []),
om 9 31])
  (sr [6,7] [om 32 8,
om 33 9,
om 34 8,
oo 35 (.padd (.t 4) 1),
oo 36 (.load .one (.t 35)),
oo 37 (.padd (.t 5) 1),
oo 38 (.load .one (.t 37)),
oo 39 (.call (.c (.fn 124 [])) [(.t 34),(.t 36),(.t 38)] []),
oo 40 (.call (.c (.fn 103 [])) [(.t 32),(.t 33),(.t 39)] []),
oo 41 (.ext (.t 40) 0),
oo 42 (.ext (.t 40) 1),
⟨none,none,[],.store 2 (.t 6) (.t 41)⟩,
om 7 42]
  (.pre [6,7] .ret)))))) }
def x161 : XFn := { np := 2,isOpen := false,ns := 2,res := [.tmp 4,.tmp 5],code :=
 (sr [0,1] [oo 4 (.mov (.c (.str []))),
oo 5 (.mov (.c (.int .i64 0)))]
  (sr [6,7,8] [om 10 0,
om 11 1,
oo 12 (.call (.c (.fn 109 [])) [(.t 10),(.t 11)] []),
om 9 12,
oo 13 (.ext (.t 9) 0),
oo 14 (.ext (.t 9) 1),
oo 15 (.ext (.t 9) 2),
oo 6 (.alloc 0 [.bool false,.nilSl]),
oo 7 (.alloc 1 [.bool false,.nilSl]),
⟨none,none,[],.store 2 (.t 6) (.t 13)⟩,
⟨none,none,[],.store 2 (.t 7) (.t 14)⟩,
om 8 15]
  (.seq (sr [6,7,17] [om 16 8,
oo 17 (.un .not (.t 16))]
  (.cond (.t 17)
  (sr [4,5] [oo 4 (.mov (.c (.str []))),
oo 5 (.mov (.c (.int .i64 30)))]
  (.pre [4,5] .ret))
  .skip))
  (.pre [6,7] (.seq (.reg true [4,5] [] [oo 18 (.padd (.t 6) 0),
⟨some 19,none,[.box 18],.load .one (.t 18)⟩,
oo 20 (.padd (.t 7) 0),
⟨some 21,none,[.box 20],.load .one (.t 20)⟩,
oo 22 (.eqv true [] (.t 19) (.t 21)),
oo 23 (.padd (.t 6) 1),
⟨some 24,none,[.box 23],.load .one (.t 23)⟩,
oo 25 (.padd (.t 7) 1),
⟨some 26,none,[.box 25],.load .one (.t 25)⟩,
oo 27 (.call (.c (.fn 181 [])) [(.t 24),(.t 26)] []),
oo 28 (.build [.bool false,.nilSl] [(0,1,(.t 22)),(1,1,(.t 27))]),
oo 29 (.call (.c (.fn 114 [])) [(.t 28)] []),
oo 30 (.ext (.t 29) 0),
oo 31 (.ext (.t 29) 1),
om 4 30,
om 5 31])
  (.pre [4,5] .ret)))))) }
def x162 : XFn := { np := 2,isOpen := false,ns := 1,res := [.cell 4 (.agg 2)],code :=
 (sr [2,3,4] [oo 2 (.boxR (.t 0)),
oo 3 (.boxR (.t 1)),
oo 4 (.alloc 0 [.bool false,.nilSl])]
  (.seq (.blk 0
  (sr [2,3,4,5] [oo 6 (.padd (.t 2) 0),
oo 7 (.load .one (.t 6)),
oo 8 (.padd (.t 3) 0),
oo 9 (.load .one (.t 8)),
oo 10 (.eqv false [] (.t 7) (.t 9)),
om 5 10]
  (.cond (.t 5)
  (.seq (.reg true [4] [] [oo 11 (.padd (.t 2) 0),
⟨some 12,none,[.box 11],.load .one (.t 11)⟩,
oo 13 (.padd (.t 2) 1),
⟨some 14,none,[.box 13],.load .one (.t 13)⟩,
oo 15 (.padd (.t 3) 1),
⟨some 16,none,[.box 15],.load .one (.t 15)⟩,
oo 17 (.call (.c (.fn 111 [])) [(.t 14),(.t 16)] []),
oo 18 (.build [.bool false,.nilSl] [(0,1,(.t 12)),(1,1,(.t 17))]),
⟨none,none,[.box 4],.store 2 (.t 4) (.t 18)⟩])
  (.pre [4] .ret))
  (sr [2,3,4,19] [oo 20 (.padd (.t 2) 1),
oo 21 (.load .one (.t 20)),
oo 22 (.padd (.t 3) 1),
oo 23 (.load .one (.t 22)),
oo 24 (.call (.c (.fn 115 [])) [(.t 21),(.t 23)] []),
oo 25 (.bin .geq (.t 24) (.c (.int .i64 0))),
om 19 25]
  (.cond (.t 19)
  (.seq (.reg true [4] [] [oo 26 (.padd (.t 2) 0),
⟨some 27,none,[.box 26],.load .one (.t 26)⟩,
oo 28 (.padd (.t 2) 1),
⟨some 29,none,[.box 28],.load .one (.t 28)⟩,
oo 30 (.padd (.t 3) 1),
⟨some 31,none,[.box 30],.load .one (.t 30)⟩,
oo 32 (.call (.c (.fn 113 [])) [(.t 29),(.t 31)] []),
oo 33 (.build [.bool false,.nilSl] [(0,1,(.t 27)),(1,1,(.t 32))]),
⟨none,none,[.box 4],.store 2 (.t 4) (.t 33)⟩])
  (.pre [4] .ret))
  .skip)))))
  (.pre [2,3,4] (.seq (.reg true [4] [] [oo 34 (.padd (.t 3) 0),
⟨some 35,none,[.box 34],.load .one (.t 34)⟩,
oo 36 (.padd (.t 3) 1),
⟨some 37,none,[.box 36],.load .one (.t 36)⟩,
oo 38 (.padd (.t 2) 1),
⟨some 39,none,[.box 38],.load .one (.t 38)⟩,
oo 40 (.call (.c (.fn 113 [])) [(.t 37),(.t 39)] []),
oo 41 (.build [.bool false,.nilSl] [(0,1,(.t 35)),(1,1,(.t 40))]),
⟨none,none,[.box 4],.store 2 (.t 4) (.t 41)⟩])
  (.pre [4] .ret))))) }
def x165 : XFn := { np := 2,isOpen := false,ns := 0,res := [.tmp 4,.tmp 5],code :=
 (sr [0,1] [oo 4 (.mov (.c (.str []))),
oo 5 (.mov (.c (.int .i64 0)))]
  (sr [6,8] [om 10 0,
om 11 1,
oo 12 (.call (.c (.fn 81 [])) [(.t 10),(.t 11)] []),
om 9 12,
oo 13 (.ext (.t 9) 0),
oo 14 (.ext (.t 9) 1),
oo 15 (.ext (.t 9) 2),
om 6 13,
om 7 14,
om 8 15]
  (sr [4,5] [om 16 6,
om 17 8,
om 4 16,
om 5 17]
  (.pre [4,5] .ret)))) }
@[go_sem] def c167_0 : XC := (.pre [0,4,5,6]
 (.seq (sr [0,4,5,6,21] [om 16 6,
oo 17 (.bin .geq (.t 16) (.c (.int .i64 0))),
om 18 17,
og 19 18 true (.mov (.t 0)),
og 20 18 true (.bin .neq (.t 19) (.c (.str [48]))),
oo 21 (.pick (.t 18) (.t 20) (.c (.bool false)))]
  (.cond (.t 21)
  .skip
  (.pre [4,5] (.exit 0))))
  (.pre [0,4,5,6] (.seq (.blk 1
  (.reg false [0,4,5,6] [] [om 24 5,
om 25 0,
om 26 6,
oo 27 (.ixStr (.t 25) (.t 26)),
oo 28 (.bin .sub (.t 27) (.c (.int .u8 48))),
oo 29 (.conv .i64 (.t 28)),
oo 30 (.bslice 1 (.int .i64 0) 1 [(0,(.t 29))]),
oo 31 (.app 0 1 17592186044416 (.t 24) (.t 30)),
om 5 31]))
  (.pre [0,4,5,6] (.reg false [0,4,5,6] [] [om 22 6,
oo 23 (.bin .sub (.t 22) (.c (.int .i64 1))),
om 6 23]))))))
def b167_0 : XC := c167_0
def x167 : XFn := { np := 1,isOpen := false,ns := 1,res := [.tmp 2,.tmp 3],code :=
 (sr [0] [oo 2 (.mov (.c (.bool false))),
oo 3 (.mov (.c .nilSl))]
  (sr [0,4] [om 7 0,
oo 8 (.ixStr (.t 7) (.c (.int .i64 0))),
oo 9 (.bin .eql (.t 8) (.c (.int .u8 45))),
om 4 9]
  (.seq (sr [0,4,10] [om 10 4]
  (.cond (.t 10)
  (.reg false [0,4] [] [om 11 0,
oo 12 (.slice none (.t 11) (some (.c (.int .i64 1))) none),
om 0 12])
  .skip))
  (.pre [0,4] (sr [0,4,5] [oo 5 (.mov (.c .nilSl))]
  (.seq (sr [0,4,5,6] [om 13 0,
oo 14 (.len true (.t 13)),
oo 15 (.bin .sub (.t 14) (.c (.int .i64 1))),
om 6 15]
  (.blk 0
  (.loop b167_0)))
  (.pre [4,5] (sr [2,3] [om 32 4,
om 33 5,
om 2 32,
om 3 33]
  (.pre [2,3] .ret))))))))) }
@[go_sem] def c168_0 : XC := (.pre [0,1,5]
 (.seq (sr [0,1,5,20] [om 19 5,
oo 20 (.bin .geq (.t 19) (.c (.int .i64 0)))]
  (.cond (.t 20)
  .skip
  (.pre [] (.exit 0))))
  (.pre [0,1,5] (.seq (.blk 1
  (.seq (.reg true [0,1,5,31] [] [om 23 0,
om 24 5,
oo 25 (.ixS 1 (.t 23) (.t 24)),
⟨some 26,none,[.elem 25],.load .one (.t 25)⟩,
om 27 1,
om 28 5,
oo 29 (.ixS 1 (.t 27) (.t 28)),
⟨some 30,none,[.elem 29],.load .one (.t 29)⟩,
oo 31 (.bin .neq (.t 26) (.t 30))])
  (.cond (.t 31)
  (.seq (.seq (.reg true [40] [] [om 32 0,
om 33 5,
oo 34 (.ixS 1 (.t 32) (.t 33)),
⟨some 35,none,[.elem 34],.load .one (.t 34)⟩,
om 36 1,
om 37 5,
oo 38 (.ixS 1 (.t 36) (.t 37)),
⟨some 39,none,[.elem 38],.load .one (.t 38)⟩,
oo 40 (.bin .lss (.t 35) (.t 39))])
  (.cond (.t 40)
  (sr [4] [oo 4 (.mov (.c (.int .i64 (-1))))]
  (.pre [4] .ret))
  .skip))
  (.pre [] (sr [4] [oo 4 (.mov (.c (.int .i64 1)))]
  (.pre [4] .ret))))
  .skip)))
  (.pre [0,1,5] (.reg false [0,1,5] [] [om 21 5,
oo 22 (.bin .sub (.t 21) (.c (.int .i64 1))),
om 5 22]))))))
def b168_0 : XC := c168_0
def x168 : XFn := { np := 2,isOpen := false,ns := 0,res := [.tmp 4],code :=
 (sr [0,1] [oo 4 (.mov (.c (.int .i64 0)))]
  (.seq (sr [0,1,10] [om 6 0,
oo 7 (.len false (.t 6)),
om 8 1,
oo 9 (.len false (.t 8)),
oo 10 (.bin .neq (.t 7) (.t 9))]
  (.cond (.t 10)
  (.seq (sr [15] [om 11 0,
oo 12 (.len false (.t 11)),
om 13 1,
oo 14 (.len false (.t 13)),
oo 15 (.bin .lss (.t 12) (.t 14))]
  (.cond (.t 15)
  (sr [4] [oo 4 (.mov (.c (.int .i64 (-1))))]
  (.pre [4] .ret))
  .skip))
  (.pre [] (sr [4] [oo 4 (.mov (.c (.int .i64 1)))]
  (.pre [4] .ret))))
  .skip))
  (.pre [0,1] (.seq (sr [0,1,5] [om 16 0,
oo 17 (.len false (.t 16)),
oo 18 (.bin .sub (.t 17) (.c (.int .i64 1))),
om 5 18]
  (.blk 0
  (.loop b168_0)))
  (.pre [] (sr [4] [oo 4 (.mov (.c (.int .i64 0)))]
  (.pre [4] .ret))))))) }
def x169 : XFn := { np := 4,isOpen := false,ns := 0,res := [.tmp 8,.tmp 9],code :=
 (sr [0,1,2,3] [oo 8 (.mov (.c (.str []))),
oo 9 (.mov (.c (.int .i64 0)))]
  (sr [0,1,2,3,10] [om 12 0,
om 10 12]
  (sr [0,1,2,3,10] [oo 11 (.mov (.c .nilSl))]
  (.seq (sr [1,2,3,10,15] [om 13 0,
om 14 2,
oo 15 (.eqv false [] (.t 13) (.t 14))]
  (.cond (.t 15)
  (.reg false [10,11] [] [om 16 1,
om 17 3,
oo 18 (.call (.c (.fn 172 [])) [(.t 16),(.t 17)] []),
om 11 18])
  (sr [1,2,3,10,22] [om 19 1,
om 20 3,
oo 21 (.call (.c (.fn 168 [])) [(.t 19),(.t 20)] []),
oo 22 (.bin .geq (.t 21) (.c (.int .i64 0)))]
  (.cond (.t 22)
  (.reg false [10,11] [] [om 23 1,
om 24 3,
oo 25 (.call (.c (.fn 173 [])) [(.t 23),(.t 24)] []),
om 11 25])
  (sr [1,3,10] [om 26 2,
om 10 26]
  (.reg false [10,11] [] [om 27 3,
om 28 1,
oo 29 (.call (.c (.fn 173 [])) [(.t 27),(.t 28)] []),
om 11 29]))))))
  (.pre [10,11] (sr [8,9] [om 30 10,
om 31 11,
oo 32 (.call (.c (.fn 171 [])) [(.t 30),(.t 31)] []),
oo 33 (.ext (.t 32) 0),
oo 34 (.ext (.t 32) 1),
om 8 33,
om 9 34]
  (.pre [8,9] .ret))))))) }
@[go_sem] def c170_1 : XC := (.pre [0,1,6,7,8]
 (.seq (sr [0,1,6,7,8,30] [om 27 7,
om 28 1,
oo 29 (.call (.c (.fn 168 [])) [(.t 27),(.t 28)] []),
oo 30 (.bin .geq (.t 29) (.c (.int .i64 0)))]
  (.cond (.t 30)
  .skip
  (.pre [0,1,6,7,8] (.exit 2))))
  (.pre [0,1,6,7,8] (.blk 3
  (sr [0,1,6,7,8] [om 31 7,
om 32 1,
oo 33 (.call (.c (.fn 173 [])) [(.t 31),(.t 32)] []),
om 7 33]
  (.reg false [0,1,6,7,8] [] [om 34 6,
om 35 8,
oo 36 (.ixS 1 (.t 34) (.t 35)),
oo 37 (.load .one (.t 36)),
oo 38 (.bin .add (.t 37) (.c (.int .i64 1))),
oo 39 (.ixS 1 (.t 34) (.t 35)),
⟨none,none,[],.store 1 (.t 39) (.t 38)⟩]))))))
def b170_1 : XC := c170_1
@[go_sem] def c170_0 : XC := (.pre [0,1,6,7,8]
 (.seq (sr [0,1,6,7,8,16] [om 15 8,
oo 16 (.bin .geq (.t 15) (.c (.int .i64 0)))]
  (.cond (.t 16)
  .skip
  (.pre [6,7] (.exit 0))))
  (.pre [0,1,6,7,8] (.seq (.blk 1
  (sr [0,1,6,7,8] [om 19 0,
om 20 8,
oo 21 (.ixS 1 (.t 19) (.t 20)),
oo 22 (.load .one (.t 21)),
oo 23 (.bslice 1 (.int .i64 0) 1 [(0,(.t 22))]),
om 24 7,
oo 25 (.app 1002 1 17592186044416 (.t 23) (.t 24)),
oo 26 (.call (.c (.fn 194 [])) [(.t 25)] []),
om 7 26]
  (.blk 2
  (.loop b170_1))))
  (.pre [0,1,6,7,8] (.reg false [0,1,6,7,8] [] [om 17 8,
oo 18 (.bin .sub (.t 17) (.c (.int .i64 1))),
om 8 18]))))))
def b170_0 : XC := c170_0
def x170 : XFn := { np := 2,isOpen := false,ns := 5,res := [.tmp 4,.tmp 5],code :=
 (sr [0,1] [oo 4 (.mov (.c .nilSl)),
oo 5 (.mov (.c .nilSl))]
  (sr [0,1,6] [om 9 0,
oo 10 (.len false (.t 9)),
oo 11 (.mk 4 1 (.int .i64 0) 17592186044416 (.t 10) (.t 10)),
om 6 11]
  (sr [0,1,6,7] [oo 7 (.mov (.c .nilSl))]
  (.seq (sr [0,1,6,7,8] [om 12 0,
oo 13 (.len false (.t 12)),
oo 14 (.bin .sub (.t 13) (.c (.int .i64 1))),
om 8 14]
  (.blk 0
  (.loop b170_0)))
  (.pre [6,7] (sr [4,5] [om 40 6,
oo 41 (.call (.c (.fn 194 [])) [(.t 40)] []),
om 42 7,
om 4 41,
om 5 42]
  (.pre [4,5] .ret))))))) }
def x171 : XFn := { np := 2,isOpen := false,ns := 0,res := [.tmp 4,.tmp 5],code :=
 (sr [0,1] [oo 4 (.mov (.c (.str []))),
oo 5 (.mov (.c (.int .i64 0)))]
  (sr [6,7] [om 9 0,
om 10 1,
oo 11 (.call (.c (.fn 143 [])) [(.t 9),(.t 10)] []),
om 8 11,
oo 12 (.ext (.t 8) 0),
oo 13 (.ext (.t 8) 1),
om 6 12,
om 7 13]
  (.seq (sr [6,15] [om 14 7,
oo 15 (.un .not (.t 14))]
  (.cond (.t 15)
  (sr [4,5] [oo 4 (.mov (.c (.str []))),
oo 5 (.mov (.c (.int .i64 30)))]
  (.pre [4,5] .ret))
  .skip))
  (.pre [6] (sr [4,5] [om 16 6,
om 4 16,
oo 5 (.mov (.c (.int .i64 0)))]
  (.pre [4,5] .ret)))))) }
@[go_sem] def c172_0 : XC := (.pre [0,1,5,6,7]
 (.seq (sr [0,1,5,6,7,22] [om 9 7,
om 10 0,
oo 11 (.len false (.t 10)),
oo 12 (.bin .lss (.t 9) (.t 11)),
om 13 12,
og 14 13 false (.mov (.t 7)),
og 15 13 false (.mov (.t 1)),
og 16 13 false (.len false (.t 15)),
og 17 13 false (.bin .lss (.t 14) (.t 16)),
oo 18 (.pick (.t 13) (.c (.bool true)) (.t 17)),
om 19 18,
og 20 19 false (.mov (.t 6)),
og 21 19 false (.bin .gtr (.t 20) (.c (.int .i64 0))),
oo 22 (.pick (.t 19) (.c (.bool true)) (.t 21))]
  (.cond (.t 22)
  .skip
  (.pre [5] (.exit 0))))
  (.pre [0,1,5,6,7] (.seq (.blk 1
  (sr [0,1,5,7,8] [om 25 6,
om 8 25]
  (.seq (sr [0,1,5,7,8,29] [om 26 7,
om 27 0,
oo 28 (.len false (.t 27)),
oo 29 (.bin .lss (.t 26) (.t 28))]
  (.cond (.t 29)
  (.reg false [0,1,5,7,8] [] [om 30 8,
om 31 0,
om 32 7,
oo 33 (.ixS 1 (.t 31) (.t 32)),
oo 34 (.load .one (.t 33)),
oo 35 (.bin .add (.t 30) (.t 34)),
om 8 35])
  .skip))
  (.pre [0,1,5,7,8] (.seq (sr [0,1,5,7,8,39] [om 36 7,
om 37 1,
oo 38 (.len false (.t 37)),
oo 39 (.bin .lss (.t 36) (.t 38))]
  (.cond (.t 39)
  (.reg false [0,1,5,7,8] [] [om 40 8,
om 41 1,
om 42 7,
oo 43 (.ixS 1 (.t 41) (.t 42)),
oo 44 (.load .one (.t 43)),
oo 45 (.bin .add (.t 40) (.t 44)),
om 8 45])
  .skip))
  (.pre [0,1,5,7,8] (sr [0,1,5,7,8] [om 46 5,
om 47 8,
oo 48 (.bin .rem (.t 47) (.c (.int .i64 10))),
oo 49 (.bslice 1 (.int .i64 0) 1 [(0,(.t 48))]),
oo 50 (.app 0 1 17592186044416 (.t 46) (.t 49)),
om 5 50]
  (.reg false [0,1,5,6,7] [] [om 51 8,
oo 52 (.bin .quo (.t 51) (.c (.int .i64 10))),
om 6 52]))))))))
  (.pre [0,1,5,6,7] (.reg false [0,1,5,6,7] [] [om 23 7,
oo 24 (.bin .add (.t 23) (.c (.int .i64 1))),
om 7 24]))))))
def b172_0 : XC := c172_0
def x172 : XFn := { np := 2,isOpen := false,ns := 1,res := [.tmp 4],code :=
 (sr [0,1] [oo 4 (.mov (.c .nilSl))]
  (sr [0,1,5] [oo 5 (.mov (.c .nilSl))]
  (sr [0,1,5,6] [oo 6 (.mov (.c (.int .i64 0)))]
  (.seq (sr [0,1,5,6,7] [oo 7 (.mov (.c (.int .i64 0)))]
  (.blk 0
  (.loop b172_0)))
  (.pre [5] (sr [4] [om 53 5,
om 4 53]
  (.pre [4] .ret))))))) }
@[go_sem] def c173_0 : XC := (.pre [0,1,5,6,7]
 (.seq (sr [0,1,5,6,7,12] [om 9 7,
om 10 0,
oo 11 (.len false (.t 10)),
oo 12 (.bin .lss (.t 9) (.t 11))]
  (.cond (.t 12)
  .skip
  (.pre [5] (.exit 0))))
  (.pre [0,1,5,6,7] (.seq (.blk 1
  (sr [0,1,5,7,8] [om 15 0,
om 16 7,
oo 17 (.ixS 1 (.t 15) (.t 16)),
oo 18 (.load .one (.t 17)),
om 19 6,
oo 20 (.bin .sub (.t 18) (.t 19)),
om 8 20]
  (.seq (sr [0,1,5,7,8,24] [om 21 7,
om 22 1,
oo 23 (.len false (.t 22)),
oo 24 (.bin .lss (.t 21) (.t 23))]
  (.cond (.t 24)
  (.reg false [0,1,5,7,8] [] [om 25 8,
om 26 1,
om 27 7,
oo 28 (.ixS 1 (.t 26) (.t 27)),
oo 29 (.load .one (.t 28)),
oo 30 (.bin .sub (.t 25) (.t 29)),
om 8 30])
  .skip))
  (.pre [0,1,5,7,8] (sr [0,1,5,6,7,8] [oo 6 (.mov (.c (.int .i64 0)))]
  (.seq (sr [0,1,5,6,7,8,32] [om 31 8,
oo 32 (.bin .lss (.t 31) (.c (.int .i64 0)))]
  (.cond (.t 32)
  (sr [0,1,5,7,8] [om 33 8,
oo 34 (.bin .add (.t 33) (.c (.int .i64 10))),
om 8 34]
  (.reg false [0,1,5,6,7,8] [] [oo 6 (.mov (.c (.int .i64 1)))]))
  .skip))
  (.pre [0,1,5,6,7,8] (.reg false [0,1,5,6,7] [] [om 35 5,
om 36 8,
oo 37 (.bslice 1 (.int .i64 0) 1 [(0,(.t 36))]),
oo 38 (.app 1 1 17592186044416 (.t 35) (.t 37)),
om 5 38]))))))))
  (.pre [0,1,5,6,7] (.reg false [0,1,5,6,7] [] [om 13 7,
oo 14 (.bin .add (.t 13) (.c (.int .i64 1))),
om 7 14]))))))
def b173_0 : XC := c173_0
def x173 : XFn := { np := 2,isOpen := false,ns := 2,res := [.tmp 4],code :=
 (sr [0,1] [oo 4 (.mov (.c .nilSl))]
  (sr [0,1,5] [oo 5 (.mov (.c .nilSl))]
  (sr [0,1,5,6] [oo 6 (.mov (.c (.int .i64 0)))]
  (.seq (sr [0,1,5,6,7] [oo 7 (.mov (.c (.int .i64 0)))]
  (.blk 0
  (.loop b173_0)))
  (.pre [5] (sr [4] [om 39 5,
oo 40 (.call (.c (.fn 194 [])) [(.t 39)] []),
om 4 40]
  (.pre [4] .ret))))))) }
@[go_sem] def c175_0 : XC := (.pre [0,1,3]
 (.seq (sr [0,1,3,8] [om 7 3,
oo 8 (.bin .geq (.t 7) (.c (.int .i64 0)))]
  (.cond (.t 8)
  .skip
  (.pre [] (.exit 0))))
  (.pre [0,1,3] (.seq (.blk 1
  (sr [0,1,3,18] [om 11 0,
om 12 3,
oo 13 (.load .one (.t 1)),
om 14 3,
oo 15 (.ixS 1 (.t 13) (.t 14)),
oo 16 (.load .one (.t 15)),
oo 17 (.call (.t 11) [(.t 12),(.t 16)] []),
oo 18 (.un .not (.t 17))]
  (.cond (.t 18)
  (.pre [] .ret)
  .skip)))
  (.pre [0,1,3] (.reg false [0,1,3] [] [om 9 3,
oo 10 (.bin .sub (.t 9) (.c (.int .i64 1))),
om 3 10]))))))
def b175_0 : XC := c175_0
@[go_sem] theorem e175_0 (L : Lib) (cx : Cx) (env : Env) (h : Heap) : runC L cx b175_0 (env,h) = runC L cx c175_0 (env,h) := rfl
def x175 : XFn := { np := 2,isOpen := true,ns := 0,res := [],code :=
 (sr [0,1,3] [oo 4 (.load .one (.t 1)),
oo 5 (.len false (.t 4)),
oo 6 (.bin .sub (.t 5) (.c (.int .i64 1))),
om 3 6]
  (.blk 0
  (.loop b175_0))) }
def x176 : XFn := { np := 3,isOpen := false,ns := 0,res := [.tmp 4],code :=
 (sr [0,1,2] [oo 4 (.mov (.c (.int .i64 0)))]
  (.seq (.reg true [4] [] [⟨some 5,none,[.box 1],.load .one (.t 1)⟩,
om 6 0,
oo 7 (.call (.c (.fn 152 [])) [(.t 5),(.t 6)] []),
⟨some 8,none,[.box 2],.load .one (.t 2)⟩,
oo 9 (.bin .mul (.t 7) (.t 8)),
om 4 9])
  (.pre [4] .ret))) }
def x178 : XFn := { np := 1,isOpen := false,ns := 0,res := [.tmp 2],code :=
 (sr [0] [oo 2 (.mov (.c (.bool false)))]
  (sr [2] [om 3 0,
om 4 0,
oo 5 (.bin .neq (.t 3) (.t 4)),
om 2 5]
  (.pre [2] .ret))) }
def r10 : XRnd := { ps := [10,11],asg := (.reg false [2,5,7] [] [om 7 11]),body :=
 (.blk 1
  (.seq (sr [2,5,7,14] [oo 12 (.load .one (.t 5)),
oo 13 (.len false (.t 12)),
oo 14 (.bin .gtr (.t 13) (.c (.int .i64 0)))]
  (.cond (.t 14)
  (.reg false [2,5,7] [] [oo 15 (.bslice 1 (.int .i64 0) 1 [(0,(.c (.int .i64 0)))]),
oo 16 (.load .one (.t 5)),
oo 17 (.app 1001 1 17592186044416 (.t 15) (.t 16)),
⟨none,none,[],.store 1 (.t 5) (.t 17)⟩])
  .skip))
  (.pre [2,5,7] (.reg true [] [] [⟨some 18,none,[.box 5],.load .one (.t 5)⟩,
⟨some 19,none,[.box 2],.load .one (.t 2)⟩,
om 20 7,
oo 21 (.call (.c (.fn 147 [])) [(.t 19),(.t 20)] []),
oo 22 (.call (.c (.fn 111 [])) [(.t 18),(.t 21)] []),
⟨none,none,[.box 5],.store 1 (.t 5) (.t 22)⟩])))) }
def x181 : XFn := { np := 2,isOpen := false,ns := 3,res := [.tmp 4],code :=
 (sr [1,2,4] [oo 2 (.boxR (.t 0)),
oo 4 (.mov (.c .nilSl))]
  (sr [1,2,4,5] [oo 5 (.alloc 2 [.nilSl])]
  (.seq (sr [2,4,5,9] [om 8 1,
oo 9 (.call (.c (.fn 145 [])) [(.t 8)] [])]
  (.blk 0
  (.rfn 0 (.t 9) 10)))
  (.pre [5] (sr [4] [oo 23 (.load .one (.t 5)),
om 4 23]
  (.pre [4] .ret)))))) }
@[go_sem] def c194_0 : XC := (.pre [0]
 (.seq (sr [0,14] [om 3 0,
oo 4 (.len false (.t 3)),
oo 5 (.bin .gtr (.t 4) (.c (.int .i64 0))),
om 6 5,
og 7 6 true (.mov (.t 0)),
og 8 6 true (.mov (.t 0)),
og 9 6 true (.len false (.t 8)),
og 10 6 true (.bin .sub (.t 9) (.c (.int .i64 1))),
og 11 6 true (.ixS 1 (.t 7) (.t 10)),
og 12 6 true (.load .one (.t 11)),
og 13 6 true (.bin .eql (.t 12) (.c (.int .i64 0))),
oo 14 (.pick (.t 6) (.t 13) (.c (.bool false)))]
  (.cond (.t 14)
  .skip
  (.pre [0] (.exit 0))))
  (.pre [0] (.blk 1
  (.reg false [0] [] [om 15 0,
om 16 0,
oo 17 (.len false (.t 16)),
oo 18 (.bin .sub (.t 17) (.c (.int .i64 1))),
oo 19 (.slice (some 1) (.t 15) none (some (.t 18))),
om 0 19])))))
def b194_0 : XC := c194_0
def x194 : XFn := { np := 1,isOpen := false,ns := 0,res := [.tmp 2],code :=
 (sr [0] [oo 2 (.mov (.c .nilSl))]
  (.seq (.blk 0
  (.loop b194_0))
  (.pre [0] (sr [2] [om 20 0,
om 2 20]
  (.pre [2] .ret))))) }
def rdT : List (Option XRnd) := [some r0,some r1,some r2,some r3,some r4,some r5,some r6,some r7,some r8,some r9,some r10]
def rds (g : Nat) : Option XRnd := (rdT[g]?).getD none
def fnT : List (Option XFn) := [none,none,none,none,none,some x5,none,none,some x8,none,none,some x11,none,none,some x14,none,some x16,some x17,some x18,none,some x20,none,some x22,some x23,some x24,some x25,some x26,none,some x28,some x29,none,some x31,some x32,some x33,some x34,some x35,some x36,none,none,some x39,none,some x41,some x42,none,none,some x45,none,none,some x48,some x49,some x50,some x51,some x52,some x53,some x54,some x55,some x56,some x57,some x58,some x59,some x60,none,none,none,some x64,some x65,some x66,none,none,none,none,none,none,some x73,some x74,none,none,none,some x78,none,some x80,some x81,some x82,none,none,none,none,none,some x88,some x89,some x90,some x91,some x92,some x93,some x94,some x95,some x96,some x97,none,some x99,none,none,some x102,some x103,none,some x105,none,some x107,some x108,some x109,some x110,some x111,some x112,some x113,some x114,some x115,some x116,none,some x118,some x119,some x120,some x121,some x122,none,some x124,some x125,some x126,none,none,some x129,some x130,some x131,some x132,some x133,some x134,some x135,some x136,none,some x138,some x139,some x140,some x141,some x142,some x143,some x144,some x145,some x146,some x147,some x148,some x149,some x150,some x151,some x152,some x153,none,none,some x156,some x157,none,none,none,some x161,some x162,none,none,some x165,none,some x167,some x168,some x169,some x170,some x171,some x172,some x173,none,some x175,some x176,none,some x178,none,none,some x181,none,none,none,none,none,none,none,none,none,none,none,none,some x194]
def fns (f : Nat) : Option XFn := (fnT[f]?).getD none
def clo (f : Nat) : Bool := [3,4,5,6,7,8,9,10,11,12,13,14,15,16,17,18,19,20,21,22,23,24,25,26,27,28,29,30,31,32,33,34,35,36,37,38,39,40,41,42,43,44,45,46,47,48,49,50,51,52,53,54,55,56,57,58,59,60,61,62,63,64,65,66,67,68,70,71,72,73,74,76,77,78,79,80,81,82,84,85,86,87,88,90,91,92,93,94,95,97,98,102,105,106,107,108,109,110,111,112,113,114,115,116,117,119,120,121,126,129,130,131,133,134,135,138,139,140,141,142,143,144,145,146,147,148,149,150,151,152,153,156,157,161,162,165,167,168,169,170,171,172,173,176,178,181,194,5096,5118,104,123,163,164,174].contains f
def kinds (f : Nat) : Option OK := match f with | 104 => some .itoa | 123 => some .repeat_ | 163 => some .trimPrefix | 164 => some .trim | 174 => some (.atoi 243) | _ => none
def lib : Lib := { fns := fns,rds := rds,orc := orcT kinds,brw := fun f => ([58] : List Nat).contains f }
end Go.VI.Dump
