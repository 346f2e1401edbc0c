/- the functions of loud for the own evaluator -/
import Derived.Test.YtclgoccpkgikkaaGreatDoorVSO
set_option linter.unusedVariables false
set_option linter.unusedSimpArgs false
namespace Go.VI.Loud
@[go_sem] abbrev oo (d : Nat) (x : XI) : XOp := ⟨some d, none, [], x⟩
@[go_sem] abbrev om (d s : Nat) : XOp := ⟨some d, none, [], .mov (.t s)⟩
@[go_sem] abbrev og (d g : Nat) (b : Bool) (x : XI) : XOp := ⟨some d, some (g, b), [], x⟩
@[go_sem] abbrev sr (k : List Nat) (o : List XOp) (r : XC) : XC := .seq (.reg false k [] o) r
def g0 : List AV := [(.int .i64 0), (.int .i64 128), (.int .i64 0), (.int .i64 0), (.int .i64 (-9)), (.int .i64 111), (.int .i64 29), (.int .i64 (-3)), (.int .i64 (-8)), (.int .i64 72), (.int .i64 72), (.int .i64 (-8)), (.int .i64 (-3)), (.int .i64 29), (.int .i64 111), (.int .i64 (-9))]
def g1 : List AV := [(.int .u64 1), (.int .u64 10), (.int .u64 100), (.int .u64 1000), (.int .u64 10000), (.int .u64 100000), (.int .u64 1000000), (.int .u64 10000000), (.int .u64 100000000), (.int .u64 1000000000), (.int .u64 10000000000), (.int .u64 100000000000), (.int .u64 1000000000000), (.int .u64 10000000000000), (.int .u64 100000000000000), (.int .u64 1000000000000000), (.int .u64 10000000000000000), (.int .u64 100000000000000000), (.int .u64 1000000000000000000), (.int .u64 10000000000000000000)]
def g3 : List AV := [(.int .u8 128), (.int .u8 191), (.int .u8 160), (.int .u8 191), (.int .u8 128), (.int .u8 159), (.int .u8 144), (.int .u8 191), (.int .u8 128), (.int .u8 143), (.int .u8 0), (.int .u8 0), (.int .u8 0), (.int .u8 0), (.int .u8 0), (.int .u8 0), (.int .u8 0), (.int .u8 0), (.int .u8 0), (.int .u8 0), (.int .u8 0), (.int .u8 0), (.int .u8 0), (.int .u8 0), (.int .u8 0), (.int .u8 0), (.int .u8 0), (.int .u8 0), (.int .u8 0), (.int .u8 0), (.int .u8 0), (.int .u8 0)]
def g7 : List AV := [(.int .u8 0), (.int .u8 1), (.int .u8 28), (.int .u8 2), (.int .u8 29), (.int .u8 14), (.int .u8 24), (.int .u8 3), (.int .u8 30), (.int .u8 22), (.int .u8 20), (.int .u8 15), (.int .u8 25), (.int .u8 17), (.int .u8 4), (.int .u8 8), (.int .u8 31), (.int .u8 27), (.int .u8 13), (.int .u8 23), (.int .u8 21), (.int .u8 19), (.int .u8 16), (.int .u8 7), (.int .u8 26), (.int .u8 12), (.int .u8 18), (.int .u8 6), (.int .u8 11), (.int .u8 5), (.int .u8 10), (.int .u8 9)]
def g8 : List AV := [(.int .u8 0), (.int .u8 1), (.int .u8 56), (.int .u8 2), (.int .u8 57), (.int .u8 49), (.int .u8 28), (.int .u8 3), (.int .u8 61), (.int .u8 58), (.int .u8 42), (.int .u8 50), (.int .u8 38), (.int .u8 29), (.int .u8 17), (.int .u8 4), (.int .u8 62), (.int .u8 47), (.int .u8 59), (.int .u8 36), (.int .u8 45), (.int .u8 43), (.int .u8 51), (.int .u8 22), (.int .u8 53), (.int .u8 39), (.int .u8 33), (.int .u8 30), (.int .u8 24), (.int .u8 18), (.int .u8 12), (.int .u8 5), (.int .u8 63), (.int .u8 55), (.int .u8 48), (.int .u8 27), (.int .u8 60), (.int .u8 41), (.int .u8 37), (.int .u8 16), (.int .u8 46), (.int .u8 35), (.int .u8 44), (.int .u8 21), (.int .u8 52), (.int .u8 32), (.int .u8 23), (.int .u8 11), (.int .u8 54), (.int .u8 26), (.int .u8 40), (.int .u8 15), (.int .u8 34), (.int .u8 20), (.int .u8 31), (.int .u8 10), (.int .u8 25), (.int .u8 14), (.int .u8 19), (.int .u8 9), (.int .u8 13), (.int .u8 8), (.int .u8 7), (.int .u8 6)]
def x5 : XFn := { np := 6, isOpen := false, ns := 9, res := [.tmp 12], code :=
 (sr [0,1,2,3,4,5] [oo 12 (.mov (.c (.bool false)))]
  (sr [0,1,2,3,4,5,13] [oo 31 (.call (.c (.fn 10 [])) [] []),
om 13 31]
  (.seq (sr [0,1,2,3,4,5,33] [om 32 13,
oo 33 (.un .not (.t 32))]
  (.cond (.t 33)
  (sr [12] [oo 12 (.mov (.c (.bool false)))]
  (.pre [12] .ret))
  .skip))
  (.pre [0,1,2,3,4,5] (sr [1,2,3,4,5,14] [om 34 0,
oo 35 (.call (.c (.fn 11 [])) [(.t 34)] []),
om 14 35]
  (sr [1,2,3,4,5,14,15] [oo 36 (.mk 8 1 (.int .i64 0) 17592186044416 (.c (.int .i64 24)) (.c (.int .i64 24))),
om 15 36]
  (sr [1,2,3,4,5,16] [oo 37 (.bslice 1 (.int .i64 0) 0 []),
om 38 15,
oo 39 (.app 5 1 17592186044416 (.t 37) (.t 38)),
om 40 14,
oo 41 (.app 6 1 17592186044416 (.t 39) (.t 40)),
om 42 15,
oo 43 (.app 7 1 17592186044416 (.t 41) (.t 42)),
om 16 43]
  (sr [3,4,5,16,17] [om 44 1,
oo 45 (.call (.c (.fn 12 [])) [(.t 44), (.c (.int .i64 10))] []),
oo 46 (.bin .mul (.c (.int .i64 8)) (.t 45)),
oo 47 (.mk 2 1 (.int .i64 0) 17592186044416 (.t 46) (.t 46)),
om 48 16,
oo 49 (.app 3 1 17592186044416 (.t 47) (.t 48)),
om 50 2,
oo 51 (.call (.c (.fn 12 [])) [(.t 50), (.c (.int .i64 80))] []),
oo 52 (.apz 4 1 (.int .i64 0) 17592186044416 (.t 49) (.t 51)),
om 17 52]
  (sr [4,5,16,17,18] [om 53 3,
oo 54 (.call (.c (.fn 12 [])) [(.t 53), (.c (.int .i64 4097))] []),
om 18 54]
  (sr [4,5,16,17,18,19,20] [om 56 16,
om 57 18,
oo 58 (.call (.c (.fn 20 [])) [(.t 56), (.t 57)] []),
om 55 58,
oo 59 (.ext (.t 55) 0),
oo 60 (.ext (.t 55) 1),
oo 19 (.alloc 1 [.str [], .str []]),
⟨none,none,[],.store 2 (.t 19) (.t 59)⟩,
om 20 60]
  (sr [4,5,16,17,19,20,21,22] [om 62 17,
om 63 18,
oo 64 (.call (.c (.fn 20 [])) [(.t 62), (.t 63)] []),
om 61 64,
oo 65 (.ext (.t 61) 0),
oo 66 (.ext (.t 61) 1),
oo 21 (.alloc 0 [.str [], .str []]),
⟨none,none,[],.store 2 (.t 21) (.t 65)⟩,
om 22 66]
  (sr [4,5,16,17,19,20,21,22,23,24] [om 68 16,
oo 69 (.call (.c (.fn 15 [])) [(.t 68)] []),
om 67 69,
oo 70 (.ext (.t 67) 0),
oo 71 (.ext (.t 67) 1),
om 23 70,
om 24 71]
  (sr [4,5,16,17,19,20,21,22,23,24,25,26] [om 73 17,
oo 74 (.call (.c (.fn 15 [])) [(.t 73)] []),
om 72 74,
oo 75 (.ext (.t 72) 0),
oo 76 (.ext (.t 72) 1),
om 25 75,
om 26 76]
  (sr [4,5,17,19,20,21,22,23,24,25,26,27,28] [om 78 16,
om 79 4,
oo 80 (.call (.c (.fn 12 [])) [(.t 79), (.c (.int .i64 100000))] []),
om 81 5,
oo 82 (.call (.c (.fn 12 [])) [(.t 81), (.c (.int .i64 600000))] []),
oo 83 (.call (.c (.fn 24 [])) [(.t 78), (.t 80), (.t 82)] []),
om 77 83,
oo 84 (.ext (.t 77) 0),
oo 85 (.ext (.t 77) 1),
om 27 84,
om 28 85]
  (sr [19,20,21,22,23,24,25,26,27,28,29,30] [om 87 17,
om 88 4,
oo 89 (.call (.c (.fn 12 [])) [(.t 88), (.c (.int .i64 100000))] []),
om 90 5,
oo 91 (.call (.c (.fn 12 [])) [(.t 90), (.c (.int .i64 600000))] []),
oo 92 (.call (.c (.fn 24 [])) [(.t 87), (.t 89), (.t 91)] []),
om 86 92,
oo 93 (.ext (.t 86) 0),
oo 94 (.ext (.t 86) 1),
om 29 93,
om 30 94]
  (sr [12] [om 95 20,
oo 96 (.bin .eql (.t 95) (.c (.int .i64 0))),
om 97 96,
og 98 97 true (.mov (.t 22)),
og 99 97 true (.bin .eql (.t 98) (.c (.int .i64 0))),
oo 100 (.pick (.t 97) (.t 99) (.c (.bool false))),
om 101 100,
og 102 101 true (.mov (.t 24)),
og 103 101 true (.bin .eql (.t 102) (.c (.int .i64 0))),
oo 104 (.pick (.t 101) (.t 103) (.c (.bool false))),
om 105 104,
og 106 105 true (.mov (.t 26)),
og 107 105 true (.bin .eql (.t 106) (.c (.int .i64 0))),
oo 108 (.pick (.t 105) (.t 107) (.c (.bool false))),
om 109 108,
og 110 109 true (.mov (.t 28)),
og 111 109 true (.bin .eql (.t 110) (.c (.int .i64 0))),
oo 112 (.pick (.t 109) (.t 111) (.c (.bool false))),
om 113 112,
og 114 113 true (.mov (.t 30)),
og 115 113 true (.bin .eql (.t 114) (.c (.int .i64 0))),
oo 116 (.pick (.t 113) (.t 115) (.c (.bool false))),
om 117 116,
og 118 117 true (.load (.agg 2) (.t 19)),
og 119 117 true (.load (.agg 2) (.t 21)),
og 120 117 true (.eqv false [.s, .s] (.t 118) (.t 119)),
oo 121 (.pick (.t 117) (.t 120) (.c (.bool false))),
om 122 121,
og 123 122 true (.mov (.t 23)),
og 124 122 true (.mov (.t 25)),
og 125 122 true (.bin .eql (.t 123) (.t 124)),
oo 126 (.pick (.t 122) (.t 125) (.c (.bool false))),
om 127 126,
og 128 127 true (.mov (.t 27)),
og 129 127 true (.mov (.t 29)),
og 130 127 true (.bin .eql (.t 128) (.t 129)),
oo 131 (.pick (.t 127) (.t 130) (.c (.bool false))),
om 12 131]
  (.pre [12] .ret))))))))))))))))) }
def x10 : XFn := { np := 0, isOpen := false, ns := 3, res := [.tmp 0], code :=
 (sr [] [oo 0 (.mov (.c (.bool false)))]
  (sr [1] [oo 24 (.call (.c (.fn 31 [])) [] []),
om 1 24]
  (sr [1,2,3] [om 26 1,
oo 27 (.call (.c (.fn 13 [])) [(.t 26)] []),
om 25 27,
oo 28 (.ext (.t 25) 0),
oo 29 (.ext (.t 25) 1),
om 2 28,
om 3 29]
  (sr [1,2,3,4,5] [oo 31 (.bslice 1 (.int .i64 0) 4 [(0, (.c (.int .i64 9600))), (1, (.c (.int .i64 2400))), (2, (.c (.int .i64 319))), (3, (.c (.int .i64 320)))]),
oo 32 (.call (.c (.fn 22 [])) [(.t 31), (.c (.int .i64 1024))] []),
om 30 32,
oo 33 (.ext (.t 30) 0),
oo 34 (.ext (.t 30) 1),
om 4 33,
om 5 34]
  (sr [1,2,3,4,5,6,7] [om 36 1,
oo 37 (.call (.c (.fn 20 [])) [(.t 36), (.c (.int .i64 1024))] []),
om 35 37,
oo 38 (.ext (.t 35) 0),
oo 39 (.ext (.t 35) 1),
oo 6 (.alloc 2 [.str [], .str []]),
⟨none,none,[],.store 2 (.t 6) (.t 38)⟩,
om 7 39]
  (sr [1,2,3,4,5,6,7,8,9] [om 41 1,
oo 42 (.call (.c (.fn 20 [])) [(.t 41), (.c (.int .i64 2048))] []),
om 40 42,
oo 43 (.ext (.t 40) 0),
oo 44 (.ext (.t 40) 1),
oo 8 (.alloc 1 [.str [], .str []]),
⟨none,none,[],.store 2 (.t 8) (.t 43)⟩,
om 9 44]
  (sr [1,2,3,4,5,6,7,8,9,10,11] [om 46 1,
oo 47 (.call (.c (.fn 20 [])) [(.t 46), (.c (.int .i64 323))] []),
om 45 47,
oo 48 (.ext (.t 45) 0),
oo 49 (.ext (.t 45) 1),
oo 10 (.alloc 0 [.str [], .str []]),
⟨none,none,[],.store 2 (.t 10) (.t 48)⟩,
om 11 49]
  (sr [1,2,3,4,5,6,7,8,9,10,11,12,13] [om 51 1,
oo 52 (.call (.c (.fn 15 [])) [(.t 51)] []),
om 50 52,
oo 53 (.ext (.t 50) 0),
oo 54 (.ext (.t 50) 1),
om 12 53,
om 13 54]
  (sr [1,2,3,4,5,6,7,8,9,10,11,12,13,14,15] [om 56 1,
oo 57 (.call (.c (.fn 24 [])) [(.t 56), (.c (.int .i64 350)), (.c (.int .i64 8388608))] []),
om 55 57,
oo 58 (.ext (.t 55) 0),
oo 59 (.ext (.t 55) 1),
om 14 58,
om 15 59]
  (sr [1,2,3,4,5,6,7,8,9,10,11,12,13,14,15,16,17] [om 61 1,
oo 62 (.call (.c (.fn 24 [])) [(.t 61), (.c (.int .i64 1073741824)), (.c (.int .i64 1369))] []),
om 60 62,
oo 63 (.ext (.t 60) 0),
oo 64 (.ext (.t 60) 1),
om 16 63,
om 17 64]
  (sr [1,2,3,4,5,6,7,8,9,10,11,12,13,14,15,16,17,18,19] [om 66 1,
oo 67 (.call (.c (.fn 24 [])) [(.t 66), (.c (.int .i64 0)), (.c (.int .i64 8388608))] []),
om 65 67,
oo 68 (.ext (.t 65) 0),
oo 69 (.ext (.t 65) 1),
om 18 68,
om 19 69]
  (sr [1,2,3,4,5,6,7,8,9,10,11,12,13,14,15,16,17,18,19,21] [oo 71 (.call (.c (.fn 22 [])) [(.c .nilSl), (.c (.int .i64 4097))] []),
om 70 71,
oo 72 (.ext (.t 70) 0),
oo 73 (.ext (.t 70) 1),
om 20 72,
om 21 73]
  (sr [1,2,4,6,8,10,12,14,16,18,22] [om 74 3,
oo 75 (.bin .eql (.t 74) (.c (.int .i64 0))),
om 76 75,
og 77 76 true (.mov (.t 5)),
og 78 76 true (.bin .eql (.t 77) (.c (.int .i64 0))),
oo 79 (.pick (.t 76) (.t 78) (.c (.bool false))),
om 80 79,
og 81 80 true (.mov (.t 7)),
og 82 80 true (.bin .eql (.t 81) (.c (.int .i64 0))),
oo 83 (.pick (.t 80) (.t 82) (.c (.bool false))),
om 84 83,
og 85 84 true (.mov (.t 9)),
og 86 84 true (.bin .eql (.t 85) (.c (.int .i64 0))),
oo 87 (.pick (.t 84) (.t 86) (.c (.bool false))),
om 88 87,
og 89 88 true (.mov (.t 11)),
og 90 88 true (.bin .eql (.t 89) (.c (.int .i64 0))),
oo 91 (.pick (.t 88) (.t 90) (.c (.bool false))),
om 92 91,
og 93 92 true (.mov (.t 13)),
og 94 92 true (.bin .eql (.t 93) (.c (.int .i64 0))),
oo 95 (.pick (.t 92) (.t 94) (.c (.bool false))),
om 96 95,
og 97 96 true (.mov (.t 15)),
og 98 96 true (.bin .eql (.t 97) (.c (.int .i64 0))),
oo 99 (.pick (.t 96) (.t 98) (.c (.bool false))),
om 100 99,
og 101 100 true (.mov (.t 17)),
og 102 100 true (.bin .eql (.t 101) (.c (.int .i64 0))),
oo 103 (.pick (.t 100) (.t 102) (.c (.bool false))),
om 104 103,
og 105 104 true (.mov (.t 19)),
og 106 104 true (.bin .eql (.t 105) (.c (.int .i64 0))),
oo 107 (.pick (.t 104) (.t 106) (.c (.bool false))),
om 108 107,
og 109 108 true (.mov (.t 21)),
og 110 108 true (.bin .eql (.t 109) (.c (.int .i64 180))),
oo 111 (.pick (.t 108) (.t 110) (.c (.bool false))),
om 22 111]
  (sr [1,2,4,12,14,16,18,22,23] [oo 112 (.load (.agg 2) (.t 6)),
oo 113 (.build [.str [], .str []] [(0, 1, (.c (.str [49,55,53]))), (1, 1, (.c (.str [50])))]),
oo 114 (.eqv false [.s, .s] (.t 112) (.t 113)),
om 115 114,
og 116 115 true (.load (.agg 2) (.t 8)),
og 117 115 true (.build [.str [], .str []] [(0, 1, (.c (.str [51,53,48]))), (1, 1, (.c (.str [49])))]),
og 118 115 true (.eqv false [.s, .s] (.t 116) (.t 117)),
oo 119 (.pick (.t 115) (.t 118) (.c (.bool false))),
om 120 119,
og 121 120 true (.load (.agg 2) (.t 10)),
og 122 120 true (.build [.str [], .str []] [(0, 1, (.c (.str [48]))), (1, 1, (.c (.str [49])))]),
og 123 120 true (.eqv false [.s, .s] (.t 121) (.t 122)),
oo 124 (.pick (.t 120) (.t 123) (.c (.bool false))),
om 23 124]
  (sr [0] [om 125 22,
om 126 125,
og 127 126 true (.mov (.t 23)),
oo 128 (.pick (.t 126) (.t 127) (.c (.bool false))),
om 129 128,
og 130 129 true (.mov (.t 2)),
og 131 129 true (.bslice 1 (.int .i64 0) 2 [(0, (.c (.int .i64 3200))), (1, (.c (.int .i64 2400)))]),
og 132 129 true (.call (.c (.fn 19 [])) [(.t 130), (.t 131)] []),
oo 133 (.pick (.t 129) (.t 132) (.c (.bool false))),
om 134 133,
og 135 134 true (.mov (.t 4)),
og 136 134 true (.bslice 1 (.int .i64 0) 2 [(0, (.c (.int .i64 0))), (1, (.c (.int .i64 1)))]),
og 137 134 true (.call (.c (.fn 19 [])) [(.t 135), (.t 136)] []),
oo 138 (.pick (.t 134) (.t 137) (.c (.bool false))),
om 139 138,
og 140 139 true (.mov (.t 12)),
og 141 139 true (.bin .eql (.t 140) (.c (.int .i64 1370))),
oo 142 (.pick (.t 139) (.t 141) (.c (.bool false))),
om 143 142,
og 144 143 true (.mov (.t 14)),
og 145 143 true (.bin .eql (.t 144) (.c (.int .i64 2048))),
oo 146 (.pick (.t 143) (.t 145) (.c (.bool false))),
om 147 146,
og 148 147 true (.mov (.t 16)),
og 149 147 true (.bin .eql (.t 148) (.c (.int .i64 1023))),
oo 150 (.pick (.t 147) (.t 149) (.c (.bool false))),
om 151 150,
og 152 151 true (.mov (.t 18)),
og 153 151 true (.bin .eql (.t 152) (.c (.int .i64 323))),
oo 154 (.pick (.t 151) (.t 153) (.c (.bool false))),
om 155 154,
og 156 155 true (.mov (.t 1)),
og 157 155 true (.call (.c (.fn 17 [])) [(.t 156)] []),
oo 158 (.pick (.t 155) (.t 157) (.c (.bool false))),
om 159 158,
og 160 159 true (.bslice 1 (.int .i64 0) 1 [(0, (.c (.int .i64 40000)))]),
og 161 159 true (.call (.c (.fn 17 [])) [(.t 160)] []),
og 162 159 true (.un .not (.t 161)),
oo 163 (.pick (.t 159) (.t 162) (.c (.bool false))),
om 0 163]
  (.pre [0] .ret)))))))))))))))) }
@[go_sem] def c11_1 : XC := (.pre [0,3,4,5,6,7]
 (.seq (sr [0,3,4,5,6,7,41] [om 40 7,
oo 41 (.bin .lss (.t 40) (.c (.int .i64 16)))]
  (.cond (.t 41)
  .skip
  (.pre [0,3,4] (.exit 2))))
  (.pre [0,3,4,5,6,7] (.seq (.blk 3
  (sr [0,3,4,5,6,7,48] [om 44 7,
om 45 6,
oo 46 (.bin .quo (.t 44) (.t 45)),
oo 47 (.bin .rem (.t 46) (.c (.int .i64 2))),
oo 48 (.bin .eql (.t 47) (.c (.int .i64 1)))]
  (.cond (.t 48)
  (.reg false [0,3,4,5,6,7] [] [om 49 3,
om 50 5,
oo 51 (.un .neg (.t 50)),
oo 52 (.bslice 1 (.int .i64 0) 1 [(0, (.t 51))]),
oo 53 (.app 0 1 17592186044416 (.t 49) (.t 52)),
om 3 53])
  (.reg false [0,3,4,5,6,7] [] [om 54 3,
om 55 5,
oo 56 (.bslice 1 (.int .i64 0) 1 [(0, (.t 55))]),
oo 57 (.app 1 1 17592186044416 (.t 54) (.t 56)),
om 3 57]))))
  (.pre [0,3,4,5,6,7] (.reg false [0,3,4,5,6,7] [] [om 42 7,
oo 43 (.bin .add (.t 42) (.c (.int .i64 1))),
om 7 43]))))))
def b11_1 : XC := c11_1
@[go_sem] theorem e11_1 (L : Lib) (cx : Cx) (env : Env) (h : Heap) : runC L cx b11_1 (env, h) = runC L cx c11_1 (env, h) := rfl
@[go_sem] def c11_0 : XC := (.pre [0,3,4]
 (.seq (sr [0,3,4,15] [om 8 4,
om 9 0,
oo 10 (.len false (.t 9)),
oo 11 (.bin .lss (.t 8) (.t 10)),
om 12 11,
og 13 12 true (.mov (.t 4)),
og 14 12 true (.bin .lss (.t 13) (.c (.int .i64 12))),
oo 15 (.pick (.t 12) (.t 14) (.c (.bool false)))]
  (.cond (.t 15)
  .skip
  (.pre [3] (.exit 0))))
  (.pre [0,3,4] (.seq (.blk 1
  (sr [0,3,4,5] [om 18 0,
om 19 4,
oo 20 (.ixS 1 (.t 18) (.t 19)),
oo 21 (.load .one (.t 20)),
oo 22 (.call (.c (.fn 32 [])) [(.t 21), (.c (.int .i64 4001))] []),
oo 23 (.bin .sub (.t 22) (.c (.int .i64 2000))),
om 5 23]
  (.seq (sr [0,3,4,5,30] [om 24 0,
om 25 4,
oo 26 (.ixS 1 (.t 24) (.t 25)),
oo 27 (.load .one (.t 26)),
oo 28 (.bin .quo (.t 27) (.c (.int .i64 4001))),
oo 29 (.call (.c (.fn 32 [])) [(.t 28), (.c (.int .i64 3))] []),
oo 30 (.bin .eql (.t 29) (.c (.int .i64 0)))]
  (.cond (.t 30)
  (.reg false [0,3,4,5] [] [om 31 5,
oo 32 (.bin .quo (.t 31) (.c (.int .i64 200))),
om 5 32])
  .skip))
  (.pre [0,3,4,5] (sr [0,3,4,5,6] [om 33 0,
om 34 4,
oo 35 (.ixS 1 (.t 33) (.t 34)),
oo 36 (.load .one (.t 35)),
oo 37 (.bin .quo (.t 36) (.c (.int .i64 12003))),
oo 38 (.call (.c (.fn 32 [])) [(.t 37), (.c (.int .i64 5))] []),
oo 39 (.bin .add (.c (.int .i64 1)) (.t 38)),
om 6 39]
  (sr [0,3,4,5,6,7] [oo 7 (.mov (.c (.int .i64 0)))]
  (.blk 2
  (.loop b11_1))))))))
  (.pre [0,3,4] (.reg false [0,3,4] [] [om 16 4,
oo 17 (.bin .add (.t 16) (.c (.int .i64 1))),
om 4 17]))))))
def b11_0 : XC := c11_0
@[go_sem] theorem e11_0 (L : Lib) (cx : Cx) (env : Env) (h : Heap) : runC L cx b11_0 (env, h) = runC L cx c11_0 (env, h) := rfl
def x11 : XFn := { np := 1, isOpen := false, ns := 2, res := [.tmp 2], code :=
 (sr [0] [oo 2 (.mov (.c .nilSl))]
  (sr [0,3] [oo 3 (.mov (.c .nilSl))]
  (.seq (sr [0,3,4] [oo 4 (.mov (.c (.int .i64 0)))]
  (.blk 0
  (.loop b11_0)))
  (.pre [3] (sr [2] [om 58 3,
om 2 58]
  (.pre [2] .ret)))))) }
def x12 : XFn := { np := 2, isOpen := false, ns := 0, res := [.tmp 4], code :=
 (sr [0,1] [oo 4 (.mov (.c (.int .i64 0)))]
  (.seq (sr [0,1,6] [om 5 0,
oo 6 (.bin .lss (.t 5) (.c (.int .i64 0)))]
  (.cond (.t 6)
  (.reg false [0,1] [] [om 7 0,
oo 8 (.bin .add (.t 7) (.c (.int .i64 1))),
oo 9 (.un .neg (.t 8)),
om 0 9])
  .skip))
  (.pre [0,1] (sr [4] [om 10 0,
om 11 1,
oo 12 (.bin .rem (.t 10) (.t 11)),
om 4 12]
  (.pre [4] .ret))))) }
@[go_sem] def c13_0 : XC := (.pre [0,4,7,8]
 (.seq (sr [0,4,7,8,39] [om 36 8,
om 37 0,
oo 38 (.len false (.t 37)),
oo 39 (.bin .leq (.t 36) (.t 38))]
  (.cond (.t 39)
  .skip
  (.pre [7] (.exit 2))))
  (.pre [0,4,7,8] (.seq (.blk 3
  (.reg true [0,4,7,8] [] [om 42 7,
om 43 4,
om 44 8,
oo 45 (.ixS 1 (.t 43) (.t 44)),
⟨some 46,none,[.elem 45], .load .one (.t 45)⟩,
om 47 4,
om 48 8,
oo 49 (.bin .sub (.t 48) (.c (.int .i64 32))),
oo 50 (.ixS 1 (.t 47) (.t 49)),
⟨some 51,none,[.elem 50], .load .one (.t 50)⟩,
oo 52 (.bin .sub (.t 46) (.t 51)),
⟨some 53,none,[.closed 52], .bslice 1 (.int .i64 0) 1 [(0, (.t 52))]⟩,
⟨some 54,none,[.nobox 0], .app 0 1 17592186044416 (.t 42) (.t 53)⟩,
om 7 54]))
  (.pre [0,4,7,8] (.reg false [0,4,7,8] [] [om 40 8,
oo 41 (.bin .add (.t 40) (.c (.int .i64 8))),
om 8 41]))))))
def b13_0 : XC := c13_0
@[go_sem] theorem e13_0 (L : Lib) (cx : Cx) (env : Env) (h : Heap) : runC L cx b13_0 (env, h) = runC L cx c13_0 (env, h) := rfl
@[go_sem] def c13_1 : XC := (.pre [0,4,16,17,18]
 (sr [0,4,16,17,18,19] [oo 19 (.bin .lss (.t 18) (.t 17))]
  (.seq (.cond (.t 19)
  .skip
  (.pre [0,4] (.exit 0)))
  (.pre [0,4,16,17,18] (.seq (.blk 1
  (sr [0,4,5,6,16,17,18] [om 20 18,
oo 21 (.ixS 1 (.t 16) (.t 18)),
oo 22 (.load .one (.t 21)),
om 5 20,
om 6 22]
  (.reg false [0,4,16,17,18] [] [om 23 4,
om 24 5,
oo 25 (.bin .add (.t 24) (.c (.int .i64 1))),
om 26 4,
om 27 5,
oo 28 (.ixS 1 (.t 26) (.t 27)),
oo 29 (.load .one (.t 28)),
om 30 6,
om 31 6,
oo 32 (.bin .mul (.t 30) (.t 31)),
oo 33 (.bin .add (.t 29) (.t 32)),
oo 34 (.ixS 1 (.t 23) (.t 25)),
⟨none,none,[],.store 1 (.t 34) (.t 33)⟩])))
  (.pre [0,4,16,17,18] (.reg false [0,4,16,17,18] [] [oo 35 (.bin .add (.t 18) (.c (.int .i64 1))),
om 18 35])))))))
def b13_1 : XC := c13_1
@[go_sem] theorem e13_1 (L : Lib) (cx : Cx) (env : Env) (h : Heap) : runC L cx b13_1 (env, h) = runC L cx c13_1 (env, h) := rfl
def x13 : XFn := { np := 1, isOpen := false, ns := 2, res := [.tmp 2, .tmp 3], code :=
 (sr [0] [oo 2 (.mov (.c .nilSl)),
oo 3 (.mov (.c (.int .i64 0)))]
  (.seq (sr [0,11] [om 9 0,
oo 10 (.call (.c (.fn 17 [])) [(.t 9)] []),
oo 11 (.un .not (.t 10))]
  (.cond (.t 11)
  (sr [2,3] [oo 2 (.mov (.c .nilSl)),
oo 3 (.mov (.c (.int .i64 180)))]
  (.pre [2,3] .ret))
  .skip))
  (.pre [0] (sr [0,4] [om 12 0,
oo 13 (.len false (.t 12)),
oo 14 (.bin .add (.t 13) (.c (.int .i64 1))),
oo 15 (.mk 1 1 (.int .i64 0) 17592186044416 (.t 14) (.t 14)),
om 4 15]
  (.seq (sr [0,4,16,17,18] [om 16 0,
oo 17 (.len false (.t 16)),
oo 18 (.mov (.c (.int .i64 0)))]
  (.blk 0
  (.loop b13_1)))
  (.pre [0,4] (sr [0,4,7] [oo 7 (.mov (.c .nilSl))]
  (.seq (sr [0,4,7,8] [oo 8 (.mov (.c (.int .i64 32)))]
  (.blk 2
  (.loop b13_0)))
  (.pre [7] (sr [2,3] [om 55 7,
om 2 55,
oo 3 (.mov (.c (.int .i64 0)))]
  (.pre [2,3] .ret))))))))))) }
@[go_sem] def c15_2 : XC := (.pre [1,4,5,6,9,22,23,26,27]
 (sr [1,4,5,6,9,22,23,26,27,28] [oo 28 (.bin .lss (.t 27) (.c (.int .i64 4)))]
  (.seq (.cond (.t 28)
  .skip
  (.pre [1,4,5,6,9,22,23] (.exit 4)))
  (.pre [1,4,5,6,9,22,23,26,27] (.seq (.blk 5
  (sr [1,4,5,6,9,10,11,22,23,26,27] [om 29 27,
oo 30 (.ixV 4 1 .one (.t 26) (.t 27)),
om 10 29,
om 11 30]
  (.reg false [1,4,5,6,9,22,23,26,27] [] [om 31 9,
om 32 11,
om 33 4,
om 34 6,
oo 35 (.bin .sub (.t 34) (.c (.int .i64 1))),
om 36 10,
oo 37 (.bin .add (.t 35) (.t 36)),
oo 38 (.call (.t 33) [(.t 37)] []),
oo 39 (.bin .mul (.t 32) (.t 38)),
oo 40 (.bin .add (.t 31) (.t 39)),
om 9 40])))
  (.pre [1,4,5,6,9,22,23,26,27] (.reg false [1,4,5,6,9,22,23,26,27] [] [oo 41 (.bin .add (.t 27) (.c (.int .i64 1))),
om 27 41])))))))
def b15_2 : XC := c15_2
@[go_sem] theorem e15_2 (L : Lib) (cx : Cx) (env : Env) (h : Heap) : runC L cx b15_2 (env, h) = runC L cx c15_2 (env, h) := rfl
@[go_sem] def c15_1 : XC := (.pre [1,4,5,6,22,23]
 (sr [1,4,5,6,22,23,24] [oo 24 (.bin .lss (.t 23) (.c (.int .i64 4)))]
  (.seq (.cond (.t 24)
  .skip
  (.pre [1,4,5,6] (.exit 2)))
  (.pre [1,4,5,6,22,23] (.seq (.blk 3
  (sr [1,4,5,6,8,22,23] [oo 25 (.ixV 4 4 (.agg 4) (.t 22) (.t 23)),
oo 8 (.alloc 0 [.int .i64 0, .int .i64 0, .int .i64 0, .int .i64 0]),
⟨none,none,[],.store 4 (.t 8) (.t 25)⟩]
  (sr [1,4,5,6,8,9,22,23] [oo 9 (.mov (.c (.int .i64 0)))]
  (.seq (sr [1,4,5,6,9,22,23,26,27] [oo 26 (.load (.agg 4) (.t 8)),
oo 27 (.mov (.c (.int .i64 0)))]
  (.blk 4
  (.loop b15_2)))
  (.pre [1,4,5,6,9,22,23] (.reg false [1,4,5,6,22,23] [] [om 42 5,
om 43 9,
om 44 9,
oo 45 (.un .neg (.t 44)),
oo 46 (.minmax true [(.t 42), (.t 43), (.t 45)]),
om 5 46]))))))
  (.pre [1,4,5,6,22,23] (.reg false [1,4,5,6,22,23] [] [oo 47 (.bin .add (.t 23) (.c (.int .i64 1))),
om 23 47])))))))
def b15_1 : XC := c15_1
@[go_sem] theorem e15_1 (L : Lib) (cx : Cx) (env : Env) (h : Heap) : runC L cx b15_1 (env, h) = runC L cx c15_1 (env, h) := rfl
@[go_sem] def c15_0 : XC := (.pre [1,4,5,6]
 (.seq (sr [1,4,5,6,19] [om 16 6,
oo 17 (.load .one (.t 1)),
oo 18 (.len false (.t 17)),
oo 19 (.bin .leq (.t 16) (.t 18))]
  (.cond (.t 19)
  .skip
  (.pre [5] (.exit 0))))
  (.pre [1,4,5,6] (.seq (.blk 1
  (sr [1,4,5,6,22,23] [oo 22 (.load (.agg 16) (.c (.cptr g0))),
oo 23 (.mov (.c (.int .i64 0)))]
  (.blk 2
  (.loop b15_1))))
  (.pre [1,4,5,6] (.reg false [1,4,5,6] [] [om 20 6,
oo 21 (.bin .add (.t 20) (.c (.int .i64 1))),
om 6 21]))))))
def b15_0 : XC := c15_0
@[go_sem] theorem e15_0 (L : Lib) (cx : Cx) (env : Env) (h : Heap) : runC L cx b15_0 (env, h) = runC L cx c15_0 (env, h) := rfl
def x15 : XFn := { np := 1, isOpen := false, ns := 2, res := [.tmp 2, .tmp 3], code :=
 (sr [1] [oo 1 (.box 1 (.t 0)),
oo 2 (.mov (.c (.int .i64 0))),
oo 3 (.mov (.c (.int .i64 0)))]
  (.seq (sr [1,14] [oo 12 (.load .one (.t 1)),
oo 13 (.call (.c (.fn 17 [])) [(.t 12)] []),
oo 14 (.un .not (.t 13))]
  (.cond (.t 14)
  (sr [2,3] [oo 2 (.mov (.c (.int .i64 0))),
oo 3 (.mov (.c (.int .i64 180)))]
  (.pre [2,3] .ret))
  .skip))
  (.pre [1] (sr [1,4] [oo 15 (.mkfn 33 [(.t 1)]),
om 4 15]
  (sr [1,4,5] [oo 5 (.mov (.c (.int .i64 0)))]
  (.seq (sr [1,4,5,6] [oo 6 (.mov (.c (.int .i64 (-2))))]
  (.blk 0
  (.loop b15_0)))
  (.pre [5] (sr [2,3] [om 48 5,
om 2 48,
oo 3 (.mov (.c (.int .i64 0)))]
  (.pre [2,3] .ret))))))))) }
def x17 : XFn := { np := 1, isOpen := false, ns := 0, res := [.tmp 2], code :=
 (sr [0] [oo 2 (.mov (.c (.bool false)))]
  (sr [2] [om 3 0,
oo 4 (.len false (.t 3)),
oo 5 (.bin .leq (.t 4) (.c (.int .i64 600))),
om 6 5,
og 7 6 true (.mov (.t 0)),
og 8 6 true (.call (.c (.fn 36 [])) [(.t 7), (.c (.fn 37 []))] []),
og 9 6 true (.un .not (.t 8)),
oo 10 (.pick (.t 6) (.t 9) (.c (.bool false))),
om 2 10]
  (.pre [2] .ret))) }
@[go_sem] def c19_0 : XC := (.pre [0,1,5]
 (.seq (sr [0,1,5,14] [om 11 5,
om 12 0,
oo 13 (.len false (.t 12)),
oo 14 (.bin .lss (.t 11) (.t 13))]
  (.cond (.t 14)
  .skip
  (.pre [] (.exit 0))))
  (.pre [0,1,5] (.seq (.blk 1
  (.seq (.reg true [0,1,5,25] [] [om 17 0,
om 18 5,
oo 19 (.ixS 1 (.t 17) (.t 18)),
⟨some 20,none,[.elem 19], .load .one (.t 19)⟩,
om 21 1,
om 22 5,
oo 23 (.ixS 1 (.t 21) (.t 22)),
⟨some 24,none,[.elem 23], .load .one (.t 23)⟩,
oo 25 (.bin .neq (.t 20) (.t 24))])
  (.cond (.t 25)
  (sr [4] [oo 4 (.mov (.c (.bool false)))]
  (.pre [4] .ret))
  .skip)))
  (.pre [0,1,5] (.reg false [0,1,5] [] [om 15 5,
oo 16 (.bin .add (.t 15) (.c (.int .i64 1))),
om 5 16]))))))
def b19_0 : XC := c19_0
@[go_sem] theorem e19_0 (L : Lib) (cx : Cx) (env : Env) (h : Heap) : runC L cx b19_0 (env, h) = runC L cx c19_0 (env, h) := rfl
def x19 : XFn := { np := 2, isOpen := false, ns := 0, res := [.tmp 4], code :=
 (sr [0,1] [oo 4 (.mov (.c (.bool false)))]
  (.seq (sr [0,1,10] [om 6 0,
oo 7 (.len false (.t 6)),
om 8 1,
oo 9 (.len false (.t 8)),
oo 10 (.bin .neq (.t 7) (.t 9))]
  (.cond (.t 10)
  (sr [4] [oo 4 (.mov (.c (.bool false)))]
  (.pre [4] .ret))
  .skip))
  (.pre [0,1] (.seq (sr [0,1,5] [oo 5 (.mov (.c (.int .i64 0)))]
  (.blk 0
  (.loop b19_0)))
  (.pre [] (sr [4] [oo 4 (.mov (.c (.bool true)))]
  (.pre [4] .ret))))))) }
def x20 : XFn := { np := 2, isOpen := false, ns := 4, res := [.cell 4 (.agg 2), .tmp 5], code :=
 (sr [0,1,4] [oo 4 (.alloc 3 [.str [], .str []]),
oo 5 (.mov (.c (.int .i64 0)))]
  (sr [1,4,6,7] [om 17 0,
oo 18 (.call (.c (.fn 13 [])) [(.t 17)] []),
om 16 18,
oo 19 (.ext (.t 16) 0),
oo 20 (.ext (.t 16) 1),
om 6 19,
om 7 20]
  (.seq (sr [1,4,6,27] [om 21 7,
oo 22 (.bin .neq (.t 21) (.c (.int .i64 0))),
om 23 22,
og 24 23 false (.mov (.t 1)),
og 25 23 false (.call (.c (.fn 34 [])) [(.t 24), (.c (.int .i64 0)), (.c (.int .i64 4096))] []),
og 26 23 false (.un .not (.t 25)),
oo 27 (.pick (.t 23) (.c (.bool true)) (.t 26))]
  (.cond (.t 27)
  (sr [4,5] [oo 28 (.build [.str [], .str []] []),
⟨none,none,[],.store 2 (.t 4) (.t 28)⟩,
oo 5 (.mov (.c (.int .i64 180)))]
  (.pre [4,5] .ret))
  .skip))
  (.pre [1,4,6] (sr [1,4,8,9] [om 30 6,
om 31 1,
oo 32 (.call (.c (.fn 38 [])) [(.t 30), (.t 31)] []),
om 29 32,
oo 33 (.ext (.t 29) 0),
oo 34 (.ext (.t 29) 1),
om 8 33,
om 9 34]
  (sr [1,4,10] [om 36 9,
om 37 8,
oo 38 (.minmax true [(.t 37), (.c (.int .i64 1))]),
oo 39 (.bin .mul (.c (.int .i64 32)) (.t 38)),
oo 40 (.call (.c (.fn 39 [])) [(.t 36), (.t 39)] []),
om 35 40,
oo 41 (.ext (.t 35) 0),
oo 42 (.ext (.t 35) 1),
oo 10 (.alloc 2 [.str [], .str []]),
⟨none,none,[],.store 2 (.t 10) (.t 41)⟩,
om 11 42]
  (sr [4,10,12] [om 44 1,
om 45 1,
oo 46 (.bin .mul (.t 44) (.t 45)),
oo 47 (.call (.c (.fn 39 [])) [(.t 46), (.c (.int .i64 1048576))] []),
om 43 47,
oo 48 (.ext (.t 43) 0),
oo 49 (.ext (.t 43) 1),
oo 12 (.alloc 1 [.str [], .str []]),
⟨none,none,[],.store 2 (.t 12) (.t 48)⟩,
om 13 49]
  (sr [4,14] [oo 51 (.load (.agg 2) (.t 10)),
oo 52 (.load (.agg 2) (.t 12)),
oo 53 (.call (.c (.fn 40 [])) [(.t 51), (.t 52)] []),
om 50 53,
oo 54 (.ext (.t 50) 0),
oo 55 (.ext (.t 50) 1),
oo 14 (.alloc 0 [.str [], .str []]),
⟨none,none,[],.store 2 (.t 14) (.t 54)⟩,
om 15 55]
  (sr [4,5] [oo 56 (.load (.agg 2) (.t 14)),
⟨none,none,[],.store 2 (.t 4) (.t 56)⟩,
oo 5 (.mov (.c (.int .i64 0)))]
  (.pre [4,5] .ret)))))))))) }
@[go_sem] def c22_0 : XC := (.pre [1,2,6,7,23,24,25]
 (sr [1,2,6,7,23,24,25,26] [oo 26 (.bin .lss (.t 25) (.t 24))]
  (.seq (.cond (.t 26)
  .skip
  (.pre [2,6,7] (.exit 0)))
  (.pre [1,2,6,7,23,24,25] (.seq (.blk 1
  (sr [1,2,6,7,8,9,23,24,25] [om 27 25,
oo 28 (.ixS 1 (.t 23) (.t 25)),
oo 29 (.load .one (.t 28)),
om 8 27,
om 9 29]
  (sr [1,2,6,7,8,9,23,24,25,35] [om 30 9,
om 31 1,
oo 32 (.bin .mul (.t 30) (.t 31)),
om 33 1,
oo 34 (.bin .mul (.t 32) (.t 33)),
oo 35 (.bin .geq (.t 34) (.c (.int .i64 335544320)))]
  (.cond (.t 35)
  (sr [1,2,6,7,9,23,24,25] [om 36 6,
om 37 8,
oo 38 (.bslice 1 (.int .i64 0) 1 [(0, (.t 37))]),
oo 39 (.app 2 1 17592186044416 (.t 36) (.t 38)),
om 6 39]
  (.reg false [1,2,6,7,23,24,25] [] [oo 40 (.load .one (.t 7)),
om 41 9,
oo 42 (.bin .add (.t 40) (.t 41)),
⟨none,none,[],.store 1 (.t 7) (.t 42)⟩]))
  .skip))))
  (.pre [1,2,6,7,23,24,25] (.reg false [1,2,6,7,23,24,25] [] [oo 43 (.bin .add (.t 25) (.c (.int .i64 1))),
om 25 43])))))))
def b22_0 : XC := c22_0
@[go_sem] theorem e22_0 (L : Lib) (cx : Cx) (env : Env) (h : Heap) : runC L cx b22_0 (env, h) = runC L cx c22_0 (env, h) := rfl
def x22 : XFn := { np := 2, isOpen := false, ns := 5, res := [.tmp 4, .tmp 5], code :=
 (sr [1,2] [oo 2 (.box 4 (.t 0)),
oo 4 (.mov (.c .nilSl)),
oo 5 (.mov (.c (.int .i64 0)))]
  (.seq (sr [1,2,22] [oo 11 (.load .one (.t 2)),
oo 12 (.len false (.t 11)),
oo 13 (.bin .gtr (.t 12) (.c (.int .i64 72))),
om 14 13,
og 15 14 false (.mov (.t 1)),
og 16 14 false (.call (.c (.fn 34 [])) [(.t 15), (.c (.int .i64 0)), (.c (.int .i64 4096))] []),
og 17 14 false (.un .not (.t 16)),
oo 18 (.pick (.t 14) (.c (.bool true)) (.t 17)),
om 19 18,
og 20 19 false (.load .one (.t 2)),
og 21 19 false (.call (.c (.fn 36 [])) [(.t 20), (.c (.fn 45 []))] []),
oo 22 (.pick (.t 19) (.c (.bool true)) (.t 21))]
  (.cond (.t 22)
  (sr [4,5] [oo 4 (.mov (.c .nilSl)),
oo 5 (.mov (.c (.int .i64 180)))]
  (.pre [4,5] .ret))
  .skip))
  (.pre [1,2] (sr [1,2,6] [oo 6 (.mov (.c .nilSl))]
  (sr [1,2,6,7] [oo 7 (.alloc 3 [.int .i64 0]),
⟨none,none,[],.store 1 (.t 7) (.c (.int .i64 0))⟩]
  (.seq (sr [1,2,6,7,23,24,25] [oo 23 (.load .one (.t 2)),
oo 24 (.len false (.t 23)),
oo 25 (.mov (.c (.int .i64 0)))]
  (.blk 0
  (.loop b22_0)))
  (.pre [2,6,7] (sr [2,6,7,10] [om 44 6,
oo 45 (.len false (.t 44)),
oo 10 (.alloc 1 [.int .i64 0]),
⟨none,none,[],.store 1 (.t 10) (.t 45)⟩]
  (sr [4,5] [om 46 6,
oo 47 (.mkfn 47 [(.t 10), (.t 2), (.t 7)]),
oo 48 (.call (.c (.fn 46 [])) [(.t 46), (.t 47)] [(0, 0)]),
om 4 48,
oo 5 (.mov (.c (.int .i64 0)))]
  (.pre [4,5] .ret)))))))))) }
@[go_sem] def c24_0 : XC := (.pre [1,2,8,10,12]
 (.seq (sr [1,2,8,10,12,38] [om 37 12,
oo 38 (.bin .gtr (.t 37) (.c (.int .i64 0)))]
  (.cond (.t 38)
  .skip
  (.pre [] (.exit 0))))
  (.pre [1,2,8,10,12] (.seq (.blk 1
  (.seq (sr [1,2,8,10,12,46] [om 41 10,
om 42 12,
oo 43 (.bin .mul (.t 41) (.t 42)),
om 44 2,
oo 45 (.bin .mul (.t 44) (.c (.int .i64 1024))),
oo 46 (.bin .gtr (.t 43) (.t 45))]
  (.cond (.t 46)
  (.pre [1,2,8,10,12] (.exit 1))
  .skip))
  (.pre [1,2,8,10,12] (sr [1,2,8,10,12,13,14] [om 48 8,
om 49 12,
oo 50 (.call (.c (.fn 38 [])) [(.t 48), (.t 49)] []),
om 47 50,
oo 51 (.ext (.t 47) 0),
oo 52 (.ext (.t 47) 1),
om 13 51,
om 14 52]
  (sr [1,2,8,10,12,63] [om 53 14,
om 54 12,
oo 55 (.bin .mul (.t 53) (.t 54)),
om 56 1,
oo 57 (.bin .mul (.t 56) (.c (.int .i64 32))),
om 58 13,
oo 59 (.bin .mul (.t 57) (.t 58)),
oo 60 (.bin .mul (.t 59) (.c (.int .i64 1048576))),
om 61 12,
oo 62 (.bin .quo (.t 60) (.t 61)),
oo 63 (.bin .leq (.t 55) (.t 62))]
  (.cond (.t 63)
  (sr [6,7] [om 64 12,
om 6 64,
oo 7 (.mov (.c (.int .i64 0)))]
  (.pre [6,7] .ret))
  .skip))))))
  (.pre [1,2,8,10,12] (.reg false [1,2,8,10,12] [] [om 39 12,
oo 40 (.bin .sub (.t 39) (.c (.int .i64 1))),
om 12 40]))))))
def b24_0 : XC := c24_0
@[go_sem] theorem e24_0 (L : Lib) (cx : Cx) (env : Env) (h : Heap) : runC L cx b24_0 (env, h) = runC L cx c24_0 (env, h) := rfl
def x24 : XFn := { np := 3, isOpen := false, ns := 0, res := [.tmp 6, .tmp 7], code :=
 (sr [0,1,2] [oo 6 (.mov (.c (.int .i64 0))),
oo 7 (.mov (.c (.int .i64 0)))]
  (sr [0,1,2,8,9] [om 16 0,
oo 17 (.call (.c (.fn 13 [])) [(.t 16)] []),
om 15 17,
oo 18 (.ext (.t 15) 0),
oo 19 (.ext (.t 15) 1),
om 8 18,
om 9 19]
  (.seq (sr [0,1,2,8,31] [om 20 9,
oo 21 (.bin .neq (.t 20) (.c (.int .i64 0))),
om 22 21,
og 23 22 false (.mov (.t 1)),
og 24 22 false (.call (.c (.fn 34 [])) [(.t 23), (.c (.int .i64 0)), (.c (.int .i64 1073741824))] []),
og 25 22 false (.un .not (.t 24)),
oo 26 (.pick (.t 22) (.c (.bool true)) (.t 25)),
om 27 26,
og 28 27 false (.mov (.t 2)),
og 29 27 false (.call (.c (.fn 34 [])) [(.t 28), (.c (.int .i64 0)), (.c (.int .i64 8388608))] []),
og 30 27 false (.un .not (.t 29)),
oo 31 (.pick (.t 27) (.c (.bool true)) (.t 30))]
  (.cond (.t 31)
  (sr [6,7] [oo 6 (.mov (.c (.int .i64 0))),
oo 7 (.mov (.c (.int .i64 180)))]
  (.pre [6,7] .ret))
  .skip))
  (.pre [0,1,2,8] (sr [1,2,8,10] [om 33 0,
oo 34 (.call (.c (.fn 15 [])) [(.t 33)] []),
om 32 34,
oo 35 (.ext (.t 32) 0),
oo 36 (.ext (.t 32) 1),
om 10 35,
om 11 36]
  (.seq (sr [1,2,8,10,12] [oo 12 (.mov (.c (.int .i64 4096)))]
  (.blk 0
  (.loop b24_0)))
  (.pre [] (sr [6,7] [oo 6 (.mov (.c (.int .i64 0))),
oo 7 (.mov (.c (.int .i64 0)))]
  (.pre [6,7] .ret))))))))) }
def x26 : XFn := { np := 1, isOpen := false, ns := 0, res := [.tmp 2], code :=
 (sr [1] [oo 1 (.boxR (.t 0)),
oo 2 (.mov (.c (.bool false)))]
  (.seq (sr [1,20] [oo 5 (.padd (.t 1) 0),
oo 6 (.load .one (.t 5)),
oo 7 (.call (.c (.fn 48 [])) [(.t 6)] []),
oo 8 (.un .not (.t 7)),
om 9 8,
og 10 9 false (.padd (.t 1) 1),
og 11 9 false (.load .one (.t 10)),
og 12 9 false (.call (.c (.fn 48 [])) [(.t 11)] []),
og 13 9 false (.un .not (.t 12)),
oo 14 (.pick (.t 9) (.c (.bool true)) (.t 13)),
om 15 14,
og 16 15 false (.padd (.t 1) 1),
og 17 15 false (.load .one (.t 16)),
og 18 15 false (.call (.c (.fn 49 [])) [(.t 17), (.c (.str [48]))] []),
og 19 15 false (.bin .leq (.t 18) (.c (.int .i64 0))),
oo 20 (.pick (.t 15) (.c (.bool true)) (.t 19))]
  (.cond (.t 20)
  (sr [2] [oo 2 (.mov (.c (.bool false)))]
  (.pre [2] .ret))
  .skip))
  (.pre [1] (sr [3,4] [oo 22 (.padd (.t 1) 0),
oo 23 (.load .one (.t 22)),
oo 24 (.padd (.t 1) 1),
oo 25 (.load .one (.t 24)),
oo 26 (.call (.c (.fn 50 [])) [(.t 23), (.t 25)] []),
om 21 26,
oo 27 (.ext (.t 21) 0),
oo 28 (.ext (.t 21) 1),
om 3 27,
om 4 28]
  (sr [2] [om 29 4,
oo 30 (.bin .eql (.t 29) (.c (.int .i64 0))),
om 31 30,
og 32 31 true (.mov (.t 3)),
og 33 31 true (.bin .eql (.t 32) (.c (.str [49]))),
oo 34 (.pick (.t 31) (.t 33) (.c (.bool false))),
om 2 34]
  (.pre [2] .ret)))))) }
@[go_sem] def c31_0 : XC := (.pre [1,2]
 (.seq (sr [1,2,4] [om 3 2,
oo 4 (.bin .lss (.t 3) (.c (.int .i64 40)))]
  (.cond (.t 4)
  .skip
  (.pre [1] (.exit 0))))
  (.pre [1,2] (.seq (.blk 1
  (sr [1,2,8] [om 7 2,
oo 8 (.bin .lss (.t 7) (.c (.int .i64 32)))]
  (.cond (.t 8)
  (.reg false [1,2] [] [om 9 1,
oo 10 (.bslice 1 (.int .i64 0) 1 [(0, (.c (.int .i64 10)))]),
oo 11 (.app 0 1 17592186044416 (.t 9) (.t 10)),
om 1 11])
  (.reg false [1,2] [] [om 12 1,
oo 13 (.bslice 1 (.int .i64 0) 1 [(0, (.c (.int .i64 0)))]),
oo 14 (.app 1 1 17592186044416 (.t 12) (.t 13)),
om 1 14]))))
  (.pre [1,2] (.reg false [1,2] [] [om 5 2,
oo 6 (.bin .add (.t 5) (.c (.int .i64 1))),
om 2 6]))))))
def b31_0 : XC := c31_0
@[go_sem] theorem e31_0 (L : Lib) (cx : Cx) (env : Env) (h : Heap) : runC L cx b31_0 (env, h) = runC L cx c31_0 (env, h) := rfl
def x31 : XFn := { np := 0, isOpen := false, ns := 2, res := [.tmp 0], code :=
 (sr [] [oo 0 (.mov (.c .nilSl))]
  (sr [1] [oo 1 (.mov (.c .nilSl))]
  (.seq (sr [1,2] [oo 2 (.mov (.c (.int .i64 0)))]
  (.blk 0
  (.loop b31_0)))
  (.pre [1] (sr [0] [om 15 1,
om 0 15]
  (.pre [0] .ret)))))) }
def x32 : XFn := { np := 2, isOpen := false, ns := 0, res := [.tmp 4], code :=
 (sr [0,1] [oo 4 (.mov (.c (.int .i64 0)))]
  (.seq (sr [0,1,6] [om 5 0,
oo 6 (.bin .lss (.t 5) (.c (.int .i64 0)))]
  (.cond (.t 6)
  (.reg false [0,1] [] [om 7 0,
oo 8 (.bin .add (.t 7) (.c (.int .i64 1))),
oo 9 (.un .neg (.t 8)),
om 0 9])
  .skip))
  (.pre [0,1] (sr [4] [om 10 0,
om 11 1,
oo 12 (.bin .rem (.t 10) (.t 11)),
om 4 12]
  (.pre [4] .ret))))) }
def x33 : XFn := { np := 2, isOpen := false, ns := 0, res := [.tmp 3], code :=
 (sr [0,1] [oo 3 (.mov (.c (.int .i64 0)))]
  (.seq (sr [0,1,8] [om 4 0,
oo 5 (.load .one (.t 1)),
oo 6 (.len false (.t 5)),
oo 7 (.bin .sub (.t 6) (.c (.int .i64 1))),
oo 8 (.call (.c (.fn 34 [])) [(.t 4), (.c (.int .i64 0)), (.t 7)] [])]
  (.cond (.t 8)
  (sr [3] [oo 9 (.load .one (.t 1)),
om 10 0,
oo 11 (.ixS 1 (.t 9) (.t 10)),
oo 12 (.load .one (.t 11)),
om 3 12]
  (.pre [3] .ret))
  .skip))
  (.pre [] (sr [3] [oo 3 (.mov (.c (.int .i64 0)))]
  (.pre [3] .ret))))) }
def x34 : XFn := { np := 3, isOpen := false, ns := 0, res := [.tmp 6], code :=
 (sr [0,1,2] [oo 6 (.mov (.c (.bool false)))]
  (sr [6] [om 7 1,
om 8 0,
oo 9 (.bin .leq (.t 7) (.t 8)),
om 10 9,
og 11 10 true (.mov (.t 0)),
og 12 10 true (.mov (.t 2)),
og 13 10 true (.bin .leq (.t 11) (.t 12)),
oo 14 (.pick (.t 10) (.t 13) (.c (.bool false))),
om 6 14]
  (.pre [6] .ret))) }
def x36 : XFn := { np := 2, isOpen := false, ns := 0, res := [.tmp 4], code :=
 (sr [0,1] [oo 4 (.mov (.c (.bool false)))]
  (sr [4] [om 5 0,
om 6 1,
oo 7 (.call (.c (.fn 54 [])) [(.t 5), (.t 6)] []),
oo 8 (.bin .geq (.t 7) (.c (.int .i64 0))),
om 4 8]
  (.pre [4] .ret))) }
def x37 : XFn := { np := 1, isOpen := false, ns := 0, res := [.tmp 2], code :=
 (sr [0] [oo 2 (.mov (.c (.bool false)))]
  (sr [2] [om 3 0,
oo 4 (.call (.c (.fn 34 [])) [(.t 3), (.c (.int .i64 (-32768))), (.c (.int .i64 32767))] []),
oo 5 (.un .not (.t 4)),
om 2 5]
  (.pre [2] .ret))) }
@[go_sem] def c38_0 : XC := (.pre [0,5,6,16,17,18]
 (sr [0,5,6,16,17,18,19] [oo 19 (.bin .lss (.t 18) (.t 17))]
  (.seq (.cond (.t 19)
  .skip
  (.pre [5,6] (.exit 0)))
  (.pre [0,5,6,16,17,18] (.seq (.blk 1
  (sr [0,5,6,9,16,17,18] [oo 20 (.ixS 1 (.t 16) (.t 18)),
oo 21 (.load .one (.t 20)),
om 9 21]
  (.reg false [0,5,6,16,17,18] [] [om 22 5,
om 23 0,
om 24 9,
oo 25 (.ixS 1 (.t 23) (.t 24)),
oo 26 (.load .one (.t 25)),
oo 27 (.bin .add (.t 22) (.t 26)),
om 5 27])))
  (.pre [0,5,6,16,17,18] (.reg false [0,5,6,16,17,18] [] [oo 28 (.bin .add (.t 18) (.c (.int .i64 1))),
om 18 28])))))))
def b38_0 : XC := c38_0
@[go_sem] theorem e38_0 (L : Lib) (cx : Cx) (env : Env) (h : Heap) : runC L cx b38_0 (env, h) = runC L cx c38_0 (env, h) := rfl
def x38 : XFn := { np := 2, isOpen := false, ns := 0, res := [.tmp 4, .tmp 5], code :=
 (sr [0,1,5] [oo 4 (.mov (.c (.int .i64 0))),
oo 5 (.mov (.c (.int .i64 0)))]
  (sr [0,5,6] [om 11 0,
om 12 1,
oo 13 (.call (.c (.fn 22 [])) [(.t 11), (.t 12)] []),
om 10 13,
oo 14 (.ext (.t 10) 0),
oo 15 (.ext (.t 10) 1),
om 6 14,
om 7 15]
  (.seq (sr [0,5,6,16,17,18] [om 16 6,
oo 17 (.len false (.t 16)),
oo 18 (.mov (.c (.int .i64 0)))]
  (.blk 0
  (.loop b38_0)))
  (.pre [5,6] (sr [4,5] [om 29 6,
oo 30 (.len false (.t 29)),
om 31 5,
om 4 30,
om 5 31]
  (.pre [4,5] .ret)))))) }
def x39 : XFn := { np := 2, isOpen := false, ns := 1, res := [.cell 4 (.agg 2), .tmp 5], code :=
 (sr [0,1,4] [oo 4 (.alloc 0 [.str [], .str []]),
oo 5 (.mov (.c (.int .i64 0)))]
  (sr [4,5] [om 6 0,
oo 7 (.call (.c (.fn 56 [])) [(.t 6)] []),
om 8 1,
oo 9 (.call (.c (.fn 56 [])) [(.t 8)] []),
oo 10 (.call (.c (.fn 55 [])) [(.t 7), (.t 9)] []),
oo 11 (.ext (.t 10) 0),
oo 12 (.ext (.t 10) 1),
⟨none,none,[],.store 2 (.t 4) (.t 11)⟩,
om 5 12]
  (.pre [4,5] .ret))) }
def x40 : XFn := { np := 2, isOpen := false, ns := 2, res := [.cell 4 (.agg 2), .tmp 5], code :=
 (sr [2,3,4] [oo 2 (.boxR (.t 0)),
oo 3 (.boxR (.t 1)),
oo 4 (.alloc 1 [.str [], .str []]),
oo 5 (.mov (.c (.int .i64 0)))]
  (sr [2,3,4,6] [oo 8 (.build [.bool false] []),
oo 9 (.box 0 (.t 8)),
om 6 9]
  (sr [2,3,4,6] [om 10 6,
oo 11 (.load (.agg 2) (.t 2)),
oo 12 (.load (.agg 2) (.t 3)),
oo 13 (.bslice 2 (.agg [.str [], .str []]) 2 [(0, (.t 11)), (1, (.t 12))]),
oo 14 (.call (.c (.fn 57 [])) [(.t 10), (.t 13)] [])]
  (sr [2,3,4,6,7] [om 15 6,
oo 16 (.padd (.t 2) 0),
oo 17 (.load .one (.t 16)),
oo 18 (.padd (.t 3) 0),
oo 19 (.load .one (.t 18)),
oo 20 (.call (.c (.fn 58 [])) [(.t 15), (.t 17), (.t 19)] []),
om 7 20]
  (sr [4,5] [om 21 6,
om 22 7,
om 23 6,
oo 24 (.padd (.t 2) 1),
oo 25 (.load .one (.t 24)),
oo 26 (.padd (.t 3) 1),
oo 27 (.load .one (.t 26)),
oo 28 (.call (.c (.fn 58 [])) [(.t 23), (.t 25), (.t 27)] []),
oo 29 (.call (.c (.fn 59 [])) [(.t 21), (.t 22), (.t 28)] []),
oo 30 (.ext (.t 29) 0),
oo 31 (.ext (.t 29) 1),
⟨none,none,[],.store 2 (.t 4) (.t 30)⟩,
om 5 31]
  (.pre [4,5] .ret)))))) }
def x41 : XFn := { np := 1, isOpen := false, ns := 0, res := [.tmp 2], code :=
 (sr [0] [oo 2 (.mov (.c (.bool false)))]
  (sr [2] [om 3 0,
oo 4 (.bin .geq (.t 3) (.c (.int .i64 0))),
om 5 4,
og 6 5 true (.mov (.t 0)),
og 7 5 true (.bin .leq (.t 6) (.c (.int .i64 4096))),
oo 8 (.pick (.t 5) (.t 7) (.c (.bool false))),
om 2 8]
  (.pre [2] .ret))) }
def x45 : XFn := { np := 1, isOpen := false, ns := 0, res := [.tmp 2], code :=
 (sr [0] [oo 2 (.mov (.c (.bool false)))]
  (sr [2] [om 3 0,
oo 4 (.call (.c (.fn 34 [])) [(.t 3), (.c (.int .i64 0)), (.c (.int .i64 34359738368))] []),
oo 5 (.un .not (.t 4)),
om 2 5]
  (.pre [2] .ret))) }
@[go_sem] def c46_0 : XC := (.pre [0,1,5,6]
 (.seq (sr [0,1,5,6,19] [om 16 6,
om 17 0,
oo 18 (.len false (.t 17)),
oo 19 (.bin .lss (.t 16) (.t 18))]
  (.cond (.t 19)
  .skip
  (.pre [0,5] (.exit 0))))
  (.pre [0,1,5,6] (.seq (.blk 1
  (sr [0,1,5,6,7] [om 22 0,
om 23 6,
oo 24 (.ixS 1 (.t 22) (.t 23)),
oo 25 (.load .one (.t 24)),
om 7 25]
  (sr [0,1,5,6,7,29] [om 26 1,
om 27 7,
oo 28 (.call (.t 26) [(.t 27)] []),
oo 29 (.un .not (.t 28))]
  (.cond (.t 29)
  (sr [0,1,5,6] [om 30 0,
om 31 5,
om 32 7,
oo 33 (.ixS 1 (.t 30) (.t 31)),
⟨none,none,[],.store 1 (.t 33) (.t 32)⟩]
  (.reg false [0,1,5,6] [] [om 34 5,
oo 35 (.bin .add (.t 34) (.c (.int .i64 1))),
om 5 35]))
  .skip))))
  (.pre [0,1,5,6] (.reg false [0,1,5,6] [] [om 20 6,
oo 21 (.bin .add (.t 20) (.c (.int .i64 1))),
om 6 21]))))))
def b46_0 : XC := c46_0
@[go_sem] theorem e46_0 (L : Lib) (cx : Cx) (env : Env) (h : Heap) : runC L cx b46_0 (env, h) = runC L cx c46_0 (env, h) := rfl
def x46 : XFn := { np := 2, isOpen := true, ns := 0, res := [.tmp 4], code :=
 (sr [0,1] [oo 4 (.mov (.c .nilSl))]
  (sr [0,1,5] [om 8 0,
om 9 1,
oo 10 (.call (.c (.fn 54 [])) [(.t 8), (.t 9)] []),
om 5 10]
  (.seq (sr [0,1,5,12] [om 11 5,
oo 12 (.bin .eql (.t 11) (.c (.int .i64 (-1))))]
  (.cond (.t 12)
  (sr [4] [om 13 0,
om 4 13]
  (.pre [4] .ret))
  .skip))
  (.pre [0,1,5] (.seq (sr [0,1,5,6] [om 14 5,
oo 15 (.bin .add (.t 14) (.c (.int .i64 1))),
om 6 15]
  (.blk 0
  (.loop b46_0)))
  (.pre [0,5] (sr [0,5] [om 36 0,
om 37 5,
oo 38 (.slice (some 1) (.t 36) (some (.t 37)) none),
⟨none,none,[],.clr 1 (.int .i64 0) (.t 38)⟩]
  (sr [4] [om 39 0,
om 40 5,
oo 41 (.slice (some 1) (.t 39) none (some (.t 40))),
om 4 41]
  (.pre [4] .ret))))))))) }
def x47 : XFn := { np := 4, isOpen := false, ns := 0, res := [.tmp 5], code :=
 (sr [0,1,2,3] [oo 5 (.mov (.c (.bool false)))]
  (.seq (.reg true [5] [] [⟨some 6,none,[.box 1], .load .one (.t 1)⟩,
oo 7 (.bin .mul (.c (.int .i64 10)) (.t 6)),
⟨some 8,none,[.box 2], .load .one (.t 2)⟩,
om 9 0,
oo 10 (.ixS 1 (.t 8) (.t 9)),
⟨some 11,none,[.elem 10], .load .one (.t 10)⟩,
oo 12 (.bin .mul (.t 7) (.t 11)),
⟨some 13,none,[.box 3], .load .one (.t 3)⟩,
oo 14 (.bin .lss (.t 12) (.t 13)),
om 5 14])
  (.pre [5] .ret))) }
def x48 : XFn := { np := 1, isOpen := false, ns := 0, res := [.tmp 2], code :=
 (sr [0] [oo 2 (.mov (.c (.bool false)))]
  (sr [2] [om 3 0,
oo 4 (.call (.c (.fn 64 [])) [(.t 3)] []),
om 2 4]
  (.pre [2] .ret))) }
def x49 : XFn := { np := 2, isOpen := false, ns := 2, res := [.tmp 4], code :=
 (sr [0,1] [oo 4 (.mov (.c (.int .i64 0)))]
  (sr [5,6,7] [om 9 0,
om 10 1,
oo 11 (.call (.c (.fn 65 [])) [(.t 9), (.t 10)] []),
om 8 11,
oo 12 (.ext (.t 8) 0),
oo 13 (.ext (.t 8) 1),
oo 14 (.ext (.t 8) 2),
oo 5 (.alloc 0 [.bool false, .nilSl]),
oo 6 (.alloc 1 [.bool false, .nilSl]),
⟨none,none,[],.store 2 (.t 5) (.t 12)⟩,
⟨none,none,[],.store 2 (.t 6) (.t 13)⟩,
om 7 14]
  (.seq (.blk 0
  (sr [5,6,15] [om 16 7,
oo 17 (.un .not (.t 16)),
om 15 17]
  (.cond (.t 15)
  (sr [4] [oo 4 (.mov (.c (.int .i64 0)))]
  (.pre [4] .ret))
  (sr [5,6,18] [oo 19 (.padd (.t 5) 0),
oo 20 (.load .one (.t 19)),
om 21 20,
og 22 21 true (.padd (.t 6) 0),
og 23 21 true (.load .one (.t 22)),
oo 24 (.pick (.t 21) (.t 23) (.c (.bool false))),
om 18 24]
  (.cond (.t 18)
  (sr [4] [oo 25 (.padd (.t 6) 1),
oo 26 (.load .one (.t 25)),
oo 27 (.padd (.t 5) 1),
oo 28 (.load .one (.t 27)),
oo 29 (.call (.c (.fn 66 [])) [(.t 26), (.t 28)] []),
om 4 29]
  (.pre [4] .ret))
  (sr [5,6,30] [oo 31 (.padd (.t 5) 0),
oo 32 (.load .one (.t 31)),
om 30 32]
  (.cond (.t 30)
  (sr [4] [oo 4 (.mov (.c (.int .i64 (-1))))]
  (.pre [4] .ret))
  (sr [5,6,33] [oo 34 (.padd (.t 6) 0),
oo 35 (.load .one (.t 34)),
om 33 35]
  (.cond (.t 33)
  (sr [4] [oo 4 (.mov (.c (.int .i64 1)))]
  (.pre [4] .ret))
  .skip)))))))))
  (.pre [5,6] (sr [4] [oo 36 (.padd (.t 5) 1),
oo 37 (.load .one (.t 36)),
oo 38 (.padd (.t 6) 1),
oo 39 (.load .one (.t 38)),
oo 40 (.call (.c (.fn 66 [])) [(.t 37), (.t 39)] []),
om 4 40]
  (.pre [4] .ret)))))) }
@[go_sem] def c50_0 : XC := (.pre [9,10]
 (.seq (sr [9,10,28] [om 26 10,
oo 27 (.len false (.t 26)),
oo 28 (.bin .gtr (.t 27) (.c (.int .i64 0)))]
  (.cond (.t 28)
  .skip
  (.pre [9] (.exit 0))))
  (.pre [9,10] (.blk 1
  (sr [10,12] [om 30 9,
om 31 10,
oo 32 (.call (.c (.fn 67 [])) [(.t 30), (.t 31)] []),
om 29 32,
oo 33 (.ext (.t 29) 0),
oo 34 (.ext (.t 29) 1),
om 11 33,
om 12 34]
  (.reg false [9,10] [] [om 35 10,
om 36 12,
om 9 35,
om 10 36]))))))
def b50_0 : XC := c50_0
@[go_sem] theorem e50_0 (L : Lib) (cx : Cx) (env : Env) (h : Heap) : runC L cx b50_0 (env, h) = runC L cx c50_0 (env, h) := rfl
def x50 : XFn := { np := 2, isOpen := false, ns := 2, res := [.tmp 4, .tmp 5], code :=
 (sr [0,1] [oo 4 (.mov (.c (.str []))),
oo 5 (.mov (.c (.int .i64 0)))]
  (sr [6,7,8] [om 14 0,
om 15 1,
oo 16 (.call (.c (.fn 65 [])) [(.t 14), (.t 15)] []),
om 13 16,
oo 17 (.ext (.t 13) 0),
oo 18 (.ext (.t 13) 1),
oo 19 (.ext (.t 13) 2),
oo 6 (.alloc 0 [.bool false, .nilSl]),
oo 7 (.alloc 1 [.bool false, .nilSl]),
⟨none,none,[],.store 2 (.t 6) (.t 17)⟩,
⟨none,none,[],.store 2 (.t 7) (.t 18)⟩,
om 8 19]
  (.seq (sr [6,7,21] [om 20 8,
oo 21 (.un .not (.t 20))]
  (.cond (.t 21)
  (sr [4,5] [oo 4 (.mov (.c (.str []))),
oo 5 (.mov (.c (.int .i64 30)))]
  (.pre [4,5] .ret))
  .skip))
  (.pre [6,7] (.seq (.reg true [9,10] [] [oo 22 (.padd (.t 6) 1),
⟨some 23,none,[.box 22], .load .one (.t 22)⟩,
oo 24 (.padd (.t 7) 1),
⟨some 25,none,[.box 24], .load .one (.t 24)⟩,
om 9 23,
om 10 25])
  (.seq (.blk 0
  (.loop b50_0))
  (.pre [9] (sr [4,5] [om 37 9,
oo 38 (.build [.bool false, .nilSl] [(1, 1, (.t 37))]),
oo 39 (.call (.c (.fn 68 [])) [(.t 38)] []),
oo 40 (.ext (.t 39) 0),
oo 41 (.ext (.t 39) 1),
om 4 40,
om 5 41]
  (.pre [4,5] .ret))))))))) }
def x53 : XFn := { np := 1, isOpen := false, ns := 0, res := [.tmp 2], code :=
 (sr [0] [oo 2 (.mov (.c (.int .i64 0)))]
  (sr [2] [om 3 0,
oo 4 (.bin .add (.t 3) (.c (.int .i64 512))),
oo 5 (.call (.c (.fn 73 [])) [(.t 4), (.c (.int .i64 1024))] []),
oo 6 (.minmax true [(.t 5), (.c (.int .i64 (-32768)))]),
oo 7 (.minmax false [(.t 6), (.c (.int .i64 32767))]),
om 2 7]
  (.pre [2] .ret))) }
@[go_sem] def c54_0 : XC := (.pre [0,1,7,8]
 (sr [0,1,7,8,9] [oo 9 (.bin .lss (.t 8) (.t 7))]
  (.seq (.cond (.t 9)
  .skip
  (.pre [] (.exit 0)))
  (.pre [0,1,7,8] (.seq (.blk 1
  (sr [0,1,5,7,8] [om 10 8,
om 5 10]
  (sr [0,1,5,7,8,16] [om 11 1,
om 12 0,
om 13 5,
oo 14 (.ixS 1 (.t 12) (.t 13)),
oo 15 (.load .one (.t 14)),
oo 16 (.call (.t 11) [(.t 15)] [])]
  (.cond (.t 16)
  (sr [4] [om 17 5,
om 4 17]
  (.pre [4] .ret))
  .skip))))
  (.pre [0,1,7,8] (.reg false [0,1,7,8] [] [oo 18 (.bin .add (.t 8) (.c (.int .i64 1))),
om 8 18])))))))
def b54_0 : XC := c54_0
@[go_sem] theorem e54_0 (L : Lib) (cx : Cx) (env : Env) (h : Heap) : runC L cx b54_0 (env, h) = runC L cx c54_0 (env, h) := rfl
def x54 : XFn := { np := 2, isOpen := false, ns := 0, res := [.tmp 4], code :=
 (sr [0,1] [oo 4 (.mov (.c (.int .i64 0)))]
  (.seq (sr [0,1,7,8] [om 6 0,
oo 7 (.len false (.t 6)),
oo 8 (.mov (.c (.int .i64 0)))]
  (.blk 0
  (.loop b54_0)))
  (.pre [] (sr [4] [oo 4 (.mov (.c (.int .i64 (-1))))]
  (.pre [4] .ret))))) }
def x55 : XFn := { np := 2, isOpen := false, ns := 2, res := [.cell 4 (.agg 2), .tmp 5], code :=
 (sr [0,1,4] [oo 4 (.alloc 1 [.str [], .str []]),
oo 5 (.mov (.c (.int .i64 0)))]
  (sr [0,1,4,6] [om 7 0,
oo 8 (.call (.c (.fn 48 [])) [(.t 7)] []),
oo 9 (.un .not (.t 8)),
om 10 9,
og 11 10 false (.mov (.t 1)),
og 12 10 false (.call (.c (.fn 48 [])) [(.t 11)] []),
og 13 10 false (.un .not (.t 12)),
oo 14 (.pick (.t 10) (.c (.bool true)) (.t 13)),
oo 15 (.build [.bool false] [(0, 1, (.t 14))]),
oo 16 (.box 0 (.t 15)),
om 6 16]
  (sr [4,5] [om 17 6,
om 18 0,
om 19 1,
oo 20 (.call (.c (.fn 59 [])) [(.t 17), (.t 18), (.t 19)] []),
oo 21 (.ext (.t 20) 0),
oo 22 (.ext (.t 20) 1),
⟨none,none,[],.store 2 (.t 4) (.t 21)⟩,
om 5 22]
  (.pre [4,5] .ret)))) }
def x56 : XFn := { np := 1, isOpen := false, ns := 0, res := [.tmp 2], code :=
 (sr [0] [oo 2 (.mov (.c (.str [])))]
  (sr [2] [om 3 0,
oo 4 (.call (.c (.fn 74 [])) [(.t 3)] []),
om 2 4]
  (.pre [2] .ret))) }
@[go_sem] def c57_0 : XC := (.pre [0,6,7,8]
 (sr [0,6,7,8,9] [oo 9 (.bin .lss (.t 8) (.t 7))]
  (.seq (.cond (.t 9)
  .skip
  (.pre [] (.exit 0)))
  (.pre [0,6,7,8] (.seq (.blk 1
  (sr [0,5,6,7,8] [oo 10 (.ixS 2 (.t 6) (.t 8)),
oo 11 (.load (.agg 2) (.t 10)),
oo 5 (.alloc 0 [.str [], .str []]),
⟨none,none,[],.store 2 (.t 5) (.t 11)⟩]
  (.reg false [0,6,7,8] [] [om 12 0,
om 13 0,
oo 14 (.nchk (.t 13)),
oo 15 (.padd (.t 14) 0),
oo 16 (.load .one (.t 15)),
om 17 16,
og 18 17 false (.load (.agg 2) (.t 5)),
og 19 17 false (.call (.c (.fn 26 [])) [(.t 18)] []),
og 20 17 false (.un .not (.t 19)),
oo 21 (.pick (.t 17) (.c (.bool true)) (.t 20)),
oo 22 (.nchk (.t 12)),
oo 23 (.padd (.t 22) 0),
⟨none,none,[],.store 1 (.t 23) (.t 21)⟩])))
  (.pre [0,6,7,8] (.reg false [0,6,7,8] [] [oo 24 (.bin .add (.t 8) (.c (.int .i64 1))),
om 8 24])))))))
def b57_0 : XC := c57_0
@[go_sem] theorem e57_0 (L : Lib) (cx : Cx) (env : Env) (h : Heap) : runC L cx b57_0 (env, h) = runC L cx c57_0 (env, h) := rfl
def x57 : XFn := { np := 2, isOpen := true, ns := 1, res := [], code :=
 (sr [0,6,7,8] [om 6 1,
oo 7 (.len false (.t 6)),
oo 8 (.mov (.c (.int .i64 0)))]
  (.blk 0
  (.loop b57_0))) }
def x58 : XFn := { np := 3, isOpen := true, ns := 0, res := [.tmp 6], code :=
 (sr [0,1,2] [oo 6 (.mov (.c (.str [])))]
  (sr [6] [om 7 0,
om 8 1,
om 9 2,
oo 10 (.call (.c (.fn 75 [])) [(.t 7), (.c (.fn 76 [])), (.t 8), (.t 9)] []),
om 6 10]
  (.pre [6] .ret))) }
def x59 : XFn := { np := 3, isOpen := true, ns := 2, res := [.cell 6 (.agg 2), .tmp 7], code :=
 (sr [0,1,2,6] [oo 6 (.alloc 1 [.str [], .str []]),
oo 7 (.mov (.c (.int .i64 0)))]
  (.seq (sr [0,1,2,6,17] [om 10 0,
oo 11 (.nchk (.t 10)),
oo 12 (.padd (.t 11) 0),
oo 13 (.load .one (.t 12)),
om 14 13,
og 15 14 false (.mov (.t 2)),
og 16 14 false (.bin .eql (.t 15) (.c (.str [48]))),
oo 17 (.pick (.t 14) (.c (.bool true)) (.t 16))]
  (.cond (.t 17)
  (sr [6,7] [oo 18 (.build [.str [], .str []] []),
⟨none,none,[],.store 2 (.t 6) (.t 18)⟩,
oo 7 (.mov (.c (.int .i64 40)))]
  (.pre [6,7] .ret))
  .skip))
  (.pre [0,1,2,6] (.seq (sr [0,1,2,6,21] [om 19 2,
oo 20 (.call (.c (.fn 49 [])) [(.t 19), (.c (.str [48]))] []),
oo 21 (.bin .lss (.t 20) (.c (.int .i64 0)))]
  (.cond (.t 21)
  (.reg false [0,1,2,6] [] [om 22 0,
om 23 1,
oo 24 (.call (.c (.fn 75 [])) [(.t 22), (.c (.fn 77 [])), (.c (.str [48])), (.t 23)] []),
om 25 0,
om 26 2,
oo 27 (.call (.c (.fn 75 [])) [(.t 25), (.c (.fn 77 [])), (.c (.str [48])), (.t 26)] []),
om 1 24,
om 2 27])
  .skip))
  (.pre [0,1,2,6] (sr [0,1,2,6,8] [om 28 0,
om 29 1,
om 30 2,
oo 31 (.call (.c (.fn 75 [])) [(.t 28), (.c (.fn 50 [])), (.t 29), (.t 30)] []),
om 8 31]
  (sr [0,6,9] [om 32 0,
om 33 1,
om 34 8,
oo 35 (.call (.c (.fn 78 [])) [(.t 32), (.t 33), (.t 34)] []),
om 36 0,
om 37 2,
om 38 8,
oo 39 (.call (.c (.fn 78 [])) [(.t 36), (.t 37), (.t 38)] []),
oo 40 (.build [.str [], .str []] [(0, 1, (.t 35)), (1, 1, (.t 39))]),
oo 9 (.alloc 0 [.str [], .str []]),
⟨none,none,[],.store 2 (.t 9) (.t 40)⟩]
  (.seq (sr [6,9,44] [om 41 0,
oo 42 (.nchk (.t 41)),
oo 43 (.padd (.t 42) 0),
oo 44 (.load .one (.t 43))]
  (.cond (.t 44)
  (sr [6,7] [oo 45 (.build [.str [], .str []] []),
⟨none,none,[],.store 2 (.t 6) (.t 45)⟩,
oo 7 (.mov (.c (.int .i64 40)))]
  (.pre [6,7] .ret))
  .skip))
  (.pre [6,9] (sr [6,7] [oo 46 (.load (.agg 2) (.t 9)),
⟨none,none,[],.store 2 (.t 6) (.t 46)⟩,
oo 7 (.mov (.c (.int .i64 0)))]
  (.pre [6,7] .ret))))))))))) }
@[go_sem] def c61_0 : XC := (.pre [0,3,4]
 (.seq (sr [0,3,4,10] [om 9 4,
oo 10 (.bin .neq (.t 9) (.c (.int .i64 0)))]
  (.cond (.t 10)
  .skip
  (.pre [0,3] (.exit 0))))
  (.pre [0,3,4] (.seq (.blk 1
  (sr [0,3,4,5] [om 13 4,
oo 14 (.bin .rem (.t 13) (.c (.int .i64 10))),
om 5 14]
  (.seq (sr [0,3,4,5,16] [om 15 5,
oo 16 (.bin .lss (.t 15) (.c (.int .i64 0)))]
  (.cond (.t 16)
  (.reg false [0,3,4,5] [] [om 17 5,
oo 18 (.un .neg (.t 17)),
om 5 18])
  .skip))
  (.pre [0,3,4,5] (.reg false [0,3,4] [] [om 19 3,
om 20 5,
oo 21 (.bslice 1 (.int .i64 0) 1 [(0, (.t 20))]),
oo 22 (.app 0 1 17592186044416 (.t 19) (.t 21)),
om 3 22])))))
  (.pre [0,3,4] (.reg false [0,3,4] [] [om 11 4,
oo 12 (.bin .quo (.t 11) (.c (.int .i64 10))),
om 4 12]))))))
def b61_0 : XC := c61_0
@[go_sem] theorem e61_0 (L : Lib) (cx : Cx) (env : Env) (h : Heap) : runC L cx b61_0 (env, h) = runC L cx c61_0 (env, h) := rfl
def x61 : XFn := { np := 1, isOpen := false, ns := 1, res := [.tmp 2], code :=
 (sr [0] [oo 2 (.mov (.c (.str [])))]
  (sr [0,3] [oo 3 (.mov (.c .nilSl))]
  (.seq (sr [0,3,4] [om 8 0,
om 4 8]
  (.blk 0
  (.loop b61_0)))
  (.pre [0,3] (sr [6] [om 24 0,
oo 25 (.bin .lss (.t 24) (.c (.int .i64 0))),
om 26 3,
oo 27 (.call (.c (.fn 84 [])) [(.t 25), (.t 26)] []),
om 23 27,
oo 28 (.ext (.t 23) 0),
oo 29 (.ext (.t 23) 1),
om 6 28,
om 7 29]
  (sr [2] [om 30 6,
om 2 30]
  (.pre [2] .ret))))))) }
def x64 : XFn := { np := 1, isOpen := false, ns := 0, res := [.tmp 2], code :=
 (sr [0] [oo 2 (.mov (.c (.bool false)))]
  (sr [0,3] [om 4 0,
oo 5 (.call (.c (.fn 88 [])) [(.t 4), (.c (.str [45]))] []),
om 3 5]
  (.seq (sr [0,3,17] [om 6 3,
oo 7 (.bin .eql (.t 6) (.c (.str []))),
om 8 7,
og 9 8 false (.mov (.t 3)),
og 10 8 false (.len true (.t 9)),
og 11 8 false (.bin .gtr (.t 10) (.c (.int .i64 200))),
oo 12 (.pick (.t 8) (.c (.bool true)) (.t 11)),
om 13 12,
og 14 13 false (.mov (.t 3)),
og 15 13 false (.call (.c (.fn 89 [])) [(.t 14), (.c (.str [48,49,50,51,52,53,54,55,56,57]))] []),
og 16 13 false (.bin .neq (.t 15) (.c (.str []))),
oo 17 (.pick (.t 13) (.c (.bool true)) (.t 16))]
  (.cond (.t 17)
  (sr [2] [oo 2 (.mov (.c (.bool false)))]
  (.pre [2] .ret))
  .skip))
  (.pre [0,3] (sr [2] [om 18 0,
oo 19 (.bin .eql (.t 18) (.c (.str [48]))),
om 20 19,
og 21 20 false (.mov (.t 3)),
og 22 20 false (.ixStr (.t 21) (.c (.int .i64 0))),
og 23 20 false (.bin .neq (.t 22) (.c (.int .u8 48))),
oo 24 (.pick (.t 20) (.c (.bool true)) (.t 23)),
om 2 24]
  (.pre [2] .ret)))))) }
def x65 : XFn := { np := 2, isOpen := false, ns := 2, res := [.cell 4 (.agg 2), .cell 5 (.agg 2), .tmp 6], code :=
 (sr [0,1,4,5] [oo 4 (.alloc 0 [.bool false, .nilSl]),
oo 5 (.alloc 1 [.bool false, .nilSl]),
oo 6 (.mov (.c (.bool false)))]
  (.seq (sr [0,1,4,5,14] [om 7 0,
oo 8 (.call (.c (.fn 64 [])) [(.t 7)] []),
oo 9 (.un .not (.t 8)),
om 10 9,
og 11 10 false (.mov (.t 1)),
og 12 10 false (.call (.c (.fn 64 [])) [(.t 11)] []),
og 13 10 false (.un .not (.t 12)),
oo 14 (.pick (.t 10) (.c (.bool true)) (.t 13))]
  (.cond (.t 14)
  (sr [4,5,6] [oo 15 (.build [.bool false, .nilSl] []),
oo 16 (.build [.bool false, .nilSl] []),
⟨none,none,[],.store 2 (.t 4) (.t 15)⟩,
⟨none,none,[],.store 2 (.t 5) (.t 16)⟩,
oo 6 (.mov (.c (.bool false)))]
  (.pre [4,5,6] .ret))
  .skip))
  (.pre [0,1,4,5] (sr [4,5,6] [om 17 0,
oo 18 (.call (.c (.fn 90 [])) [(.t 17)] []),
om 19 1,
oo 20 (.call (.c (.fn 90 [])) [(.t 19)] []),
⟨none,none,[],.store 2 (.t 4) (.t 18)⟩,
⟨none,none,[],.store 2 (.t 5) (.t 20)⟩,
oo 6 (.mov (.c (.bool true)))]
  (.pre [4,5,6] .ret))))) }
def r0 : XRnd := { ps := [19,20], asg := (sr [3,4,5,20] [om 5 19]
  (.reg false [3,4,5,6] [] [om 6 20])), body :=
 (.blk 1
  (sr [3,4,5,6,26] [om 21 6,
oo 22 (.load .one (.t 3)),
om 23 5,
oo 24 (.ixS 1 (.t 22) (.t 23)),
oo 25 (.load .one (.t 24)),
oo 26 (.bin .neq (.t 21) (.t 25))]
  (.cond (.t 26)
  (sr [] [om 27 6,
oo 28 (.load .one (.t 3)),
om 29 5,
oo 30 (.ixS 1 (.t 28) (.t 29)),
oo 31 (.load .one (.t 30)),
oo 32 (.call (.c (.fn 91 [])) [(.t 27), (.t 31)] []),
⟨none,none,[],.store 1 (.t 4) (.t 32)⟩]
  (.pre [] .ret))
  .skip))) }
def x66 : XFn := { np := 2, isOpen := false, ns := 2, res := [.cell 4 .one], code :=
 (sr [0,3,4] [oo 3 (.boxR (.t 1)),
oo 4 (.alloc 1 [.int .i64 0])]
  (.seq (sr [0,3,4,11] [om 7 0,
oo 8 (.len false (.t 7)),
oo 9 (.load .one (.t 3)),
oo 10 (.len false (.t 9)),
oo 11 (.bin .neq (.t 8) (.t 10))]
  (.cond (.t 11)
  (sr [4] [om 12 0,
oo 13 (.len false (.t 12)),
oo 14 (.load .one (.t 3)),
oo 15 (.len false (.t 14)),
oo 16 (.call (.c (.fn 91 [])) [(.t 13), (.t 15)] []),
⟨none,none,[],.store 1 (.t 4) (.t 16)⟩]
  (.pre [4] .ret))
  .skip))
  (.pre [0,3,4] (.seq (sr [3,4,18] [om 17 0,
oo 18 (.call (.c (.fn 92 [])) [(.t 17)] [])]
  (.blk 0
  (.rfn 0 (.t 18) 0)))
  (.pre [4] (sr [4] [⟨none,none,[],.store 1 (.t 4) (.c (.int .i64 0))⟩]
  (.pre [4] .ret))))))) }
def r1 : XRnd := { ps := [15,16], asg := (sr [3,4,5,6,16] [om 6 15]
  (.reg false [3,4,5,6,7] [] [om 7 16])), body :=
 (.blk 1
  (sr [3,4,5,6] [om 17 7,
oo 18 (.bslice 1 (.int .i64 0) 1 [(0, (.t 17))]),
oo 19 (.load .one (.t 5)),
oo 20 (.app 1002 1 17592186044416 (.t 18) (.t 19)),
oo 21 (.call (.c (.fn 93 [])) [(.t 20)] []),
⟨none,none,[],.store 1 (.t 5) (.t 21)⟩]
  (sr [4,5,6,8] [oo 22 (.load .one (.t 3)),
oo 23 (.mkfn 1094 [(.t 22)]),
oo 8 (.alloc 1 [.nilFn]),
⟨none,none,[],.store 1 (.t 8) (.t 23)⟩]
  (sr [4,5,6,8,9] [oo 24 (.mkfn 95 [(.t 8), (.t 5)]),
om 9 24]
  (.seq (.reg true [4,5,6,8] [] [⟨some 25,none,[.box 4], .load .one (.t 4)⟩,
om 26 6,
om 27 9,
oo 28 (.call (.c (.fn 96 [])) [(.c (.int .i64 9999)), (.t 27)] []),
oo 29 (.ixS 1 (.t 25) (.t 26)),
⟨none,none,[.elem 29, .closed 28], .store 1 (.t 29) (.t 28)⟩])
  (.reg true [] [] [⟨some 30,none,[.box 5], .load .one (.t 5)⟩,
⟨some 31,none,[.box 8, .ne 8 5], .load .one (.t 8)⟩,
⟨some 32,none,[.box 4, .ne 4 5], .load .one (.t 4)⟩,
om 33 6,
oo 34 (.ixS 1 (.t 32) (.t 33)),
⟨some 35,none,[.elem 34], .load .one (.t 34)⟩,
⟨some 36,none,[.fn 31 [33,37,41,45,47,53,56,61,95,127,130,132,138,139,1094]], .call (.t 31) [(.t 35)] []⟩,
oo 37 (.call (.c (.fn 97 [])) [(.t 30), (.t 36)] []),
⟨none,none,[.box 5], .store 1 (.t 5) (.t 37)⟩])))))) }
def x67 : XFn := { np := 2, isOpen := false, ns := 6, res := [.cell 4 .one, .cell 5 .one], code :=
 (sr [0,3,4,5] [oo 3 (.boxR (.t 1)),
oo 4 (.alloc 4 [.nilSl]),
oo 5 (.alloc 5 [.nilSl])]
  (sr [0,3,4,5] [om 10 0,
oo 11 (.len false (.t 10)),
oo 12 (.mk 3 1 (.int .i64 0) 17592186044416 (.t 11) (.t 11)),
⟨none,none,[],.store 1 (.t 4) (.t 12)⟩]
  (.seq (sr [3,4,5,14] [om 13 0,
oo 14 (.call (.c (.fn 92 [])) [(.t 13)] [])]
  (.blk 0
  (.rfn 0 (.t 14) 1)))
  (.pre [4,5] (.seq (.reg true [4,5] [] [⟨some 38,none,[.box 4, .ne 4 5], .load .one (.t 4)⟩,
oo 39 (.call (.c (.fn 93 [])) [(.t 38)] []),
⟨some 40,none,[.box 5, .ne 5 4], .load .one (.t 5)⟩,
⟨none,none,[.box 4], .store 1 (.t 4) (.t 39)⟩,
⟨none,none,[.box 5], .store 1 (.t 5) (.t 40)⟩])
  (.pre [4,5] .ret)))))) }
def r2 : XRnd := { ps := [16,17], asg := (sr [1,4,5,17] [om 5 16]
  (.reg false [1,4,5,6] [] [om 6 17])), body :=
 (.blk 1
  (sr [1,4,5,7] [om 18 6,
oo 19 (.call (.c (.fn 74 [])) [(.t 18)] []),
om 7 19]
  (.seq (sr [4,7,25] [om 20 5,
oo 21 (.padd (.t 1) 1),
oo 22 (.load .one (.t 21)),
oo 23 (.len false (.t 22)),
oo 24 (.bin .sub (.t 23) (.c (.int .i64 1))),
oo 25 (.bin .lss (.t 20) (.t 24))]
  (.cond (.t 25)
  (.reg false [4,7] [] [om 26 7,
oo 27 (.len true (.t 26)),
oo 28 (.bin .sub (.c (.int .i64 4)) (.t 27)),
oo 29 (.call (.c (.fn 98 [])) [(.c (.str [48])), (.t 28)] []),
om 30 7,
oo 31 (.bin .add (.t 29) (.t 30)),
om 7 31])
  .skip))
  (.pre [4,7] (.reg false [] [] [om 32 7,
oo 33 (.bwr 1 99 (.t 4) (.t 32))]))))) }
def x68 : XFn := { np := 1, isOpen := false, ns := 3, res := [.tmp 2, .tmp 3], code :=
 (sr [1,2,3] [oo 1 (.boxR (.t 0)),
oo 2 (.mov (.c (.str []))),
oo 3 (.mov (.c (.int .i64 0)))]
  (.seq (sr [1,2,3,12] [oo 9 (.padd (.t 1) 1),
oo 10 (.load .one (.t 9)),
oo 11 (.len false (.t 10)),
oo 12 (.bin .eql (.t 11) (.c (.int .i64 0)))]
  (.cond (.t 12)
  (sr [2,3] [oo 2 (.mov (.c (.str [48]))),
oo 3 (.mov (.c (.int .i64 0)))]
  (.pre [2,3] .ret))
  .skip))
  (.pre [1,2,3] (sr [1,2,3,4] [oo 4 (.mkbld 2)]
  (.seq (sr [1,2,3,4,15] [oo 13 (.padd (.t 1) 1),
oo 14 (.load .one (.t 13)),
oo 15 (.call (.c (.fn 92 [])) [(.t 14)] [])]
  (.blk 0
  (.rfn 0 (.t 15) 2)))
  (.pre [1,4] (sr [1,8] [oo 34 (.bstr 100 (.t 4)),
om 8 34]
  (.seq (sr [1,8,37] [om 35 8,
oo 36 (.len true (.t 35)),
oo 37 (.bin .gtr (.t 36) (.c (.int .i64 200)))]
  (.cond (.t 37)
  (sr [2,3] [oo 2 (.mov (.c (.str []))),
oo 3 (.mov (.c (.int .i64 30)))]
  (.pre [2,3] .ret))
  .skip))
  (.pre [1,8] (.seq (sr [8,39] [oo 38 (.padd (.t 1) 0),
oo 39 (.load .one (.t 38))]
  (.cond (.t 39)
  (sr [2,3] [om 40 8,
oo 41 (.bin .add (.c (.str [45])) (.t 40)),
om 2 41,
oo 3 (.mov (.c (.int .i64 0)))]
  (.pre [2,3] .ret))
  .skip))
  (.pre [8] (sr [2,3] [om 42 8,
om 2 42,
oo 3 (.mov (.c (.int .i64 0)))]
  (.pre [2,3] .ret))))))))))))) }
def x69 : XFn := { np := 2, isOpen := false, ns := 2, res := [.tmp 4, .tmp 5, .tmp 6], code :=
 (sr [0,1] [oo 4 (.mov (.c (.str []))),
oo 5 (.mov (.c (.str []))),
oo 6 (.mov (.c (.int .i64 0)))]
  (sr [7,8,9] [om 17 0,
om 18 1,
oo 19 (.call (.c (.fn 65 [])) [(.t 17), (.t 18)] []),
om 16 19,
oo 20 (.ext (.t 16) 0),
oo 21 (.ext (.t 16) 1),
oo 22 (.ext (.t 16) 2),
oo 7 (.alloc 0 [.bool false, .nilSl]),
oo 8 (.alloc 1 [.bool false, .nilSl]),
⟨none,none,[],.store 2 (.t 7) (.t 20)⟩,
⟨none,none,[],.store 2 (.t 8) (.t 21)⟩,
om 9 22]
  (.seq (sr [7,8,30] [om 23 9,
oo 24 (.un .not (.t 23)),
om 25 24,
og 26 25 false (.padd (.t 8) 1),
og 27 25 false (.load .one (.t 26)),
og 28 25 false (.len false (.t 27)),
og 29 25 false (.bin .eql (.t 28) (.c (.int .i64 0))),
oo 30 (.pick (.t 25) (.c (.bool true)) (.t 29))]
  (.cond (.t 30)
  (sr [4,5,6] [oo 4 (.mov (.c (.str []))),
oo 5 (.mov (.c (.str []))),
oo 6 (.mov (.c (.int .i64 30)))]
  (.pre [4,5,6] .ret))
  .skip))
  (.pre [7,8] (sr [7,8,10,11] [oo 32 (.padd (.t 7) 1),
oo 33 (.load .one (.t 32)),
oo 34 (.padd (.t 8) 1),
oo 35 (.load .one (.t 34)),
oo 36 (.call (.c (.fn 67 [])) [(.t 33), (.t 35)] []),
om 31 36,
oo 37 (.ext (.t 31) 0),
oo 38 (.ext (.t 31) 1),
om 10 37,
om 11 38]
  (.seq (sr [7,8,10,11,45] [oo 39 (.padd (.t 7) 0),
oo 40 (.load .one (.t 39)),
om 41 40,
og 42 41 true (.mov (.t 11)),
og 43 41 true (.len false (.t 42)),
og 44 41 true (.bin .gtr (.t 43) (.c (.int .i64 0))),
oo 45 (.pick (.t 41) (.t 44) (.c (.bool false)))]
  (.cond (.t 45)
  (.reg true [7,8,10,11] [] [om 46 10,
oo 47 (.call (.c (.fn 102 [])) [] []),
oo 48 (.call (.c (.fn 101 [])) [(.t 46), (.t 47)] []),
oo 49 (.padd (.t 8) 1),
⟨some 50,none,[.box 49], .load .one (.t 49)⟩,
om 51 11,
oo 52 (.call (.c (.fn 97 [])) [(.t 50), (.t 51)] []),
om 10 48,
om 11 52])
  .skip))
  (.pre [7,8,10,11] (sr [11,12,13] [oo 54 (.padd (.t 7) 0),
oo 55 (.load .one (.t 54)),
oo 56 (.padd (.t 8) 0),
oo 57 (.load .one (.t 56)),
oo 58 (.eqv true [] (.t 55) (.t 57)),
om 59 10,
oo 60 (.build [.bool false, .nilSl] [(0, 1, (.t 58)), (1, 1, (.t 59))]),
oo 61 (.call (.c (.fn 68 [])) [(.t 60)] []),
om 53 61,
oo 62 (.ext (.t 53) 0),
oo 63 (.ext (.t 53) 1),
om 12 62,
om 13 63]
  (.seq (sr [11,12,13,65] [om 64 13,
oo 65 (.bin .neq (.t 64) (.c (.int .i64 0)))]
  (.cond (.t 65)
  (sr [4,5,6] [om 66 13,
oo 4 (.mov (.c (.str []))),
oo 5 (.mov (.c (.str []))),
om 6 66]
  (.pre [4,5,6] .ret))
  .skip))
  (.pre [11,12] (sr [12,14] [om 68 11,
oo 69 (.build [.bool false, .nilSl] [(1, 1, (.t 68))]),
oo 70 (.call (.c (.fn 68 [])) [(.t 69)] []),
om 67 70,
oo 71 (.ext (.t 67) 0),
oo 72 (.ext (.t 67) 1),
om 14 71,
om 15 72]
  (sr [4,5,6] [om 73 12,
om 74 14,
om 4 73,
om 5 74,
oo 6 (.mov (.c (.int .i64 0)))]
  (.pre [4,5,6] .ret))))))))))))) }
def x73 : XFn := { np := 2, isOpen := false, ns := 0, res := [.tmp 4], code :=
 (sr [0,1] [oo 4 (.mov (.c (.int .i64 0)))]
  (.seq (sr [0,1,6] [om 5 0,
oo 6 (.bin .lss (.t 5) (.c (.int .i64 0)))]
  (.cond (.t 6)
  (sr [4] [om 7 0,
oo 8 (.un .neg (.t 7)),
om 9 1,
oo 10 (.bin .add (.t 8) (.t 9)),
oo 11 (.bin .sub (.t 10) (.c (.int .i64 1))),
om 12 1,
oo 13 (.bin .quo (.t 11) (.t 12)),
oo 14 (.un .neg (.t 13)),
om 4 14]
  (.pre [4] .ret))
  .skip))
  (.pre [0,1] (sr [4] [om 15 0,
om 16 1,
oo 17 (.bin .quo (.t 15) (.t 16)),
om 4 17]
  (.pre [4] .ret))))) }
def x75 : XFn := { np := 4, isOpen := true, ns := 0, res := [.tmp 8], code :=
 (sr [0,1,2,3] [oo 8 (.mov (.c (.str [])))]
  (.seq (sr [0,1,2,3,14] [om 11 0,
oo 12 (.nchk (.t 11)),
oo 13 (.padd (.t 12) 0),
oo 14 (.load .one (.t 13))]
  (.cond (.t 14)
  (sr [8] [oo 8 (.mov (.c (.str [])))]
  (.pre [8] .ret))
  .skip))
  (.pre [0,1,2,3] (sr [0,9,10] [om 16 1,
om 17 2,
om 18 3,
oo 19 (.call (.t 16) [(.t 17), (.t 18)] []),
om 15 19,
oo 20 (.ext (.t 15) 0),
oo 21 (.ext (.t 15) 1),
om 9 20,
om 10 21]
  (sr [9] [om 22 0,
om 23 10,
oo 24 (.bin .neq (.t 23) (.c (.int .i64 0))),
oo 25 (.nchk (.t 22)),
oo 26 (.padd (.t 25) 0),
⟨none,none,[],.store 1 (.t 26) (.t 24)⟩]
  (sr [8] [om 27 9,
om 8 27]
  (.pre [8] .ret))))))) }
def x76 : XFn := { np := 2, isOpen := false, ns := 2, res := [.tmp 4, .tmp 5], code :=
 (sr [0,1] [oo 4 (.mov (.c (.str []))),
oo 5 (.mov (.c (.int .i64 0)))]
  (sr [6,7,8] [om 10 0,
om 11 1,
oo 12 (.call (.c (.fn 65 [])) [(.t 10), (.t 11)] []),
om 9 12,
oo 13 (.ext (.t 9) 0),
oo 14 (.ext (.t 9) 1),
oo 15 (.ext (.t 9) 2),
oo 6 (.alloc 0 [.bool false, .nilSl]),
oo 7 (.alloc 1 [.bool false, .nilSl]),
⟨none,none,[],.store 2 (.t 6) (.t 13)⟩,
⟨none,none,[],.store 2 (.t 7) (.t 14)⟩,
om 8 15]
  (.seq (sr [6,7,17] [om 16 8,
oo 17 (.un .not (.t 16))]
  (.cond (.t 17)
  (sr [4,5] [oo 4 (.mov (.c (.str []))),
oo 5 (.mov (.c (.int .i64 30)))]
  (.pre [4,5] .ret))
  .skip))
  (.pre [6,7] (.seq (.reg true [4,5] [] [oo 18 (.padd (.t 6) 0),
⟨some 19,none,[.box 18], .load .one (.t 18)⟩,
oo 20 (.padd (.t 7) 0),
⟨some 21,none,[.box 20], .load .one (.t 20)⟩,
oo 22 (.eqv true [] (.t 19) (.t 21)),
oo 23 (.padd (.t 6) 1),
⟨some 24,none,[.box 23], .load .one (.t 23)⟩,
oo 25 (.padd (.t 7) 1),
⟨some 26,none,[.box 25], .load .one (.t 25)⟩,
oo 27 (.call (.c (.fn 109 [])) [(.t 24), (.t 26)] []),
oo 28 (.build [.bool false, .nilSl] [(0, 1, (.t 22)), (1, 1, (.t 27))]),
oo 29 (.call (.c (.fn 68 [])) [(.t 28)] []),
oo 30 (.ext (.t 29) 0),
oo 31 (.ext (.t 29) 1),
om 4 30,
om 5 31])
  (.pre [4,5] .ret)))))) }
def x77 : XFn := { np := 2, isOpen := false, ns := 2, res := [.tmp 4, .tmp 5], code :=
 (sr [0,1] [oo 4 (.mov (.c (.str []))),
oo 5 (.mov (.c (.int .i64 0)))]
  (sr [6,7,8] [om 10 0,
om 11 1,
oo 12 (.call (.c (.fn 65 [])) [(.t 10), (.t 11)] []),
om 9 12,
oo 13 (.ext (.t 9) 0),
oo 14 (.ext (.t 9) 1),
oo 15 (.ext (.t 9) 2),
oo 6 (.alloc 0 [.bool false, .nilSl]),
oo 7 (.alloc 1 [.bool false, .nilSl]),
⟨none,none,[],.store 2 (.t 6) (.t 13)⟩,
⟨none,none,[],.store 2 (.t 7) (.t 14)⟩,
om 8 15]
  (.seq (sr [6,7,17] [om 16 8,
oo 17 (.un .not (.t 16))]
  (.cond (.t 17)
  (sr [4,5] [oo 4 (.mov (.c (.str []))),
oo 5 (.mov (.c (.int .i64 30)))]
  (.pre [4,5] .ret))
  .skip))
  (.pre [6,7] (sr [6,7] [oo 18 (.padd (.t 7) 0),
oo 19 (.load .one (.t 18)),
oo 20 (.un .not (.t 19)),
oo 21 (.padd (.t 7) 0),
⟨none,none,[],.store 1 (.t 21) (.t 20)⟩]
  (sr [4,5] [oo 22 (.load (.agg 2) (.t 6)),
oo 23 (.load (.agg 2) (.t 7)),
oo 24 (.call (.c (.fn 110 [])) [(.t 22), (.t 23)] []),
oo 25 (.call (.c (.fn 68 [])) [(.t 24)] []),
oo 26 (.ext (.t 25) 0),
oo 27 (.ext (.t 25) 1),
om 4 26,
om 5 27]
  (.pre [4,5] .ret))))))) }
def x78 : XFn := { np := 3, isOpen := true, ns := 0, res := [.tmp 6], code :=
 (sr [0,1,2] [oo 6 (.mov (.c (.str [])))]
  (sr [6] [om 7 0,
om 8 1,
om 9 2,
oo 10 (.call (.c (.fn 75 [])) [(.t 7), (.c (.fn 111 [])), (.t 8), (.t 9)] []),
om 6 10]
  (.pre [6] .ret))) }
@[go_sem] def c84_0 : XC := (.pre [1,6,7]
 (.seq (sr [1,6,7,19] [om 18 7,
oo 19 (.bin .geq (.t 18) (.c (.int .i64 0)))]
  (.cond (.t 19)
  .skip
  (.pre [1,6] (.exit 0))))
  (.pre [1,6,7] (.seq (.blk 1
  (.reg false [1,6,7] [] [om 22 6,
om 23 1,
om 24 7,
oo 25 (.ixS 1 (.t 23) (.t 24)),
oo 26 (.load .one (.t 25)),
oo 27 (.bin .add (.c (.int .i64 48)) (.t 26)),
oo 28 (.conv .u8 (.t 27)),
oo 29 (.bslice 1 (.int .u8 0) 1 [(0, (.t 28))]),
oo 30 (.app 0 1 140737488355328 (.t 22) (.t 29)),
om 6 30]))
  (.pre [1,6,7] (.reg false [1,6,7] [] [om 20 7,
oo 21 (.bin .sub (.t 20) (.c (.int .i64 1))),
om 7 21]))))))
def b84_0 : XC := c84_0
@[go_sem] theorem e84_0 (L : Lib) (cx : Cx) (env : Env) (h : Heap) : runC L cx b84_0 (env, h) = runC L cx c84_0 (env, h) := rfl
def x84 : XFn := { np := 2, isOpen := false, ns := 2, res := [.tmp 4, .tmp 5], code :=
 (sr [0,1] [oo 4 (.mov (.c (.str []))),
oo 5 (.mov (.c (.bool false)))]
  (.seq (sr [0,1,10] [om 8 1,
oo 9 (.len false (.t 8)),
oo 10 (.bin .eql (.t 9) (.c (.int .i64 0)))]
  (.cond (.t 10)
  (sr [4,5] [oo 4 (.mov (.c (.str [48]))),
oo 5 (.mov (.c (.bool true)))]
  (.pre [4,5] .ret))
  .skip))
  (.pre [0,1] (sr [0,1,6] [oo 6 (.mov (.c .nilSl))]
  (.seq (sr [1,6,11] [om 11 0]
  (.cond (.t 11)
  (.reg false [1,6] [] [om 12 6,
oo 13 (.bslice 1 (.int .u8 0) 1 [(0, (.c (.int .u8 45)))]),
oo 14 (.app 1 1 140737488355328 (.t 12) (.t 13)),
om 6 14])
  .skip))
  (.pre [1,6] (.seq (sr [1,6,7] [om 15 1,
oo 16 (.len false (.t 15)),
oo 17 (.bin .sub (.t 16) (.c (.int .i64 1))),
om 7 17]
  (.blk 0
  (.loop b84_0)))
  (.pre [1,6] (sr [4,5] [om 31 6,
oo 32 (.toStr (.t 31)),
om 33 1,
oo 34 (.len false (.t 33)),
oo 35 (.bin .leq (.t 34) (.c (.int .i64 200))),
om 4 32,
om 5 35]
  (.pre [4,5] .ret)))))))))) }
@[go_sem] def c90_0 : XC := (.pre [2,3,4]
 (.seq (sr [2,3,4,18] [om 16 3,
oo 17 (.len true (.t 16)),
oo 18 (.bin .gtr (.t 17) (.c (.int .i64 0)))]
  (.cond (.t 18)
  .skip
  (.pre [2,4] (.exit 0))))
  (.pre [2,3,4] (.blk 1
  (sr [2,3,4,5] [om 19 3,
oo 20 (.len true (.t 19)),
oo 21 (.bin .sub (.t 20) (.c (.int .i64 4))),
oo 22 (.minmax true [(.c (.int .i64 0)), (.t 21)]),
om 5 22]
  (sr [2,3,4,5,6] [om 24 3,
om 25 5,
oo 26 (.slice none (.t 24) (some (.t 25)) none),
oo 27 (.call (.c (.fn 126 [])) [(.t 26)] []),
om 23 27,
oo 28 (.ext (.t 23) 0),
oo 29 (.ext (.t 23) 1),
om 6 28,
om 7 29]
  (sr [2,3,4,5] [oo 30 (.padd (.t 4) 1),
oo 31 (.load .one (.t 30)),
om 32 6,
oo 33 (.bslice 1 (.int .i64 0) 1 [(0, (.t 32))]),
oo 34 (.app 0 1 17592186044416 (.t 31) (.t 33)),
oo 35 (.padd (.t 4) 1),
⟨none,none,[],.store 1 (.t 35) (.t 34)⟩]
  (.reg false [2,3,4] [] [om 36 3,
om 37 5,
oo 38 (.slice none (.t 36) none (some (.t 37))),
om 3 38]))))))))
def b90_0 : XC := c90_0
@[go_sem] theorem e90_0 (L : Lib) (cx : Cx) (env : Env) (h : Heap) : runC L cx b90_0 (env, h) = runC L cx c90_0 (env, h) := rfl
def x90 : XFn := { np := 1, isOpen := false, ns := 3, res := [.cell 2 (.agg 2)], code :=
 (sr [0,2] [oo 2 (.alloc 2 [.bool false, .nilSl])]
  (sr [0,2,3] [om 8 0,
oo 9 (.call (.c (.fn 88 [])) [(.t 8), (.c (.str [45]))] []),
om 3 9]
  (sr [2,3,4] [om 10 3,
oo 11 (.len true (.t 10)),
om 12 0,
oo 13 (.len true (.t 12)),
oo 14 (.bin .lss (.t 11) (.t 13)),
oo 15 (.build [.bool false, .nilSl] [(0, 1, (.t 14))]),
oo 4 (.alloc 1 [.bool false, .nilSl]),
⟨none,none,[],.store 2 (.t 4) (.t 15)⟩]
  (.seq (.blk 0
  (.loop b90_0))
  (.pre [2,4] (sr [2,4] [oo 39 (.padd (.t 4) 1),
oo 40 (.load .one (.t 39)),
oo 41 (.call (.c (.fn 93 [])) [(.t 40)] []),
oo 42 (.padd (.t 4) 1),
⟨none,none,[],.store 1 (.t 42) (.t 41)⟩]
  (sr [2] [oo 43 (.load (.agg 2) (.t 4)),
⟨none,none,[],.store 2 (.t 2) (.t 43)⟩]
  (.pre [2] .ret)))))))) }
def x91 : XFn := { np := 2, isOpen := false, ns := 0, res := [.tmp 4], code :=
 (sr [0,1] [oo 4 (.mov (.c (.int .i64 0)))]
  (sr [0,1,5] [om 7 0,
oo 8 (.call (.c (.fn 127 [])) [(.t 7)] []),
om 5 8]
  (sr [0,1,5,6] [om 9 1,
oo 10 (.call (.c (.fn 127 [])) [(.t 9)] []),
om 6 10]
  (.seq (sr [0,1,6,11] [om 11 5]
  (.cond (.t 11)
  (.seq (sr [12] [om 12 6]
  (.cond (.t 12)
  (sr [4] [oo 4 (.mov (.c (.int .i64 0)))]
  (.pre [4] .ret))
  .skip))
  (.pre [] (sr [4] [oo 4 (.mov (.c (.int .i64 (-1))))]
  (.pre [4] .ret))))
  .skip))
  (.pre [0,1,6] (.seq (sr [0,1,13] [om 13 6]
  (.cond (.t 13)
  (sr [4] [oo 4 (.mov (.c (.int .i64 1)))]
  (.pre [4] .ret))
  .skip))
  (.pre [0,1] (.seq (sr [0,1,16] [om 14 0,
om 15 1,
oo 16 (.bin .lss (.t 14) (.t 15))]
  (.cond (.t 16)
  (sr [4] [oo 4 (.mov (.c (.int .i64 (-1))))]
  (.pre [4] .ret))
  .skip))
  (.pre [0,1] (.seq (sr [19] [om 17 0,
om 18 1,
oo 19 (.bin .gtr (.t 17) (.t 18))]
  (.cond (.t 19)
  (sr [4] [oo 4 (.mov (.c (.int .i64 1)))]
  (.pre [4] .ret))
  .skip))
  (.pre [] (sr [4] [oo 4 (.mov (.c (.int .i64 0)))]
  (.pre [4] .ret))))))))))))) }
def x92 : XFn := { np := 1, isOpen := false, ns := 0, res := [.tmp 2], code :=
 (sr [1] [oo 1 (.boxR (.t 0)),
oo 2 (.mov (.c .nilFn))]
  (sr [2] [oo 3 (.mkfn 128 [(.t 1)]),
om 2 3]
  (.pre [2] .ret))) }
@[go_sem] def c93_0 : XC := (.pre [0]
 (.seq (sr [0,14] [om 3 0,
oo 4 (.len false (.t 3)),
oo 5 (.bin .gtr (.t 4) (.c (.int .i64 0))),
om 6 5,
og 7 6 true (.mov (.t 0)),
og 8 6 true (.mov (.t 0)),
og 9 6 true (.len false (.t 8)),
og 10 6 true (.bin .sub (.t 9) (.c (.int .i64 1))),
og 11 6 true (.ixS 1 (.t 7) (.t 10)),
og 12 6 true (.load .one (.t 11)),
og 13 6 true (.bin .eql (.t 12) (.c (.int .i64 0))),
oo 14 (.pick (.t 6) (.t 13) (.c (.bool false)))]
  (.cond (.t 14)
  .skip
  (.pre [0] (.exit 0))))
  (.pre [0] (.blk 1
  (.reg false [0] [] [om 15 0,
om 16 0,
oo 17 (.len false (.t 16)),
oo 18 (.bin .sub (.t 17) (.c (.int .i64 1))),
oo 19 (.slice (some 1) (.t 15) none (some (.t 18))),
om 0 19])))))
def b93_0 : XC := c93_0
@[go_sem] theorem e93_0 (L : Lib) (cx : Cx) (env : Env) (h : Heap) : runC L cx b93_0 (env, h) = runC L cx c93_0 (env, h) := rfl
def x93 : XFn := { np := 1, isOpen := false, ns := 0, res := [.tmp 2], code :=
 (sr [0] [oo 2 (.mov (.c .nilSl))]
  (.seq (.blk 0
  (.loop b93_0))
  (.pre [0] (sr [2] [om 20 0,
om 2 20]
  (.pre [2] .ret))))) }
def x94 : XFn := { np := 2, isOpen := false, ns := 1, res := [.tmp 4], code :=
 (sr [2,3] [oo 2 (.boxR (.t 0)),
oo 3 (.boxR (.t 1)),
oo 4 (.mov (.c .nilSl))]
  (sr [4] [oo 5 (.load .one (.t 2)),
oo 6 (.len false (.t 5)),
oo 7 (.mkfn 130 [(.t 2), (.t 3)]),
oo 8 (.call (.c (.fn 129 [])) [(.t 6), (.c (.int .i64 0)), (.t 7)] []),
oo 9 (.call (.c (.fn 93 [])) [(.t 8)] [(0, 0)]),
om 4 9]
  (.pre [4] .ret))) }
def x95 : XFn := { np := 3, isOpen := false, ns := 0, res := [.tmp 4], code :=
 (sr [0,1,2] [oo 4 (.mov (.c (.bool false)))]
  (.seq (.reg true [4] [] [⟨some 5,none,[.box 1], .load .one (.t 1)⟩,
om 6 0,
oo 7 (.bin .add (.t 6) (.c (.int .i64 1))),
⟨some 8,none,[.fn 5 [33,37,41,45,47,53,56,61,95,127,130,132,138,139,1094]], .call (.t 5) [(.t 7)] []⟩,
⟨some 9,none,[.box 2], .load .one (.t 2)⟩,
oo 10 (.call (.c (.fn 66 [])) [(.t 8), (.t 9)] []),
oo 11 (.bin .gtr (.t 10) (.c (.int .i64 0))),
om 4 11])
  (.pre [4] .ret))) }
@[go_sem] def c96_0 : XC := (.pre [1,5,6]
 (.seq (sr [1,5,6,11] [om 9 5,
om 10 6,
oo 11 (.bin .lss (.t 9) (.t 10))]
  (.cond (.t 11)
  .skip
  (.pre [5] (.exit 0))))
  (.pre [1,5,6] (.blk 1
  (sr [1,5,6,7] [om 12 5,
om 13 6,
oo 14 (.bin .add (.t 12) (.t 13)),
oo 15 (.conv .u64 (.t 14)),
oo 16 (.bin .shr (.t 15) (.c (.int .u64 1))),
oo 17 (.conv .i64 (.t 16)),
om 7 17]
  (sr [1,5,6,7,21] [om 18 1,
om 19 7,
oo 20 (.call (.t 18) [(.t 19)] []),
oo 21 (.un .not (.t 20))]
  (.cond (.t 21)
  (.reg false [1,5,6] [] [om 22 7,
oo 23 (.bin .add (.t 22) (.c (.int .i64 1))),
om 5 23])
  (.reg false [1,5,6] [] [om 24 7,
om 6 24]))))))))
def b96_0 : XC := c96_0
@[go_sem] theorem e96_0 (L : Lib) (cx : Cx) (env : Env) (h : Heap) : runC L cx b96_0 (env, h) = runC L cx c96_0 (env, h) := rfl
def x96 : XFn := { np := 2, isOpen := false, ns := 0, res := [.tmp 4], code :=
 (sr [0,1] [oo 4 (.mov (.c (.int .i64 0)))]
  (sr [1,5,6] [om 8 0,
oo 5 (.mov (.c (.int .i64 0))),
om 6 8]
  (.seq (.blk 0
  (.loop b96_0))
  (.pre [5] (sr [4] [om 25 5,
om 4 25]
  (.pre [4] .ret)))))) }
def x97 : XFn := { np := 2, isOpen := false, ns := 1, res := [.tmp 4], code :=
 (sr [2,3] [oo 2 (.boxR (.t 0)),
oo 3 (.boxR (.t 1)),
oo 4 (.mov (.c .nilSl))]
  (sr [4] [oo 5 (.load .one (.t 2)),
oo 6 (.len false (.t 5)),
oo 7 (.mkfn 132 [(.t 2), (.t 3)]),
oo 8 (.call (.c (.fn 129 [])) [(.t 6), (.c (.int .i64 0)), (.t 7)] []),
oo 9 (.call (.c (.fn 93 [])) [(.t 8)] [(0, 0)]),
om 4 9]
  (.pre [4] .ret))) }
def x101 : XFn := { np := 2, isOpen := false, ns := 1, res := [.tmp 4], code :=
 (sr [2,3] [oo 2 (.boxR (.t 0)),
oo 3 (.boxR (.t 1)),
oo 4 (.mov (.c .nilSl))]
  (sr [4] [oo 5 (.load .one (.t 2)),
oo 6 (.len false (.t 5)),
oo 7 (.load .one (.t 3)),
oo 8 (.len false (.t 7)),
oo 9 (.minmax true [(.t 6), (.t 8)]),
oo 10 (.mkfn 138 [(.t 2), (.t 3)]),
oo 11 (.call (.c (.fn 129 [])) [(.t 9), (.c (.int .i64 0)), (.t 10)] []),
oo 12 (.call (.c (.fn 93 [])) [(.t 11)] [(0, 0)]),
om 4 12]
  (.pre [4] .ret))) }
def x102 : XFn := { np := 0, isOpen := false, ns := 0, res := [.tmp 0], code :=
 (sr [] [oo 0 (.mov (.c .nilSl))]
  (sr [0] [oo 1 (.bslice 1 (.int .i64 0) 1 [(0, (.c (.int .i64 1)))]),
om 0 1]
  (.pre [0] .ret))) }
def x105 : XFn := { np := 3, isOpen := false, ns := 0, res := [.tmp 6], code :=
 (sr [0,1,2] [oo 6 (.mov (.c (.bool false)))]
  (sr [6] [om 7 0,
om 8 1,
oo 9 (.bin .geq (.t 7) (.t 8)),
om 10 9,
og 11 10 true (.mov (.t 0)),
og 12 10 true (.mov (.t 2)),
og 13 10 true (.bin .leq (.t 11) (.t 12)),
oo 14 (.pick (.t 10) (.t 13) (.c (.bool false))),
om 6 14]
  (.pre [6] .ret))) }
def r3 : XRnd := { ps := [10,11], asg := (.reg false [2,5,7] [] [om 7 11]), body :=
 (.blk 1
  (.seq (sr [2,5,7,14] [oo 12 (.load .one (.t 5)),
oo 13 (.len false (.t 12)),
oo 14 (.bin .gtr (.t 13) (.c (.int .i64 0)))]
  (.cond (.t 14)
  (.reg false [2,5,7] [] [oo 15 (.bslice 1 (.int .i64 0) 1 [(0, (.c (.int .i64 0)))]),
oo 16 (.load .one (.t 5)),
oo 17 (.app 1001 1 17592186044416 (.t 15) (.t 16)),
⟨none,none,[],.store 1 (.t 5) (.t 17)⟩])
  .skip))
  (.pre [2,5,7] (.reg true [] [] [⟨some 18,none,[.box 5], .load .one (.t 5)⟩,
⟨some 19,none,[.box 2], .load .one (.t 2)⟩,
om 20 7,
oo 21 (.call (.c (.fn 94 [])) [(.t 19), (.t 20)] []),
oo 22 (.call (.c (.fn 101 [])) [(.t 18), (.t 21)] []),
⟨none,none,[.box 5], .store 1 (.t 5) (.t 22)⟩])))) }
def x109 : XFn := { np := 2, isOpen := false, ns := 3, res := [.tmp 4], code :=
 (sr [1,2,4] [oo 2 (.boxR (.t 0)),
oo 4 (.mov (.c .nilSl))]
  (sr [1,2,4,5] [oo 5 (.alloc 2 [.nilSl])]
  (.seq (sr [2,4,5,9] [om 8 1,
oo 9 (.call (.c (.fn 92 [])) [(.t 8)] [])]
  (.blk 0
  (.rfn 0 (.t 9) 3)))
  (.pre [5] (sr [4] [oo 23 (.load .one (.t 5)),
om 4 23]
  (.pre [4] .ret)))))) }
def x110 : XFn := { np := 2, isOpen := false, ns := 1, res := [.cell 4 (.agg 2)], code :=
 (sr [2,3,4] [oo 2 (.boxR (.t 0)),
oo 3 (.boxR (.t 1)),
oo 4 (.alloc 0 [.bool false, .nilSl])]
  (.seq (.blk 0
  (sr [2,3,4,5] [oo 6 (.padd (.t 2) 0),
oo 7 (.load .one (.t 6)),
oo 8 (.padd (.t 3) 0),
oo 9 (.load .one (.t 8)),
oo 10 (.eqv false [] (.t 7) (.t 9)),
om 5 10]
  (.cond (.t 5)
  (.seq (.reg true [4] [] [oo 11 (.padd (.t 2) 0),
⟨some 12,none,[.box 11], .load .one (.t 11)⟩,
oo 13 (.padd (.t 2) 1),
⟨some 14,none,[.box 13], .load .one (.t 13)⟩,
oo 15 (.padd (.t 3) 1),
⟨some 16,none,[.box 15], .load .one (.t 15)⟩,
oo 17 (.call (.c (.fn 101 [])) [(.t 14), (.t 16)] []),
oo 18 (.build [.bool false, .nilSl] [(0, 1, (.t 12)), (1, 1, (.t 17))]),
⟨none,none,[.box 4], .store 2 (.t 4) (.t 18)⟩])
  (.pre [4] .ret))
  (sr [2,3,4,19] [oo 20 (.padd (.t 2) 1),
oo 21 (.load .one (.t 20)),
oo 22 (.padd (.t 3) 1),
oo 23 (.load .one (.t 22)),
oo 24 (.call (.c (.fn 66 [])) [(.t 21), (.t 23)] []),
oo 25 (.bin .geq (.t 24) (.c (.int .i64 0))),
om 19 25]
  (.cond (.t 19)
  (.seq (.reg true [4] [] [oo 26 (.padd (.t 2) 0),
⟨some 27,none,[.box 26], .load .one (.t 26)⟩,
oo 28 (.padd (.t 2) 1),
⟨some 29,none,[.box 28], .load .one (.t 28)⟩,
oo 30 (.padd (.t 3) 1),
⟨some 31,none,[.box 30], .load .one (.t 30)⟩,
oo 32 (.call (.c (.fn 97 [])) [(.t 29), (.t 31)] []),
oo 33 (.build [.bool false, .nilSl] [(0, 1, (.t 27)), (1, 1, (.t 32))]),
⟨none,none,[.box 4], .store 2 (.t 4) (.t 33)⟩])
  (.pre [4] .ret))
  .skip)))))
  (.pre [2,3,4] (.seq (.reg true [4] [] [oo 34 (.padd (.t 3) 0),
⟨some 35,none,[.box 34], .load .one (.t 34)⟩,
oo 36 (.padd (.t 3) 1),
⟨some 37,none,[.box 36], .load .one (.t 36)⟩,
oo 38 (.padd (.t 2) 1),
⟨some 39,none,[.box 38], .load .one (.t 38)⟩,
oo 40 (.call (.c (.fn 97 [])) [(.t 37), (.t 39)] []),
oo 41 (.build [.bool false, .nilSl] [(0, 1, (.t 35)), (1, 1, (.t 40))]),
⟨none,none,[.box 4], .store 2 (.t 4) (.t 41)⟩])
  (.pre [4] .ret))))) }
def x111 : XFn := { np := 2, isOpen := false, ns := 0, res := [.tmp 4, .tmp 5], code :=
 (sr [0,1] [oo 4 (.mov (.c (.str []))),
oo 5 (.mov (.c (.int .i64 0)))]
  (sr [6,8] [om 10 0,
om 11 1,
oo 12 (.call (.c (.fn 69 [])) [(.t 10), (.t 11)] []),
om 9 12,
oo 13 (.ext (.t 9) 0),
oo 14 (.ext (.t 9) 1),
oo 15 (.ext (.t 9) 2),
om 6 13,
om 7 14,
om 8 15]
  (sr [4,5] [om 16 6,
om 17 8,
om 4 16,
om 5 17]
  (.pre [4,5] .ret)))) }
def x127 : XFn := { np := 1, isOpen := false, ns := 0, res := [.tmp 2], code :=
 (sr [0] [oo 2 (.mov (.c (.bool false)))]
  (sr [2] [om 3 0,
om 4 0,
oo 5 (.bin .neq (.t 3) (.t 4)),
om 2 5]
  (.pre [2] .ret))) }
@[go_sem] def c128_0 : XC := (.pre [0,1,3]
 (.seq (sr [0,1,3,8] [om 7 3,
oo 8 (.bin .geq (.t 7) (.c (.int .i64 0)))]
  (.cond (.t 8)
  .skip
  (.pre [] (.exit 0))))
  (.pre [0,1,3] (.seq (.blk 1
  (sr [0,1,3,18] [om 11 0,
om 12 3,
oo 13 (.load .one (.t 1)),
om 14 3,
oo 15 (.ixS 1 (.t 13) (.t 14)),
oo 16 (.load .one (.t 15)),
oo 17 (.call (.t 11) [(.t 12), (.t 16)] []),
oo 18 (.un .not (.t 17))]
  (.cond (.t 18)
  (.pre [] .ret)
  .skip)))
  (.pre [0,1,3] (.reg false [0,1,3] [] [om 9 3,
oo 10 (.bin .sub (.t 9) (.c (.int .i64 1))),
om 3 10]))))))
def b128_0 : XC := c128_0
@[go_sem] theorem e128_0 (L : Lib) (cx : Cx) (env : Env) (h : Heap) : runC L cx b128_0 (env, h) = runC L cx c128_0 (env, h) := rfl
def x128 : XFn := { np := 2, isOpen := true, ns := 0, res := [], code :=
 (sr [0,1,3] [oo 4 (.load .one (.t 1)),
oo 5 (.len false (.t 4)),
oo 6 (.bin .sub (.t 5) (.c (.int .i64 1))),
om 3 6]
  (.blk 0
  (.loop b128_0))) }
@[go_sem] def c129_0 : XC := (.pre [0,1,2,7,8]
 (.seq (sr [0,1,2,7,8,19] [om 13 8,
om 14 0,
oo 15 (.bin .lss (.t 13) (.t 14)),
om 16 15,
og 17 16 false (.mov (.t 1)),
og 18 16 false (.bin .neq (.t 17) (.c (.int .i64 0))),
oo 19 (.pick (.t 16) (.c (.bool true)) (.t 18))]
  (.cond (.t 19)
  .skip
  (.pre [7] (.exit 0))))
  (.pre [0,1,2,7,8] (.seq (.blk 1
  (sr [0,2,7,8,9] [om 22 2,
om 23 8,
oo 24 (.call (.t 22) [(.t 23)] []),
om 25 1,
oo 26 (.bin .add (.t 24) (.t 25)),
om 9 26]
  (sr [0,1,2,7,8,9] [oo 1 (.mov (.c (.int .i64 0)))]
  (.seq (sr [0,1,2,7,8,9,28] [om 27 9,
oo 28 (.bin .lss (.t 27) (.c (.int .i64 0)))]
  (.cond (.t 28)
  (sr [0,2,7,8,9] [om 29 9,
oo 30 (.bin .add (.t 29) (.c (.int .i64 10000))),
om 9 30]
  (.reg false [0,1,2,7,8,9] [] [oo 1 (.mov (.c (.int .i64 (-1))))]))
  (sr [0,1,2,7,8,9,32] [om 31 9,
oo 32 (.bin .geq (.t 31) (.c (.int .i64 10000)))]
  (.cond (.t 32)
  (sr [0,1,2,7,8,9] [om 33 9,
oo 34 (.bin .quo (.t 33) (.c (.int .i64 10000))),
om 1 34]
  (.reg false [0,1,2,7,8,9] [] [om 35 9,
oo 36 (.bin .rem (.t 35) (.c (.int .i64 10000))),
om 9 36]))
  .skip))))
  (.pre [0,1,2,7,8,9] (.reg false [0,1,2,7,8] [] [om 37 7,
om 38 9,
oo 39 (.bslice 1 (.int .i64 0) 1 [(0, (.t 38))]),
oo 40 (.app 0 1 17592186044416 (.t 37) (.t 39)),
om 7 40]))))))
  (.pre [0,1,2,7,8] (.reg false [0,1,2,7,8] [] [om 20 8,
oo 21 (.bin .add (.t 20) (.c (.int .i64 1))),
om 8 21]))))))
def b129_0 : XC := c129_0
@[go_sem] theorem e129_0 (L : Lib) (cx : Cx) (env : Env) (h : Heap) : runC L cx b129_0 (env, h) = runC L cx c129_0 (env, h) := rfl
def x129 : XFn := { np := 3, isOpen := false, ns := 2, res := [.tmp 6], code :=
 (sr [0,1,2] [oo 6 (.mov (.c .nilSl))]
  (sr [0,1,2,7] [om 10 0,
oo 11 (.bin .add (.t 10) (.c (.int .i64 1))),
oo 12 (.mk 1 1 (.int .i64 0) 17592186044416 (.c (.int .i64 0)) (.t 11)),
om 7 12]
  (.seq (sr [0,1,2,7,8] [oo 8 (.mov (.c (.int .i64 0)))]
  (.blk 0
  (.loop b129_0)))
  (.pre [7] (sr [6] [om 41 7,
om 6 41]
  (.pre [6] .ret)))))) }
def x130 : XFn := { np := 3, isOpen := false, ns := 0, res := [.tmp 4], code :=
 (sr [0,1,2] [oo 4 (.mov (.c (.int .i64 0)))]
  (.seq (.reg true [4] [] [⟨some 5,none,[.box 1], .load .one (.t 1)⟩,
om 6 0,
oo 7 (.call (.c (.fn 131 [])) [(.t 5), (.t 6)] []),
⟨some 8,none,[.box 2], .load .one (.t 2)⟩,
oo 9 (.bin .mul (.t 7) (.t 8)),
om 4 9])
  (.pre [4] .ret))) }
def x131 : XFn := { np := 2, isOpen := false, ns := 0, res := [.tmp 4], code :=
 (sr [0,1] [oo 4 (.mov (.c (.int .i64 0)))]
  (.seq (sr [0,1,8] [om 5 1,
om 6 0,
oo 7 (.len false (.t 6)),
oo 8 (.bin .lss (.t 5) (.t 7))]
  (.cond (.t 8)
  (sr [4] [om 9 0,
om 10 1,
oo 11 (.ixS 1 (.t 9) (.t 10)),
oo 12 (.load .one (.t 11)),
om 4 12]
  (.pre [4] .ret))
  .skip))
  (.pre [] (sr [4] [oo 4 (.mov (.c (.int .i64 0)))]
  (.pre [4] .ret))))) }
def x132 : XFn := { np := 3, isOpen := false, ns := 0, res := [.tmp 4], code :=
 (sr [0,1,2] [oo 4 (.mov (.c (.int .i64 0)))]
  (.seq (.reg true [4] [] [⟨some 5,none,[.box 1], .load .one (.t 1)⟩,
om 6 0,
oo 7 (.call (.c (.fn 131 [])) [(.t 5), (.t 6)] []),
⟨some 8,none,[.box 2], .load .one (.t 2)⟩,
om 9 0,
oo 10 (.call (.c (.fn 131 [])) [(.t 8), (.t 9)] []),
oo 11 (.bin .sub (.t 7) (.t 10)),
om 4 11])
  (.pre [4] .ret))) }
def x138 : XFn := { np := 3, isOpen := false, ns := 0, res := [.tmp 4], code :=
 (sr [0,1,2] [oo 4 (.mov (.c (.int .i64 0)))]
  (.seq (.reg true [4] [] [⟨some 5,none,[.box 1], .load .one (.t 1)⟩,
om 6 0,
oo 7 (.call (.c (.fn 131 [])) [(.t 5), (.t 6)] []),
⟨some 8,none,[.box 2], .load .one (.t 2)⟩,
om 9 0,
oo 10 (.call (.c (.fn 131 [])) [(.t 8), (.t 9)] []),
oo 11 (.bin .add (.t 7) (.t 10)),
om 4 11])
  (.pre [4] .ret))) }
def x139 : XFn := { np := 1, isOpen := false, ns := 0, res := [.tmp 2], code :=
 (sr [0] [oo 2 (.mov (.c (.bool false)))]
  (sr [2] [om 3 0,
oo 4 (.call (.c (.fn 105 [])) [(.t 3), (.c (.int .i64 (-32768))), (.c (.int .i64 32767))] []),
oo 5 (.un .not (.t 4)),
om 2 5]
  (.pre [2] .ret))) }
def rdT : List (Option XRnd) := [some r0, some r1, some r2, some r3]
def rds (g : Nat) : Option XRnd := (rdT[g]?).getD none
def fnT : List (Option XFn) := [none, none, none, none, none, some x5, none, none, none, none, some x10, some x11, some x12, some x13, none, some x15, none, some x17, none, some x19, some x20, none, some x22, none, some x24, none, some x26, none, none, none, none, some x31, some x32, some x33, some x34, none, some x36, some x37, some x38, some x39, some x40, some x41, none, none, none, some x45, some x46, some x47, some x48, some x49, some x50, none, none, some x53, some x54, some x55, some x56, some x57, some x58, some x59, none, some x61, none, none, some x64, some x65, some x66, some x67, some x68, some x69, none, none, none, some x73, none, some x75, some x76, some x77, some x78, none, none, none, none, none, some x84, none, none, none, none, none, some x90, some x91, some x92, some x93, some x94, some x95, some x96, some x97, none, none, none, some x101, some x102, none, none, some x105, none, none, none, some x109, some x110, some x111, none, none, none, none, none, none, none, none, none, none, none, none, none, none, none, some x127, some x128, some x129, some x130, some x131, some x132, none, none, none, none, none, some x138, some x139]
def fns (f : Nat) : Option XFn := (fnT[f]?).getD none
def clo (f : Nat) : Bool := [3,4,5,6,7,8,9,10,11,12,13,14,15,16,17,18,19,20,21,22,23,24,25,26,27,28,29,30,31,32,33,34,35,36,37,38,39,40,41,42,43,44,45,47,48,49,50,51,52,53,54,55,56,60,61,62,63,64,65,66,67,68,69,70,72,73,76,77,79,80,81,82,83,84,85,86,87,90,91,92,93,94,95,96,97,101,102,103,104,105,106,107,109,110,111,112,113,114,115,116,117,127,129,130,131,132,138,139,74,88,89,98,126].contains f
def kinds (f : Nat) : Option OK := match f with | 74 => some .itoa | 88 => some .trimPrefix | 89 => some .trim | 98 => some .repeat_ | 126 => some (.atoi 168) | _ => none
def lib : Lib := { fns := fns, rds := rds, orc := orcT kinds, brw := fun f => ([] : List Nat).contains f }
end Go.VI.Loud
