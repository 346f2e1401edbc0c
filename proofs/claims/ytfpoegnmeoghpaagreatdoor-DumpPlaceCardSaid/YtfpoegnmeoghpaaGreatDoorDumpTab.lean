/- the functions of dump for the own evaluator -/
import Derived.Test.YtfpoegnmeoghpaaGreatDoorVSO
set_option linter.unusedVariables false
set_option linter.unusedSimpArgs false
namespace Go.VI.Dump
@[go_sem] abbrev oo(d:Nat)(x:XI):jc:=⟨some d,none,[],x⟩
@[go_sem] abbrev om(d s:Nat):jc:=⟨some d,none,[],.dx (.t s)⟩
@[go_sem] abbrev og(d g:Nat)(b:Bool)(x:XI):jc:=⟨some d,some (g,b),[],x⟩
@[go_sem] abbrev sr(k:List Nat)(o:List jc)(r:XC):XC:=.seq (.reg false k [] o) r
@[go_sem] abbrev ci(n:Int):bD:=.c (.int .i64 n)
@[go_sem] abbrev ol(d a:Nat):jc:=⟨some d,none,[],.load .one (.t a)⟩
@[go_sem] abbrev rZ(d g:Nat)(b:Bool)(a:Nat):jc:=⟨some d,some (g,b),[],.load .one (.t a)⟩
@[go_sem] abbrev oa(d n a:Nat):jc:=⟨some d,none,[],.load (.agg n) (.t a)⟩
@[go_sem] abbrev op(d a n:Nat):jc:=⟨some d,none,[],.JI (.t a) n⟩
@[go_sem] abbrev gp(d g:Nat)(b:Bool)(a n:Nat):jc:=⟨some d,some (g,b),[],.JI (.t a) n⟩
@[go_sem] abbrev ox(d a n:Nat):jc:=⟨some d,none,[],.ext (.t a) n⟩
@[go_sem] abbrev oc(d f:Nat)(l:List bD):jc:=⟨some d,none,[],.call (.c (.fn f [])) l []⟩
@[go_sem] abbrev gc(d g:Nat)(b:Bool)(f:Nat)(l:List bD):jc:=⟨some d,some (g,b),[],.call (.c (.fn f [])) l []⟩
@[go_sem] abbrev gm(d g:Nat)(b:Bool)(a:Nat):jc:=⟨some d,some (g,b),[],.dx (.t a)⟩
@[go_sem] abbrev ob(d:Nat)(o:BinOp)(a b:Nat):jc:=⟨some d,none,[],.bin o (.t a) (.t b)⟩
@[go_sem] abbrev oi(d:Nat)(o:BinOp)(a:Nat)(n:Int):jc:=⟨some d,none,[],.bin o (.t a) (.c (.int .i64 n))⟩
@[go_sem] abbrev gb(d g:Nat)(w:Bool)(o:BinOp)(a b:Nat):jc:=⟨some d,some (g,w),[],.bin o (.t a) (.t b)⟩
@[go_sem] abbrev os(d z a b:Nat):jc:=⟨some d,none,[],.TT z (.t a) (.t b)⟩
@[go_sem] abbrev JP(d g:Nat)(w:Bool)(z a b:Nat):jc:=⟨some d,some (g,w),[],.TT z (.t a) (.t b)⟩
@[go_sem] abbrev kT(d a b:Nat):jc:=⟨some d,none,[],.pick (.t a) (.c (.bool true)) (.t b)⟩
@[go_sem] abbrev pf(d a b:Nat):jc:=⟨some d,none,[],.pick (.t a) (.t b) (.c (.bool false))⟩
@[go_sem] abbrev on(d a:Nat):jc:=⟨some d,none,[],.len false (.t a)⟩
@[go_sem] abbrev mi(d:Nat)(n:Int):jc:=⟨some d,none,[],.dx (.c (.int .i64 n))⟩
@[go_sem] abbrev st(z a b:Nat):jc:=⟨none,none,[],.store z (.t a) (.t b)⟩
def g0:List AV:=[(.int .u64 1),(.int .u64 10),(.int .u64 100),(.int .u64 1000),(.int .u64 10000),(.int .u64 100000),(.int .u64 1000000),(.int .u64 10000000),(.int .u64 100000000),(.int .u64 1000000000),(.int .u64 10000000000),(.int .u64 100000000000),(.int .u64 1000000000000),(.int .u64 10000000000000),(.int .u64 100000000000000),(.int .u64 1000000000000000),(.int .u64 10000000000000000),(.int .u64 100000000000000000),(.int .u64 1000000000000000000),(.int .u64 10000000000000000000)]
def g5:List AV:=[(.int .u8 128),(.int .u8 191),(.int .u8 160),(.int .u8 191),(.int .u8 128),(.int .u8 159),(.int .u8 144),(.int .u8 191),(.int .u8 128),(.int .u8 143),(.int .u8 0),(.int .u8 0),(.int .u8 0),(.int .u8 0),(.int .u8 0),(.int .u8 0),(.int .u8 0),(.int .u8 0),(.int .u8 0),(.int .u8 0),(.int .u8 0),(.int .u8 0),(.int .u8 0),(.int .u8 0),(.int .u8 0),(.int .u8 0),(.int .u8 0),(.int .u8 0),(.int .u8 0),(.int .u8 0),(.int .u8 0),(.int .u8 0)]
def g6:List AV:=[(.int .u8 0),(.int .u8 1),(.int .u8 28),(.int .u8 2),(.int .u8 29),(.int .u8 14),(.int .u8 24),(.int .u8 3),(.int .u8 30),(.int .u8 22),(.int .u8 20),(.int .u8 15),(.int .u8 25),(.int .u8 17),(.int .u8 4),(.int .u8 8),(.int .u8 31),(.int .u8 27),(.int .u8 13),(.int .u8 23),(.int .u8 21),(.int .u8 19),(.int .u8 16),(.int .u8 7),(.int .u8 26),(.int .u8 12),(.int .u8 18),(.int .u8 6),(.int .u8 11),(.int .u8 5),(.int .u8 10),(.int .u8 9)]
def g7:List AV:=[(.int .u8 0),(.int .u8 1),(.int .u8 56),(.int .u8 2),(.int .u8 57),(.int .u8 49),(.int .u8 28),(.int .u8 3),(.int .u8 61),(.int .u8 58),(.int .u8 42),(.int .u8 50),(.int .u8 38),(.int .u8 29),(.int .u8 17),(.int .u8 4),(.int .u8 62),(.int .u8 47),(.int .u8 59),(.int .u8 36),(.int .u8 45),(.int .u8 43),(.int .u8 51),(.int .u8 22),(.int .u8 53),(.int .u8 39),(.int .u8 33),(.int .u8 30),(.int .u8 24),(.int .u8 18),(.int .u8 12),(.int .u8 5),(.int .u8 63),(.int .u8 55),(.int .u8 48),(.int .u8 27),(.int .u8 60),(.int .u8 41),(.int .u8 37),(.int .u8 16),(.int .u8 46),(.int .u8 35),(.int .u8 44),(.int .u8 21),(.int .u8 52),(.int .u8 32),(.int .u8 23),(.int .u8 11),(.int .u8 54),(.int .u8 26),(.int .u8 40),(.int .u8 15),(.int .u8 34),(.int .u8 20),(.int .u8 31),(.int .u8 10),(.int .u8 25),(.int .u8 14),(.int .u8 19),(.int .u8 9),(.int .u8 13),(.int .u8 8),(.int .u8 7),(.int .u8 6)]
@[go_sem] def aIu:XC:=(.pre [9,10,11,13,14,15,16,17]
 (.seq (sr [9,10,11,13,14,15,16,17,69] [om 67 17,
om 68 15,
ob 69 .lss 67 68]
  (.cond (.t 69)
  .skip
  (.pre [9,10,11,13,14,15,16] (.exit 2))))
  (.pre [9,10,11,13,14,15,16,17] (.seq (.blk 3
  (sr [9,10,11,13,14,15,16,17,81] [om 72 11,
om 73 16,
om 74 17,
ob 75 .add 73 74,
os 76 1 72 75,
ol 77 76,
om 78 14,
om 79 17,
ob 80 .add 78 79,
ob 81 .neq 77 80]
  (.cond (.t 81)
  (sr [8] [oo 8 (.dx (.c (.bool false)))]
  (.pre [8] .ret))
  .skip)))
  (.pre [9,10,11,13,14,15,16,17] (.reg false [9,10,11,13,14,15,16,17] [] [om 70 17,
oi 71 .add 70 1,
om 17 71]))))))
def aIv:XC:=aIu
@[go_sem] def aIw:XC:=(.pre [9,10,11,13]
 (.seq (sr [9,10,11,13,37] [om 33 13,
op 34 10 3,
ol 35 34,
on 36 35,
ob 37 .lss 33 36]
  (.cond (.t 37)
  .skip
  (.pre [9] (.exit 0))))
  (.pre [9,10,11,13] (.seq (.blk 1
  (sr [9,10,11,13,14] [op 40 10 3,
ol 41 40,
om 42 13,
os 43 2 41 42,
op 44 43 0,
ol 45 44,
om 14 45]
  (sr [9,10,11,13,14,15] [op 46 10 3,
ol 47 46,
om 48 13,
os 49 2 47 48,
op 50 49 1,
ol 51 50,
om 52 14,
ob 53 .sub 51 52,
om 15 53]
  (sr [9,10,11,13,14,15,16] [om 54 11,
om 55 14,
oc 56 34 [.t 54,.t 55],
om 16 56]
  (.seq (sr [9,10,11,13,14,15,16,66] [om 57 16,
oi 58 .lss 57 0,
om 59 58,
gm 60 59 false 16,
gm 61 59 false 15,
gb 62 59 false .add 60 61,
gm 63 59 false 11,
og 64 59 false (.len false (.t 63)),
gb 65 59 false .gtr 62 64,
kT 66 59 65]
  (.cond (.t 66)
  (sr [8] [oo 8 (.dx (.c (.bool false)))]
  (.pre [8] .ret))
  .skip))
  (.pre [9,10,11,13,14,15,16] (.seq (sr [9,10,11,13,14,15,16,17] [mi 17 0]
  (.blk 2
  (.loop aIv)))
  (.pre [9,10,11,13,14,15,16] (sr [9,10,11,13,104] [om 82 16,
om 83 15,
ob 84 .add 82 83,
om 85 11,
on 86 85,
ob 87 .lss 84 86,
om 88 87,
gm 89 88 true 11,
gm 90 88 true 16,
gm 91 88 true 15,
gb 92 88 true .add 90 91,
gm 93 88 true 11,
og 94 88 true (.len false (.t 93)),
og 95 88 true (.bin .sub (.t 94) (ci 1)),
og 96 88 true (.NM false [.t 92,.t 95]),
JP 97 88 true 1 89 96,
rZ 98 88 true 97,
gm 99 88 true 14,
gm 100 88 true 15,
gb 101 88 true .add 99 100,
og 102 88 true (.bin .sub (.t 101) (ci 1)),
gb 103 88 true .eql 98 102,
pf 104 88 103]
  (.cond (.t 104)
  (sr [8] [oo 8 (.dx (.c (.bool false)))]
  (.pre [8] .ret))
  .skip))))))))))
  (.pre [9,10,11,13] (.reg false [9,10,11,13] [] [om 38 13,
oi 39 .add 38 1,
om 13 39]))))))
def aIx:XC:=aIw
def x5:gH:={ np:=4,isOpen:=false,ns:=1,res:=[.tmp 8],code :=
 (sr [0,1,2,3] [oo 8 (.dx (.c (.bool false)))]
  (sr [0,1,2,3,9] [oc 18 11 [],
om 9 18]
  (.seq (sr [0,1,2,3,9,20] [om 19 9,
oo 20 (.un .not (.t 19))]
  (.cond (.t 20)
  (sr [8] [oo 8 (.dx (.c (.bool false)))]
  (.pre [8] .ret))
  .skip))
  (.pre [0,1,2,3,9] (sr [9,10] [om 21 0,
om 22 1,
om 23 2,
om 24 3,
oc 25 32 [.t 21,.t 22,.t 23,.t 24],
oo 10 (.alloc 0 [.int .i64 0,.int .i64 0,.int .i64 0,.bO,.bO]),
st 5 10 25]
  (sr [9,10,11,12] [oa 27 5 10,
oc 28 14 [.t 27],
om 26 28,
ox 29 26 0,
ox 30 26 1,
om 11 29,
om 12 30]
  (.seq (sr [9,10,11,32] [om 31 12,
oi 32 .neq 31 0]
  (.cond (.t 32)
  (sr [8] [oo 8 (.dx (.c (.bool false)))]
  (.pre [8] .ret))
  .skip))
  (.pre [9,10,11] (.seq (sr [9,10,11,13] [mi 13 0]
  (.blk 0
  (.loop aIx)))
  (.pre [9] (sr [8] [om 105 9,
om 8 105]
  (.pre [8] .ret)))))))))))) }
@[go_sem] def aAH:XC:=(.pre [11,12,13,14,16,23,26,28,30]
 (.seq (sr [11,12,13,14,16,23,26,28,30,159] [om 156 30,
om 157 26,
on 158 157,
ob 159 .lss 156 158]
  (.cond (.t 159)
  .skip
  (.pre [11,12,13,14,16,23] (.exit 4))))
  (.pre [11,12,13,14,16,23,26,28,30] (.seq (.blk 5
  (.seq (.reg true [11,12,13,14,16,23,26,28,30,197] [] [om 162 26,
om 163 30,
os 164 3 162 163,
op 165 164 2,
⟨some 166,none,[.elem 165],.load .one (.t 165)⟩,
om 167 28,
om 168 30,
os 169 3 167 168,
op 170 169 2,
⟨some 171,none,[.elem 170],.load .one (.t 170)⟩,
ob 172 .neq 166 171,
om 173 172,
gm 174 173 false 26,
gm 175 173 false 30,
JP 176 173 false 3 174 175,
gp 177 173 false 176 1,
⟨some 178,some (173,false),[.elem 177],.load .one (.t 177)⟩,
gm 179 173 false 26,
gm 180 173 false 30,
JP 181 173 false 3 179 180,
gp 182 173 false 181 0,
⟨some 183,some (173,false),[.elem 182],.load .one (.t 182)⟩,
gb 184 173 false .sub 178 183,
gm 185 173 false 28,
gm 186 173 false 30,
JP 187 173 false 3 185 186,
gp 188 173 false 187 1,
⟨some 189,some (173,false),[.elem 188],.load .one (.t 188)⟩,
gm 190 173 false 28,
gm 191 173 false 30,
JP 192 173 false 3 190 191,
gp 193 173 false 192 0,
⟨some 194,some (173,false),[.elem 193],.load .one (.t 193)⟩,
gb 195 173 false .sub 189 194,
gb 196 173 false .neq 184 195,
kT 197 173 196])
  (.cond (.t 197)
  (sr [10] [oo 10 (.dx (.c (.bool false)))]
  (.pre [10] .ret))
  .skip)))
  (.pre [11,12,13,14,16,23,26,28,30] (.reg false [11,12,13,14,16,23,26,28,30] [] [om 160 30,
oi 161 .add 160 1,
om 30 161]))))))
def asY:XC:=aAH
@[go_sem] theorem aR9(L:Lib)(cx:Cx)(env:Env)(h:Heap):bV L cx asY (env,h)=bV L cx aAH (env,h):=rfl
@[go_sem] def aAI:XC:=(.pre [11,12,13,14,16,23]
 (.seq (sr [11,12,13,14,16,23,109] [om 105 23,
op 106 12 3,
ol 107 106,
on 108 107,
ob 109 .lss 105 108]
  (.cond (.t 109)
  .skip
  (.pre [11] (.exit 2))))
  (.pre [11,12,13,14,16,23] (.seq (.blk 3
  (sr [11,12,13,14,16,23,24] [op 112 12 3,
ol 113 112,
om 114 23,
os 115 2 113 114,
oa 116 2 115,
oo 24 (.alloc 0 [.int .i64 0,.int .i64 0]),
st 2 24 116]
  (sr [11,12,13,14,16,23,24,25] [om 117 14,
op 118 24 0,
ol 119 118,
oc 120 34 [.t 117,.t 119],
om 25 120]
  (.seq (sr [11,12,13,14,16,23,24,25,122] [om 121 25,
oi 122 .lss 121 0]
  (.cond (.t 122)
  (sr [10] [oo 10 (.dx (.c (.bool false)))]
  (.pre [10] .ret))
  .skip))
  (.pre [11,12,13,14,16,23,24,25] (sr [11,12,13,14,16,23,24,25,26,27] [om 124 13,
oa 125 2 24,
oc 126 37 [.t 124,.t 125],
om 123 126,
ox 127 123 0,
ox 128 123 1,
om 26 127,
om 27 128]
  (sr [11,12,13,14,16,23,26,27,28,29] [om 130 16,
om 131 25,
om 132 25,
op 133 24 1,
ol 134 133,
ob 135 .add 132 134,
op 136 24 0,
ol 137 136,
ob 138 .sub 135 137,
oo 139 (.build [.int .i64 0,.int .i64 0] [(0,1,(.t 131)),(1,1,(.t 138))]),
oc 140 37 [.t 130,.t 139],
om 129 140,
ox 141 129 0,
ox 142 129 1,
om 28 141,
om 29 142]
  (.seq (sr [11,12,13,14,16,23,26,28,155] [om 143 27,
oi 144 .neq 143 0,
om 145 144,
gm 146 145 false 29,
og 147 145 false (.bin .neq (.t 146) (ci 0)),
kT 148 145 147,
om 149 148,
gm 150 149 false 26,
og 151 149 false (.len false (.t 150)),
gm 152 149 false 28,
og 153 149 false (.len false (.t 152)),
gb 154 149 false .neq 151 153,
kT 155 149 154]
  (.cond (.t 155)
  (sr [10] [oo 10 (.dx (.c (.bool false)))]
  (.pre [10] .ret))
  .skip))
  (.pre [11,12,13,14,16,23,26,28] (sr [11,12,13,14,16,23,26,28,30] [mi 30 0]
  (.blk 4
  (.loop asY))))))))))))
  (.pre [11,12,13,14,16,23] (.reg false [11,12,13,14,16,23] [] [om 110 23,
oi 111 .add 110 1,
om 23 111]))))))
def asZ:XC:=aAI
@[go_sem] theorem aR'(L:Lib)(cx:Cx)(env:Env)(h:Heap):bV L cx asZ (env,h)=bV L cx aAI (env,h):=rfl
@[go_sem] def aAJ:XC:=(.pre [11,12,13,14,16,18]
 (.seq (sr [11,12,13,14,16,18,70] [om 67 18,
om 68 14,
on 69 68,
ob 70 .lss 67 69]
  (.cond (.t 70)
  .skip
  (.pre [11,12,13,14,16] (.exit 0))))
  (.pre [11,12,13,14,16,18] (.seq (.blk 1
  (sr [11,12,13,14,16,18,19,20] [om 74 16,
om 75 18,
oc 76 36 [.t 74,.t 75],
om 73 76,
ox 77 73 0,
ox 78 73 1,
om 19 77,
om 20 78]
  (sr [11,12,13,14,16,18,19,20,21,22] [om 80 13,
om 81 14,
om 82 18,
os 83 1 81 82,
ol 84 83,
oo 85 (.NM true [.t 84,(ci 0)]),
oc 86 36 [.t 80,.t 85],
om 79 86,
ox 87 79 0,
ox 88 79 1,
om 21 87,
om 22 88]
  (.seq (sr [11,12,13,14,16,18,19,20,21,22,93] [om 89 14,
om 90 18,
os 91 1 89 90,
ol 92 91,
oi 93 .eql 92 (-1)]
  (.cond (.t 93)
  (.reg false [11,12,13,14,16,18,19,20,21,22] [] [mi 21 0])
  .skip))
  (.pre [11,12,13,14,16,18,19,20,21,22] (sr [11,12,13,14,16,18,104] [om 94 20,
oi 95 .neq 94 0,
om 96 95,
gm 97 96 false 22,
og 98 96 false (.bin .neq (.t 97) (ci 0)),
kT 99 96 98,
om 100 99,
gm 101 100 false 19,
gm 102 100 false 21,
gb 103 100 false .neq 101 102,
kT 104 100 103]
  (.cond (.t 104)
  (sr [10] [oo 10 (.dx (.c (.bool false)))]
  (.pre [10] .ret))
  .skip)))))))
  (.pre [11,12,13,14,16,18] (.reg false [11,12,13,14,16,18] [] [om 71 18,
oi 72 .add 71 1,
om 18 72]))))))
def as0:XC:=aAJ
@[go_sem] theorem aSa(L:Lib)(cx:Cx)(env:Env)(h:Heap):bV L cx as0 (env,h)=bV L cx aAJ (env,h):=rfl
def x9:gH:={ np:=5,isOpen:=false,ns:=2,res:=[.tmp 10],code :=
 (sr [0,1,2,3,4] [oo 10 (.dx (.c (.bool false)))]
  (sr [0,1,2,3,4,11] [oc 31 11 [],
om 11 31]
  (.seq (sr [0,1,2,3,4,11,33] [om 32 11,
oo 33 (.un .not (.t 32))]
  (.cond (.t 33)
  (sr [10] [oo 10 (.dx (.c (.bool false)))]
  (.pre [10] .ret))
  .skip))
  (.pre [0,1,2,3,4,11] (sr [11,12,13] [om 35 0,
om 36 1,
om 37 2,
om 38 3,
om 39 4,
oc 40 12 [.t 35,.t 36,.t 37,.t 38,.t 39],
om 34 40,
ox 41 34 0,
ox 42 34 1,
oo 12 (.alloc 1 [.int .i64 0,.int .i64 0,.int .i64 0,.bO,.bO]),
st 5 12 41,
om 13 42]
  (sr [11,12,13,14,15] [oa 44 5 12,
oc 45 14 [.t 44],
om 43 45,
ox 46 43 0,
ox 47 43 1,
om 14 46,
om 15 47]
  (sr [11,12,13,14,15,16,17] [oa 49 5 12,
om 50 13,
oc 51 29 [.t 49,.t 50],
om 48 51,
ox 52 48 0,
ox 53 48 1,
om 16 52,
om 17 53]
  (.seq (sr [11,12,13,14,16,66] [om 54 15,
oi 55 .neq 54 0,
om 56 55,
gm 57 56 false 17,
og 58 56 false (.bin .neq (.t 57) (ci 0)),
kT 59 56 58,
om 60 59,
gm 61 60 false 16,
gc 62 60 false 35 [.t 61],
gm 63 60 false 14,
og 64 60 false (.len false (.t 63)),
gb 65 60 false .neq 62 64,
kT 66 60 65]
  (.cond (.t 66)
  (sr [10] [oo 10 (.dx (.c (.bool false)))]
  (.pre [10] .ret))
  .skip))
  (.pre [11,12,13,14,16] (.seq (sr [11,12,13,14,16,18] [mi 18 0]
  (.blk 0
  (.loop as0)))
  (.pre [11,12,13,14,16] (.seq (sr [11,12,13,14,16,23] [mi 23 0]
  (.blk 2
  (.loop asZ)))
  (.pre [11] (sr [10] [om 198 11,
om 10 198]
  (.pre [10] .ret))))))))))))))) }
def x11:gH:={ np:=0,isOpen:=false,ns:=3,res:=[.tmp 0],code :=
 (sr [] [oo 0 (.dx (.c (.bool false)))]
  (sr [1] [oc 23 45 [],
oo 1 (.alloc 2 [.int .i64 0,.int .i64 0,.int .i64 0,.bO,.bO]),
st 5 1 23]
  (sr [1,2,3] [oa 25 5 1,
oc 26 14 [.t 25],
om 24 26,
ox 27 24 0,
ox 28 24 1,
om 2 27,
om 3 28]
  (sr [1,2,3,4,5] [oa 30 5 1,
oc 31 16 [.t 30],
om 29 31,
ox 32 29 0,
ox 33 29 1,
om 4 32,
om 5 33]
  (sr [1,2,3,4,5,6,7] [oa 35 5 1,
oc 36 18 [.t 35],
om 34 36,
ox 37 34 0,
ox 38 34 1,
om 6 37,
om 7 38]
  (sr [1,2,3,4,5,6,7,8,9] [oa 40 5 1,
oc 41 20 [.t 40],
om 39 41,
ox 42 39 0,
ox 43 39 1,
om 8 42,
om 9 43]
  (sr [1,2,3,4,5,6,7,8,9,10,11] [oa 45 5 1,
oc 46 26 [.t 45,(ci 1)],
om 44 46,
ox 47 44 0,
ox 48 44 1,
oo 10 (.alloc 1 [.bO]),
st 1 10 47,
om 11 48]
  (sr [1,2,3,4,5,6,7,8,9,10,11,13] [oa 50 5 1,
oc 51 26 [.t 50,(ci 2)],
om 49 51,
ox 52 49 0,
ox 53 49 1,
oo 12 (.alloc 0 [.bO]),
st 1 12 52,
om 13 53]
  (sr [1,2,3,4,5,6,7,8,9,10,11,13,14,15] [oo 55 (.build [.int .i64 0,.int .i64 0] [(1,1,(ci 3))]),
oo 56 (.pF 2 (.agg [.int .i64 0,.int .i64 0]) 1 [(0,(.t 55))]),
oo 57 (.build [.int .i64 0,.int .i64 0,.int .i64 0,.bO,.bO] [(0,1,(ci 4)),(1,1,(ci 1)),(2,1,(ci 2)),(4,1,(.t 56))]),
oc 58 14 [.t 57],
om 54 58,
ox 59 54 0,
ox 60 54 1,
om 14 59,
om 15 60]
  (sr [1,2,3,4,5,6,7,8,9,10,11,13,14,15,16,17] [oa 62 5 1,
oo 63 (.build [.int .i64 0,.int .i64 0,.int .i64 0] [(1,1,(ci 5)),(2,1,(ci 7))]),
oo 64 (.build [.int .i64 0,.int .i64 0,.int .i64 0] [(0,1,(ci 5)),(1,1,(ci 12)),(2,1,(ci 8))]),
oo 65 (.pF 3 (.agg [.int .i64 0,.int .i64 0,.int .i64 0]) 2 [(0,(.t 63)),(1,(.t 64))]),
oc 66 29 [.t 62,.t 65],
om 61 66,
ox 67 61 0,
ox 68 61 1,
om 16 67,
om 17 68]
  (sr [1,2,3,4,5,6,7,8,9,10,11,13,14,15,16,17,19] [oo 70 (.build [.int .i64 0,.int .i64 0,.int .i64 0,.bO,.bO] []),
oc 71 14 [.t 70],
om 69 71,
ox 72 69 0,
ox 73 69 1,
om 18 72,
om 19 73]
  (.seq (sr [1,2,4,6,8,10,14,16,107] [om 74 3,
oi 75 .neq 74 0,
om 76 75,
gm 77 76 false 5,
og 78 76 false (.bin .neq (.t 77) (ci 0)),
kT 79 76 78,
om 80 79,
gm 81 80 false 7,
og 82 80 false (.bin .neq (.t 81) (ci 0)),
kT 83 80 82,
om 84 83,
gm 85 84 false 9,
og 86 84 false (.bin .neq (.t 85) (ci 0)),
kT 87 84 86,
om 88 87,
gm 89 88 false 11,
og 90 88 false (.bin .neq (.t 89) (ci 0)),
kT 91 88 90,
om 92 91,
gm 93 92 false 13,
og 94 92 false (.bin .neq (.t 93) (ci 200)),
kT 95 92 94,
om 96 95,
gm 97 96 false 15,
og 98 96 false (.bin .neq (.t 97) (ci 0)),
kT 99 96 98,
om 100 99,
gm 101 100 false 17,
og 102 100 false (.bin .neq (.t 101) (ci 0)),
kT 103 100 102,
om 104 103,
gm 105 104 false 19,
og 106 104 false (.bin .neq (.t 105) (ci 200)),
kT 107 104 106]
  (.cond (.t 107)
  (sr [0] [oo 0 (.dx (.c (.bool false)))]
  (.pre [0] .ret))
  .skip))
  (.pre [1,2,4,6,8,10,14,16] (sr [1,8,10,16,20] [om 108 2,
oo 109 (.pF 1 (.int .i64 0) 15 [(0,(ci (-1))),(1,(ci (-1))),(2,(ci (-1))),(3,(ci 0)),(4,(ci 1)),(5,(ci 4)),(6,(ci 4)),(7,(ci 5)),(8,(ci 6)),(9,(ci 6)),(10,(ci 7)),(11,(ci 8)),(12,(ci 9)),(13,(ci 10)),(14,(ci 11))]),
oc 110 24 [.t 108,.t 109],
om 111 110,
gm 112 111 true 4,
og 113 111 true (.pF 1 (.int .i64 0) 12 [(0,(ci 3)),(1,(ci 3)),(2,(ci 3)),(3,(ci 2)),(4,(ci 1)),(5,(ci 1)),(6,(ci 2)),(7,(ci 2)),(8,(ci 3)),(9,(ci 3)),(10,(ci 3)),(11,(ci 3))]),
gc 114 111 true 24 [.t 112,.t 113],
pf 115 111 114,
om 116 115,
gm 117 116 true 6,
og 118 116 true (.pF 1 (.int .i64 0) 1 [(0,(ci 8))]),
gc 119 116 true 24 [.t 117,.t 118],
pf 120 116 119,
om 121 120,
gm 122 121 true 14,
og 123 121 true (.pF 1 (.int .i64 0) 4 [(0,(ci (-1))),(1,(ci (-1))),(2,(ci (-1))),(3,(ci 3))]),
gc 124 121 true 24 [.t 122,.t 123],
pf 125 121 124,
om 20 125]
  (sr [1,8,10,16,20,21] [oc 126 41 [(ci 4)],
oc 127 41 [(ci 5)],
oo 128 (.build [.str [],.str [],.str [],.str []] [(0,2,(.t 126)),(2,2,(.t 127))]),
oc 129 41 [(ci 8)],
oc 130 41 [(ci 11)],
oo 131 (.build [.str [],.str [],.str [],.str []] [(0,2,(.t 129)),(2,2,(.t 130))]),
oc 132 41 [(ci 12)],
oc 133 41 [(ci 15)],
oo 134 (.build [.str [],.str [],.str [],.str []] [(0,2,(.t 132)),(2,2,(.t 133))]),
oo 135 (.pF 4 (.agg [.str [],.str [],.str [],.str []]) 3 [(0,(.t 128)),(1,(.t 131)),(2,(.t 134))]),
om 21 135]
  (sr [1,8,20,22] [oa 136 1 10,
om 137 21,
oo 138 (.build [.bO] [(0,1,(.t 137))]),
oc 139 28 [.t 136,.t 138],
om 140 139,
gm 141 140 true 16,
og 142 140 true (.build [.int .i64 0,.int .i64 0,.int .i64 0] [(1,1,(ci 3))]),
og 143 140 true (.build [.int .i64 0,.int .i64 0,.int .i64 0] [(0,1,(ci 3)),(1,1,(ci 7)),(2,1,(ci 7))]),
og 144 140 true (.build [.int .i64 0,.int .i64 0,.int .i64 0] [(0,1,(ci 7)),(1,1,(ci 15)),(2,1,(ci 8))]),
og 145 140 true (.pF 3 (.agg [.int .i64 0,.int .i64 0,.int .i64 0]) 3 [(0,(.t 142)),(1,(.t 143)),(2,(.t 144))]),
gc 146 140 true 31 [.t 141,.t 145],
pf 147 140 146,
om 22 147]
  (sr [0] [om 148 20,
om 149 148,
gm 150 149 true 22,
pf 151 149 150,
om 152 151,
gm 153 152 true 8,
og 154 152 true (.build [.int .i64 0,.int .i64 0] [(1,1,(ci 2))]),
og 155 152 true (.build [.int .i64 0,.int .i64 0] [(0,1,(ci 4)),(1,1,(ci 12))]),
og 156 152 true (.pF 2 (.agg [.int .i64 0,.int .i64 0]) 2 [(0,(.t 154)),(1,(.t 155))]),
gc 157 152 true 25 [.t 153,.t 156],
pf 158 152 157,
om 159 158,
og 160 159 true (.load (.agg 5) (.t 1)),
gc 161 159 true 22 [.t 160],
pf 162 159 161,
om 163 162,
og 164 163 true (.build [.int .i64 0,.int .i64 0,.int .i64 0,.bO,.bO] []),
gc 165 163 true 22 [.t 164],
og 166 163 true (.un .not (.t 165)),
pf 167 163 166,
om 0 167]
  (.pre [0] .ret)))))))))))))))))) }
def x12:gH:={ np:=5,isOpen:=false,ns:=3,res:=[.cell 10 (.agg 5),.tmp 11],code :=
 (sr [0,1,2,3,4,10] [oo 10 (.alloc 2 [.int .i64 0,.int .i64 0,.int .i64 0,.bO,.bO]),
oo 11 (.dx (.c .bO))]
  (sr [4,10,12] [om 15 0,
om 16 1,
om 17 2,
om 18 3,
oc 19 32 [.t 15,.t 16,.t 17,.t 18],
oo 12 (.alloc 1 [.int .i64 0,.int .i64 0,.int .i64 0,.bO,.bO]),
st 5 12 19]
  (.seq (.reg true [10,12,13] [] [op 21 12 0,
⟨some 22,none,[.box 21],.load .one (.t 21)⟩,
op 23 12 0,
⟨some 24,none,[.box 23],.load .one (.t 23)⟩,
om 25 4,
oc 26 47 [.t 24,.t 25],
oo 27 (.call (.c (.fn 46 [])) [.t 22,(ci 0),.t 26] [(0,0)]),
om 20 27,
ox 28 20 0,
ox 29 20 1,
om 13 28,
om 14 29])
  (sr [10,11] [oa 30 5 12,
om 31 13,
st 5 10 30,
om 11 31]
  (.pre [10,11] .ret))))) }
@[go_sem] def aAK:XC:=(.pre [4,5,6]
 (.seq (sr [4,5,6,23] [om 20 6,
op 21 5 3,
ol 22 21,
ob 23 .lss 20 22]
  (.cond (.t 23)
  .skip
  (.pre [] (.exit 2))))
  (.pre [4,5,6] (.seq (.blk 3
  (sr [4,5,6,7] [oo 7 (.dx (ci (-1)))]
  (.seq (sr [4,5,6,7,28] [op 26 5 5,
ol 27 26,
oo 28 (.un .not (.t 27))]
  (.cond (.t 28)
  (.reg false [4,5,6,7] [] [op 29 5 0,
op 30 29 1,
ol 31 30,
op 32 5 3,
ol 33 32,
om 34 6,
ob 35 .sub 33 34,
ob 36 .sub 31 35,
op 37 5 0,
op 38 37 0,
ol 39 38,
oo 40 (.NM true [.t 36,.t 39]),
om 7 40])
  .skip))
  (.pre [4,5,6,7] (.reg false [4,5,6] [] [ol 41 4,
om 42 7,
oo 43 (.pF 1 (.int .i64 0) 1 [(0,(.t 42))]),
oo 44 (.app 2 1 17592186044416 (.t 41) (.t 43)),
st 1 4 44])))))
  (.pre [4,5,6] (.reg false [4,5,6] [] [om 24 6,
oi 25 .add 24 1,
om 6 25]))))))
def as4:XC:=aAK
@[go_sem] theorem aSb(L:Lib)(cx:Cx)(env:Env)(h:Heap):bV L cx as4 (env,h)=bV L cx aAK (env,h):=rfl
def r0:DU:={ ps:=[17],xQ:=(.reg false [4,5] [] [oo 5 (.alloc 1 [.int .i64 0,.int .i64 0,.int .i64 0,.int .i64 0,.int .i64 0,.bool false,.bool false]),
⟨none,none,[],.store 7 (.t 5) (.t 17)⟩]),body :=
 (.blk 1
  (sr [4,5,6] [op 18 5 2,
ol 19 18,
om 6 19]
  (.blk 2
  (.loop as4)))) }
def x14:gH:={ np:=1,isOpen:=false,ns:=5,res:=[.tmp 2,.tmp 3],code :=
 (sr [1,2,3] [oo 1 (.nK (.t 0)),
oo 2 (.dx (.c .bO)),
mi 3 0]
  (.seq (sr [1,2,3,10] [oa 8 5 1,
oc 9 22 [.t 8],
oo 10 (.un .not (.t 9))]
  (.cond (.t 10)
  (sr [2,3] [oo 2 (.dx (.c .bO)),
mi 3 200]
  (.pre [2,3] .ret))
  .skip))
  (.pre [1,2,3] (sr [1,2,3,4] [oo 11 (.pF 1 (.int .i64 0) 1 [(0,(ci (-1)))]),
op 12 1 1,
ol 13 12,
oo 14 (.call (.c (.fn 48 [])) [.t 11,.t 13] [(0,3)]),
oo 4 (.alloc 4 [.bO]),
st 1 4 14]
  (.seq (sr [2,3,4,16] [oa 15 5 1,
oc 16 49 [.t 15]]
  (.blk 0
  (.Gm 0 (.t 16) 0)))
  (.pre [4] (sr [2,3] [ol 45 4,
om 2 45,
mi 3 0]
  (.pre [2,3] .ret)))))))) }
@[go_sem] def aAL:XC:=(.pre [4,5,18,19]
 (sr [4,5,18,19,20] [ob 20 .lss 19 18]
  (.seq (.cond (.t 20)
  .skip
  (.pre [] (.exit 2)))
  (.pre [4,5,18,19] (.seq (.blk 3
  (.reg false [4,5,18,19] [] [ol 21 4,
op 22 5 4,
ol 23 22,
oo 24 (.pF 1 (.int .i64 0) 1 [(0,(.t 23))]),
oo 25 (.app 2 1 17592186044416 (.t 21) (.t 24)),
st 1 4 25]))
  (.pre [4,5,18,19] (.reg false [4,5,18,19] [] [oi 26 .add 19 1,
om 19 26])))))))
def as5:XC:=aAL
@[go_sem] theorem aSc(L:Lib)(cx:Cx)(env:Env)(h:Heap):bV L cx as5 (env,h)=bV L cx aAL (env,h):=rfl
def r1:DU:={ ps:=[11],xQ:=(.reg false [4,5] [] [oo 5 (.alloc 1 [.int .i64 0,.int .i64 0,.int .i64 0,.int .i64 0,.int .i64 0,.bool false,.bool false]),
⟨none,none,[],.store 7 (.t 5) (.t 11)⟩]),body :=
 (.blk 1
  (sr [4,5,18,19] [op 12 5 0,
op 13 12 1,
ol 14 13,
op 15 5 0,
op 16 15 0,
ol 17 16,
ob 18 .sub 14 17,
mi 19 0]
  (.blk 2
  (.loop as5)))) }
def x16:gH:={ np:=1,isOpen:=false,ns:=4,res:=[.tmp 2,.tmp 3],code :=
 (sr [1,2,3] [oo 1 (.nK (.t 0)),
oo 2 (.dx (.c .bO)),
mi 3 0]
  (.seq (sr [1,2,3,8] [oa 6 5 1,
oc 7 22 [.t 6],
oo 8 (.un .not (.t 7))]
  (.cond (.t 8)
  (sr [2,3] [oo 2 (.dx (.c .bO)),
mi 3 200]
  (.pre [2,3] .ret))
  .skip))
  (.pre [1,2,3] (sr [1,2,3,4] [oo 4 (.alloc 3 [.bO])]
  (.seq (sr [2,3,4,10] [oa 9 5 1,
oc 10 49 [.t 9]]
  (.blk 0
  (.Gm 0 (.t 10) 1)))
  (.pre [4] (sr [2,3] [ol 27 4,
om 2 27,
mi 3 0]
  (.pre [2,3] .ret)))))))) }
@[go_sem] def aIy:XC:=(.pre [4,7,8,9]
 (.seq (sr [4,7,8,9,36] [om 30 9,
om 31 4,
om 32 8,
os 33 5 31 32,
op 34 33 1,
ol 35 34,
ob 36 .lss 30 35]
  (.cond (.t 36)
  .skip
  (.pre [4,7,8] (.exit 2))))
  (.pre [4,7,8,9] (.seq (.blk 3
  (.reg false [4,7,8,9] [] [om 39 7,
om 40 4,
om 41 8,
os 42 5 40 41,
op 43 42 3,
ol 44 43,
oo 45 (.pF 1 (.int .i64 0) 1 [(0,(.t 44))]),
oo 46 (.app 0 1 17592186044416 (.t 39) (.t 45)),
om 7 46]))
  (.pre [4,7,8,9] (.reg false [4,7,8,9] [] [om 37 9,
oi 38 .add 37 1,
om 9 38]))))))
def aIz:XC:=aIy
@[go_sem] def aIA:XC:=(.pre [4,7,8]
 (.seq (sr [4,7,8,22] [om 19 8,
om 20 4,
on 21 20,
ob 22 .lss 19 21]
  (.cond (.t 22)
  .skip
  (.pre [7] (.exit 0))))
  (.pre [4,7,8] (.seq (.blk 1
  (sr [4,7,8,9] [om 25 4,
om 26 8,
os 27 5 25 26,
op 28 27 0,
ol 29 28,
om 9 29]
  (.blk 2
  (.loop aIz))))
  (.pre [4,7,8] (.reg false [4,7,8] [] [om 23 8,
oi 24 .add 23 1,
om 8 24]))))))
def aIB:XC:=aIA
def x17:gH:={ np:=1,isOpen:=false,ns:=1,res:=[.tmp 2,.tmp 3],code :=
 (sr [1] [oo 1 (.nK (.t 0)),
oo 2 (.dx (.c .bO)),
mi 3 0]
  (.seq (sr [1,12] [oa 10 5 1,
oc 11 23 [.t 10],
oo 12 (.un .not (.t 11))]
  (.cond (.t 12)
  (sr [2,3] [oo 2 (.dx (.c .bO)),
mi 3 200]
  (.pre [2,3] .ret))
  .skip))
  (.pre [1] (sr [4] [oa 14 5 1,
oc 15 50 [.t 14],
om 13 15,
ox 16 13 0,
ox 17 13 1,
ox 18 13 2,
om 4 16,
om 5 17,
om 6 18]
  (sr [4,7] [oo 7 (.dx (.c .bO))]
  (.seq (sr [4,7,8] [mi 8 0]
  (.blk 0
  (.loop aIB)))
  (.pre [7] (sr [2,3] [om 47 7,
om 2 47,
mi 3 0]
  (.pre [2,3] .ret))))))))) }
@[go_sem] def aAM:XC:=(.pre [1,4,5,22,23,24]
 (sr [1,4,5,22,23,24,25] [ob 25 .lss 24 23]
  (.seq (.cond (.t 25)
  .skip
  (.pre [] (.exit 2)))
  (.pre [1,4,5,22,23,24] (.seq (.blk 3
  (sr [1,4,5,6,7,22,23,24] [om 26 24,
os 27 2 22 24,
oa 28 2 27,
oo 7 (.alloc 2 [.int .i64 0,.int .i64 0]),
om 6 26,
st 2 7 28]
  (.seq (.reg true [1,4,5,6,22,23,24,50] [] [⟨some 29,none,[.box 4],.load .one (.t 4)⟩,
om 30 6,
os 31 1 29 30,
⟨some 32,none,[.elem 31],.load .one (.t 31)⟩,
op 33 1 0,
⟨some 34,none,[.box 33],.load .one (.t 33)⟩,
ob 35 .eql 32 34,
om 36 35,
gp 37 36 true 5 0,
gp 38 36 true 37 0,
⟨some 39,some (36,true),[.box 38],.load .one (.t 38)⟩,
gp 40 36 true 7 1,
⟨some 41,some (36,true),[.box 40],.load .one (.t 40)⟩,
gb 42 36 true .geq 39 41,
pf 43 36 42,
om 44 43,
gp 45 44 true 5 4,
⟨some 46,some (44,true),[.box 45],.load .one (.t 45)⟩,
gp 47 44 true 1 1,
⟨some 48,some (44,true),[.box 47],.load .one (.t 47)⟩,
gb 49 44 true .eql 46 48,
pf 50 44 49])
  (.cond (.t 50)
  (.reg false [1,4,5,22,23,24] [] [ol 51 4,
om 52 6,
op 53 5 0,
op 54 53 0,
ol 55 54,
os 56 1 51 52,
st 1 56 55])
  .skip))))
  (.pre [1,4,5,22,23,24] (.reg false [1,4,5,22,23,24] [] [oi 57 .add 24 1,
om 24 57])))))))
def as7:XC:=aAM
@[go_sem] theorem aSd(L:Lib)(cx:Cx)(env:Env)(h:Heap):bV L cx as7 (env,h)=bV L cx aAM (env,h):=rfl
def r2:DU:={ ps:=[20],xQ:=(.reg false [1,4,5] [] [oo 5 (.alloc 1 [.int .i64 0,.int .i64 0,.int .i64 0,.int .i64 0,.int .i64 0,.bool false,.bool false]),
⟨none,none,[],.store 7 (.t 5) (.t 20)⟩]),body :=
 (.blk 1
  (sr [1,4,5,22,23,24] [op 21 1 4,
ol 22 21,
on 23 22,
mi 24 0]
  (.blk 2
  (.loop as7)))) }
def x18:gH:={ np:=1,isOpen:=false,ns:=5,res:=[.tmp 2,.tmp 3],code :=
 (sr [1,2,3] [oo 1 (.nK (.t 0)),
oo 2 (.dx (.c .bO)),
mi 3 0]
  (.seq (sr [1,2,3,10] [oa 8 5 1,
oc 9 22 [.t 8],
oo 10 (.un .not (.t 9))]
  (.cond (.t 10)
  (sr [2,3] [oo 2 (.dx (.c .bO)),
mi 3 200]
  (.pre [2,3] .ret))
  .skip))
  (.pre [1,2,3] (sr [1,2,3,4] [op 11 1 0,
ol 12 11,
oo 13 (.pF 1 (.int .i64 0) 1 [(0,(.t 12))]),
op 14 1 4,
ol 15 14,
on 16 15,
oo 17 (.call (.c (.fn 48 [])) [.t 13,.t 16] [(0,3)]),
oo 4 (.alloc 4 [.bO]),
st 1 4 17]
  (.seq (sr [1,2,3,4,19] [oa 18 5 1,
oc 19 49 [.t 18]]
  (.blk 0
  (.Gm 0 (.t 19) 2)))
  (.pre [4] (sr [2,3] [ol 58 4,
om 2 58,
mi 3 0]
  (.pre [2,3] .ret)))))))) }
@[go_sem] def aAN:XC:=(.pre [1,4,5,12,13,14]
 (sr [1,4,5,12,13,14,15] [ob 15 .lss 14 13]
  (.seq (.cond (.t 15)
  .skip
  (.pre [1,4,5] (.exit 0)))
  (.pre [1,4,5,12,13,14] (.seq (.blk 1
  (sr [1,4,5,7,12,13,14] [os 16 2 12 14,
oa 17 2 16,
oo 7 (.alloc 2 [.int .i64 0,.int .i64 0]),
st 2 7 17]
  (.seq (sr [1,4,5,7,12,13,14,21] [op 18 7 0,
ol 19 18,
om 20 5,
ob 21 .gtr 19 20]
  (.cond (.t 21)
  (.reg false [1,4,7,12,13,14] [] [om 22 4,
om 23 5,
op 24 7 0,
ol 25 24,
oo 26 (.build [.int .i64 0,.int .i64 0] [(0,1,(.t 23)),(1,1,(.t 25))]),
oo 27 (.pF 2 (.agg [.int .i64 0,.int .i64 0]) 1 [(0,(.t 26))]),
oo 28 (.app 1 2 8796093022208 (.t 22) (.t 27)),
om 4 28])
  .skip))
  (.pre [1,4,7,12,13,14] (.reg false [1,4,5,12,13,14] [] [op 29 7 1,
ol 30 29,
om 5 30])))))
  (.pre [1,4,5,12,13,14] (.reg false [1,4,5,12,13,14] [] [oi 31 .add 14 1,
om 14 31])))))))
def as8:XC:=aAN
@[go_sem] theorem aSe(L:Lib)(cx:Cx)(env:Env)(h:Heap):bV L cx as8 (env,h)=bV L cx aAN (env,h):=rfl
def x20:gH:={ np:=1,isOpen:=false,ns:=3,res:=[.tmp 2,.tmp 3],code :=
 (sr [1] [oo 1 (.nK (.t 0)),
oo 2 (.dx (.c .bO)),
mi 3 0]
  (.seq (sr [1,10] [oa 8 5 1,
oc 9 22 [.t 8],
oo 10 (.un .not (.t 9))]
  (.cond (.t 10)
  (sr [2,3] [oo 2 (.dx (.c .bO)),
mi 3 200]
  (.pre [2,3] .ret))
  .skip))
  (.pre [1] (sr [1,4] [oo 4 (.dx (.c .bO))]
  (sr [1,4,5] [mi 5 0]
  (.seq (sr [1,4,5,12,13,14] [op 11 1 4,
ol 12 11,
on 13 12,
mi 14 0]
  (.blk 0
  (.loop as8)))
  (.pre [1,4,5] (.seq (sr [1,4,5,35] [om 32 5,
op 33 1 0,
ol 34 33,
ob 35 .lss 32 34]
  (.cond (.t 35)
  (.reg false [4] [] [om 36 4,
om 37 5,
op 38 1 0,
ol 39 38,
oo 40 (.build [.int .i64 0,.int .i64 0] [(0,1,(.t 37)),(1,1,(.t 39))]),
oo 41 (.pF 2 (.agg [.int .i64 0,.int .i64 0]) 1 [(0,(.t 40))]),
oo 42 (.app 0 2 8796093022208 (.t 36) (.t 41)),
om 4 42])
  .skip))
  (.pre [4] (sr [2,3] [om 43 4,
om 2 43,
mi 3 0]
  (.pre [2,3] .ret))))))))))) }
def ZK:gH:={ np:=1,isOpen:=false,ns:=0,res:=[.tmp 2],code :=
 (sr [1] [oo 1 (.nK (.t 0)),
oo 2 (.dx (.c (.bool false)))]
  (.seq (sr [1,30] [op 3 1 0,
ol 4 3,
oi 5 .lss 4 1,
om 6 5,
gp 7 6 false 1 0,
rZ 8 6 false 7,
og 9 6 false (.bin .gtr (.t 8) (ci 600)),
kT 10 6 9,
om 11 10,
gp 12 11 false 1 1,
rZ 13 11 false 12,
og 14 11 false (.bin .lss (.t 13) (ci 0)),
kT 15 11 14,
om 16 15,
gp 17 16 false 1 1,
rZ 18 16 false 17,
og 19 16 false (.bin .gtr (.t 18) (ci 60)),
kT 20 16 19,
om 21 20,
gp 22 21 false 1 2,
rZ 23 21 false 22,
og 24 21 false (.bin .lss (.t 23) (ci 1)),
kT 25 21 24,
om 26 25,
gp 27 26 false 1 2,
rZ 28 26 false 27,
og 29 26 false (.bin .gtr (.t 28) (ci 60)),
kT 30 26 29]
  (.cond (.t 30)
  (sr [2] [oo 2 (.dx (.c (.bool false)))]
  (.pre [2] .ret))
  .skip))
  (.pre [1] (.seq (sr [1,44] [op 31 1 3,
ol 32 31,
op 33 1 0,
ol 34 33,
oc 35 51 [.t 32,.t 34,(ci 4)],
oo 36 (.un .not (.t 35)),
om 37 36,
gp 38 37 false 1 4,
rZ 39 37 false 38,
gp 40 37 false 1 0,
rZ 41 37 false 40,
gc 42 37 false 51 [.t 39,.t 41,(ci 4)],
og 43 37 false (.un .not (.t 42)),
kT 44 37 43]
  (.cond (.t 44)
  (sr [2] [oo 2 (.dx (.c (.bool false)))]
  (.pre [2] .ret))
  .skip))
  (.pre [1] (sr [2] [op 45 1 3,
ol 46 45,
oo 47 (.LM 53 [.t 1]),
oc 48 52 [.t 46,.t 47],
oo 49 (.un .not (.t 48)),
om 2 49]
  (.pre [2] .ret))))))) }
@[go_sem] def aID:XC:=(.pre [1,3]
 (.seq (sr [1,3,37] [om 34 3,
op 35 1 0,
ol 36 35,
ob 37 .lss 34 36]
  (.cond (.t 37)
  .skip
  (.pre [] (.exit 0))))
  (.pre [1,3] (.seq (.blk 1
  (sr [1,3,49] [op 40 1 3,
ol 41 40,
om 42 3,
oc 43 33 [.t 41,.t 42],
om 44 43,
gp 45 44 true 1 4,
rZ 46 44 true 45,
gm 47 44 true 3,
gc 48 44 true 33 [.t 46,.t 47],
pf 49 44 48]
  (.cond (.t 49)
  (sr [2] [oo 2 (.dx (.c (.bool false)))]
  (.pre [2] .ret))
  .skip)))
  (.pre [1,3] (.reg false [1,3] [] [om 38 3,
oi 39 .add 38 1,
om 3 39]))))))
def aIE:XC:=aID
def x23:gH:={ np:=1,isOpen:=false,ns:=0,res:=[.tmp 2],code :=
 (sr [1] [oo 1 (.nK (.t 0)),
oo 2 (.dx (.c (.bool false)))]
  (.seq (sr [1,19] [op 4 1 0,
ol 5 4,
oc 6 55 [.t 5,(ci 1),(ci 600)],
oo 7 (.un .not (.t 6)),
om 8 7,
gp 9 8 false 1 1,
rZ 10 8 false 9,
gc 11 8 false 55 [.t 10,(ci 0),(ci 60)],
og 12 8 false (.un .not (.t 11)),
kT 13 8 12,
om 14 13,
gp 15 14 false 1 2,
rZ 16 14 false 15,
gc 17 14 false 55 [.t 16,(ci 1),(ci 60)],
og 18 14 false (.un .not (.t 17)),
kT 19 14 18]
  (.cond (.t 19)
  (sr [2] [oo 2 (.dx (.c (.bool false)))]
  (.pre [2] .ret))
  .skip))
  (.pre [1] (.seq (sr [1,33] [op 20 1 3,
ol 21 20,
op 22 1 0,
ol 23 22,
oc 24 56 [.t 21,.t 23,(ci 4)],
oo 25 (.un .not (.t 24)),
om 26 25,
gp 27 26 false 1 4,
rZ 28 26 false 27,
gp 29 26 false 1 0,
rZ 30 26 false 29,
gc 31 26 false 56 [.t 28,.t 30,(ci 4)],
og 32 26 false (.un .not (.t 31)),
kT 33 26 32]
  (.cond (.t 33)
  (sr [2] [oo 2 (.dx (.c (.bool false)))]
  (.pre [2] .ret))
  .skip))
  (.pre [1] (.seq (sr [1,3] [mi 3 0]
  (.blk 0
  (.loop aIE)))
  (.pre [] (sr [2] [oo 2 (.dx (.c (.bool true)))]
  (.pre [2] .ret))))))))) }
@[go_sem] def aIF:XC:=(.pre [0,1,5]
 (.seq (sr [0,1,5,14] [om 11 5,
om 12 0,
on 13 12,
ob 14 .lss 11 13]
  (.cond (.t 14)
  .skip
  (.pre [] (.exit 0))))
  (.pre [0,1,5] (.seq (.blk 1
  (.seq (.reg true [0,1,5,25] [] [om 17 0,
om 18 5,
os 19 1 17 18,
⟨some 20,none,[.elem 19],.load .one (.t 19)⟩,
om 21 1,
om 22 5,
os 23 1 21 22,
⟨some 24,none,[.elem 23],.load .one (.t 23)⟩,
ob 25 .neq 20 24])
  (.cond (.t 25)
  (sr [4] [oo 4 (.dx (.c (.bool false)))]
  (.pre [4] .ret))
  .skip)))
  (.pre [0,1,5] (.reg false [0,1,5] [] [om 15 5,
oi 16 .add 15 1,
om 5 16]))))))
def aIG:XC:=aIF
def x24:gH:={ np:=2,isOpen:=false,ns:=0,res:=[.tmp 4],code :=
 (sr [0,1] [oo 4 (.dx (.c (.bool false)))]
  (.seq (sr [0,1,10] [om 6 0,
on 7 6,
om 8 1,
on 9 8,
ob 10 .neq 7 9]
  (.cond (.t 10)
  (sr [4] [oo 4 (.dx (.c (.bool false)))]
  (.pre [4] .ret))
  .skip))
  (.pre [0,1] (.seq (sr [0,1,5] [mi 5 0]
  (.blk 0
  (.loop aIG)))
  (.pre [] (sr [4] [oo 4 (.dx (.c (.bool true)))]
  (.pre [4] .ret))))))) }
@[go_sem] def aIH:XC:=(.pre [0,1,5]
 (.seq (sr [0,1,5,14] [om 11 5,
om 12 0,
on 13 12,
ob 14 .lss 11 13]
  (.cond (.t 14)
  .skip
  (.pre [] (.exit 0))))
  (.pre [0,1,5] (.seq (.blk 1
  (.seq (.reg true [0,1,5,25] [] [om 17 0,
om 18 5,
os 19 2 17 18,
⟨some 20,none,[.elem 19],.load (.agg 2) (.t 19)⟩,
om 21 1,
om 22 5,
os 23 2 21 22,
⟨some 24,none,[.elem 23],.load (.agg 2) (.t 23)⟩,
oo 25 (.eqv true [.i .i64,.i .i64] (.t 20) (.t 24))])
  (.cond (.t 25)
  (sr [4] [oo 4 (.dx (.c (.bool false)))]
  (.pre [4] .ret))
  .skip)))
  (.pre [0,1,5] (.reg false [0,1,5] [] [om 15 5,
oi 16 .add 15 1,
om 5 16]))))))
def aII:XC:=aIH
def x25:gH:={ np:=2,isOpen:=false,ns:=0,res:=[.tmp 4],code :=
 (sr [0,1] [oo 4 (.dx (.c (.bool false)))]
  (.seq (sr [0,1,10] [om 6 0,
on 7 6,
om 8 1,
on 9 8,
ob 10 .neq 7 9]
  (.cond (.t 10)
  (sr [4] [oo 4 (.dx (.c (.bool false)))]
  (.pre [4] .ret))
  .skip))
  (.pre [0,1] (.seq (sr [0,1,5] [mi 5 0]
  (.blk 0
  (.loop aII)))
  (.pre [] (sr [4] [oo 4 (.dx (.c (.bool true)))]
  (.pre [4] .ret))))))) }
def r3:DU:={ ps:=[36],xQ:=(.reg false [8,9,10,11] [] [oo 11 (.alloc 1 [.int .i64 0,.int .i64 0,.int .i64 0,.int .i64 0,.int .i64 0,.bool false,.bool false]),
⟨none,none,[],.store 7 (.t 11) (.t 36)⟩]),body :=
 (.blk 1
  (.seq (sr [8,9,10,11,50] [op 37 11 0,
op 38 37 0,
ol 39 38,
op 40 8 0,
ol 41 40,
ob 42 .lss 39 41,
om 43 42,
gp 44 43 false 11 0,
gp 45 43 false 44 0,
rZ 46 43 false 45,
gp 47 43 false 8 1,
rZ 48 43 false 47,
gb 49 43 false .geq 46 48,
kT 50 43 49]
  (.cond (.t 50)
  (.pre [] (.exit 1))
  .skip))
  (.pre [8,9,10,11] (.seq (sr [8,9,10,11,62] [op 51 11 0,
op 52 51 0,
ol 53 52,
op 54 8 0,
ol 55 54,
ob 56 .eql 53 55,
om 57 56,
gp 58 57 false 11 6,
rZ 59 57 false 58,
rZ 60 57 false 10,
og 61 57 false (.eqv true [] (.t 59) (.t 60)),
kT 62 57 61]
  (.cond (.t 62)
  (.reg true [8,9,10,11] [] [op 63 9 0,
⟨some 64,none,[.box 63],.load .one (.t 63)⟩,
op 65 11 0,
op 66 65 0,
⟨some 67,none,[.box 66],.load .one (.t 66)⟩,
op 68 11 2,
⟨some 69,none,[.box 68],.load .one (.t 68)⟩,
oc 70 57 [.t 67,.t 69],
⟨some 71,none,[.closed 70],.pF 4 (.agg [.str [],.str [],.str [],.str []]) 1 [(0,(.t 70))]⟩,
⟨some 72,none,[.SV 3],.app 3 4 2199023255552 (.t 64) (.t 71)⟩,
op 73 9 0,
⟨none,none,[.box 73],.store 1 (.t 73) (.t 72)⟩])
  .skip))
  (.pre [8,9,10,11] (sr [8,9,11] [op 74 11 6,
ol 75 74,
st 1 10 75]
  (sr [9,11,81] [op 76 11 0,
op 77 76 1,
ol 78 77,
op 79 8 1,
ol 80 79,
ob 81 .eql 78 80]
  (.cond (.t 81)
  (.reg true [] [] [op 82 9 0,
⟨some 83,none,[.box 82],.load .one (.t 82)⟩,
op 84 11 0,
op 85 84 1,
⟨some 86,none,[.box 85],.load .one (.t 85)⟩,
op 87 11 3,
⟨some 88,none,[.box 87],.load .one (.t 87)⟩,
oc 89 57 [.t 86,.t 88],
⟨some 90,none,[.closed 89],.pF 4 (.agg [.str [],.str [],.str [],.str []]) 1 [(0,(.t 89))]⟩,
⟨some 91,none,[.SV 2],.app 2 4 2199023255552 (.t 83) (.t 90)⟩,
op 92 9 0,
⟨none,none,[.box 92],.store 1 (.t 92) (.t 91)⟩])
  .skip)))))))) }
def x26:gH:={ np:=2,isOpen:=false,ns:=8,res:=[.cell 4 (.agg 1),.tmp 5],code :=
 (sr [1,2,4,5] [oo 2 (.nK (.t 0)),
oo 4 (.alloc 7 [.bO]),
mi 5 0]
  (sr [1,2,4,5,6,7] [oa 13 5 2,
oc 14 20 [.t 13],
om 12 14,
ox 15 12 0,
ox 16 12 1,
om 6 15,
om 7 16]
  (.seq (sr [1,2,4,5,6,28] [om 17 7,
oi 18 .neq 17 0,
om 19 18,
gm 20 19 false 1,
og 21 19 false (.bin .lss (.t 20) (ci 0)),
kT 22 19 21,
om 23 22,
gm 24 23 false 1,
gm 25 23 false 6,
og 26 23 false (.len false (.t 25)),
gb 27 23 false .geq 24 26,
kT 28 23 27]
  (.cond (.t 28)
  (sr [4,5] [oo 29 (.build [.bO] []),
st 1 4 29,
mi 5 200]
  (.pre [4,5] .ret))
  .skip))
  (.pre [1,2,4,5,6] (sr [2,4,5,8] [om 30 6,
om 31 1,
os 32 2 30 31,
oa 33 2 32,
oo 8 (.alloc 6 [.int .i64 0,.int .i64 0]),
st 2 8 33]
  (sr [2,4,5,8,9] [oo 9 (.alloc 5 [.bO])]
  (sr [2,4,5,8,9,10] [oo 10 (.alloc 4 [.bool false]),
⟨none,none,[],.store 1 (.t 10) (.c (.bool false))⟩]
  (.seq (sr [4,5,8,9,10,35] [oa 34 5 2,
oc 35 49 [.t 34]]
  (.blk 0
  (.Gm 0 (.t 35) 3)))
  (.pre [4,9] (.seq (sr [4,9,95] [oa 93 1 9,
oc 94 58 [.t 93],
oo 95 (.un .not (.t 94))]
  (.cond (.t 95)
  (sr [4,5] [oo 96 (.build [.bO] []),
st 1 4 96,
mi 5 200]
  (.pre [4,5] .ret))
  .skip))
  (.pre [4,9] (sr [4,5] [oa 97 1 9,
st 1 4 97,
mi 5 0]
  (.pre [4,5] .ret))))))))))))) }
@[go_sem] def aIJ:XC:=(.pre [2,3,5]
 (.seq (sr [2,3,5,17] [om 13 5,
op 14 2 0,
ol 15 14,
on 16 15,
ob 17 .lss 13 16]
  (.cond (.t 17)
  .skip
  (.pre [] (.exit 0))))
  (.pre [2,3,5] (.seq (.blk 1
  (.seq (.reg true [2,3,5,30] [] [op 20 2 0,
⟨some 21,none,[.box 20],.load .one (.t 20)⟩,
om 22 5,
os 23 4 21 22,
⟨some 24,none,[.elem 23],.load (.agg 4) (.t 23)⟩,
op 25 3 0,
⟨some 26,none,[.box 25],.load .one (.t 25)⟩,
om 27 5,
os 28 4 26 27,
⟨some 29,none,[.elem 28],.load (.agg 4) (.t 28)⟩,
oo 30 (.eqv true [.s,.s,.s,.s] (.t 24) (.t 29))])
  (.cond (.t 30)
  (sr [4] [oo 4 (.dx (.c (.bool false)))]
  (.pre [4] .ret))
  .skip)))
  (.pre [2,3,5] (.reg false [2,3,5] [] [om 18 5,
oi 19 .add 18 1,
om 5 19]))))))
def aIK:XC:=aIJ
def x28:gH:={ np:=2,isOpen:=false,ns:=0,res:=[.tmp 4],code :=
 (sr [2,3] [oo 2 (.nK (.t 0)),
oo 3 (.nK (.t 1)),
oo 4 (.dx (.c (.bool false)))]
  (.seq (sr [2,3,12] [op 6 2 0,
ol 7 6,
on 8 7,
op 9 3 0,
ol 10 9,
on 11 10,
ob 12 .neq 8 11]
  (.cond (.t 12)
  (sr [4] [oo 4 (.dx (.c (.bool false)))]
  (.pre [4] .ret))
  .skip))
  (.pre [2,3] (.seq (sr [2,3,5] [mi 5 0]
  (.blk 0
  (.loop aIK)))
  (.pre [] (sr [4] [oo 4 (.dx (.c (.bool true)))]
  (.pre [4] .ret))))))) }
@[go_sem] def aAO:XC:=(.pre [1,8,27,28,29]
 (sr [1,8,27,28,29,30] [ob 30 .lss 29 28]
  (.seq (.cond (.t 30)
  .skip
  (.pre [8] (.exit 0)))
  (.pre [1,8,27,28,29] (.seq (.blk 1
  (sr [1,8,9,10,27,28,29] [om 31 29,
os 32 1 27 29,
ol 33 32,
om 9 31,
om 10 33]
  (sr [1,8,9,10,11,27,28,29] [mi 11 0]
  (.seq (sr [1,8,9,10,11,27,28,29,35] [om 34 10,
oi 35 .neq 34 (-1)]
  (.cond (.t 35)
  (.reg false [1,8,9,11,27,28,29] [] [om 37 1,
om 38 10,
oc 39 36 [.t 37,.t 38],
om 36 39,
ox 40 36 0,
ox 41 36 1,
om 11 40])
  .skip))
  (.pre [1,8,9,11,27,28,29] (.seq (sr [1,8,9,11,12,27,28,29] [om 42 8,
on 43 42,
om 12 43]
  (sr [1,8,9,11,12,27,28,29,55] [om 44 12,
oi 45 .gtr 44 0,
om 46 45,
gm 47 46 true 8,
gm 48 46 true 12,
og 49 46 true (.bin .sub (.t 48) (ci 1)),
JP 50 46 true 3 47 49,
gp 51 46 true 50 2,
rZ 52 46 true 51,
gm 53 46 true 11,
gb 54 46 true .eql 52 53,
pf 55 46 54]
  (.cond (.t 55)
  (sr [1,8,27,28,29] [om 56 8,
om 57 12,
oi 58 .sub 57 1,
om 59 9,
oi 60 .add 59 1,
os 61 3 56 58,
op 62 61 1,
st 1 62 60]
  (.pre [1,8,27,28,29] (.exit 1)))
  .skip)))
  (.pre [1,8,9,11,27,28,29] (.reg false [1,8,27,28,29] [] [om 63 8,
om 64 9,
om 65 9,
oi 66 .add 65 1,
om 67 11,
oo 68 (.build [.int .i64 0,.int .i64 0,.int .i64 0] [(0,1,(.t 64)),(1,1,(.t 66)),(2,1,(.t 67))]),
oo 69 (.pF 3 (.agg [.int .i64 0,.int .i64 0,.int .i64 0]) 1 [(0,(.t 68))]),
oo 70 (.app 0 3 5864062014805 (.t 63) (.t 69)),
om 8 70]))))))))
  (.pre [1,8,27,28,29] (.reg false [1,8,27,28,29] [] [oi 71 .add 29 1,
om 29 71])))))))
def as9:XC:=aAO
@[go_sem] theorem aSf(L:Lib)(cx:Cx)(env:Env)(h:Heap):bV L cx as9 (env,h)=bV L cx aAO (env,h):=rfl
def x29:gH:={ np:=2,isOpen:=false,ns:=1,res:=[.tmp 4,.tmp 5],code :=
 (sr [1,2] [oo 2 (.nK (.t 0)),
oo 4 (.dx (.c .bO)),
mi 5 0]
  (sr [1,2,6,7] [oa 14 5 2,
oc 15 14 [.t 14],
om 13 15,
ox 16 13 0,
ox 17 13 1,
om 6 16,
om 7 17]
  (.seq (.seq (.reg true [1,6,26] [] [om 18 7,
oi 19 .neq 18 0,
om 20 19,
gm 21 20 false 1,
gc 22 20 false 35 [.t 21],
gp 23 20 false 2 0,
⟨some 24,some (20,false),[.box 23],.load .one (.t 23)⟩,
gb 25 20 false .neq 22 24,
kT 26 20 25])
  (.cond (.t 26)
  (sr [4,5] [oo 4 (.dx (.c .bO)),
mi 5 200]
  (.pre [4,5] .ret))
  .skip))
  (.pre [1,6] (sr [1,6,8] [oo 8 (.dx (.c .bO))]
  (.seq (sr [1,8,27,28,29] [om 27 6,
on 28 27,
mi 29 0]
  (.blk 0
  (.loop as9)))
  (.pre [8] (.seq (sr [8,74] [om 72 8,
oc 73 60 [.t 72],
oo 74 (.un .not (.t 73))]
  (.cond (.t 74)
  (sr [4,5] [oo 4 (.dx (.c .bO)),
mi 5 200]
  (.pre [4,5] .ret))
  .skip))
  (.pre [8] (sr [4,5] [om 75 8,
om 4 75,
mi 5 0]
  (.pre [4,5] .ret))))))))))) }
@[go_sem] def aIL:XC:=(.pre [0,1,5]
 (.seq (sr [0,1,5,14] [om 11 5,
om 12 0,
on 13 12,
ob 14 .lss 11 13]
  (.cond (.t 14)
  .skip
  (.pre [] (.exit 0))))
  (.pre [0,1,5] (.seq (.blk 1
  (.seq (.reg true [0,1,5,25] [] [om 17 0,
om 18 5,
os 19 3 17 18,
⟨some 20,none,[.elem 19],.load (.agg 3) (.t 19)⟩,
om 21 1,
om 22 5,
os 23 3 21 22,
⟨some 24,none,[.elem 23],.load (.agg 3) (.t 23)⟩,
oo 25 (.eqv true [.i .i64,.i .i64,.i .i64] (.t 20) (.t 24))])
  (.cond (.t 25)
  (sr [4] [oo 4 (.dx (.c (.bool false)))]
  (.pre [4] .ret))
  .skip)))
  (.pre [0,1,5] (.reg false [0,1,5] [] [om 15 5,
oi 16 .add 15 1,
om 5 16]))))))
def aIM:XC:=aIL
def x31:gH:={ np:=2,isOpen:=false,ns:=0,res:=[.tmp 4],code :=
 (sr [0,1] [oo 4 (.dx (.c (.bool false)))]
  (.seq (sr [0,1,10] [om 6 0,
on 7 6,
om 8 1,
on 9 8,
ob 10 .neq 7 9]
  (.cond (.t 10)
  (sr [4] [oo 4 (.dx (.c (.bool false)))]
  (.pre [4] .ret))
  .skip))
  (.pre [0,1] (.seq (sr [0,1,5] [mi 5 0]
  (.blk 0
  (.loop aIM)))
  (.pre [] (sr [4] [oo 4 (.dx (.c (.bool true)))]
  (.pre [4] .ret))))))) }
@[go_sem] def aAP:XC:=(.pre [3,8,9,10,11]
 (.seq (sr [3,8,9,10,11,29] [om 22 11,
om 23 3,
on 24 23,
ob 25 .lss 22 24,
om 26 25,
gm 27 26 true 11,
og 28 26 true (.bin .lss (.t 27) (ci 6)),
pf 29 26 28]
  (.cond (.t 29)
  .skip
  (.pre [8,9] (.exit 0))))
  (.pre [3,8,9,10,11] (.seq (.blk 1
  (sr [3,8,9,11,12] [om 32 10,
om 33 3,
om 34 11,
os 35 3 33 34,
oo 36 (.SS 3 1 (.t 35) (ci 0)),
ol 37 36,
oc 38 64 [.t 37,(ci 25)],
ob 39 .add 32 38,
oo 40 (.build [.int .i64 0,.int .i64 0] [(0,1,(.t 39))]),
oo 12 (.alloc 2 [.int .i64 0,.int .i64 0]),
st 2 12 40]
  (.seq (.reg true [3,8,9,11,12] [] [op 41 12 0,
⟨some 42,none,[.box 41],.load .one (.t 41)⟩,
oi 43 .add 42 1,
om 44 3,
om 45 11,
os 46 3 44 45,
oo 47 (.SS 3 1 (.t 46) (ci 1)),
⟨some 48,none,[.elem 47],.load .one (.t 47)⟩,
oc 49 64 [.t 48,(ci 9)],
ob 50 .add 43 49,
op 51 12 1,
⟨none,none,[.box 51],.store 1 (.t 51) (.t 50)⟩])
  (.seq (sr [3,8,9,11,12,56] [op 52 12 1,
ol 53 52,
op 54 9 0,
ol 55 54,
ob 56 .gtr 53 55]
  (.cond (.t 56)
  (.pre [8,9] (.exit 0))
  .skip))
  (.pre [3,8,9,11,12] (.seq (sr [3,8,9,11,12,69] [om 57 3,
om 58 11,
os 59 3 57 58,
oo 60 (.SS 3 1 (.t 59) (ci 2)),
ol 61 60,
oc 62 64 [.t 61,(ci 3)],
oi 63 .eql 62 0,
om 64 63,
gp 65 64 true 9 3,
rZ 66 64 true 65,
og 67 64 true (.len false (.t 66)),
og 68 64 true (.bin .lss (.t 67) (ci 4)),
pf 69 64 68]
  (.cond (.t 69)
  (.reg false [3,8,9,11,12] [] [op 70 9 3,
ol 71 70,
oa 72 2 12,
oo 73 (.pF 2 (.agg [.int .i64 0,.int .i64 0]) 1 [(0,(.t 72))]),
oo 74 (.app 0 2 8796093022208 (.t 71) (.t 73)),
op 75 9 3,
st 1 75 74])
  (sr [3,8,9,11,12,79] [op 76 9 4,
ol 77 76,
on 78 77,
oi 79 .lss 78 4]
  (.cond (.t 79)
  (.reg false [3,8,9,11,12] [] [op 80 9 4,
ol 81 80,
oa 82 2 12,
oo 83 (.pF 2 (.agg [.int .i64 0,.int .i64 0]) 1 [(0,(.t 82))]),
oo 84 (.app 1 2 8796093022208 (.t 81) (.t 83)),
op 85 9 4,
st 1 85 84])
  .skip))))
  (.pre [3,8,9,11,12] (.reg false [3,8,9,10,11] [] [op 86 12 1,
ol 87 86,
oi 88 .add 87 1,
om 10 88]))))))))
  (.pre [3,8,9,10,11] (.reg false [3,8,9,10,11] [] [om 30 11,
oi 31 .add 30 1,
om 11 31]))))))
def ata:XC:=aAP
@[go_sem] theorem aSg(L:Lib)(cx:Cx)(env:Env)(h:Heap):bV L cx ata (env,h)=bV L cx aAP (env,h):=rfl
def x32:gH:={ np:=4,isOpen:=false,ns:=5,res:=[.cell 8 (.agg 5)],code :=
 (sr [0,1,2,3,8] [oo 8 (.alloc 4 [.int .i64 0,.int .i64 0,.int .i64 0,.bO,.bO])]
  (sr [3,8,9] [om 13 0,
oc 14 64 [.t 13,(ci 120)],
oo 15 (.bin .add (ci 1) (.t 14)),
om 16 1,
oc 17 64 [.t 16,(ci 13)],
om 18 2,
oc 19 64 [.t 18,(ci 8)],
oo 20 (.bin .add (ci 1) (.t 19)),
oo 21 (.build [.int .i64 0,.int .i64 0,.int .i64 0,.bO,.bO] [(0,1,(.t 15)),(1,1,(.t 17)),(2,1,(.t 20))]),
oo 9 (.alloc 3 [.int .i64 0,.int .i64 0,.int .i64 0,.bO,.bO]),
st 5 9 21]
  (sr [3,8,9,10] [mi 10 0]
  (.seq (sr [3,8,9,10,11] [mi 11 0]
  (.blk 0
  (.loop ata)))
  (.pre [8,9] (sr [8] [oa 89 5 9,
st 5 8 89]
  (.pre [8] .ret))))))) }
@[go_sem] def aAQ:XC:=(.pre [0,1,5]
 (.seq (sr [0,1,5,9] [om 6 5,
om 7 0,
on 8 7,
ob 9 .lss 6 8]
  (.cond (.t 9)
  .skip
  (.pre [] (.exit 0))))
  (.pre [0,1,5] (.seq (.blk 1
  (sr [0,1,5,27] [om 12 1,
om 13 0,
om 14 5,
os 15 2 13 14,
op 16 15 0,
ol 17 16,
ob 18 .geq 12 17,
om 19 18,
gm 20 19 true 1,
gm 21 19 true 0,
gm 22 19 true 5,
JP 23 19 true 2 21 22,
gp 24 19 true 23 1,
rZ 25 19 true 24,
gb 26 19 true .lss 20 25,
pf 27 19 26]
  (.cond (.t 27)
  (sr [4] [oo 4 (.dx (.c (.bool true)))]
  (.pre [4] .ret))
  .skip)))
  (.pre [0,1,5] (.reg false [0,1,5] [] [om 10 5,
oi 11 .add 10 1,
om 5 11]))))))
def atb:XC:=aAQ
@[go_sem] theorem aSh(L:Lib)(cx:Cx)(env:Env)(h:Heap):bV L cx atb (env,h)=bV L cx aAQ (env,h):=rfl
def x33:gH:={ np:=2,isOpen:=false,ns:=0,res:=[.tmp 4],code :=
 (sr [0,1] [oo 4 (.dx (.c (.bool false)))]
  (.seq (sr [0,1,5] [mi 5 0]
  (.blk 0
  (.loop atb)))
  (.pre [] (sr [4] [oo 4 (.dx (.c (.bool false)))]
  (.pre [4] .ret))))) }
@[go_sem] def aAR:XC:=(.pre [0,1,5]
 (.seq (sr [0,1,5,9] [om 6 5,
om 7 0,
on 8 7,
ob 9 .lss 6 8]
  (.cond (.t 9)
  .skip
  (.pre [] (.exit 0))))
  (.pre [0,1,5] (.seq (.blk 1
  (sr [0,1,5,17] [om 12 0,
om 13 5,
os 14 1 12 13,
ol 15 14,
om 16 1,
ob 17 .eql 15 16]
  (.cond (.t 17)
  (sr [4] [om 18 5,
om 4 18]
  (.pre [4] .ret))
  .skip)))
  (.pre [0,1,5] (.reg false [0,1,5] [] [om 10 5,
oi 11 .add 10 1,
om 5 11]))))))
def atc:XC:=aAR
@[go_sem] theorem aSi(L:Lib)(cx:Cx)(env:Env)(h:Heap):bV L cx atc (env,h)=bV L cx aAR (env,h):=rfl
def x34:gH:={ np:=2,isOpen:=false,ns:=0,res:=[.tmp 4],code :=
 (sr [0,1] [mi 4 0]
  (.seq (sr [0,1,5] [mi 5 0]
  (.blk 0
  (.loop atc)))
  (.pre [] (sr [4] [oo 4 (.dx (ci (-1)))]
  (.pre [4] .ret))))) }
def x35:gH:={ np:=1,isOpen:=false,ns:=0,res:=[.tmp 2],code :=
 (sr [0] [mi 2 0]
  (.seq (sr [0,5] [om 3 0,
oc 4 60 [.t 3],
oo 5 (.un .not (.t 4))]
  (.cond (.t 5)
  (sr [2] [oo 2 (.dx (ci (-1)))]
  (.pre [2] .ret))
  .skip))
  (.pre [0] (sr [2] [om 6 0,
oc 7 65 [.t 6],
om 2 7]
  (.pre [2] .ret))))) }
def r4:DU:={ ps:=[14],xQ:=(.reg false [4,5,6] [] [oo 6 (.alloc 1 [.int .i64 0,.int .i64 0,.int .i64 0]),
⟨none,none,[],.store 3 (.t 6) (.t 14)⟩]),body :=
 (.blk 1
  (sr [] [op 15 6 2,
ol 16 15,
st 1 4 16,
⟨none,none,[],.store 1 (.t 5) (ci 0)⟩]
  (.pre [] .ret))) }
def x36:gH:={ np:=2,isOpen:=false,ns:=4,res:=[.cell 4 .one,.cell 5 .one],code :=
 (sr [0,1,4,5] [oo 4 (.alloc 2 [.int .i64 0]),
oo 5 (.alloc 3 [.int .i64 0])]
  (.seq (sr [0,1,4,5,8] [om 7 0,
oc 8 60 [.t 7]]
  (.cond (.t 8)
  (sr [4,5,13] [om 9 0,
om 10 1,
om 11 1,
oi 12 .add 11 1,
oc 13 66 [.t 9,.t 10,.t 12]]
  (.blk 0
  (.Gm 0 (.t 13) 4)))
  .skip))
  (.pre [4,5] (sr [4,5] [⟨none,none,[],.store 1 (.t 4) (ci 0)⟩,
⟨none,none,[],.store 1 (.t 5) (ci 150)⟩]
  (.pre [4,5] .ret))))) }
def x37:gH:={ np:=2,isOpen:=false,ns:=2,res:=[.tmp 4,.tmp 5],code :=
 (sr [0,3] [oo 3 (.nK (.t 1)),
oo 4 (.dx (.c .bO)),
mi 5 0]
  (.seq (sr [0,3,18] [om 7 0,
oc 8 60 [.t 7],
oo 9 (.un .not (.t 8)),
om 10 9,
gm 11 10 false 0,
gp 12 10 false 3 0,
rZ 13 10 false 12,
gp 14 10 false 3 1,
rZ 15 10 false 14,
gc 16 10 false 67 [.t 11,.t 13,.t 15],
og 17 10 false (.un .not (.t 16)),
kT 18 10 17]
  (.cond (.t 18)
  (sr [4,5] [oo 4 (.dx (.c .bO)),
mi 5 150]
  (.pre [4,5] .ret))
  .skip))
  (.pre [0,3] (sr [0,3,6] [oo 6 (.alloc 1 [.bO])]
  (sr [6] [om 19 0,
op 20 3 0,
ol 21 20,
op 22 3 1,
ol 23 22,
oc 24 66 [.t 19,.t 21,.t 23],
oo 25 (.LM 1069 [.t 6]),
oc 26 68 [.t 24,.t 25]]
  (sr [4,5] [oo 27 (.call (.c (.fn 70 [])) [.t 6] [(0,0)]),
ox 28 27 0,
ox 29 27 1,
om 4 28,
om 5 29]
  (.pre [4,5] .ret))))))) }
def x39:gH:={ np:=2,isOpen:=false,ns:=1,res:=[.cell 4 (.agg 2),.tmp 5],code :=
 (sr [0,1,4] [oo 4 (.alloc 0 [.str [],.str []]),
mi 5 0]
  (sr [4,5] [om 6 0,
oc 7 74 [.t 6],
om 8 1,
oc 9 74 [.t 8],
oc 10 73 [.t 7,.t 9],
ox 11 10 0,
ox 12 10 1,
st 2 4 11,
om 5 12]
  (.pre [4,5] .ret))) }
def x41:gH:={ np:=1,isOpen:=false,ns:=2,res:=[.cell 2 (.agg 2)],code :=
 (sr [0,2] [oo 2 (.alloc 1 [.str [],.str []])]
  (sr [2,3] [om 6 0,
oc 7 80 [.t 6,(ci 1)],
om 5 7,
ox 8 5 0,
ox 9 5 1,
oo 3 (.alloc 0 [.str [],.str []]),
st 2 3 8,
om 4 9]
  (sr [2] [oa 10 2 3,
st 2 2 10]
  (.pre [2] .ret)))) }
@[go_sem] def aAS:XC:=(.blk 1000 (.seq (.pre [2,3,5]
 (sr [2,3,5,6,7] [op 22 2 0,
ol 23 22,
op 24 2 1,
ol 25 24,
oc 26 81 [.t 23,.t 25],
om 21 26,
ox 27 21 0,
ox 28 21 1,
ox 29 21 2,
om 6 27,
om 7 28,
om 8 29]
  (sr [2,3,5,6,7,9,10] [op 31 3 0,
ol 32 31,
op 33 3 1,
ol 34 33,
oc 35 81 [.t 32,.t 34],
om 30 35,
ox 36 30 0,
ox 37 30 1,
ox 38 30 2,
om 9 36,
om 10 37,
om 11 38]
  (.seq (sr [2,3,5,7,10,12] [om 39 6,
om 40 9,
oc 41 82 [.t 39,.t 40],
om 12 41]
  (.blk 0
  (sr [2,3,5,7,10,12,42] [om 43 12,
oi 44 .neq 43 0,
om 42 44]
  (.cond (.t 42)
  (sr [4] [om 45 5,
om 46 12,
ob 47 .mul 45 46,
om 4 47]
  (.pre [4] .ret))
  (sr [2,3,5,7,10,48] [om 49 7,
oo 50 (.bin .eql (.t 49) (.c (.str [48]))),
om 51 50,
gm 52 51 true 10,
og 53 51 true (.bin .eql (.t 52) (.c (.str [48]))),
pf 54 51 53,
om 48 54]
  (.cond (.t 48)
  (sr [4] [mi 4 0]
  (.pre [4] .ret))
  (sr [2,3,5,7,10,55] [om 56 7,
oo 57 (.bin .eql (.t 56) (.c (.str [48]))),
om 55 57]
  (.cond (.t 55)
  (sr [4] [om 58 5,
oo 59 (.un .neg (.t 58)),
om 4 59]
  (.pre [4] .ret))
  (sr [2,3,5,7,10,60] [om 61 10,
oo 62 (.bin .eql (.t 61) (.c (.str [48]))),
om 60 62]
  (.cond (.t 60)
  (sr [4] [om 63 5,
om 4 63]
  (.pre [4] .ret))
  .skip))))))))))
  (.pre [2,3,5,7,10] (.seq (.reg true [2,3,5] [] [op 64 2 1,
⟨some 65,none,[.box 64,.ne 64 3],.load .one (.t 64)⟩,
om 66 7,
oo 67 (.build [.str [],.str []] [(0,1,(.t 65)),(1,1,(.t 66))]),
op 68 3 1,
⟨some 69,none,[.box 68,.ne 68 2],.load .one (.t 68)⟩,
om 70 10,
oo 71 (.build [.str [],.str []] [(0,1,(.t 69)),(1,1,(.t 70))]),
om 72 5,
oo 73 (.un .neg (.t 72)),
⟨none,none,[.box 2],.store 2 (.t 2) (.t 67)⟩,
⟨none,none,[.box 3],.store 2 (.t 3) (.t 71)⟩,
om 5 73])
  (.pre [2,3,5] (.exit 1000)))))))) (.exit 5000)))
def atd:XC:=aAS
@[go_sem] theorem aSj(L:Lib)(cx:Cx)(env:Env)(h:Heap):bV L cx atd (env,h)=bV L cx aAS (env,h):=rfl
def x42:gH:={ np:=2,isOpen:=false,ns:=2,res:=[.tmp 4],code :=
 (sr [2,3] [oo 2 (.box 0 (.t 0)),
oo 3 (.box 1 (.t 1)),
mi 4 0]
  (.blk 5000 (.seq (.blk 1000 (.seq (sr [2,3,20] [oa 13 2 2,
oc 14 78 [.t 13],
oo 15 (.un .not (.t 14)),
om 16 15,
og 17 16 false (.load (.agg 2) (.t 3)),
gc 18 16 false 78 [.t 17],
og 19 16 false (.un .not (.t 18)),
kT 20 16 19]
  (.cond (.t 20)
  (sr [4] [mi 4 0]
  (.pre [4] .ret))
  .skip))
  (.pre [2,3] (.reg false [2,3,5] [] [mi 5 1]))))
  (.loop atd)))) }
def x45:gH:={ np:=0,isOpen:=false,ns:=1,res:=[.cell 0 (.agg 5)],code :=
 (sr [0] [oo 0 (.alloc 0 [.int .i64 0,.int .i64 0,.int .i64 0,.bO,.bO])]
  (sr [0] [oo 1 (.build [.int .i64 0,.int .i64 0] [(0,1,(ci 8)),(1,1,(ci 9))]),
oo 2 (.pF 2 (.agg [.int .i64 0,.int .i64 0]) 1 [(0,(.t 1))]),
oo 3 (.build [.int .i64 0,.int .i64 0] [(0,1,(ci 2)),(1,1,(ci 4))]),
oo 4 (.pF 2 (.agg [.int .i64 0,.int .i64 0]) 1 [(0,(.t 3))]),
oo 5 (.build [.int .i64 0,.int .i64 0,.int .i64 0,.bO,.bO] [(0,1,(ci 12)),(1,1,(ci 3)),(2,1,(ci 2)),(3,1,(.t 2)),(4,1,(.t 4))]),
st 5 0 5]
  (.pre [0] .ret))) }
@[go_sem] def aAT:XC:=(.pre [2,8,9,10]
 (.seq (sr [2,8,9,10,24] [om 17 10,
om 18 2,
on 19 18,
ob 20 .lss 17 19,
om 21 20,
gm 22 21 true 9,
og 23 21 true (.bin .eql (.t 22) (ci 0)),
pf 24 21 23]
  (.cond (.t 24)
  .skip
  (.pre [8,9] (.exit 0))))
  (.pre [2,8,10] (.seq (.blk 1
  (.reg false [2,8,9,10] [] [om 28 8,
om 29 2,
om 30 10,
os 31 3 29 30,
oa 32 3 31,
oo 33 (.call (.c (.fn 86 [])) [.t 28,.t 32] [(0,0)]),
om 27 33,
ox 34 27 0,
ox 35 27 1,
om 8 34,
om 9 35]))
  (.pre [2,8,9,10] (.reg false [2,8,9,10] [] [om 25 10,
oi 26 .add 25 1,
om 10 26]))))))
def atg:XC:=aAT
@[go_sem] theorem aSk(L:Lib)(cx:Cx)(env:Env)(h:Heap):bV L cx atg (env,h)=bV L cx aAT (env,h):=rfl
def x46:gH:={ np:=3,isOpen:=false,ns:=2,res:=[.tmp 6,.tmp 7],code :=
 (sr [0,1,2] [oo 6 (.dx (.c .bO)),
mi 7 0]
  (sr [2,8,9] [om 12 0,
om 13 1,
oo 14 (.call (.c (.fn 85 [])) [.t 12,.t 13] [(0,1)]),
om 11 14,
ox 15 11 0,
ox 16 11 1,
om 8 15,
om 9 16]
  (.seq (sr [2,8,9,10] [mi 10 0]
  (.blk 0
  (.loop atg)))
  (.pre [8,9] (sr [6,7] [om 36 8,
om 37 9,
om 6 36,
om 7 37]
  (.pre [6,7] .ret)))))) }
@[go_sem] def aAU:XC:=(.pre [0,1,5,6]
 (.seq (sr [0,1,5,6,15] [om 8 6,
om 9 1,
on 10 9,
ob 11 .lss 8 10,
om 12 11,
gm 13 12 true 6,
og 14 12 true (.bin .lss (.t 13) (ci 20)),
pf 15 12 14]
  (.cond (.t 15)
  .skip
  (.pre [5] (.exit 0))))
  (.pre [0,1,5,6] (.seq (.blk 1
  (sr [0,1,5,6,7] [om 18 1,
om 19 6,
os 20 3 18 19,
oo 21 (.SS 3 1 (.t 20) (ci 0)),
ol 22 21,
om 23 0,
oc 24 87 [.t 22,.t 23],
om 7 24]
  (.reg true [0,1,5,6] [] [om 25 5,
om 26 7,
om 27 7,
oi 28 .add 27 1,
om 29 1,
om 30 6,
os 31 3 29 30,
oo 32 (.SS 3 1 (.t 31) (ci 1)),
⟨some 33,none,[.elem 32],.load .one (.t 32)⟩,
om 34 0,
om 35 7,
ob 36 .sub 34 35,
oc 37 87 [.t 33,.t 36],
ob 38 .add 28 37,
om 39 1,
om 40 6,
os 41 3 39 40,
oo 42 (.SS 3 1 (.t 41) (ci 2)),
⟨some 43,none,[.elem 42],.load .one (.t 42)⟩,
oc 44 87 [.t 43,(ci 8)],
oo 45 (.build [.int .i64 0,.int .i64 0,.int .i64 0] [(0,1,(.t 26)),(1,1,(.t 38)),(2,1,(.t 44))]),
⟨some 46,none,[.closed 45],.pF 3 (.agg [.int .i64 0,.int .i64 0,.int .i64 0]) 1 [(0,(.t 45))]⟩,
⟨some 47,none,[.SV 0],.app 0 3 5864062014805 (.t 25) (.t 46)⟩,
om 5 47])))
  (.pre [0,1,5,6] (.reg false [0,1,5,6] [] [om 16 6,
oi 17 .add 16 1,
om 6 17]))))))
def ath:XC:=aAU
@[go_sem] theorem aSl(L:Lib)(cx:Cx)(env:Env)(h:Heap):bV L cx ath (env,h)=bV L cx aAU (env,h):=rfl
def x47:gH:={ np:=2,isOpen:=false,ns:=1,res:=[.tmp 4],code :=
 (sr [0,1] [oo 4 (.dx (.c .bO))]
  (sr [0,1,5] [oo 5 (.dx (.c .bO))]
  (.seq (sr [0,1,5,6] [mi 6 0]
  (.blk 0
  (.loop ath)))
  (.pre [5] (sr [4] [om 48 5,
om 4 48]
  (.pre [4] .ret)))))) }
@[go_sem] def aAV:XC:=(.pre [7,8]
 (.seq (sr [7,8,37] [om 34 8,
om 35 7,
on 36 35,
ob 37 .lss 34 36]
  (.cond (.t 37)
  .skip
  (.pre [7] (.exit 0))))
  (.pre [7,8] (.blk 1
  (.reg true [7,8] [] [om 38 8,
om 39 7,
om 40 8,
oo 41 (.slice (some 1) (.t 39) (some (.t 40)) none),
om 42 7,
om 43 8,
oo 44 (.slice (some 1) (.t 42) none (some (.t 43))),
oo 45 (.copy 1 (.t 41) (.t 44)),
ob 46 .add 38 45,
om 8 46])))))
def aoD:XC:=aAV
@[go_sem] theorem aSm(L:Lib)(cx:Cx)(env:Env)(h:Heap):bV L cx aoD (env,h)=bV L cx aAV (env,h):=rfl
def x48:gH:={ np:=2,isOpen:=false,ns:=1,res:=[.tmp 4],code :=
 (sr [0,1] [oo 4 (.dx (.c .bO))]
  (.seq (sr [0,1,10] [om 9 1,
oi 10 .lss 9 0]
  (.cond (.t 10)
  (.reg false [0,1] [] [oo 11 (.Zp 9 (.c (.str [99,97,110,110,111,116,32,98,101,32,110,101,103,97,116,105,118,101]))),
⟨none,none,[],.Zq (.t 11)⟩])
  .skip))
  (.pre [0,1] (sr [0,5,6] [om 13 0,
on 14 13,
oo 15 (.conv .u64 (.t 14)),
om 16 1,
oo 17 (.conv .u64 (.t 16)),
oc 18 88 [.t 15,.t 17],
om 12 18,
ox 19 12 0,
ox 20 12 1,
om 5 19,
om 6 20]
  (.seq (sr [0,6,26] [om 21 5,
oo 22 (.bin .gtr (.t 21) (.c (.int .u64 0))),
om 23 22,
gm 24 23 false 6,
og 25 23 false (.bin .gtr (.t 24) (.c (.int .u64 9223372036854775807))),
kT 26 23 25]
  (.cond (.t 26)
  (.reg false [0,6] [] [oo 27 (.Zp 9 (.c (.str [116,104,101,32,114,101,115,117,108,116,32,111,102,32,40,108,101,110,40,120,41,32,42,32,99,111,117,110,116,41,32,111,118,101,114,102,108,111,119,115]))),
⟨none,none,[],.Zq (.t 27)⟩])
  .skip))
  (.pre [0,6] (sr [0,7] [om 28 6,
oo 29 (.conv .i64 (.t 28)),
oo 30 (.mk 1000 1 (.int .i64 0) 17592186044416 (.t 29) (.t 29)),
om 7 30]
  (sr [7,8] [om 31 7,
om 32 0,
oo 33 (.copy 1 (.t 31) (.t 32)),
om 8 33]
  (.seq (.blk 0
  (.loop aoD))
  (.pre [7] (sr [4] [om 47 7,
om 4 47]
  (.pre [4] .ret)))))))))))) }
def x49:gH:={ np:=1,isOpen:=false,ns:=0,res:=[.tmp 2],code :=
 (sr [1] [oo 1 (.nK (.t 0)),
oo 2 (.dx (.c .yX))]
  (sr [2] [oo 3 (.LM 89 [.t 1]),
om 2 3]
  (.pre [2] .ret))) }
@[go_sem] def aAW:XC:=(.pre [1,5,7,8,10,12]
 (.seq (sr [1,5,7,8,10,12,103] [om 100 12,
op 101 10 1,
ol 102 101,
ob 103 .lss 100 102]
  (.cond (.t 103)
  .skip
  (.pre [1,5,7,8,10] (.exit 6))))
  (.pre [1,5,7,8,10,12] (.seq (.blk 7
  (.reg false [1,5,7,8,10,12] [] [om 106 5,
om 107 12,
oo 108 (.pF 1 (.int .i64 0) 1 [(0,(.t 107))]),
oo 109 (.app 2 1 17592186044416 (.t 106) (.t 108)),
om 5 109]))
  (.pre [1,5,7,8,10,12] (.reg false [1,5,7,8,10,12] [] [om 104 12,
oi 105 .add 104 1,
om 12 105]))))))
def atl:XC:=aAW
@[go_sem] theorem aSn(L:Lib)(cx:Cx)(env:Env)(h:Heap):bV L cx atl (env,h)=bV L cx aAW (env,h):=rfl
@[go_sem] def aAX:XC:=(.pre [1,5,7,8,9,10,11]
 (.seq (sr [1,5,7,8,9,10,11,70] [om 61 11,
om 62 9,
op 63 1 2,
ol 64 63,
ob 65 .add 62 64,
ob 66 .lss 61 65,
om 67 66,
gp 68 67 true 10 4,
rZ 69 67 true 68,
pf 70 67 69]
  (.cond (.t 70)
  .skip
  (.pre [1,5,7,8,9,10] (.exit 4))))
  (.pre [1,5,7,8,9,10,11] (.seq (.blk 5
  (.reg false [1,5,7,8,9,10,11] [] [op 73 1 4,
ol 74 73,
om 75 11,
oc 76 33 [.t 74,.t 75],
oo 77 (.un .not (.t 76)),
om 78 77,
gp 79 78 true 1 3,
rZ 80 78 true 79,
gm 81 78 true 11,
gc 82 78 true 33 [.t 80,.t 81],
og 83 78 true (.un .not (.t 82)),
pf 84 78 83,
op 85 10 4,
st 1 85 84]))
  (.pre [1,5,7,8,9,10,11] (.reg false [1,5,7,8,9,10,11] [] [om 71 11,
oi 72 .add 71 1,
om 11 72]))))))
def atm:XC:=aAX
@[go_sem] theorem aSo(L:Lib)(cx:Cx)(env:Env)(h:Heap):bV L cx atm (env,h)=bV L cx aAX (env,h):=rfl
@[go_sem] def aAY:XC:=(.pre [1,5,7,8,9]
 (.seq (sr [1,5,7,8,9,27] [om 24 9,
op 25 1 0,
ol 26 25,
ob 27 .lss 24 26]
  (.cond (.t 27)
  .skip
  (.pre [5,7,8] (.exit 2))))
  (.pre [1,5,7,8,9] (.blk 3
  (sr [1,5,7,8,9,10] [om 28 9,
om 29 9,
oi 30 .add 29 1,
om 31 5,
on 32 31,
om 33 8,
oo 34 (.build [.int .i64 0,.int .i64 0,.int .i64 0,.int .i64 0,.bool false] [(0,1,(.t 28)),(1,1,(.t 30)),(2,1,(.t 32)),(3,1,(.t 33))]),
oo 10 (.alloc 4 [.int .i64 0,.int .i64 0,.int .i64 0,.int .i64 0,.bool false]),
st 5 10 34]
  (.seq (sr [1,5,7,8,9,10,38] [op 35 1 4,
ol 36 35,
om 37 9,
oc 38 33 [.t 36,.t 37]]
  (.cond (.t 38)
  (sr [1,5,7,8,10,40] [om 39 8,
oi 40 .gtr 39 0]
  (.cond (.t 40)
  (.reg false [1,5,7,8,10] [] [om 41 8,
oi 42 .sub 41 1,
om 8 42])
  (.reg false [1,5,7,8,10] [] [om 43 5,
oo 44 (.pF 1 (.int .i64 0) 1 [(0,(ci (-1)))]),
oo 45 (.app 1 1 17592186044416 (.t 43) (.t 44)),
om 5 45])))
  (sr [1,5,7,8,9,10] [om 46 8,
op 47 1 1,
ol 48 47,
ob 49 .lss 46 48,
om 50 49,
gm 51 50 true 9,
gp 52 50 true 1 2,
rZ 53 50 true 52,
gb 54 50 true .add 51 53,
gp 55 50 true 1 0,
rZ 56 50 true 55,
gb 57 50 true .leq 54 56,
pf 58 50 57,
op 59 10 4,
st 1 59 58]
  (.seq (sr [1,5,7,8,9,10,11] [om 60 9,
om 11 60]
  (.blk 4
  (.loop atm)))
  (.pre [1,5,7,8,9,10] (sr [1,5,7,8,9,10] [om 86 5,
om 87 9,
oo 88 (.pF 1 (.int .i64 0) 1 [(0,(.t 87))]),
oo 89 (.app 3 1 17592186044416 (.t 86) (.t 88)),
om 5 89]
  (sr [1,5,7,8,9,10,91] [op 90 10 4,
ol 91 90]
  (.cond (.t 91)
  (sr [1,5,7,8,9,10] [om 92 8,
oi 93 .add 92 1,
om 8 93]
  (sr [1,5,7,8,9,10] [om 94 9,
op 95 1 2,
ol 96 95,
ob 97 .add 94 96,
op 98 10 1,
st 1 98 97]
  (sr [1,5,7,8,10,12] [om 99 9,
om 12 99]
  (.blk 6
  (.loop atl)))))
  .skip))))))))
  (.pre [1,5,7,8,10] (sr [1,5,7,8,10] [om 110 7,
oa 111 5 10,
oo 112 (.pF 5 (.agg [.int .i64 0,.int .i64 0,.int .i64 0,.int .i64 0,.bool false]) 1 [(0,(.t 111))]),
oo 113 (.app 0 5 3518437208883 (.t 110) (.t 112)),
om 7 113]
  (.reg false [1,5,7,8,9] [] [op 114 10 1,
ol 115 114,
om 9 115])))))))))
def atn:XC:=aAY
@[go_sem] theorem aSp(L:Lib)(cx:Cx)(env:Env)(h:Heap):bV L cx atn (env,h)=bV L cx aAY (env,h):=rfl
@[go_sem] def aIN:XC:=(.pre [1,5,6]
 (.seq (sr [1,5,6,16] [om 13 6,
op 14 1 1,
ol 15 14,
ob 16 .lss 13 15]
  (.cond (.t 16)
  .skip
  (.pre [1,5] (.exit 0))))
  (.pre [1,5,6] (.seq (.blk 1
  (.reg false [1,5,6] [] [om 19 5,
oo 20 (.pF 1 (.int .i64 0) 1 [(0,(ci (-1)))]),
oo 21 (.app 5 1 17592186044416 (.t 19) (.t 20)),
om 5 21]))
  (.pre [1,5,6] (.reg false [1,5,6] [] [om 17 6,
oi 18 .add 17 1,
om 6 18]))))))
def aIO:XC:=aIN
def x50:gH:={ np:=1,isOpen:=false,ns:=6,res:=[.tmp 2,.tmp 3,.tmp 4],code :=
 (sr [1] [oo 1 (.nK (.t 0)),
oo 2 (.dx (.c .bO)),
oo 3 (.dx (.c .bO)),
mi 4 0]
  (sr [1,5] [oo 5 (.dx (.c .bO))]
  (.seq (sr [1,5,6] [mi 6 0]
  (.blk 0
  (.loop aIO)))
  (.pre [1,5] (sr [1,5,7] [oo 7 (.dx (.c .bO))]
  (sr [1,5,7,8] [op 22 1 1,
ol 23 22,
om 8 23]
  (sr [1,5,7,8,9] [mi 9 0]
  (.seq (.blk 2
  (.loop atn))
  (.pre [5,7,8] (sr [2,3,4] [om 116 7,
om 117 5,
om 118 8,
om 2 116,
om 3 117,
om 4 118]
  (.pre [2,3,4] .ret))))))))))) }
@[go_sem] def aAZ:XC:=(.pre [0,1,2,7,10,11,12]
 (sr [0,1,2,7,10,11,12,13] [ob 13 .lss 12 11]
  (.seq (.cond (.t 13)
  .skip
  (.pre [0,2] (.exit 0)))
  (.pre [0,1,2,7,10,11,12] (.seq (.blk 1
  (sr [0,1,2,7,9,10,11,12] [os 14 2 10 12,
oa 15 2 14,
oo 9 (.alloc 0 [.int .i64 0,.int .i64 0]),
st 2 9 15]
  (.seq (sr [0,1,2,9,10,11,12,32] [op 16 9 0,
ol 17 16,
om 18 7,
ob 19 .leq 17 18,
om 20 19,
gp 21 20 false 9 1,
rZ 22 20 false 21,
gp 23 20 false 9 0,
rZ 24 20 false 23,
gb 25 20 false .leq 22 24,
kT 26 20 25,
om 27 26,
gp 28 27 false 9 1,
rZ 29 27 false 28,
gm 30 27 false 1,
gb 31 27 false .gtr 29 30,
kT 32 27 31]
  (.cond (.t 32)
  (sr [6] [oo 6 (.dx (.c (.bool false)))]
  (.pre [6] .ret))
  .skip))
  (.pre [0,1,2,9,10,11,12] (.reg false [0,1,2,7,10,11,12] [] [op 33 9 1,
ol 34 33,
om 7 34])))))
  (.pre [0,1,2,7,10,11,12] (.reg false [0,1,2,7,10,11,12] [] [oi 35 .add 12 1,
om 12 35])))))))
def ato:XC:=aAZ
@[go_sem] theorem aSq(L:Lib)(cx:Cx)(env:Env)(h:Heap):bV L cx ato (env,h)=bV L cx aAZ (env,h):=rfl
def x51:gH:={ np:=3,isOpen:=false,ns:=1,res:=[.tmp 6],code :=
 (sr [0,1,2] [oo 6 (.dx (.c (.bool false)))]
  (sr [0,1,2,7] [oo 7 (.dx (ci (-1)))]
  (.seq (sr [0,1,2,7,10,11,12] [om 10 0,
on 11 10,
mi 12 0]
  (.blk 0
  (.loop ato)))
  (.pre [0,2] (sr [6] [om 36 0,
on 37 36,
om 38 2,
ob 39 .leq 37 38,
om 6 39]
  (.pre [6] .ret)))))) }
def x52:gH:={ np:=2,isOpen:=false,ns:=0,res:=[.tmp 4],code :=
 (sr [0,1] [oo 4 (.dx (.c (.bool false)))]
  (sr [4] [om 5 0,
om 6 1,
oc 7 92 [.t 5,.t 6],
oi 8 .geq 7 0,
om 4 8]
  (.pre [4] .ret))) }
def x53:gH:={ np:=2,isOpen:=false,ns:=0,res:=[.tmp 3],code :=
 (sr [1,2] [oo 2 (.nK (.t 0)),
oo 3 (.dx (.c (.bool false)))]
  (sr [3] [op 4 1 4,
ol 5 4,
oo 6 (.LM 54 [.t 2]),
oc 7 52 [.t 5,.t 6],
om 3 7]
  (.pre [3] .ret))) }
def x54:gH:={ np:=2,isOpen:=false,ns:=0,res:=[.tmp 3],code :=
 (sr [1,2] [oo 2 (.nK (.t 0)),
oo 3 (.dx (.c (.bool false)))]
  (sr [3] [op 4 1 0,
ol 5 4,
op 6 2 1,
ol 7 6,
ob 8 .lss 5 7,
om 9 8,
gp 10 9 true 2 0,
rZ 11 9 true 10,
gp 12 9 true 1 1,
rZ 13 9 true 12,
gb 14 9 true .lss 11 13,
pf 15 9 14,
om 3 15]
  (.pre [3] .ret))) }
def x55:gH:={ np:=3,isOpen:=false,ns:=0,res:=[.tmp 6],code :=
 (sr [0,1,2] [oo 6 (.dx (.c (.bool false)))]
  (sr [6] [om 7 0,
om 8 1,
ob 9 .geq 7 8,
om 10 9,
gm 11 10 true 0,
gm 12 10 true 2,
gb 13 10 true .leq 11 12,
pf 14 10 13,
om 6 14]
  (.pre [6] .ret))) }
@[go_sem] def aIQ:XC:=(.pre [0,1,2,7]
 (.seq (sr [0,1,2,7,11] [om 8 7,
om 9 0,
on 10 9,
ob 11 .lss 8 10]
  (.cond (.t 11)
  .skip
  (.pre [0,2] (.exit 0))))
  (.pre [0,1,2,7] (.seq (.blk 1
  (.seq (.reg true [0,1,2,7,60] [] [om 14 0,
om 15 7,
os 16 2 14 15,
op 17 16 0,
⟨some 18,none,[.elem 17],.load .one (.t 17)⟩,
oi 19 .lss 18 0,
om 20 19,
gm 21 20 false 0,
gm 22 20 false 7,
JP 23 20 false 2 21 22,
gp 24 20 false 23 0,
⟨some 25,some (20,false),[.elem 24],.load .one (.t 24)⟩,
gm 26 20 false 0,
gm 27 20 false 7,
JP 28 20 false 2 26 27,
gp 29 20 false 28 1,
⟨some 30,some (20,false),[.elem 29],.load .one (.t 29)⟩,
gb 31 20 false .geq 25 30,
kT 32 20 31,
om 33 32,
gm 34 33 false 0,
gm 35 33 false 7,
JP 36 33 false 2 34 35,
gp 37 33 false 36 1,
⟨some 38,some (33,false),[.elem 37],.load .one (.t 37)⟩,
gm 39 33 false 1,
gb 40 33 false .gtr 38 39,
kT 41 33 40,
om 42 41,
gm 43 42 false 7,
og 44 42 false (.bin .gtr (.t 43) (ci 0)),
gm 45 42 false 44,
gm 46 45 true 0,
gm 47 45 true 7,
JP 48 45 true 2 46 47,
gp 49 45 true 48 0,
⟨some 50,some (45,true),[.elem 49],.load .one (.t 49)⟩,
gm 51 45 true 0,
gm 52 45 true 7,
og 53 45 true (.bin .sub (.t 52) (ci 1)),
og 54 45 true (.NM true [.t 53,(ci 0)]),
JP 55 45 true 2 51 54,
gp 56 45 true 55 1,
⟨some 57,some (45,true),[.elem 56],.load .one (.t 56)⟩,
gb 58 45 true .leq 50 57,
og 59 42 false (.pick (.t 45) (.t 58) (.c (.bool false))),
kT 60 42 59])
  (.cond (.t 60)
  (sr [6] [oo 6 (.dx (.c (.bool false)))]
  (.pre [6] .ret))
  .skip)))
  (.pre [0,1,2,7] (.reg false [0,1,2,7] [] [om 12 7,
oi 13 .add 12 1,
om 7 13]))))))
def aIR:XC:=aIQ
def x56:gH:={ np:=3,isOpen:=false,ns:=0,res:=[.tmp 6],code :=
 (sr [0,1,2] [oo 6 (.dx (.c (.bool false)))]
  (.seq (sr [0,1,2,7] [mi 7 0]
  (.blk 0
  (.loop aIR)))
  (.pre [0,2] (sr [6] [om 61 0,
on 62 61,
om 63 2,
ob 64 .leq 62 63,
om 6 64]
  (.pre [6] .ret))))) }
def x57:gH:={ np:=2,isOpen:=false,ns:=3,res:=[.cell 4 (.agg 4)],code :=
 (sr [0,1,4] [oo 4 (.alloc 2 [.str [],.str [],.str [],.str []])]
  (sr [1,4,5] [om 10 0,
oc 11 39 [.t 10,(ci 1)],
om 9 11,
ox 12 9 0,
ox 13 9 1,
oo 5 (.alloc 1 [.str [],.str []]),
st 2 5 12,
om 6 13]
  (sr [4,5,7] [om 15 1,
oc 16 39 [.t 15,(ci 1)],
om 14 16,
ox 17 14 0,
ox 18 14 1,
oo 7 (.alloc 0 [.str [],.str []]),
st 2 7 17,
om 8 18]
  (sr [4] [oa 19 2 5,
oa 20 2 7,
oo 21 (.build [.str [],.str [],.str [],.str []] [(0,2,(.t 19)),(2,2,(.t 20))]),
st 4 4 21]
  (.pre [4] .ret))))) }
def r5:DU:={ ps:=[24,25],xQ:=(sr [2,4,5,25] [oo 5 (.alloc 2 [.str [],.str [],.str [],.str []]),
st 4 5 24]
  (.reg false [2,4,5,6] [] [oo 6 (.alloc 1 [.str [],.str [],.str [],.str []]),
⟨none,none,[],.store 4 (.t 6) (.t 25)⟩])),body :=
 (.blk 1
  (.seq (sr [2,4,5,6,39] [op 26 5 0,
oa 27 2 26,
op 28 6 0,
oa 29 2 28,
oc 30 42 [.t 27,.t 29],
oi 31 .geq 30 0,
om 32 31,
gp 33 32 false 5 2,
og 34 32 false (.load (.agg 2) (.t 33)),
gp 35 32 false 6 2,
og 36 32 false (.load (.agg 2) (.t 35)),
gc 37 32 false 42 [.t 34,.t 36],
og 38 32 false (.bin .geq (.t 37) (ci 0)),
kT 39 32 38]
  (.cond (.t 39)
  (sr [] [⟨none,none,[],.store 1 (.t 2) (.c (.bool false))⟩]
  (.pre [] .ret))
  .skip))
  (.pre [4,5,6] (.reg false [] [] [oa 40 4 5,
oa 41 4 6,
oc 42 96 [.t 4,.t 40,.t 41]])))) }
def x58:gH:={ np:=1,isOpen:=false,ns:=5,res:=[.cell 2 .one],code :=
 (sr [1,2] [oo 1 (.nK (.t 0)),
oo 2 (.alloc 4 [.bool false])]
  (.seq (sr [1,2,16] [op 7 1 0,
ol 8 7,
on 9 8,
oi 10 .lss 9 2,
om 11 10,
gp 12 11 false 1 0,
rZ 13 11 false 12,
og 14 11 false (.len false (.t 13)),
og 15 11 false (.bin .gtr (.t 14) (ci 24)),
kT 16 11 15]
  (.cond (.t 16)
  (sr [2] [⟨none,none,[],.store 1 (.t 2) (.c (.bool false))⟩]
  (.pre [2] .ret))
  .skip))
  (.pre [1,2] (sr [1,2,3] [oo 3 (.dx (.c (.fn 93 [])))]
  (.seq (sr [1,2,20] [op 17 1 0,
ol 18 17,
om 19 3,
oc 20 94 [.t 18,.t 19]]
  (.cond (.t 20)
  (sr [2] [⟨none,none,[],.store 1 (.t 2) (.c (.bool false))⟩]
  (.pre [2] .ret))
  .skip))
  (.pre [1,2] (sr [1,2,4] [oo 4 (.alloc 3 [.bool false])]
  (.seq (sr [2,4,23] [op 21 1 0,
ol 22 21,
oc 23 95 [.t 22]]
  (.blk 0
  (.Gm 0 (.t 23) 5)))
  (.pre [2,4] (sr [2] [op 43 4 0,
ol 44 43,
oo 45 (.un .not (.t 44)),
st 1 2 45]
  (.pre [2] .ret))))))))))) }
def x59:gH:={ np:=1,isOpen:=false,ns:=2,res:=[.cell 2 (.agg 2)],code :=
 (sr [0,2] [oo 2 (.alloc 1 [.str [],.str []])]
  (sr [2,3] [om 6 0,
oc 7 80 [.t 6,(ci 1)],
om 5 7,
ox 8 5 0,
ox 9 5 1,
oo 3 (.alloc 0 [.str [],.str []]),
st 2 3 8,
om 4 9]
  (sr [2] [oa 10 2 3,
st 2 2 10]
  (.pre [2] .ret)))) }
@[go_sem] def aA0:XC:=(.pre [0,3,4,7,8,9]
 (sr [0,3,4,7,8,9,10] [ob 10 .lss 9 8]
  (.seq (.cond (.t 10)
  .skip
  (.pre [0] (.exit 0)))
  (.pre [0,3,4,7,8,9] (.seq (.blk 1
  (sr [0,3,4,6,7,8,9] [os 11 3 7 9,
oa 12 3 11,
oo 6 (.alloc 0 [.int .i64 0,.int .i64 0,.int .i64 0]),
st 3 6 12]
  (.seq (sr [0,6,7,8,9,39] [op 13 6 0,
ol 14 13,
om 15 3,
ob 16 .neq 14 15,
om 17 16,
gp 18 17 false 6 1,
rZ 19 17 false 18,
gm 20 17 false 3,
gb 21 17 false .leq 19 20,
kT 22 17 21,
om 23 22,
gp 24 23 false 6 1,
rZ 25 23 false 24,
og 26 23 false (.bin .gtr (.t 25) (ci 10000000)),
kT 27 23 26,
om 28 27,
gp 29 28 false 6 2,
rZ 30 28 false 29,
gc 31 28 false 97 [.t 30],
og 32 28 false (.un .not (.t 31)),
kT 33 28 32,
om 34 33,
gp 35 34 false 6 2,
rZ 36 34 false 35,
gm 37 34 false 4,
gb 38 34 false .eql 36 37,
kT 39 34 38]
  (.cond (.t 39)
  (sr [2] [oo 2 (.dx (.c (.bool false)))]
  (.pre [2] .ret))
  .skip))
  (.pre [0,6,7,8,9] (.reg true [0,3,4,7,8,9] [] [op 40 6 1,
⟨some 41,none,[.box 40],.load .one (.t 40)⟩,
op 42 6 2,
⟨some 43,none,[.box 42],.load .one (.t 42)⟩,
om 3 41,
om 4 43])))))
  (.pre [0,3,4,7,8,9] (.reg false [0,3,4,7,8,9] [] [oi 44 .add 9 1,
om 9 44])))))))
def att:XC:=aA0
@[go_sem] theorem aSr(L:Lib)(cx:Cx)(env:Env)(h:Heap):bV L cx att (env,h)=bV L cx aA0 (env,h):=rfl
def x60:gH:={ np:=1,isOpen:=false,ns:=1,res:=[.tmp 2],code :=
 (sr [0] [oo 2 (.dx (.c (.bool false)))]
  (sr [0,3,4] [mi 3 0,
oo 4 (.dx (ci (-1)))]
  (.seq (sr [0,3,4,7,8,9] [om 7 0,
on 8 7,
mi 9 0]
  (.blk 0
  (.loop att)))
  (.pre [0] (sr [2] [om 45 0,
on 46 45,
oi 47 .leq 46 200,
om 2 47]
  (.pre [2] .ret)))))) }
@[go_sem] def aA1:XC:=(.pre [0,3,4]
 (.seq (sr [0,3,4,11] [om 8 4,
om 9 0,
on 10 9,
ob 11 .lss 8 10]
  (.cond (.t 11)
  .skip
  (.pre [] (.exit 0))))
  (.pre [0,3,4] (.seq (.blk 1
  (.seq (.seq (.reg true [0,4,71] [] [om 14 0,
om 15 4,
os 16 3 14 15,
op 17 16 0,
⟨some 18,none,[.elem 17],.load .one (.t 17)⟩,
om 19 3,
ob 20 .neq 18 19,
om 21 20,
gm 22 21 false 0,
gm 23 21 false 4,
JP 24 21 false 3 22 23,
gp 25 21 false 24 1,
⟨some 26,some (21,false),[.elem 25],.load .one (.t 25)⟩,
gm 27 21 false 3,
gb 28 21 false .leq 26 27,
kT 29 21 28,
om 30 29,
gm 31 30 false 0,
gm 32 30 false 4,
JP 33 30 false 3 31 32,
gp 34 30 false 33 1,
⟨some 35,some (30,false),[.elem 34],.load .one (.t 34)⟩,
og 36 30 false (.bin .gtr (.t 35) (ci 10000000)),
kT 37 30 36,
om 38 37,
gm 39 38 false 0,
gm 40 38 false 4,
JP 41 38 false 3 39 40,
gp 42 38 false 41 2,
⟨some 43,some (38,false),[.elem 42],.load .one (.t 42)⟩,
og 44 38 false (.bin .lss (.t 43) (ci 0)),
kT 45 38 44,
om 46 45,
gm 47 46 false 0,
gm 48 46 false 4,
JP 49 46 false 3 47 48,
gp 50 46 false 49 2,
⟨some 51,some (46,false),[.elem 50],.load .one (.t 50)⟩,
og 52 46 false (.bin .gtr (.t 51) (ci 2999)),
kT 53 46 52,
om 54 53,
gm 55 54 false 4,
og 56 54 false (.bin .gtr (.t 55) (ci 0)),
gm 57 54 false 56,
gm 58 57 true 0,
gm 59 57 true 4,
JP 60 57 true 3 58 59,
gp 61 57 true 60 2,
⟨some 62,some (57,true),[.elem 61],.load .one (.t 61)⟩,
gm 63 57 true 0,
gm 64 57 true 4,
og 65 57 true (.bin .sub (.t 64) (ci 1)),
JP 66 57 true 3 63 65,
gp 67 57 true 66 2,
⟨some 68,some (57,true),[.elem 67],.load .one (.t 67)⟩,
gb 69 57 true .eql 62 68,
og 70 54 false (.pick (.t 57) (.t 69) (.c (.bool false))),
kT 71 54 70])
  (.cond (.t 71)
  (sr [2] [oo 2 (.dx (.c (.bool false)))]
  (.pre [2] .ret))
  .skip))
  (.pre [0,4] (.reg false [0,3,4] [] [om 72 0,
om 73 4,
os 74 3 72 73,
op 75 74 1,
ol 76 75,
om 3 76]))))
  (.pre [0,3,4] (.reg false [0,3,4] [] [om 12 4,
oi 13 .add 12 1,
om 4 13]))))))
def atu:XC:=aA1
@[go_sem] theorem aSs(L:Lib)(cx:Cx)(env:Env)(h:Heap):bV L cx atu (env,h)=bV L cx aA1 (env,h):=rfl
def x63:gH:={ np:=1,isOpen:=false,ns:=0,res:=[.tmp 2],code :=
 (sr [0] [oo 2 (.dx (.c (.bool false)))]
  (.seq (sr [0,7] [om 5 0,
on 6 5,
oi 7 .gtr 6 200]
  (.cond (.t 7)
  (sr [2] [oo 2 (.dx (.c (.bool false)))]
  (.pre [2] .ret))
  .skip))
  (.pre [0] (sr [0,3] [mi 3 0]
  (.seq (sr [0,3,4] [mi 4 0]
  (.blk 0
  (.loop atu)))
  (.pre [] (sr [2] [oo 2 (.dx (.c (.bool true)))]
  (.pre [2] .ret)))))))) }
def x64:gH:={ np:=2,isOpen:=false,ns:=0,res:=[.tmp 4],code :=
 (sr [0,1] [mi 4 0]
  (.seq (sr [0,1,6] [om 5 0,
oi 6 .lss 5 0]
  (.cond (.t 6)
  (.reg false [0,1] [] [om 7 0,
oi 8 .add 7 1,
oo 9 (.un .neg (.t 8)),
om 0 9])
  .skip))
  (.pre [0,1] (sr [4] [om 10 0,
om 11 1,
ob 12 .rem 10 11,
om 4 12]
  (.pre [4] .ret))))) }
def x65:gH:={ np:=1,isOpen:=false,ns:=0,res:=[.tmp 2],code :=
 (sr [0] [mi 2 0]
  (.seq (sr [0,5] [om 3 0,
on 4 3,
oi 5 .eql 4 0]
  (.cond (.t 5)
  (sr [2] [mi 2 0]
  (.pre [2] .ret))
  .skip))
  (.pre [0] (sr [2] [om 6 0,
om 7 0,
on 8 7,
oi 9 .sub 8 1,
os 10 3 6 9,
op 11 10 1,
ol 12 11,
om 2 12]
  (.pre [2] .ret))))) }
def x66:gH:={ np:=3,isOpen:=false,ns:=0,res:=[.tmp 6],code :=
 (sr [3,4,5] [oo 3 (.nK (.t 0)),
oo 4 (.nK (.t 1)),
oo 5 (.nK (.t 2)),
oo 6 (.dx (.c .yX))]
  (sr [6] [oo 7 (.LM 99 [.t 3,.t 4,.t 5]),
om 6 7]
  (.pre [6] .ret))) }
def x67:gH:={ np:=3,isOpen:=false,ns:=0,res:=[.tmp 6],code :=
 (sr [0,1,2] [oo 6 (.dx (.c (.bool false)))]
  (sr [6] [om 7 1,
oi 8 .geq 7 0,
om 9 8,
gm 10 9 true 1,
gm 11 9 true 2,
gb 12 9 true .lss 10 11,
pf 13 9 12,
om 14 13,
gm 15 14 true 2,
gm 16 14 true 0,
gc 17 14 true 65 [.t 16],
gb 18 14 true .leq 15 17,
pf 19 14 18,
om 6 19]
  (.pre [6] .ret))) }
def r6:DU:={ ps:=[6],xQ:=(.reg false [3,4] [] [oo 4 (.alloc 1 [.int .i64 0,.int .i64 0,.int .i64 0]),
⟨none,none,[],.store 3 (.t 4) (.t 6)⟩]),body :=
 (.blk 1
  (.reg false [] [] [ol 7 3,
oa 8 3 4,
oo 9 (.call (.t 7) [.t 8] [])])) }
def x68:gH:={ np:=2,isOpen:=true,ns:=3,res:=[],code :=
 (sr [0,3] [oo 3 (.box 2 (.t 1))]
  (sr [3,5] [om 5 0]
  (.blk 0
  (.Gm 0 (.t 5) 6)))) }
def x69:gH:={ np:=2,isOpen:=true,ns:=0,res:=[],code :=
 (sr [0,3] [oo 3 (.nK (.t 1))]
  (.reg true [] [] [om 4 0,
om 5 0,
oo 6 (.JO (.t 5)),
op 7 6 0,
ol 8 7,
⟨some 9,none,[.box 3],.load (.agg 3) (.t 3)⟩,
oo 10 (.Rb 0 (.c (.fn 100 [])) [.t 8,.t 9,(.c (.fn 101 []))]),
oo 11 (.JO (.t 4)),
op 12 11 0,
st 1 12 10])) }
def x70:gH:={ np:=1,isOpen:=false,ns:=0,res:=[.tmp 2,.tmp 3],code :=
 (sr [0] [oo 2 (.dx (.c .bO)),
mi 3 0]
  (.seq (sr [0,9] [om 4 0,
oo 5 (.JO (.t 4)),
op 6 5 0,
ol 7 6,
on 8 7,
oi 9 .gtr 8 200]
  (.cond (.t 9)
  (sr [2,3] [oo 2 (.dx (.c .bO)),
mi 3 150]
  (.pre [2,3] .ret))
  .skip))
  (.pre [0] (sr [2,3] [om 10 0,
oo 11 (.JO (.t 10)),
op 12 11 0,
ol 13 12,
om 2 13,
mi 3 0]
  (.pre [2,3] .ret))))) }
def x73:gH:={ np:=2,isOpen:=false,ns:=2,res:=[.cell 4 (.agg 2),.tmp 5],code :=
 (sr [0,1,4] [oo 4 (.alloc 1 [.str [],.str []]),
mi 5 0]
  (sr [0,1,4,6] [om 7 0,
oc 8 102 [.t 7],
oo 9 (.un .not (.t 8)),
om 10 9,
gm 11 10 false 1,
gc 12 10 false 102 [.t 11],
og 13 10 false (.un .not (.t 12)),
kT 14 10 13,
oo 15 (.build [.bool false] [(0,1,(.t 14))]),
oo 16 (.box 0 (.t 15)),
om 6 16]
  (sr [4,5] [om 17 6,
om 18 0,
om 19 1,
oc 20 103 [.t 17,.t 18,.t 19],
ox 21 20 0,
ox 22 20 1,
st 2 4 21,
om 5 22]
  (.pre [4,5] .ret)))) }
def x74:gH:={ np:=1,isOpen:=false,ns:=0,res:=[.tmp 2],code :=
 (sr [0] [oo 2 (.dx (.c (.str [])))]
  (sr [2] [om 3 0,
oc 4 104 [.t 3],
om 2 4]
  (.pre [2] .ret))) }
def r7:DU:={ ps:=[14,15],xQ:=(sr [4,5,6,15] [oo 6 (.alloc 2 [.str [],.str [],.str [],.str []]),
st 4 6 14]
  (.reg false [4,5,6,7] [] [oo 7 (.alloc 1 [.str [],.str [],.str [],.str []]),
⟨none,none,[],.store 4 (.t 7) (.t 15)⟩])),body :=
 (.blk 1
  (.reg true [] [] [⟨some 16,none,[.box 5],.load .one (.t 5)⟩,
⟨some 17,none,[.box 6],.load (.agg 4) (.t 6)⟩,
⟨some 18,none,[.box 7],.load (.agg 4) (.t 7)⟩,
oo 19 (.FH [5,6,7] (.c (.fn 96 [])) [.t 4,.t 17,.t 18]),
⟨some 20,none,[.closed 19],.pF 2 (.agg [.str [],.str []]) 1 [(0,(.t 19))]⟩,
⟨some 21,none,[.SV 3],.app 3 2 4398046511104 (.t 16) (.t 20)⟩,
⟨none,none,[.box 5],.store 1 (.t 5) (.t 21)⟩])) }
def x78:gH:={ np:=1,isOpen:=false,ns:=0,res:=[.tmp 2],code :=
 (sr [1] [oo 1 (.nK (.t 0)),
oo 2 (.dx (.c (.bool false)))]
  (.seq (sr [1,20] [op 5 1 0,
ol 6 5,
oc 7 102 [.t 6],
oo 8 (.un .not (.t 7)),
om 9 8,
gp 10 9 false 1 1,
rZ 11 9 false 10,
gc 12 9 false 102 [.t 11],
og 13 9 false (.un .not (.t 12)),
kT 14 9 13,
om 15 14,
gp 16 15 false 1 1,
rZ 17 15 false 16,
og 18 15 false (.call (.c (.fn 82 [])) [.t 17,(.c (.str [48]))] []),
og 19 15 false (.bin .leq (.t 18) (ci 0)),
kT 20 15 19]
  (.cond (.t 20)
  (sr [2] [oo 2 (.dx (.c (.bool false)))]
  (.pre [2] .ret))
  .skip))
  (.pre [1] (sr [3,4] [op 22 1 0,
ol 23 22,
op 24 1 1,
ol 25 24,
oc 26 105 [.t 23,.t 25],
om 21 26,
ox 27 21 0,
ox 28 21 1,
om 3 27,
om 4 28]
  (sr [2] [om 29 4,
oi 30 .eql 29 0,
om 31 30,
gm 32 31 true 3,
og 33 31 true (.bin .eql (.t 32) (.c (.str [49]))),
pf 34 31 33,
om 2 34]
  (.pre [2] .ret)))))) }
def x80:gH:={ np:=2,isOpen:=false,ns:=1,res:=[.cell 4 (.agg 2),.tmp 5],code :=
 (sr [0,1,4] [oo 4 (.alloc 0 [.str [],.str []]),
mi 5 0]
  (sr [4,5] [om 6 0,
oc 7 108 [.t 6],
om 8 1,
oc 9 108 [.t 8],
oc 10 107 [.t 7,.t 9],
ox 11 10 0,
ox 12 10 1,
st 2 4 11,
om 5 12]
  (.pre [4,5] .ret))) }
def x81:gH:={ np:=2,isOpen:=false,ns:=2,res:=[.tmp 4,.tmp 5,.tmp 6],code :=
 (sr [0,1] [oo 4 (.dx (.c (.str []))),
oo 5 (.dx (.c (.str []))),
mi 6 0]
  (sr [7,8,9] [om 17 0,
om 18 1,
oc 19 109 [.t 17,.t 18],
om 16 19,
ox 20 16 0,
ox 21 16 1,
ox 22 16 2,
oo 7 (.alloc 0 [.bool false,.bO]),
oo 8 (.alloc 1 [.bool false,.bO]),
st 2 7 20,
st 2 8 21,
om 9 22]
  (.seq (sr [7,8,30] [om 23 9,
oo 24 (.un .not (.t 23)),
om 25 24,
gp 26 25 false 8 1,
rZ 27 25 false 26,
og 28 25 false (.len false (.t 27)),
og 29 25 false (.bin .eql (.t 28) (ci 0)),
kT 30 25 29]
  (.cond (.t 30)
  (sr [4,5,6] [oo 4 (.dx (.c (.str []))),
oo 5 (.dx (.c (.str []))),
mi 6 30]
  (.pre [4,5,6] .ret))
  .skip))
  (.pre [7,8] (sr [7,8,10,11] [op 32 7 1,
ol 33 32,
op 34 8 1,
ol 35 34,
oc 36 110 [.t 33,.t 35],
om 31 36,
ox 37 31 0,
ox 38 31 1,
om 10 37,
om 11 38]
  (.seq (sr [7,8,10,11,45] [op 39 7 0,
ol 40 39,
om 41 40,
gm 42 41 true 11,
og 43 41 true (.len false (.t 42)),
og 44 41 true (.bin .gtr (.t 43) (ci 0)),
pf 45 41 44]
  (.cond (.t 45)
  (.reg true [7,8,10,11] [] [om 46 10,
oc 47 112 [],
oc 48 111 [.t 46,.t 47],
op 49 8 1,
⟨some 50,none,[.box 49],.load .one (.t 49)⟩,
om 51 11,
oc 52 113 [.t 50,.t 51],
om 10 48,
om 11 52])
  .skip))
  (.pre [7,8,10,11] (sr [11,12,13] [op 54 7 0,
ol 55 54,
op 56 8 0,
ol 57 56,
oo 58 (.eqv true [] (.t 55) (.t 57)),
om 59 10,
oo 60 (.build [.bool false,.bO] [(0,1,(.t 58)),(1,1,(.t 59))]),
oc 61 114 [.t 60],
om 53 61,
ox 62 53 0,
ox 63 53 1,
om 12 62,
om 13 63]
  (.seq (sr [11,12,13,65] [om 64 13,
oi 65 .neq 64 0]
  (.cond (.t 65)
  (sr [4,5,6] [om 66 13,
oo 4 (.dx (.c (.str []))),
oo 5 (.dx (.c (.str []))),
om 6 66]
  (.pre [4,5,6] .ret))
  .skip))
  (.pre [11,12] (sr [12,14] [om 68 11,
oo 69 (.build [.bool false,.bO] [(1,1,(.t 68))]),
oc 70 114 [.t 69],
om 67 70,
ox 71 67 0,
ox 72 67 1,
om 14 71,
om 15 72]
  (sr [4,5,6] [om 73 12,
om 74 14,
om 4 73,
om 5 74,
mi 6 0]
  (.pre [4,5,6] .ret))))))))))))) }
def x82:gH:={ np:=2,isOpen:=false,ns:=2,res:=[.tmp 4],code :=
 (sr [0,1] [mi 4 0]
  (sr [5,6,7] [om 9 0,
om 10 1,
oc 11 109 [.t 9,.t 10],
om 8 11,
ox 12 8 0,
ox 13 8 1,
ox 14 8 2,
oo 5 (.alloc 0 [.bool false,.bO]),
oo 6 (.alloc 1 [.bool false,.bO]),
st 2 5 12,
st 2 6 13,
om 7 14]
  (.seq (.blk 0
  (sr [5,6,15] [om 16 7,
oo 17 (.un .not (.t 16)),
om 15 17]
  (.cond (.t 15)
  (sr [4] [mi 4 0]
  (.pre [4] .ret))
  (sr [5,6,18] [op 19 5 0,
ol 20 19,
om 21 20,
gp 22 21 true 6 0,
rZ 23 21 true 22,
pf 24 21 23,
om 18 24]
  (.cond (.t 18)
  (sr [4] [op 25 6 1,
ol 26 25,
op 27 5 1,
ol 28 27,
oc 29 115 [.t 26,.t 28],
om 4 29]
  (.pre [4] .ret))
  (sr [5,6,30] [op 31 5 0,
ol 32 31,
om 30 32]
  (.cond (.t 30)
  (sr [4] [oo 4 (.dx (ci (-1)))]
  (.pre [4] .ret))
  (sr [5,6,33] [op 34 6 0,
ol 35 34,
om 33 35]
  (.cond (.t 33)
  (sr [4] [mi 4 1]
  (.pre [4] .ret))
  .skip)))))))))
  (.pre [5,6] (sr [4] [op 36 5 1,
ol 37 36,
op 38 6 1,
ol 39 38,
oc 40 115 [.t 37,.t 39],
om 4 40]
  (.pre [4] .ret)))))) }
def r8:DU:={ ps:=[26,27],xQ:=(sr [3,5,6,8,27] [oo 8 (.alloc 2 [.str [],.str [],.str [],.str []]),
st 4 8 26]
  (.reg false [3,5,6,8,9] [] [oo 9 (.alloc 1 [.str [],.str [],.str [],.str []]),
⟨none,none,[],.store 4 (.t 9) (.t 27)⟩])),body :=
 (.blk 1
  (sr [3,5,6,8,9,39] [op 28 8 0,
oa 29 2 28,
oa 30 2 5,
oc 31 42 [.t 29,.t 30],
oi 32 .lss 31 0,
om 33 32,
og 34 33 true (.load (.agg 2) (.t 5)),
gp 35 33 true 9 0,
og 36 33 true (.load (.agg 2) (.t 35)),
gc 37 33 true 42 [.t 34,.t 36],
og 38 33 true (.bin .lss (.t 37) (ci 0)),
pf 39 33 38]
  (.cond (.t 39)
  (sr [3,6,8,9,10] [ol 40 3,
oa 41 2 5,
op 42 8 0,
oa 43 2 42,
oo 44 (.call (.c (.fn 118 [])) [.t 40,(.c (.fn 119 [])),.t 41,.t 43] []),
oo 10 (.alloc 3 [.str [],.str []]),
st 2 10 44]
  (.seq (.reg true [] [] [⟨some 45,none,[.box 3],.load .one (.t 3)⟩,
op 46 8 2,
⟨some 47,none,[.box 46,.of 46 8],.load (.agg 2) (.t 46)⟩,
⟨some 48,none,[.box 3],.load .one (.t 3)⟩,
⟨some 49,none,[.box 3],.load .one (.t 3)⟩,
⟨some 50,none,[.box 8],.load (.agg 4) (.t 8)⟩,
⟨some 51,none,[.box 9],.load (.agg 4) (.t 9)⟩,
oo 52 (.FH [3,8,9,10] (.c (.fn 96 [])) [.t 49,.t 50,.t 51]),
⟨some 53,none,[.box 10],.load (.agg 2) (.t 10)⟩,
oo 54 (.FH [3,8,9,10] (.c (.fn 118 [])) [.t 48,(.c (.fn 121 [])),.t 52,.t 53]),
oo 55 (.FH [3,8,9,10] (.c (.fn 118 [])) [.t 45,(.c (.fn 120 [])),.t 47,.t 54]),
⟨none,none,[.box 6],.store 2 (.t 6) (.t 55)⟩])
  (.pre [] .ret)))
  .skip))) }
def x85:gH:={ np:=2,isOpen:=false,ns:=1,res:=[.tmp 4,.tmp 5],code :=
 (sr [0,1] [oo 4 (.dx (.c .bO)),
mi 5 0]
  (.seq (sr [0,1,19] [om 6 0,
oi 7 .lss 6 0,
om 8 7,
gm 9 8 false 0,
og 10 8 false (.bin .gtr (.t 9) (ci 10000000)),
kT 11 8 10,
om 12 11,
gm 13 12 false 1,
og 14 12 false (.bin .lss (.t 13) (ci 0)),
kT 15 12 14,
om 16 15,
gm 17 16 false 1,
og 18 16 false (.bin .gtr (.t 17) (ci 2999)),
kT 19 16 18]
  (.cond (.t 19)
  (sr [4,5] [oo 4 (.dx (.c .bO)),
mi 5 150]
  (.pre [4,5] .ret))
  .skip))
  (.pre [0,1] (sr [4,5] [om 20 0,
om 21 1,
oo 22 (.build [.int .i64 0,.int .i64 0,.int .i64 0] [(0,1,(ci 0)),(1,1,(.t 20)),(2,1,(.t 21))]),
oo 23 (.call (.c (.fn 127 [])) [(.c .bO),.t 22] [(0,0)]),
om 4 23,
mi 5 0]
  (.pre [4,5] .ret))))) }
def x86:gH:={ np:=2,isOpen:=false,ns:=3,res:=[.tmp 4,.tmp 5],code :=
 (sr [0,3] [oo 3 (.nK (.t 1)),
oo 4 (.dx (.c .bO)),
mi 5 0]
  (.seq (.seq (.reg true [0,3,38] [] [om 7 0,
oc 8 63 [.t 7],
oo 9 (.un .not (.t 8)),
om 10 9,
gp 11 10 false 3 0,
⟨some 12,some (10,false),[.box 11],.load .one (.t 11)⟩,
og 13 10 false (.bin .lss (.t 12) (ci 0)),
kT 14 10 13,
om 15 14,
gp 16 15 false 3 0,
⟨some 17,some (15,false),[.box 16],.load .one (.t 16)⟩,
gp 18 15 false 3 1,
⟨some 19,some (15,false),[.box 18],.load .one (.t 18)⟩,
gb 20 15 false .geq 17 19,
kT 21 15 20,
om 22 21,
gp 23 22 false 3 1,
⟨some 24,some (22,false),[.box 23],.load .one (.t 23)⟩,
gm 25 22 false 0,
gc 26 22 false 98 [.t 25],
gb 27 22 false .gtr 24 26,
kT 28 22 27,
om 29 28,
gp 30 29 false 3 2,
⟨some 31,some (29,false),[.box 30],.load .one (.t 30)⟩,
og 32 29 false (.bin .lss (.t 31) (ci 0)),
kT 33 29 32,
om 34 33,
gp 35 34 false 3 2,
⟨some 36,some (34,false),[.box 35],.load .one (.t 35)⟩,
og 37 34 false (.bin .gtr (.t 36) (ci 2999)),
kT 38 34 37])
  (.cond (.t 38)
  (sr [4,5] [oo 4 (.dx (.c .bO)),
mi 5 150]
  (.pre [4,5] .ret))
  .skip))
  (.pre [0,3] (sr [0,3,6] [om 39 0,
op 40 3 0,
ol 41 40,
oo 42 (.call (.c (.fn 128 [])) [(.c .bO),.t 39,(ci 0),.t 41] [(0,2)]),
om 6 42]
  (sr [0,3,6] [om 43 6,
oa 44 3 3,
oo 45 (.call (.c (.fn 127 [])) [.t 43,.t 44] [(0,1)]),
om 6 45]
  (.seq (.reg true [6] [] [om 46 6,
om 47 0,
op 48 3 1,
⟨some 49,none,[.box 48],.load .one (.t 48)⟩,
om 50 0,
oc 51 98 [.t 50],
oo 52 (.call (.c (.fn 128 [])) [.t 46,.t 47,.t 49,.t 51] [(0,0)]),
om 6 52])
  (.seq (sr [6,55] [om 53 6,
on 54 53,
oi 55 .gtr 54 200]
  (.cond (.t 55)
  (sr [4,5] [oo 4 (.dx (.c .bO)),
mi 5 150]
  (.pre [4,5] .ret))
  .skip))
  (.pre [6] (sr [4,5] [om 56 6,
om 4 56,
mi 5 0]
  (.pre [4,5] .ret)))))))))) }
def x87:gH:={ np:=2,isOpen:=false,ns:=0,res:=[.tmp 4],code :=
 (sr [0,1] [mi 4 0]
  (.seq (sr [0,1,6] [om 5 0,
oi 6 .lss 5 0]
  (.cond (.t 6)
  (.reg false [0,1] [] [om 7 0,
oi 8 .add 7 1,
oo 9 (.un .neg (.t 8)),
om 0 9])
  .skip))
  (.pre [0,1] (sr [4] [om 10 0,
om 11 1,
ob 12 .rem 10 11,
om 4 12]
  (.pre [4] .ret))))) }
def x88:gH:={ np:=2,isOpen:=false,ns:=0,res:=[.tmp 4,.tmp 5],code :=
 (sr [0,1] [oo 4 (.dx (.c (.int .u64 0))),
oo 5 (.dx (.c (.int .u64 0)))]
  (.seq (.cond (.c (.bool false))
  (sr [6,7] [om 11 0,
oo 12 (.conv .u32 (.t 11)),
om 13 1,
oo 14 (.conv .u32 (.t 13)),
oc 15 129 [.t 12,.t 14],
om 10 15,
ox 16 10 0,
ox 17 10 1,
om 6 16,
om 7 17]
  (sr [4,5] [om 18 6,
oo 19 (.conv .u64 (.t 18)),
om 20 7,
oo 21 (.conv .u64 (.t 20)),
om 4 19,
om 5 21]
  (.pre [4,5] .ret)))
  .skip)
  (.pre [0,1] (sr [8,9] [om 23 0,
om 24 1,
oc 25 130 [.t 23,.t 24],
om 22 25,
ox 26 22 0,
ox 27 22 1,
om 8 26,
om 9 27]
  (sr [4,5] [om 28 8,
om 29 9,
om 4 28,
om 5 29]
  (.pre [4,5] .ret)))))) }
@[go_sem] def aA2:XC:=(.pre [0,1,3,4,5]
 (.seq (sr [0,1,3,4,5,15] [ol 12 5,
op 13 1 0,
ol 14 13,
ob 15 .lss 12 14]
  (.cond (.t 15)
  .skip
  (.pre [] (.exit 0))))
  (.pre [0,1,3,4,5] (.seq (.blk 1
  (.seq (.reg true [0,1,3,4,5,6] [1] [⟨some 16,none,[.box 5],.load .one (.t 5)⟩,
⟨some 17,none,[.box 5],.load .one (.t 5)⟩,
oi 18 .add 17 1,
oo 19 (.build [.int .i64 0,.int .i64 0] [(0,1,(.t 16)),(1,1,(.t 18))]),
om 20 4,
om 21 4,
oi 22 .add 21 1,
om 23 3,
op 24 1 4,
⟨some 25,none,[.closed 24],.load .one (.t 24)⟩,
⟨some 26,none,[.box 5],.load .one (.t 5)⟩,
oc 27 90 [.t 25,.t 26],
oo 28 (.build [.int .i64 0,.int .i64 0,.int .i64 0,.int .i64 0,.int .i64 0,.bool false,.bool false] [(0,2,(.t 19)),(2,1,(.t 20)),(3,1,(.t 22)),(4,1,(.t 23)),(5,1,(.t 27))]),
⟨some 6,none,[.dead 1],.alloc 1 [.int .i64 0,.int .i64 0,.int .i64 0,.int .i64 0,.int .i64 0,.bool false,.bool false]⟩,
⟨none,none,[.box 6],.store 7 (.t 6) (.t 28)⟩])
  (sr [0,1,3,4,5,6,7] [oo 29 (.LM 91 [.t 5,.t 1]),
om 7 29]
  (.seq (.blk 2
  (sr [0,1,3,4,5,6,7,30] [op 31 6 5,
ol 32 31,
om 33 32,
gm 34 33 true 3,
og 35 33 true (.bin .gtr (.t 34) (ci 0)),
pf 36 33 35,
om 30 36]
  (.cond (.t 30)
  (sr [0,1,3,5,6] [om 37 4,
op 38 6 3,
st 1 38 37]
  (.reg false [0,1,3,5,6] [] [om 39 3,
oi 40 .sub 39 1,
om 3 40]))
  (sr [0,1,3,4,5,6,41] [op 42 6 5,
ol 43 42,
oo 44 (.un .not (.t 43)),
om 45 44,
gm 46 45 true 3,
gp 47 45 true 1 1,
rZ 48 45 true 47,
gb 49 45 true .lss 46 48,
pf 50 45 49,
om 51 50,
rZ 52 51 true 5,
gp 53 51 true 1 2,
rZ 54 51 true 53,
gb 55 51 true .add 52 54,
gp 56 51 true 1 0,
rZ 57 51 true 56,
gb 58 51 true .leq 55 57,
pf 59 51 58,
om 60 59,
gp 61 60 true 1 4,
rZ 62 60 true 61,
gm 63 60 true 7,
gc 64 60 true 52 [.t 62,.t 63],
og 65 60 true (.un .not (.t 64)),
pf 66 60 65,
om 67 66,
gp 68 67 true 1 3,
rZ 69 67 true 68,
gm 70 67 true 7,
gc 71 67 true 52 [.t 69,.t 70],
og 72 67 true (.un .not (.t 71)),
pf 73 67 72,
om 41 73]
  (.cond (.t 41)
  (sr [0,1,3,4,5,6] [op 74 6 6,
⟨none,none,[],.store 1 (.t 74) (.c (.bool true))⟩]
  (.seq (.reg true [0,1,3,5,6] [] [⟨some 75,none,[.box 5],.load .one (.t 5)⟩,
op 76 1 2,
⟨some 77,none,[.closed 76],.load .one (.t 76)⟩,
ob 78 .add 75 77,
om 79 4,
op 80 1 2,
⟨some 81,none,[.closed 80],.load .one (.t 80)⟩,
ob 82 .add 79 81,
oi 83 .add 82 1,
op 84 6 0,
op 85 84 1,
⟨none,none,[.box 85],.store 1 (.t 85) (.t 78)⟩,
op 86 6 3,
⟨none,none,[.box 86],.store 1 (.t 86) (.t 83)⟩])
  (.reg false [0,1,3,5,6] [] [om 87 3,
oi 88 .add 87 1,
om 3 88])))
  .skip)))))
  (.pre [0,1,3,5,6] (.seq (sr [0,1,3,5,6,92] [om 89 0,
oa 90 7 6,
oo 91 (.call (.t 89) [.t 90] []),
oo 92 (.un .not (.t 91))]
  (.cond (.t 92)
  (.pre [] .ret)
  .skip))
  (.pre [0,1,3,5,6] (.reg true [0,1,3,4,5] [] [op 93 6 0,
op 94 93 1,
⟨some 95,none,[.box 94,.ne 94 5],.load .one (.t 94)⟩,
op 96 6 3,
⟨some 97,none,[.box 96,.ne 96 5],.load .one (.t 96)⟩,
⟨none,none,[.box 5],.store 1 (.t 5) (.t 95)⟩,
om 4 97]))))))))
  (.pre [0,1,3,4,5] (sr [0,1,3,4,98] [ol 98 5]
  (.reg false [0,1,3,4,5] [] [oo 5 (.alloc 0 [.int .i64 0]),
st 1 5 98])))))))
def Nu:XC:=aA2
@[go_sem] theorem aSt(L:Lib)(cx:Cx)(env:Env)(h:Heap):bV L cx Nu (env,h)=bV L cx aA2 (env,h):=rfl
def x89:gH:={ np:=2,isOpen:=true,ns:=3,res:=[],code :=
 (.seq (.reg true [0,1,3,4] [] [op 8 1 1,
⟨some 9,none,[.closed 8],.load .one (.t 8)⟩,
op 10 1 1,
⟨some 11,none,[.closed 10],.load .one (.t 10)⟩,
om 3 9,
om 4 11])
  (sr [0,1,3,4,5] [oo 5 (.alloc 2 [.int .i64 0]),
⟨none,none,[],.store 1 (.t 5) (ci 0)⟩]
  (.blk 0
  (.loop Nu)))) }
def x90:gH:={ np:=2,isOpen:=false,ns:=0,res:=[.tmp 4],code :=
 (sr [0,3] [oo 3 (.nK (.t 1)),
oo 4 (.dx (.c (.bool false)))]
  (sr [4] [om 5 0,
oo 6 (.LM 131 [.t 3]),
oc 7 52 [.t 5,.t 6],
om 4 7]
  (.pre [4] .ret))) }
def x91:gH:={ np:=3,isOpen:=false,ns:=0,res:=[.tmp 4],code :=
 (sr [1,2,3] [oo 3 (.nK (.t 0)),
oo 4 (.dx (.c (.bool false)))]
  (sr [4] [op 5 3 0,
ol 6 5,
ol 7 1,
op 8 2 2,
ol 9 8,
ob 10 .add 7 9,
ob 11 .lss 6 10,
om 12 11,
rZ 13 12 true 1,
gp 14 12 true 3 1,
rZ 15 12 true 14,
gb 16 12 true .lss 13 15,
pf 17 12 16,
om 4 17]
  (.pre [4] .ret))) }
@[go_sem] def aA3:XC:=(.pre [0,1,7,8]
 (sr [0,1,7,8,9] [ob 9 .lss 8 7]
  (.seq (.cond (.t 9)
  .skip
  (.pre [] (.exit 0)))
  (.pre [0,1,7,8] (.seq (.blk 1
  (sr [0,1,5,7,8] [om 10 8,
om 5 10]
  (sr [0,1,5,7,8,16] [om 11 1,
om 12 0,
om 13 5,
os 14 2 12 13,
oa 15 2 14,
oo 16 (.call (.t 11) [.t 15] [])]
  (.cond (.t 16)
  (sr [4] [om 17 5,
om 4 17]
  (.pre [4] .ret))
  .skip))))
  (.pre [0,1,7,8] (.reg false [0,1,7,8] [] [oi 18 .add 8 1,
om 8 18])))))))
def aty:XC:=aA3
@[go_sem] theorem aSu(L:Lib)(cx:Cx)(env:Env)(h:Heap):bV L cx aty (env,h)=bV L cx aA3 (env,h):=rfl
def x92:gH:={ np:=2,isOpen:=false,ns:=0,res:=[.tmp 4],code :=
 (sr [0,1] [mi 4 0]
  (.seq (sr [0,1,7,8] [om 6 0,
on 7 6,
mi 8 0]
  (.blk 0
  (.loop aty)))
  (.pre [] (sr [4] [oo 4 (.dx (ci (-1)))]
  (.pre [4] .ret))))) }
def x93:gH:={ np:=1,isOpen:=false,ns:=0,res:=[.tmp 2],code :=
 (sr [1] [oo 1 (.nK (.t 0)),
oo 2 (.dx (.c (.bool false)))]
  (sr [2] [op 3 1 0,
oa 4 2 3,
oc 5 78 [.t 4],
oo 6 (.un .not (.t 5)),
om 7 6,
gp 8 7 false 1 2,
og 9 7 false (.load (.agg 2) (.t 8)),
gc 10 7 false 78 [.t 9],
og 11 7 false (.un .not (.t 10)),
kT 12 7 11,
om 2 12]
  (.pre [2] .ret))) }
def x94:gH:={ np:=2,isOpen:=false,ns:=0,res:=[.tmp 4],code :=
 (sr [0,1] [oo 4 (.dx (.c (.bool false)))]
  (sr [4] [om 5 0,
om 6 1,
oc 7 116 [.t 5,.t 6],
oi 8 .geq 7 0,
om 4 8]
  (.pre [4] .ret))) }
def x95:gH:={ np:=1,isOpen:=false,ns:=0,res:=[.tmp 2],code :=
 (sr [1] [oo 1 (.nK (.t 0)),
oo 2 (.dx (.c .yX))]
  (sr [2] [oo 3 (.LM 132 [.t 1]),
om 2 3]
  (.pre [2] .ret))) }
def x96:gH:={ np:=3,isOpen:=true,ns:=3,res:=[.cell 6 (.agg 2)],code :=
 (sr [0,4,5,6] [oo 4 (.nK (.t 1)),
oo 5 (.nK (.t 2)),
oo 6 (.alloc 2 [.str [],.str []])]
  (.seq (.reg true [0,6,7,8] [0,1] [om 9 0,
op 10 5 2,
⟨some 11,none,[.closed 10],.load (.agg 2) (.t 10)⟩,
op 12 4 2,
⟨some 13,none,[.closed 12],.load (.agg 2) (.t 12)⟩,
oo 14 (.call (.c (.fn 118 [])) [.t 9,(.c (.fn 119 [])),.t 11,.t 13] []),
om 15 0,
op 16 5 0,
⟨some 17,none,[.closed 16],.load (.agg 2) (.t 16)⟩,
op 18 4 0,
⟨some 19,none,[.closed 18],.load (.agg 2) (.t 18)⟩,
oo 20 (.call (.c (.fn 118 [])) [.t 15,(.c (.fn 119 [])),.t 17,.t 19] []),
⟨some 7,none,[.dead 0],.alloc 0 [.str [],.str []]⟩,
⟨some 8,none,[.dead 1],.alloc 1 [.str [],.str []]⟩,
⟨none,none,[.box 7],.store 2 (.t 7) (.t 14)⟩,
⟨none,none,[.box 8],.store 2 (.t 8) (.t 20)⟩])
  (sr [6] [om 21 0,
oa 22 2 7,
oa 23 2 8,
oo 24 (.call (.c (.fn 118 [])) [.t 21,(.c (.fn 133 [])),.t 22,.t 23] []),
st 2 6 24]
  (.pre [6] .ret)))) }
def x97:gH:={ np:=1,isOpen:=false,ns:=0,res:=[.tmp 2],code :=
 (sr [0] [oo 2 (.dx (.c (.bool false)))]
  (sr [2] [om 3 0,
oi 4 .geq 3 0,
om 5 4,
gm 6 5 true 0,
og 7 5 true (.bin .leq (.t 6) (ci 2999)),
pf 8 5 7,
om 2 8]
  (.pre [2] .ret))) }
def x98:gH:={ np:=1,isOpen:=false,ns:=0,res:=[.tmp 2],code :=
 (sr [0] [mi 2 0]
  (.seq (sr [0,5] [om 3 0,
on 4 3,
oi 5 .eql 4 0]
  (.cond (.t 5)
  (sr [2] [mi 2 0]
  (.pre [2] .ret))
  .skip))
  (.pre [0] (sr [2] [om 6 0,
om 7 0,
on 8 7,
oi 9 .sub 8 1,
os 10 3 6 9,
op 11 10 1,
ol 12 11,
om 2 12]
  (.pre [2] .ret))))) }
@[go_sem] def aA4:XC:=(.pre [0,2,3,7,8,9]
 (sr [0,2,3,7,8,9,10] [ob 10 .lss 9 8]
  (.seq (.cond (.t 10)
  .skip
  (.pre [] (.exit 0)))
  (.pre [0,2,3,7,8,9] (.seq (.blk 1
  (sr [0,2,3,6,7,8,9] [os 11 3 7 9,
oa 12 3 11,
oo 6 (.alloc 0 [.int .i64 0,.int .i64 0,.int .i64 0]),
st 3 6 12]
  (.seq (.reg true [0,2,3,6,7,8,9] [] [op 13 6 0,
⟨some 14,none,[.box 13],.load .one (.t 13)⟩,
⟨some 15,none,[.closed 2],.load .one (.t 2)⟩,
oo 16 (.NM true [.t 14,.t 15]),
op 17 6 1,
⟨some 18,none,[.box 17],.load .one (.t 17)⟩,
⟨some 19,none,[.closed 3],.load .one (.t 3)⟩,
oo 20 (.NM false [.t 18,.t 19]),
op 21 6 0,
⟨none,none,[.box 21],.store 1 (.t 21) (.t 16)⟩,
op 22 6 1,
⟨none,none,[.box 22],.store 1 (.t 22) (.t 20)⟩])
  (sr [0,2,3,7,8,9,33] [op 23 6 0,
ol 24 23,
op 25 6 1,
ol 26 25,
ob 27 .lss 24 26,
om 28 27,
gm 29 28 true 0,
og 30 28 true (.load (.agg 3) (.t 6)),
og 31 28 true (.call (.t 29) [.t 30] []),
og 32 28 true (.un .not (.t 31)),
pf 33 28 32]
  (.cond (.t 33)
  (.pre [] .ret)
  .skip)))))
  (.pre [0,2,3,7,8,9] (.reg false [0,2,3,7,8,9] [] [oi 34 .add 9 1,
om 9 34])))))))
def aoL:XC:=aA4
@[go_sem] theorem aSv(L:Lib)(cx:Cx)(env:Env)(h:Heap):bV L cx aoL (env,h)=bV L cx aA4 (env,h):=rfl
def x99:gH:={ np:=4,isOpen:=true,ns:=1,res:=[],code :=
 (sr [0,2,3,7,8,9] [ol 7 1,
on 8 7,
mi 9 0]
  (.blk 0
  (.loop aoL))) }
def x100:gH:={ np:=3,isOpen:=true,ns:=1,res:=[.tmp 6],code :=
 (sr [0,2,4] [oo 4 (.nK (.t 1)),
oo 6 (.dx (.c .bO))]
  (.seq (sr [0,2,4,7] [om 8 0,
on 9 8,
om 7 9]
  (.seq (.reg true [0,4,20] [] [om 10 7,
oi 11 .gtr 10 0,
om 12 11,
gm 13 12 true 2,
gm 14 12 true 0,
gm 15 12 true 7,
og 16 12 true (.bin .sub (.t 15) (ci 1)),
JP 17 12 true 3 14 16,
⟨some 18,some (12,true),[.closed 4],.load (.agg 3) (.t 4)⟩,
og 19 12 true (.call (.t 13) [.t 17,.t 18] []),
pf 20 12 19])
  (.cond (.t 20)
  (sr [6] [om 21 0,
om 6 21]
  (.pre [6] .ret))
  .skip)))
  (.pre [0,4] (sr [6] [om 22 0,
oa 23 3 4,
oo 24 (.pF 3 (.agg [.int .i64 0,.int .i64 0,.int .i64 0]) 1 [(0,(.t 23))]),
oo 25 (.app 0 3 5864062014805 (.t 22) (.t 24)),
om 6 25]
  (.pre [6] .ret))))) }
def x101:gH:={ np:=2,isOpen:=true,ns:=0,res:=[.tmp 4],code :=
 (sr [0,3] [oo 3 (.nK (.t 1)),
oo 4 (.dx (.c (.bool false)))]
  (.seq (.reg true [0,3,5] [] [om 6 0,
oo 7 (.JO (.t 6)),
op 8 7 2,
ol 9 8,
op 10 3 2,
⟨some 11,none,[.box 10],.load .one (.t 10)⟩,
ob 12 .eql 9 11,
om 5 12])
  (.seq (sr [0,3,5,13] [om 13 5]
  (.cond (.t 13)
  (.reg false [5] [] [om 14 0,
op 15 3 1,
ol 16 15,
oo 17 (.JO (.t 14)),
op 18 17 1,
st 1 18 16])
  .skip))
  (.pre [5] (sr [4] [om 19 5,
om 4 19]
  (.pre [4] .ret)))))) }
def x102:gH:={ np:=1,isOpen:=false,ns:=0,res:=[.tmp 2],code :=
 (sr [0] [oo 2 (.dx (.c (.bool false)))]
  (sr [2] [om 3 0,
oc 4 134 [.t 3],
om 2 4]
  (.pre [2] .ret))) }
def x103:gH:={ np:=3,isOpen:=true,ns:=2,res:=[.cell 6 (.agg 2),.tmp 7],code :=
 (sr [0,1,2,6] [oo 6 (.alloc 1 [.str [],.str []]),
mi 7 0]
  (.seq (sr [0,1,2,6,17] [om 10 0,
oo 11 (.JO (.t 10)),
op 12 11 0,
ol 13 12,
om 14 13,
gm 15 14 false 2,
og 16 14 false (.bin .eql (.t 15) (.c (.str [48]))),
kT 17 14 16]
  (.cond (.t 17)
  (sr [6,7] [oo 18 (.build [.str [],.str []] []),
st 2 6 18,
mi 7 40]
  (.pre [6,7] .ret))
  .skip))
  (.pre [0,1,2,6] (.seq (sr [0,1,2,6,21] [om 19 2,
oo 20 (.call (.c (.fn 82 [])) [.t 19,(.c (.str [48]))] []),
oi 21 .lss 20 0]
  (.cond (.t 21)
  (.reg false [0,1,2,6] [] [om 22 0,
om 23 1,
oo 24 (.call (.c (.fn 125 [])) [.t 22,(.c (.fn 135 [])),(.c (.str [48])),.t 23] []),
om 25 0,
om 26 2,
oo 27 (.call (.c (.fn 125 [])) [.t 25,(.c (.fn 135 [])),(.c (.str [48])),.t 26] []),
om 1 24,
om 2 27])
  .skip))
  (.pre [0,1,2,6] (sr [0,1,2,6,8] [om 28 0,
om 29 1,
om 30 2,
oo 31 (.call (.c (.fn 125 [])) [.t 28,(.c (.fn 105 [])),.t 29,.t 30] []),
om 8 31]
  (sr [0,6,9] [om 32 0,
om 33 1,
om 34 8,
oc 35 136 [.t 32,.t 33,.t 34],
om 36 0,
om 37 2,
om 38 8,
oc 39 136 [.t 36,.t 37,.t 38],
oo 40 (.build [.str [],.str []] [(0,1,(.t 35)),(1,1,(.t 39))]),
oo 9 (.alloc 0 [.str [],.str []]),
st 2 9 40]
  (.seq (sr [6,9,44] [om 41 0,
oo 42 (.JO (.t 41)),
op 43 42 0,
ol 44 43]
  (.cond (.t 44)
  (sr [6,7] [oo 45 (.build [.str [],.str []] []),
st 2 6 45,
mi 7 40]
  (.pre [6,7] .ret))
  .skip))
  (.pre [6,9] (sr [6,7] [oa 46 2 9,
st 2 6 46,
mi 7 0]
  (.pre [6,7] .ret))))))))))) }
@[go_sem] def aA5:XC:=(.pre [9,10]
 (.seq (sr [9,10,28] [om 26 10,
on 27 26,
oi 28 .gtr 27 0]
  (.cond (.t 28)
  .skip
  (.pre [9] (.exit 0))))
  (.pre [9,10] (.blk 1
  (sr [10,12] [om 30 9,
om 31 10,
oc 32 110 [.t 30,.t 31],
om 29 32,
ox 33 29 0,
ox 34 29 1,
om 11 33,
om 12 34]
  (.reg false [9,10] [] [om 35 10,
om 36 12,
om 9 35,
om 10 36]))))))
def atB:XC:=aA5
@[go_sem] theorem aSw(L:Lib)(cx:Cx)(env:Env)(h:Heap):bV L cx atB (env,h)=bV L cx aA5 (env,h):=rfl
def x105:gH:={ np:=2,isOpen:=false,ns:=2,res:=[.tmp 4,.tmp 5],code :=
 (sr [0,1] [oo 4 (.dx (.c (.str []))),
mi 5 0]
  (sr [6,7,8] [om 14 0,
om 15 1,
oc 16 109 [.t 14,.t 15],
om 13 16,
ox 17 13 0,
ox 18 13 1,
ox 19 13 2,
oo 6 (.alloc 0 [.bool false,.bO]),
oo 7 (.alloc 1 [.bool false,.bO]),
st 2 6 17,
st 2 7 18,
om 8 19]
  (.seq (sr [6,7,21] [om 20 8,
oo 21 (.un .not (.t 20))]
  (.cond (.t 21)
  (sr [4,5] [oo 4 (.dx (.c (.str []))),
mi 5 30]
  (.pre [4,5] .ret))
  .skip))
  (.pre [6,7] (.seq (.reg true [9,10] [] [op 22 6 1,
⟨some 23,none,[.box 22],.load .one (.t 22)⟩,
op 24 7 1,
⟨some 25,none,[.box 24],.load .one (.t 24)⟩,
om 9 23,
om 10 25])
  (.seq (.blk 0
  (.loop atB))
  (.pre [9] (sr [4,5] [om 37 9,
oo 38 (.build [.bool false,.bO] [(1,1,(.t 37))]),
oc 39 114 [.t 38],
ox 40 39 0,
ox 41 39 1,
om 4 40,
om 5 41]
  (.pre [4,5] .ret))))))))) }
def x107:gH:={ np:=2,isOpen:=false,ns:=1,res:=[.cell 4 (.agg 2),.tmp 5],code :=
 (sr [0,1,4] [oo 4 (.alloc 0 [.str [],.str []]),
mi 5 0]
  (sr [0,1,4,6] [om 16 0,
oc 17 138 [.t 16],
om 6 17]
  (sr [0,1,4,6,7] [om 18 1,
oc 19 138 [.t 18],
om 7 19]
  (.seq (sr [0,1,4,29] [om 20 6,
oo 21 (.un .not (.t 20)),
om 22 21,
gm 23 22 false 7,
og 24 22 false (.un .not (.t 23)),
kT 25 22 24,
om 26 25,
gm 27 26 false 1,
og 28 26 false (.bin .eql (.t 27) (.c (.str [48]))),
kT 29 26 28]
  (.cond (.t 29)
  (sr [4,5] [oo 30 (.build [.str [],.str []] []),
st 2 4 30,
mi 5 40]
  (.pre [4,5] .ret))
  .skip))
  (.pre [0,1,4] (.seq (sr [0,1,4,33] [om 31 1,
oo 32 (.call (.c (.fn 139 [])) [.t 31,(.c (.str [48]))] []),
oi 33 .lss 32 0]
  (.cond (.t 33)
  (sr [0,1,4] [om 35 0,
oo 36 (.call (.c (.fn 140 [])) [(.c (.str [48])),.t 35] []),
om 34 36,
ox 37 34 0,
ox 38 34 1,
om 0 37]
  (.reg false [0,1,4] [] [om 40 1,
oo 41 (.call (.c (.fn 140 [])) [(.c (.str [48])),.t 40] []),
om 39 41,
ox 42 39 0,
ox 43 39 1,
om 1 42]))
  .skip))
  (.pre [0,1,4] (sr [0,1,4,8] [om 45 0,
om 46 1,
oc 47 141 [.t 45,.t 46],
om 44 47,
ox 48 44 0,
ox 49 44 1,
om 8 48,
om 9 49]
  (sr [1,4,8,10,12] [om 51 0,
om 52 8,
oc 53 142 [.t 51,.t 52],
om 50 53,
ox 54 50 0,
ox 55 50 1,
ox 56 50 2,
om 10 54,
om 11 55,
om 12 56]
  (sr [4,10,12,13,15] [om 58 1,
om 59 8,
oc 60 142 [.t 58,.t 59],
om 57 60,
ox 61 57 0,
ox 62 57 1,
ox 63 57 2,
om 13 61,
om 14 62,
om 15 63]
  (.seq (sr [4,10,13,69] [om 64 12,
oi 65 .neq 64 0,
om 66 65,
gm 67 66 false 15,
og 68 66 false (.bin .neq (.t 67) (ci 0)),
kT 69 66 68]
  (.cond (.t 69)
  (sr [4,5] [oo 70 (.build [.str [],.str []] []),
st 2 4 70,
mi 5 40]
  (.pre [4,5] .ret))
  .skip))
  (.pre [4,10,13] (sr [4,5] [om 71 10,
om 72 13,
oo 73 (.build [.str [],.str []] [(0,1,(.t 71)),(1,1,(.t 72))]),
st 2 4 73,
mi 5 0]
  (.pre [4,5] .ret)))))))))))))) }
@[go_sem] def aIU:XC:=(.pre [0,3,4]
 (.seq (sr [0,3,4,10] [om 9 4,
oi 10 .neq 9 0]
  (.cond (.t 10)
  .skip
  (.pre [0,3] (.exit 0))))
  (.pre [0,3,4] (.seq (.blk 1
  (sr [0,3,4,5] [om 13 4,
oi 14 .rem 13 10,
om 5 14]
  (.seq (sr [0,3,4,5,16] [om 15 5,
oi 16 .lss 15 0]
  (.cond (.t 16)
  (.reg false [0,3,4,5] [] [om 17 5,
oo 18 (.un .neg (.t 17)),
om 5 18])
  .skip))
  (.pre [0,3,4,5] (.reg false [0,3,4] [] [om 19 3,
om 20 5,
oo 21 (.pF 1 (.int .i64 0) 1 [(0,(.t 20))]),
oo 22 (.app 0 1 17592186044416 (.t 19) (.t 21)),
om 3 22])))))
  (.pre [0,3,4] (.reg false [0,3,4] [] [om 11 4,
oi 12 .quo 11 10,
om 4 12]))))))
def aIV:XC:=aIU
def aIW:gH:={ np:=1,isOpen:=false,ns:=1,res:=[.tmp 2],code :=
 (sr [0] [oo 2 (.dx (.c (.str [])))]
  (sr [0,3] [oo 3 (.dx (.c .bO))]
  (.seq (sr [0,3,4] [om 8 0,
om 4 8]
  (.blk 0
  (.loop aIV)))
  (.pre [0,3] (sr [6] [om 24 0,
oi 25 .lss 24 0,
om 26 3,
oc 27 143 [.t 25,.t 26],
om 23 27,
ox 28 23 0,
ox 29 23 1,
om 6 28,
om 7 29]
  (sr [2] [om 30 6,
om 2 30]
  (.pre [2] .ret))))))) }
def atC:gH:={ np:=2,isOpen:=false,ns:=2,res:=[.cell 4 (.agg 2),.cell 5 (.agg 2),.tmp 6],code :=
 (sr [0,1,4,5] [oo 4 (.alloc 0 [.bool false,.bO]),
oo 5 (.alloc 1 [.bool false,.bO]),
oo 6 (.dx (.c (.bool false)))]
  (.seq (sr [0,1,4,5,14] [om 7 0,
oc 8 134 [.t 7],
oo 9 (.un .not (.t 8)),
om 10 9,
gm 11 10 false 1,
gc 12 10 false 134 [.t 11],
og 13 10 false (.un .not (.t 12)),
kT 14 10 13]
  (.cond (.t 14)
  (sr [4,5,6] [oo 15 (.build [.bool false,.bO] []),
oo 16 (.build [.bool false,.bO] []),
st 2 4 15,
st 2 5 16,
oo 6 (.dx (.c (.bool false)))]
  (.pre [4,5,6] .ret))
  .skip))
  (.pre [0,1,4,5] (sr [4,5,6] [om 17 0,
oc 18 144 [.t 17],
om 19 1,
oc 20 144 [.t 19],
st 2 4 18,
st 2 5 20,
oo 6 (.dx (.c (.bool true)))]
  (.pre [4,5,6] .ret))))) }
def r9:DU:={ ps:=[15,16],xQ:=(sr [3,4,5,6,16] [om 6 15]
  (.reg false [3,4,5,6,7] [] [om 7 16])),body :=
 (.blk 1
  (sr [3,4,5,6] [om 17 7,
oo 18 (.pF 1 (.int .i64 0) 1 [(0,(.t 17))]),
ol 19 5,
oo 20 (.app 1002 1 17592186044416 (.t 18) (.t 19)),
oc 21 146 [.t 20],
st 1 5 21]
  (sr [4,5,6,8] [ol 22 3,
oo 23 (.LM 1147 [.t 22]),
oo 8 (.alloc 1 [.yX]),
st 1 8 23]
  (sr [4,5,6,8,9] [oo 24 (.LM 148 [.t 8,.t 5]),
om 9 24]
  (.seq (.reg true [4,5,6,8] [] [⟨some 25,none,[.box 4],.load .one (.t 4)⟩,
om 26 6,
om 27 9,
oc 28 149 [(ci 9999),.t 27],
os 29 1 25 26,
⟨none,none,[.elem 29,.closed 28],.store 1 (.t 29) (.t 28)⟩])
  (.reg true [] [] [⟨some 30,none,[.box 5],.load .one (.t 5)⟩,
⟨some 31,none,[.box 8,.ne 8 5],.load .one (.t 8)⟩,
⟨some 32,none,[.box 4,.ne 4 5],.load .one (.t 4)⟩,
om 33 6,
os 34 1 32 33,
⟨some 35,none,[.elem 34],.load .one (.t 34)⟩,
⟨some 36,none,[.fn 31 [41,59,74,97,108,148,151,153,176,178,1147]],.call (.t 31) [.t 35] []⟩,
oc 37 113 [.t 30,.t 36],
⟨none,none,[.box 5],.store 1 (.t 5) (.t 37)⟩])))))) }
def atE:gH:={ np:=2,isOpen:=false,ns:=6,res:=[.cell 4 .one,.cell 5 .one],code :=
 (sr [0,3,4,5] [oo 3 (.nK (.t 1)),
oo 4 (.alloc 4 [.bO]),
oo 5 (.alloc 5 [.bO])]
  (sr [0,3,4,5] [om 10 0,
on 11 10,
oo 12 (.mk 3 1 (.int .i64 0) 17592186044416 (.t 11) (.t 11)),
st 1 4 12]
  (.seq (sr [3,4,5,14] [om 13 0,
oc 14 145 [.t 13]]
  (.blk 0
  (.Gm 0 (.t 14) 9)))
  (.pre [4,5] (.seq (.reg true [4,5] [] [⟨some 38,none,[.box 4,.ne 4 5],.load .one (.t 4)⟩,
oc 39 146 [.t 38],
⟨some 40,none,[.box 5,.ne 5 4],.load .one (.t 5)⟩,
⟨none,none,[.box 4],.store 1 (.t 4) (.t 39)⟩,
⟨none,none,[.box 5],.store 1 (.t 5) (.t 40)⟩])
  (.pre [4,5] .ret)))))) }
def atF:gH:={ np:=2,isOpen:=false,ns:=1,res:=[.tmp 4],code :=
 (sr [2,3] [oo 2 (.nK (.t 0)),
oo 3 (.nK (.t 1)),
oo 4 (.dx (.c .bO))]
  (sr [4] [ol 5 2,
on 6 5,
ol 7 3,
on 8 7,
oo 9 (.NM true [.t 6,.t 8]),
oo 10 (.LM 151 [.t 2,.t 3]),
oc 11 150 [.t 9,(ci 0),.t 10],
oo 12 (.call (.c (.fn 146 [])) [.t 11] [(0,0)]),
om 4 12]
  (.pre [4] .ret))) }
def x112:gH:={ np:=0,isOpen:=false,ns:=0,res:=[.tmp 0],code :=
 (sr [] [oo 0 (.dx (.c .bO))]
  (sr [0] [oo 1 (.pF 1 (.int .i64 0) 1 [(0,(ci 1))]),
om 0 1]
  (.pre [0] .ret))) }
def x113:gH:={ np:=2,isOpen:=false,ns:=1,res:=[.tmp 4],code :=
 (sr [2,3] [oo 2 (.nK (.t 0)),
oo 3 (.nK (.t 1)),
oo 4 (.dx (.c .bO))]
  (sr [4] [ol 5 2,
on 6 5,
oo 7 (.LM 153 [.t 2,.t 3]),
oc 8 150 [.t 6,(ci 0),.t 7],
oo 9 (.call (.c (.fn 146 [])) [.t 8] [(0,0)]),
om 4 9]
  (.pre [4] .ret))) }
def r10:DU:={ ps:=[16,17],xQ:=(sr [1,4,5,17] [om 5 16]
  (.reg false [1,4,5,6] [] [om 6 17])),body :=
 (.blk 1
  (sr [1,4,5,7] [om 18 6,
oc 19 104 [.t 18],
om 7 19]
  (.seq (sr [4,7,25] [om 20 5,
op 21 1 1,
ol 22 21,
on 23 22,
oi 24 .sub 23 1,
ob 25 .lss 20 24]
  (.cond (.t 25)
  (.reg false [4,7] [] [om 26 7,
oo 27 (.len true (.t 26)),
oo 28 (.bin .sub (ci 4) (.t 27)),
oo 29 (.call (.c (.fn 123 [])) [(.c (.str [48])),.t 28] []),
om 30 7,
ob 31 .add 29 30,
om 7 31])
  .skip))
  (.pre [4,7] (.reg false [] [] [om 32 7,
oo 33 (.YV 1 154 (.t 4) (.t 32))]))))) }
def x114:gH:={ np:=1,isOpen:=false,ns:=3,res:=[.tmp 2,.tmp 3],code :=
 (sr [1,2,3] [oo 1 (.nK (.t 0)),
oo 2 (.dx (.c (.str []))),
mi 3 0]
  (.seq (sr [1,2,3,12] [op 9 1 1,
ol 10 9,
on 11 10,
oi 12 .eql 11 0]
  (.cond (.t 12)
  (sr [2,3] [oo 2 (.dx (.c (.str [48]))),
mi 3 0]
  (.pre [2,3] .ret))
  .skip))
  (.pre [1,2,3] (sr [1,2,3,4] [oo 4 (.Zo 2)]
  (.seq (sr [1,2,3,4,15] [op 13 1 1,
ol 14 13,
oc 15 145 [.t 14]]
  (.blk 0
  (.Gm 0 (.t 15) 10)))
  (.pre [1,4] (sr [1,8] [oo 34 (.YW 155 (.t 4)),
om 8 34]
  (.seq (sr [1,8,37] [om 35 8,
oo 36 (.len true (.t 35)),
oi 37 .gtr 36 200]
  (.cond (.t 37)
  (sr [2,3] [oo 2 (.dx (.c (.str []))),
mi 3 30]
  (.pre [2,3] .ret))
  .skip))
  (.pre [1,8] (.seq (sr [8,39] [op 38 1 0,
ol 39 38]
  (.cond (.t 39)
  (sr [2,3] [om 40 8,
oo 41 (.bin .add (.c (.str [45])) (.t 40)),
om 2 41,
mi 3 0]
  (.pre [2,3] .ret))
  .skip))
  (.pre [8] (sr [2,3] [om 42 8,
om 2 42,
mi 3 0]
  (.pre [2,3] .ret))))))))))))) }
def r11:DU:={ ps:=[19,20],xQ:=(sr [3,4,5,20] [om 5 19]
  (.reg false [3,4,5,6] [] [om 6 20])),body :=
 (.blk 1
  (sr [3,4,5,6,26] [om 21 6,
ol 22 3,
om 23 5,
os 24 1 22 23,
ol 25 24,
ob 26 .neq 21 25]
  (.cond (.t 26)
  (sr [] [om 27 6,
ol 28 3,
om 29 5,
os 30 1 28 29,
ol 31 30,
oc 32 156 [.t 27,.t 31],
st 1 4 32]
  (.pre [] .ret))
  .skip))) }
def x115:gH:={ np:=2,isOpen:=false,ns:=2,res:=[.cell 4 .one],code :=
 (sr [0,3,4] [oo 3 (.nK (.t 1)),
oo 4 (.alloc 1 [.int .i64 0])]
  (.seq (sr [0,3,4,11] [om 7 0,
on 8 7,
ol 9 3,
on 10 9,
ob 11 .neq 8 10]
  (.cond (.t 11)
  (sr [4] [om 12 0,
on 13 12,
ol 14 3,
on 15 14,
oc 16 156 [.t 13,.t 15],
st 1 4 16]
  (.pre [4] .ret))
  .skip))
  (.pre [0,3,4] (.seq (sr [3,4,18] [om 17 0,
oc 18 145 [.t 17]]
  (.blk 0
  (.Gm 0 (.t 18) 11)))
  (.pre [4] (sr [4] [⟨none,none,[],.store 1 (.t 4) (ci 0)⟩]
  (.pre [4] .ret))))))) }
@[go_sem] def aA6:XC:=(.pre [0,1,7,8]
 (sr [0,1,7,8,9] [ob 9 .lss 8 7]
  (.seq (.cond (.t 9)
  .skip
  (.pre [] (.exit 0)))
  (.pre [0,1,7,8] (.seq (.blk 1
  (sr [0,1,5,7,8] [om 10 8,
om 5 10]
  (sr [0,1,5,7,8,16] [om 11 1,
om 12 0,
om 13 5,
os 14 4 12 13,
oa 15 4 14,
oo 16 (.call (.t 11) [.t 15] [])]
  (.cond (.t 16)
  (sr [4] [om 17 5,
om 4 17]
  (.pre [4] .ret))
  .skip))))
  (.pre [0,1,7,8] (.reg false [0,1,7,8] [] [oi 18 .add 8 1,
om 8 18])))))))
def atG:XC:=aA6
@[go_sem] theorem aSx(L:Lib)(cx:Cx)(env:Env)(h:Heap):bV L cx atG (env,h)=bV L cx aA6 (env,h):=rfl
def aoM:gH:={ np:=2,isOpen:=false,ns:=0,res:=[.tmp 4],code :=
 (sr [0,1] [mi 4 0]
  (.seq (sr [0,1,7,8] [om 6 0,
on 7 6,
mi 8 0]
  (.blk 0
  (.loop atG)))
  (.pre [] (sr [4] [oo 4 (.dx (ci (-1)))]
  (.pre [4] .ret))))) }
def ajd:gH:={ np:=4,isOpen:=true,ns:=2,res:=[.cell 8 (.agg 2)],code :=
 (sr [0,1,6,7,8] [oo 6 (.nK (.t 2)),
oo 7 (.nK (.t 3)),
oo 8 (.alloc 1 [.str [],.str []])]
  (.seq (sr [0,1,6,7,8,14] [om 11 0,
oo 12 (.JO (.t 11)),
op 13 12 0,
ol 14 13]
  (.cond (.t 14)
  (sr [8] [oo 15 (.build [.str [],.str []] []),
st 2 8 15]
  (.pre [8] .ret))
  .skip))
  (.pre [0,1,6,7,8] (sr [0,8,9,10] [om 17 1,
oa 18 2 6,
oa 19 2 7,
⟨some 20,none,[.fn 17 [42,119,120,121,133]],.call (.t 17) [.t 18,.t 19] []⟩,
om 16 20,
ox 21 16 0,
ox 22 16 1,
oo 9 (.alloc 0 [.str [],.str []]),
st 2 9 21,
om 10 22]
  (sr [8,9] [om 23 0,
om 24 10,
oi 25 .neq 24 0,
oo 26 (.JO (.t 23)),
op 27 26 0,
st 1 27 25]
  (sr [8] [oa 28 2 9,
st 2 8 28]
  (.pre [8] .ret))))))) }
def atI:gH:={ np:=2,isOpen:=false,ns:=1,res:=[.cell 4 (.agg 2),.tmp 5],code :=
 (sr [2,3,4] [oo 2 (.nK (.t 0)),
oo 3 (.nK (.t 1)),
oo 4 (.alloc 0 [.str [],.str []]),
mi 5 0]
  (sr [4,5] [oa 6 2 2,
oa 7 2 3,
oo 8 (.call (.c (.fn 157 [])) [(.c (.fn 135 [])),.t 6,.t 7] []),
ox 9 8 0,
ox 10 8 1,
st 2 4 9,
om 5 10]
  (.pre [4,5] .ret))) }
def aIX:gH:={ np:=2,isOpen:=false,ns:=1,res:=[.cell 4 (.agg 2),.tmp 5],code :=
 (sr [2,3,4] [oo 2 (.nK (.t 0)),
oo 3 (.nK (.t 1)),
oo 4 (.alloc 0 [.str [],.str []]),
mi 5 0]
  (sr [4,5] [oa 6 2 2,
oa 7 2 3,
oo 8 (.call (.c (.fn 157 [])) [(.c (.fn 126 [])),.t 6,.t 7] []),
ox 9 8 0,
ox 10 8 1,
st 2 4 9,
om 5 10]
  (.pre [4,5] .ret))) }
def aIY:gH:={ np:=2,isOpen:=false,ns:=2,res:=[.cell 4 (.agg 2),.tmp 5],code :=
 (sr [2,3,4] [oo 2 (.nK (.t 0)),
oo 3 (.nK (.t 1)),
oo 4 (.alloc 1 [.str [],.str []]),
mi 5 0]
  (sr [2,3,4,6] [oo 8 (.build [.bool false] []),
oo 9 (.box 0 (.t 8)),
om 6 9]
  (sr [2,3,4,6] [om 10 6,
oa 11 2 2,
oa 12 2 3,
oo 13 (.pF 2 (.agg [.str [],.str []]) 2 [(0,(.t 11)),(1,(.t 12))]),
oc 14 122 [.t 10,.t 13]]
  (sr [2,3,4,6,7] [om 15 6,
op 16 2 0,
ol 17 16,
op 18 3 0,
ol 19 18,
oc 20 124 [.t 15,.t 17,.t 19],
om 7 20]
  (sr [4,5] [om 21 6,
om 22 7,
om 23 6,
op 24 2 1,
ol 25 24,
op 26 3 1,
ol 27 26,
oc 28 124 [.t 23,.t 25,.t 27],
oc 29 103 [.t 21,.t 22,.t 28],
ox 30 29 0,
ox 31 29 1,
st 2 4 30,
om 5 31]
  (.pre [4,5] .ret)))))) }
@[go_sem] def aA7:XC:=(.pre [0,6,7,8]
 (sr [0,6,7,8,9] [ob 9 .lss 8 7]
  (.seq (.cond (.t 9)
  .skip
  (.pre [] (.exit 0)))
  (.pre [0,6,7,8] (.seq (.blk 1
  (sr [0,5,6,7,8] [os 10 2 6 8,
oa 11 2 10,
oo 5 (.alloc 0 [.str [],.str []]),
st 2 5 11]
  (.reg false [0,6,7,8] [] [om 12 0,
om 13 0,
oo 14 (.JO (.t 13)),
op 15 14 0,
ol 16 15,
om 17 16,
og 18 17 false (.load (.agg 2) (.t 5)),
gc 19 17 false 78 [.t 18],
og 20 17 false (.un .not (.t 19)),
kT 21 17 20,
oo 22 (.JO (.t 12)),
op 23 22 0,
st 1 23 21])))
  (.pre [0,6,7,8] (.reg false [0,6,7,8] [] [oi 24 .add 8 1,
om 8 24])))))))
def amj:XC:=aA7
@[go_sem] theorem aSy(L:Lib)(cx:Cx)(env:Env)(h:Heap):bV L cx amj (env,h)=bV L cx aA7 (env,h):=rfl
def atJ:gH:={ np:=2,isOpen:=true,ns:=1,res:=[],code :=
 (sr [0,6,7,8] [om 6 1,
on 7 6,
mi 8 0]
  (.blk 0
  (.loop amj))) }
def aje:gH:={ np:=3,isOpen:=true,ns:=0,res:=[.tmp 6],code :=
 (sr [0,1,2] [oo 6 (.dx (.c (.str [])))]
  (sr [6] [om 7 0,
om 8 1,
om 9 2,
oo 10 (.call (.c (.fn 125 [])) [.t 7,(.c (.fn 161 [])),.t 8,.t 9] []),
om 6 10]
  (.pre [6] .ret))) }
def ajf:gH:={ np:=4,isOpen:=true,ns:=0,res:=[.tmp 8],code :=
 (sr [0,1,2,3] [oo 8 (.dx (.c (.str [])))]
  (.seq (sr [0,1,2,3,14] [om 11 0,
oo 12 (.JO (.t 11)),
op 13 12 0,
ol 14 13]
  (.cond (.t 14)
  (sr [8] [oo 8 (.dx (.c (.str [])))]
  (.pre [8] .ret))
  .skip))
  (.pre [0,1,2,3] (sr [0,9,10] [om 16 1,
om 17 2,
om 18 3,
oo 19 (.call (.t 16) [.t 17,.t 18] []),
om 15 19,
ox 20 15 0,
ox 21 15 1,
om 9 20,
om 10 21]
  (sr [9] [om 22 0,
om 23 10,
oi 24 .neq 23 0,
oo 25 (.JO (.t 22)),
op 26 25 0,
st 1 26 24]
  (sr [8] [om 27 9,
om 8 27]
  (.pre [8] .ret))))))) }
def aIZ:gH:={ np:=2,isOpen:=false,ns:=2,res:=[.tmp 4,.tmp 5],code :=
 (sr [0,1] [oo 4 (.dx (.c (.str []))),
mi 5 0]
  (sr [6,7,8] [om 10 0,
om 11 1,
oc 12 109 [.t 10,.t 11],
om 9 12,
ox 13 9 0,
ox 14 9 1,
ox 15 9 2,
oo 6 (.alloc 0 [.bool false,.bO]),
oo 7 (.alloc 1 [.bool false,.bO]),
st 2 6 13,
st 2 7 14,
om 8 15]
  (.seq (sr [6,7,17] [om 16 8,
oo 17 (.un .not (.t 16))]
  (.cond (.t 17)
  (sr [4,5] [oo 4 (.dx (.c (.str []))),
mi 5 30]
  (.pre [4,5] .ret))
  .skip))
  (.pre [6,7] (sr [4,5] [oa 18 2 6,
oa 19 2 7,
oc 20 162 [.t 18,.t 19],
oc 21 114 [.t 20],
ox 22 21 0,
ox 23 21 1,
om 4 22,
om 5 23]
  (.pre [4,5] .ret)))))) }
def ZL:gH:={ np:=2,isOpen:=true,ns:=1,res:=[.tmp 4],code :=
 (sr [0,3] [oo 3 (.nK (.t 1)),
oo 4 (.dx (.c .bO))]
  (.seq (sr [0,3,9] [op 5 3 0,
ol 6 5,
op 7 3 1,
ol 8 7,
ob 9 .geq 6 8]
  (.cond (.t 9)
  (sr [4] [om 10 0,
om 4 10]
  (.pre [4] .ret))
  .skip))
  (.pre [0,3] (.seq (.seq (.reg true [0,3,25] [] [om 11 0,
on 12 11,
oi 13 .gtr 12 0,
om 14 13,
gm 15 14 true 0,
gm 16 14 true 0,
og 17 14 true (.len false (.t 16)),
og 18 14 true (.bin .sub (.t 17) (ci 1)),
JP 19 14 true 3 15 18,
gp 20 14 true 19 2,
⟨some 21,some (14,true),[.elem 20],.load .one (.t 20)⟩,
gp 22 14 true 3 2,
⟨some 23,some (14,true),[.box 22],.load .one (.t 22)⟩,
gb 24 14 true .eql 21 23,
pf 25 14 24])
  (.cond (.t 25)
  (sr [0] [om 26 0,
om 27 0,
on 28 27,
oi 29 .sub 28 1,
op 30 3 1,
ol 31 30,
os 32 3 26 29,
op 33 32 1,
st 1 33 31]
  (sr [4] [om 34 0,
om 4 34]
  (.pre [4] .ret)))
  .skip))
  (.pre [0,3] (sr [4] [om 35 0,
oa 36 3 3,
oo 37 (.pF 3 (.agg [.int .i64 0,.int .i64 0,.int .i64 0]) 1 [(0,(.t 36))]),
oo 38 (.app 0 3 5864062014805 (.t 35) (.t 37)),
om 4 38]
  (.pre [4] .ret))))))) }
@[go_sem] def aA8:XC:=(.pre [0,1,2,3,9]
 (.seq (sr [0,1,2,3,9,13] [om 10 9,
om 11 1,
on 12 11,
ob 13 .lss 10 12]
  (.cond (.t 13)
  .skip
  (.pre [0] (.exit 0))))
  (.pre [0,1,2,3,9] (.seq (.blk 1
  (.reg true [0,1,2,3,9] [] [om 16 0,
om 17 2,
om 18 1,
om 19 9,
os 20 3 18 19,
op 21 20 0,
⟨some 22,none,[.elem 21],.load .one (.t 21)⟩,
oo 23 (.NM true [.t 17,.t 22]),
om 24 3,
om 25 1,
om 26 9,
os 27 3 25 26,
op 28 27 1,
⟨some 29,none,[.elem 28],.load .one (.t 28)⟩,
oo 30 (.NM false [.t 24,.t 29]),
om 31 1,
om 32 9,
os 33 3 31 32,
op 34 33 2,
⟨some 35,none,[.elem 34],.load .one (.t 34)⟩,
oo 36 (.build [.int .i64 0,.int .i64 0,.int .i64 0] [(0,1,(.t 23)),(1,1,(.t 30)),(2,1,(.t 35))]),
oo 37 (.call (.c (.fn 127 [])) [.t 16,.t 36] [(0,0)]),
om 0 37]))
  (.pre [0,1,2,3,9] (.reg false [0,1,2,3,9] [] [om 14 9,
oi 15 .add 14 1,
om 9 15]))))))
def aoN:XC:=aA8
@[go_sem] theorem aSz(L:Lib)(cx:Cx)(env:Env)(h:Heap):bV L cx aoN (env,h)=bV L cx aA8 (env,h):=rfl
def acn:gH:={ np:=4,isOpen:=true,ns:=1,res:=[.tmp 8],code :=
 (sr [0,1,2,3] [oo 8 (.dx (.c .bO))]
  (.seq (sr [0,1,2,3,9] [mi 9 0]
  (.blk 0
  (.loop aoN)))
  (.pre [0] (sr [8] [om 38 0,
om 8 38]
  (.pre [8] .ret))))) }
def aI0:gH:={ np:=2,isOpen:=false,ns:=0,res:=[.tmp 4,.tmp 5],code :=
 (sr [0,1] [oo 4 (.dx (.c (.int .u32 0))),
oo 5 (.dx (.c (.int .u32 0)))]
  (sr [6] [om 7 0,
oo 8 (.conv .u64 (.t 7)),
om 9 1,
oo 10 (.conv .u64 (.t 9)),
ob 11 .mul 8 10,
om 6 11]
  (sr [4,5] [om 12 6,
oo 13 (.bin .shr (.t 12) (.c (.int .u64 32))),
oo 14 (.conv .u32 (.t 13)),
om 15 6,
oo 16 (.conv .u32 (.t 15)),
om 4 14,
om 5 16]
  (.pre [4,5] .ret)))) }
def atK:gH:={ np:=2,isOpen:=false,ns:=0,res:=[.tmp 4,.tmp 5],code :=
 (sr [0,1] [oo 4 (.dx (.c (.int .u64 0))),
oo 5 (.dx (.c (.int .u64 0)))]
  (sr [0,1,6] [om 14 0,
oo 15 (.bin .and (.t 14) (.c (.int .u64 4294967295))),
om 6 15]
  (sr [0,1,6,7] [om 16 0,
oo 17 (.bin .shr (.t 16) (.c (.int .u64 32))),
om 7 17]
  (sr [0,1,6,7,8] [om 18 1,
oo 19 (.bin .and (.t 18) (.c (.int .u64 4294967295))),
om 8 19]
  (sr [0,1,6,7,8,9] [om 20 1,
oo 21 (.bin .shr (.t 20) (.c (.int .u64 32))),
om 9 21]
  (sr [0,1,6,7,8,9,10] [om 22 6,
om 23 8,
ob 24 .mul 22 23,
om 10 24]
  (sr [0,1,6,7,9,11] [om 25 7,
om 26 8,
ob 27 .mul 25 26,
om 28 10,
oo 29 (.bin .shr (.t 28) (.c (.int .u64 32))),
ob 30 .add 27 29,
om 11 30]
  (sr [0,1,6,7,9,11,12] [om 31 11,
oo 32 (.bin .and (.t 31) (.c (.int .u64 4294967295))),
om 12 32]
  (sr [0,1,6,7,9,12,13] [om 33 11,
oo 34 (.bin .shr (.t 33) (.c (.int .u64 32))),
om 13 34]
  (sr [0,1,7,9,12,13] [om 35 12,
om 36 6,
om 37 9,
ob 38 .mul 36 37,
ob 39 .add 35 38,
om 12 39]
  (sr [0,1,4] [om 40 7,
om 41 9,
ob 42 .mul 40 41,
om 43 13,
ob 44 .add 42 43,
om 45 12,
oo 46 (.bin .shr (.t 45) (.c (.int .u64 32))),
ob 47 .add 44 46,
om 4 47]
  (sr [4,5] [om 48 0,
om 49 1,
ob 50 .mul 48 49,
om 5 50]
  (.pre [4,5] .ret))))))))))))) }
def atL:gH:={ np:=2,isOpen:=false,ns:=0,res:=[.tmp 3],code :=
 (sr [1,2] [oo 2 (.nK (.t 0)),
oo 3 (.dx (.c (.bool false)))]
  (sr [3] [ol 4 1,
op 5 2 0,
ol 6 5,
ob 7 .geq 4 6,
om 8 7,
rZ 9 8 true 1,
gp 10 8 true 2 1,
rZ 11 8 true 10,
gb 12 8 true .lss 9 11,
pf 13 8 12,
om 3 13]
  (.pre [3] .ret))) }
@[go_sem] def aA9:XC:=(.pre [0,1,3]
 (.seq (sr [0,1,3,7] [om 4 3,
ol 5 1,
on 6 5,
ob 7 .lss 4 6]
  (.cond (.t 7)
  .skip
  (.pre [] (.exit 0))))
  (.pre [0,1,3] (.seq (.blk 1
  (.seq (.reg true [0,1,3,21] [] [om 10 0,
⟨some 11,none,[.closed 1],.load .one (.t 1)⟩,
om 12 3,
oi 13 .sub 12 1,
os 14 4 11 13,
⟨some 15,none,[.elem 14],.load (.agg 4) (.t 14)⟩,
⟨some 16,none,[.closed 1],.load .one (.t 1)⟩,
om 17 3,
os 18 4 16 17,
⟨some 19,none,[.elem 18],.load (.agg 4) (.t 18)⟩,
oo 20 (.call (.t 10) [.t 15,.t 19] []),
oo 21 (.un .not (.t 20))])
  (.cond (.t 21)
  (.pre [] .ret)
  .skip)))
  (.pre [0,1,3] (.reg false [0,1,3] [] [om 8 3,
oi 9 .add 8 1,
om 3 9]))))))
def aoO:XC:=aA9
@[go_sem] theorem aSA(L:Lib)(cx:Cx)(env:Env)(h:Heap):bV L cx aoO (env,h)=bV L cx aA9 (env,h):=rfl
def akq:gH:={ np:=2,isOpen:=true,ns:=0,res:=[],code :=
 (sr [0,1,3] [mi 3 1]
  (.blk 0
  (.loop aoO))) }
def akr:gH:={ np:=2,isOpen:=false,ns:=2,res:=[.cell 4 (.agg 2),.tmp 5],code :=
 (sr [2,3,4] [oo 2 (.nK (.t 0)),
oo 3 (.nK (.t 1)),
oo 4 (.alloc 1 [.str [],.str []]),
mi 5 0]
  (sr [2,3,4,6] [oo 8 (.build [.bool false] []),
oo 9 (.box 0 (.t 8)),
om 6 9]
  (sr [2,3,4,6] [om 10 6,
oa 11 2 2,
oa 12 2 3,
oo 13 (.pF 2 (.agg [.str [],.str []]) 2 [(0,(.t 11)),(1,(.t 12))]),
oc 14 122 [.t 10,.t 13]]
  (sr [2,3,4,6,7] [om 15 6,
op 16 2 0,
ol 17 16,
op 18 3 1,
ol 19 18,
oc 20 124 [.t 15,.t 17,.t 19],
om 7 20]
  (sr [4,5] [om 21 6,
om 22 7,
om 23 6,
op 24 2 1,
ol 25 24,
op 26 3 0,
ol 27 26,
oc 28 124 [.t 23,.t 25,.t 27],
oc 29 103 [.t 21,.t 22,.t 28],
ox 30 29 0,
ox 31 29 1,
st 2 4 30,
om 5 31]
  (.pre [4,5] .ret)))))) }
def ajg:gH:={ np:=1,isOpen:=false,ns:=0,res:=[.tmp 2],code :=
 (sr [0] [oo 2 (.dx (.c (.bool false)))]
  (sr [0,3] [om 4 0,
oo 5 (.call (.c (.fn 163 [])) [.t 4,(.c (.str [45]))] []),
om 3 5]
  (.seq (sr [0,3,17] [om 6 3,
oo 7 (.bin .eql (.t 6) (.c (.str []))),
om 8 7,
gm 9 8 false 3,
og 10 8 false (.len true (.t 9)),
og 11 8 false (.bin .gtr (.t 10) (ci 200)),
kT 12 8 11,
om 13 12,
gm 14 13 false 3,
og 15 13 false (.call (.c (.fn 164 [])) [.t 14,(.c (.str [48,49,50,51,52,53,54,55,56,57]))] []),
og 16 13 false (.bin .neq (.t 15) (.c (.str []))),
kT 17 13 16]
  (.cond (.t 17)
  (sr [2] [oo 2 (.dx (.c (.bool false)))]
  (.pre [2] .ret))
  .skip))
  (.pre [0,3] (sr [2] [om 18 0,
oo 19 (.bin .eql (.t 18) (.c (.str [48]))),
om 20 19,
gm 21 20 false 3,
og 22 20 false (.Oa (.t 21) (ci 0)),
og 23 20 false (.bin .neq (.t 22) (.c (.int .u8 48))),
kT 24 20 23,
om 2 24]
  (.pre [2] .ret)))))) }
def atM:gH:={ np:=2,isOpen:=false,ns:=2,res:=[.tmp 4,.tmp 5],code :=
 (sr [0,1] [oo 4 (.dx (.c (.str []))),
mi 5 0]
  (sr [6,7,8] [om 10 0,
om 11 1,
oc 12 109 [.t 10,.t 11],
om 9 12,
ox 13 9 0,
ox 14 9 1,
ox 15 9 2,
oo 6 (.alloc 0 [.bool false,.bO]),
oo 7 (.alloc 1 [.bool false,.bO]),
st 2 6 13,
st 2 7 14,
om 8 15]
  (.seq (sr [6,7,17] [om 16 8,
oo 17 (.un .not (.t 16))]
  (.cond (.t 17)
  (sr [4,5] [oo 4 (.dx (.c (.str []))),
mi 5 30]
  (.pre [4,5] .ret))
  .skip))
  (.pre [6,7] (sr [6,7] [op 18 7 0,
ol 19 18,
oo 20 (.un .not (.t 19)),
op 21 7 0,
st 1 21 20]
  (sr [4,5] [oa 22 2 6,
oa 23 2 7,
oc 24 162 [.t 22,.t 23],
oc 25 114 [.t 24],
ox 26 25 0,
ox 27 25 1,
om 4 26,
om 5 27]
  (.pre [4,5] .ret))))))) }
def atN:gH:={ np:=3,isOpen:=true,ns:=0,res:=[.tmp 6],code :=
 (sr [0,1,2] [oo 6 (.dx (.c (.str [])))]
  (sr [6] [om 7 0,
om 8 1,
om 9 2,
oo 10 (.call (.c (.fn 125 [])) [.t 7,(.c (.fn 165 [])),.t 8,.t 9] []),
om 6 10]
  (.pre [6] .ret))) }
@[go_sem] def aI1:XC:=(.pre [0,3]
 (.seq (sr [0,3,19] [om 16 3,
om 17 0,
oo 18 (.len true (.t 17)),
ob 19 .lss 16 18]
  (.cond (.t 19)
  .skip
  (.pre [0] (.exit 0))))
  (.pre [0,3] (.seq (.blk 1
  (sr [0,3,31] [om 22 0,
om 23 3,
oo 24 (.Oa (.t 22) (.t 23)),
oo 25 (.bin .lss (.t 24) (.c (.int .u8 48))),
om 26 25,
gm 27 26 false 0,
gm 28 26 false 3,
og 29 26 false (.Oa (.t 27) (.t 28)),
og 30 26 false (.bin .gtr (.t 29) (.c (.int .u8 57))),
kT 31 26 30]
  (.cond (.t 31)
  (sr [2] [oo 2 (.dx (.c (.bool false)))]
  (.pre [2] .ret))
  .skip)))
  (.pre [0,3] (.reg false [0,3] [] [om 20 3,
oi 21 .add 20 1,
om 3 21]))))))
def aI2:XC:=aI1
def aI3:gH:={ np:=1,isOpen:=false,ns:=0,res:=[.tmp 2],code :=
 (sr [0] [oo 2 (.dx (.c (.bool false)))]
  (.seq (sr [0,11] [om 4 0,
oo 5 (.len true (.t 4)),
oi 6 .gtr 5 0,
om 7 6,
gm 8 7 true 0,
og 9 7 true (.Oa (.t 8) (ci 0)),
og 10 7 true (.bin .eql (.t 9) (.c (.int .u8 45))),
pf 11 7 10]
  (.cond (.t 11)
  (sr [0] [om 12 0,
oo 13 (.slice none (.t 12) (some (ci 1)) none),
om 0 13]
  (sr [0,15] [om 14 0,
oo 15 (.bin .eql (.t 14) (.c (.str [48])))]
  (.cond (.t 15)
  (sr [2] [oo 2 (.dx (.c (.bool false)))]
  (.pre [2] .ret))
  .skip)))
  .skip))
  (.pre [0] (.seq (sr [0,3] [mi 3 0]
  (.blk 0
  (.loop aI2)))
  (.pre [0] (sr [2] [om 32 0,
oo 33 (.len true (.t 32)),
oi 34 .gtr 33 0,
om 35 34,
gm 36 35 true 0,
og 37 35 true (.len true (.t 36)),
og 38 35 true (.bin .leq (.t 37) (ci 200)),
pf 39 35 38,
om 40 39,
gm 41 40 true 0,
og 42 40 true (.bin .eql (.t 41) (.c (.str [48]))),
gm 43 40 true 42,
gm 44 43 false 0,
og 45 43 false (.Oa (.t 44) (ci 0)),
og 46 43 false (.bin .neq (.t 45) (.c (.int .u8 48))),
og 47 40 true (.pick (.t 43) (.c (.bool true)) (.t 46)),
pf 48 40 47,
om 2 48]
  (.pre [2] .ret))))))) }
def aI4:gH:={ np:=2,isOpen:=false,ns:=0,res:=[.tmp 4],code :=
 (sr [0,1] [mi 4 0]
  (.seq (sr [0,1,16] [om 9 0,
oc 10 138 [.t 9],
oo 11 (.un .not (.t 10)),
om 12 11,
gm 13 12 false 1,
gc 14 12 false 138 [.t 13],
og 15 12 false (.un .not (.t 14)),
kT 16 12 15]
  (.cond (.t 16)
  (sr [4] [mi 4 0]
  (.pre [4] .ret))
  .skip))
  (.pre [0,1] (sr [1,5,6] [om 18 0,
oc 19 167 [.t 18],
om 17 19,
ox 20 17 0,
ox 21 17 1,
om 5 20,
om 6 21]
  (sr [5,6,7,8] [om 23 1,
oc 24 167 [.t 23],
om 22 24,
ox 25 22 0,
ox 26 22 1,
om 7 25,
om 8 26]
  (.seq (sr [5,6,8,29] [om 27 5,
om 28 7,
oo 29 (.eqv true [] (.t 27) (.t 28))]
  (.cond (.t 29)
  (.seq (sr [30] [om 30 5]
  (.cond (.t 30)
  (sr [4] [oo 4 (.dx (ci (-1)))]
  (.pre [4] .ret))
  .skip))
  (.pre [] (sr [4] [mi 4 1]
  (.pre [4] .ret))))
  .skip))
  (.pre [5,6,8] (.seq (sr [6,8,31] [om 31 5]
  (.cond (.t 31)
  (sr [4] [om 32 8,
om 33 6,
oc 34 168 [.t 32,.t 33],
om 4 34]
  (.pre [4] .ret))
  .skip))
  (.pre [6,8] (sr [4] [om 35 6,
om 36 8,
oc 37 168 [.t 35,.t 36],
om 4 37]
  (.pre [4] .ret))))))))))) }
def aI5:gH:={ np:=2,isOpen:=false,ns:=0,res:=[.tmp 4,.tmp 5],code :=
 (sr [0,1] [oo 4 (.dx (.c (.str []))),
mi 5 0]
  (.seq (sr [0,1,17] [om 10 0,
oc 11 138 [.t 10],
oo 12 (.un .not (.t 11)),
om 13 12,
gm 14 13 false 1,
gc 15 13 false 138 [.t 14],
og 16 13 false (.un .not (.t 15)),
kT 17 13 16]
  (.cond (.t 17)
  (sr [4,5] [oo 4 (.dx (.c (.str []))),
mi 5 30]
  (.pre [4,5] .ret))
  .skip))
  (.pre [0,1] (sr [1,6,7] [om 19 0,
oc 20 167 [.t 19],
om 18 20,
ox 21 18 0,
ox 22 18 1,
om 6 21,
om 7 22]
  (sr [6,7,8,9] [om 24 1,
oc 25 167 [.t 24],
om 23 25,
ox 26 23 0,
ox 27 23 1,
om 8 26,
om 9 27]
  (sr [4,5] [om 28 6,
om 29 7,
om 30 8,
oo 31 (.un .not (.t 30)),
om 32 9,
oc 33 169 [.t 28,.t 29,.t 31,.t 32],
ox 34 33 0,
ox 35 33 1,
om 4 34,
om 5 35]
  (.pre [4,5] .ret))))))) }
@[go_sem] def aI6:XC:=(.pre [7,9]
 (.seq (sr [7,9,32] [om 30 9,
on 31 30,
oi 32 .gtr 31 0]
  (.cond (.t 32)
  .skip
  (.pre [7] (.exit 0))))
  (.pre [7,9] (.blk 1
  (sr [9,11] [om 34 7,
om 35 9,
oc 36 170 [.t 34,.t 35],
om 33 36,
ox 37 33 0,
ox 38 33 1,
om 10 37,
om 11 38]
  (sr [7,11] [om 39 9,
om 7 39]
  (.reg false [7,9] [] [om 40 11,
om 9 40])))))))
def aI7:XC:=aI6
def aI8:gH:={ np:=2,isOpen:=false,ns:=0,res:=[.tmp 4,.tmp 5],code :=
 (sr [0,1] [oo 4 (.dx (.c (.str []))),
mi 5 0]
  (.seq (sr [0,1,19] [om 12 0,
oc 13 138 [.t 12],
oo 14 (.un .not (.t 13)),
om 15 14,
gm 16 15 false 1,
gc 17 15 false 138 [.t 16],
og 18 15 false (.un .not (.t 17)),
kT 19 15 18]
  (.cond (.t 19)
  (sr [4,5] [oo 4 (.dx (.c (.str []))),
mi 5 30]
  (.pre [4,5] .ret))
  .skip))
  (.pre [0,1] (sr [1,7] [om 21 0,
oc 22 167 [.t 21],
om 20 22,
ox 23 20 0,
ox 24 20 1,
om 6 23,
om 7 24]
  (sr [7,9] [om 26 1,
oc 27 167 [.t 26],
om 25 27,
ox 28 25 0,
ox 29 25 1,
om 8 28,
om 9 29]
  (.seq (.blk 0
  (.loop aI7))
  (.pre [7] (sr [4,5] [om 41 7,
oc 42 171 [(.c (.bool false)),.t 41],
ox 43 42 0,
ox 44 42 1,
om 4 43,
om 5 44]
  (.pre [4,5] .ret))))))))) }
def aI9:gH:={ np:=2,isOpen:=false,ns:=0,res:=[.tmp 4,.tmp 5,.tmp 6],code :=
 (sr [0,1] [oo 4 (.dx (.c (.str []))),
oo 5 (.dx (.c (.str []))),
mi 6 0]
  (.seq (sr [0,1,28] [om 17 0,
oc 18 138 [.t 17],
oo 19 (.un .not (.t 18)),
om 20 19,
gm 21 20 false 1,
gc 22 20 false 138 [.t 21],
og 23 20 false (.un .not (.t 22)),
kT 24 20 23,
om 25 24,
gm 26 25 false 1,
og 27 25 false (.bin .eql (.t 26) (.c (.str [48]))),
kT 28 25 27]
  (.cond (.t 28)
  (sr [4,5,6] [oo 4 (.dx (.c (.str []))),
oo 5 (.dx (.c (.str []))),
mi 6 30]
  (.pre [4,5,6] .ret))
  .skip))
  (.pre [0,1] (sr [1,7,8] [om 30 0,
oc 31 167 [.t 30],
om 29 31,
ox 32 29 0,
ox 33 29 1,
om 7 32,
om 8 33]
  (sr [7,8,9,10] [om 35 1,
oc 36 167 [.t 35],
om 34 36,
ox 37 34 0,
ox 38 34 1,
om 9 37,
om 10 38]
  (sr [7,9,10,11,12] [om 40 8,
om 41 10,
oc 42 170 [.t 40,.t 41],
om 39 42,
ox 43 39 0,
ox 44 39 1,
om 11 43,
om 12 44]
  (.seq (sr [7,9,10,11,12,50] [om 45 7,
om 46 45,
gm 47 46 true 12,
og 48 46 true (.len false (.t 47)),
og 49 46 true (.bin .gtr (.t 48) (ci 0)),
pf 50 46 49]
  (.cond (.t 50)
  (sr [7,9,10,11,12] [om 51 11,
oo 52 (.pF 1 (.int .i64 0) 1 [(0,(ci 1))]),
oc 53 172 [.t 51,.t 52],
om 11 53]
  (.reg false [7,9,11,12] [] [om 54 10,
om 55 12,
oc 56 173 [.t 54,.t 55],
om 12 56]))
  .skip))
  (.pre [7,9,11,12] (sr [12,13,14] [om 58 7,
om 59 9,
oo 60 (.eqv true [] (.t 58) (.t 59)),
om 61 11,
oc 62 171 [.t 60,.t 61],
om 57 62,
ox 63 57 0,
ox 64 57 1,
om 13 63,
om 14 64]
  (sr [13,14,15] [om 66 12,
oc 67 143 [(.c (.bool false)),.t 66],
om 65 67,
ox 68 65 0,
ox 69 65 1,
om 15 68,
om 16 69]
  (.seq (sr [13,14,15,71] [om 70 14,
oi 71 .neq 70 0]
  (.cond (.t 71)
  (sr [4,5,6] [om 72 14,
oo 4 (.dx (.c (.str []))),
oo 5 (.dx (.c (.str []))),
om 6 72]
  (.pre [4,5,6] .ret))
  .skip))
  (.pre [13,15] (sr [4,5,6] [om 73 13,
om 74 15,
om 4 73,
om 5 74,
mi 6 0]
  (.pre [4,5,6] .ret)))))))))))))) }
@[go_sem] def aI':XC:=(.pre [1,6,7]
 (.seq (sr [1,6,7,19] [om 18 7,
oi 19 .geq 18 0]
  (.cond (.t 19)
  .skip
  (.pre [1,6] (.exit 0))))
  (.pre [1,6,7] (.seq (.blk 1
  (.reg false [1,6,7] [] [om 22 6,
om 23 1,
om 24 7,
os 25 1 23 24,
ol 26 25,
oo 27 (.bin .add (ci 48) (.t 26)),
oo 28 (.conv .u8 (.t 27)),
oo 29 (.pF 1 (.int .u8 0) 1 [(0,(.t 28))]),
oo 30 (.app 0 1 140737488355328 (.t 22) (.t 29)),
om 6 30]))
  (.pre [1,6,7] (.reg false [1,6,7] [] [om 20 7,
oi 21 .sub 20 1,
om 7 21]))))))
def aJa:XC:=aI'
def aJb:gH:={ np:=2,isOpen:=false,ns:=2,res:=[.tmp 4,.tmp 5],code :=
 (sr [0,1] [oo 4 (.dx (.c (.str []))),
oo 5 (.dx (.c (.bool false)))]
  (.seq (sr [0,1,10] [om 8 1,
on 9 8,
oi 10 .eql 9 0]
  (.cond (.t 10)
  (sr [4,5] [oo 4 (.dx (.c (.str [48]))),
oo 5 (.dx (.c (.bool true)))]
  (.pre [4,5] .ret))
  .skip))
  (.pre [0,1] (sr [0,1,6] [oo 6 (.dx (.c .bO))]
  (.seq (sr [1,6,11] [om 11 0]
  (.cond (.t 11)
  (.reg false [1,6] [] [om 12 6,
oo 13 (.pF 1 (.int .u8 0) 1 [(0,(.c (.int .u8 45)))]),
oo 14 (.app 1 1 140737488355328 (.t 12) (.t 13)),
om 6 14])
  .skip))
  (.pre [1,6] (.seq (sr [1,6,7] [om 15 1,
on 16 15,
oi 17 .sub 16 1,
om 7 17]
  (.blk 0
  (.loop aJa)))
  (.pre [1,6] (sr [4,5] [om 31 6,
oo 32 (.YX (.t 31)),
om 33 1,
on 34 33,
oi 35 .leq 34 200,
om 4 32,
om 5 35]
  (.pre [4,5] .ret)))))))))) }
@[go_sem] def aA':XC:=(.pre [2,3,4]
 (.seq (sr [2,3,4,18] [om 16 3,
oo 17 (.len true (.t 16)),
oi 18 .gtr 17 0]
  (.cond (.t 18)
  .skip
  (.pre [2,4] (.exit 0))))
  (.pre [2,3,4] (.blk 1
  (sr [2,3,4,5] [om 19 3,
oo 20 (.len true (.t 19)),
oi 21 .sub 20 4,
oo 22 (.NM true [(ci 0),.t 21]),
om 5 22]
  (sr [2,3,4,5,6] [om 24 3,
om 25 5,
oo 26 (.slice none (.t 24) (some (.t 25)) none),
oc 27 174 [.t 26],
om 23 27,
ox 28 23 0,
ox 29 23 1,
om 6 28,
om 7 29]
  (sr [2,3,4,5] [op 30 4 1,
ol 31 30,
om 32 6,
oo 33 (.pF 1 (.int .i64 0) 1 [(0,(.t 32))]),
oo 34 (.app 0 1 17592186044416 (.t 31) (.t 33)),
op 35 4 1,
st 1 35 34]
  (.reg false [2,3,4] [] [om 36 3,
om 37 5,
oo 38 (.slice none (.t 36) none (some (.t 37))),
om 3 38]))))))))
def atO:XC:=aA'
@[go_sem] theorem aSB(L:Lib)(cx:Cx)(env:Env)(h:Heap):bV L cx atO (env,h)=bV L cx aA' (env,h):=rfl
def atP:gH:={ np:=1,isOpen:=false,ns:=3,res:=[.cell 2 (.agg 2)],code :=
 (sr [0,2] [oo 2 (.alloc 2 [.bool false,.bO])]
  (sr [0,2,3] [om 8 0,
oo 9 (.call (.c (.fn 163 [])) [.t 8,(.c (.str [45]))] []),
om 3 9]
  (sr [2,3,4] [om 10 3,
oo 11 (.len true (.t 10)),
om 12 0,
oo 13 (.len true (.t 12)),
ob 14 .lss 11 13,
oo 15 (.build [.bool false,.bO] [(0,1,(.t 14))]),
oo 4 (.alloc 1 [.bool false,.bO]),
st 2 4 15]
  (.seq (.blk 0
  (.loop atO))
  (.pre [2,4] (sr [2,4] [op 39 4 1,
ol 40 39,
oc 41 146 [.t 40],
op 42 4 1,
st 1 42 41]
  (sr [2] [oa 43 2 4,
st 2 2 43]
  (.pre [2] .ret)))))))) }
def atQ:gH:={ np:=1,isOpen:=false,ns:=0,res:=[.tmp 2],code :=
 (sr [1] [oo 1 (.nK (.t 0)),
oo 2 (.dx (.c .yX))]
  (sr [2] [oo 3 (.LM 175 [.t 1]),
om 2 3]
  (.pre [2] .ret))) }
@[go_sem] def aBa:XC:=(.pre [0]
 (.seq (sr [0,14] [om 3 0,
on 4 3,
oi 5 .gtr 4 0,
om 6 5,
gm 7 6 true 0,
gm 8 6 true 0,
og 9 6 true (.len false (.t 8)),
og 10 6 true (.bin .sub (.t 9) (ci 1)),
JP 11 6 true 1 7 10,
rZ 12 6 true 11,
og 13 6 true (.bin .eql (.t 12) (ci 0)),
pf 14 6 13]
  (.cond (.t 14)
  .skip
  (.pre [0] (.exit 0))))
  (.pre [0] (.blk 1
  (.reg false [0] [] [om 15 0,
om 16 0,
on 17 16,
oi 18 .sub 17 1,
oo 19 (.slice (some 1) (.t 15) none (some (.t 18))),
om 0 19])))))
def akv:XC:=aBa
@[go_sem] theorem aSC(L:Lib)(cx:Cx)(env:Env)(h:Heap):bV L cx akv (env,h)=bV L cx aBa (env,h):=rfl
def aco:gH:={ np:=1,isOpen:=false,ns:=0,res:=[.tmp 2],code :=
 (sr [0] [oo 2 (.dx (.c .bO))]
  (.seq (.blk 0
  (.loop akv))
  (.pre [0] (sr [2] [om 20 0,
om 2 20]
  (.pre [2] .ret))))) }
def atT:gH:={ np:=2,isOpen:=false,ns:=1,res:=[.tmp 4],code :=
 (sr [2,3] [oo 2 (.nK (.t 0)),
oo 3 (.nK (.t 1)),
oo 4 (.dx (.c .bO))]
  (sr [4] [ol 5 2,
on 6 5,
oo 7 (.LM 176 [.t 2,.t 3]),
oc 8 150 [.t 6,(ci 0),.t 7],
oo 9 (.call (.c (.fn 146 [])) [.t 8] [(0,0)]),
om 4 9]
  (.pre [4] .ret))) }
def atU:gH:={ np:=3,isOpen:=false,ns:=0,res:=[.tmp 4],code :=
 (sr [0,1,2] [oo 4 (.dx (.c (.bool false)))]
  (.seq (.reg true [4] [] [⟨some 5,none,[.box 1],.load .one (.t 1)⟩,
om 6 0,
oi 7 .add 6 1,
⟨some 8,none,[.fn 5 [41,59,74,97,108,148,151,153,176,178,1147]],.call (.t 5) [.t 7] []⟩,
⟨some 9,none,[.box 2],.load .one (.t 2)⟩,
oc 10 115 [.t 8,.t 9],
oi 11 .gtr 10 0,
om 4 11])
  (.pre [4] .ret))) }
@[go_sem] def aBb:XC:=(.pre [1,5,6]
 (.seq (sr [1,5,6,11] [om 9 5,
om 10 6,
ob 11 .lss 9 10]
  (.cond (.t 11)
  .skip
  (.pre [5] (.exit 0))))
  (.pre [1,5,6] (.blk 1
  (sr [1,5,6,7] [om 12 5,
om 13 6,
ob 14 .add 12 13,
oo 15 (.conv .u64 (.t 14)),
oo 16 (.bin .shr (.t 15) (.c (.int .u64 1))),
oo 17 (.conv .i64 (.t 16)),
om 7 17]
  (sr [1,5,6,7,21] [om 18 1,
om 19 7,
oo 20 (.call (.t 18) [.t 19] []),
oo 21 (.un .not (.t 20))]
  (.cond (.t 21)
  (.reg false [1,5,6] [] [om 22 7,
oi 23 .add 22 1,
om 5 23])
  (.reg false [1,5,6] [] [om 24 7,
om 6 24]))))))))
def atW:XC:=aBb
@[go_sem] theorem aSD(L:Lib)(cx:Cx)(env:Env)(h:Heap):bV L cx atW (env,h)=bV L cx aBb (env,h):=rfl
def atX:gH:={ np:=2,isOpen:=false,ns:=0,res:=[.tmp 4],code :=
 (sr [0,1] [mi 4 0]
  (sr [1,5,6] [om 8 0,
mi 5 0,
om 6 8]
  (.seq (.blk 0
  (.loop atW))
  (.pre [5] (sr [4] [om 25 5,
om 4 25]
  (.pre [4] .ret)))))) }
@[go_sem] def aBd:XC:=(.pre [0,1,2,7,8]
 (.seq (sr [0,1,2,7,8,19] [om 13 8,
om 14 0,
ob 15 .lss 13 14,
om 16 15,
gm 17 16 false 1,
og 18 16 false (.bin .neq (.t 17) (ci 0)),
kT 19 16 18]
  (.cond (.t 19)
  .skip
  (.pre [7] (.exit 0))))
  (.pre [0,1,2,7,8] (.seq (.blk 1
  (sr [0,2,7,8,9] [om 22 2,
om 23 8,
oo 24 (.call (.t 22) [.t 23] []),
om 25 1,
ob 26 .add 24 25,
om 9 26]
  (sr [0,1,2,7,8,9] [mi 1 0]
  (.seq (sr [0,1,2,7,8,9,28] [om 27 9,
oi 28 .lss 27 0]
  (.cond (.t 28)
  (sr [0,2,7,8,9] [om 29 9,
oi 30 .add 29 10000,
om 9 30]
  (.reg false [0,1,2,7,8,9] [] [oo 1 (.dx (ci (-1)))]))
  (sr [0,1,2,7,8,9,32] [om 31 9,
oi 32 .geq 31 10000]
  (.cond (.t 32)
  (sr [0,1,2,7,8,9] [om 33 9,
oi 34 .quo 33 10000,
om 1 34]
  (.reg false [0,1,2,7,8,9] [] [om 35 9,
oi 36 .rem 35 10000,
om 9 36]))
  .skip))))
  (.pre [0,1,2,7,8,9] (.reg false [0,1,2,7,8] [] [om 37 7,
om 38 9,
oo 39 (.pF 1 (.int .i64 0) 1 [(0,(.t 38))]),
oo 40 (.app 0 1 17592186044416 (.t 37) (.t 39)),
om 7 40]))))))
  (.pre [0,1,2,7,8] (.reg false [0,1,2,7,8] [] [om 20 8,
oi 21 .add 20 1,
om 8 21]))))))
def aoP:XC:=aBd
@[go_sem] theorem aSE(L:Lib)(cx:Cx)(env:Env)(h:Heap):bV L cx aoP (env,h)=bV L cx aBd (env,h):=rfl
def x150:gH:={ np:=3,isOpen:=false,ns:=2,res:=[.tmp 6],code :=
 (sr [0,1,2] [oo 6 (.dx (.c .bO))]
  (sr [0,1,2,7] [om 10 0,
oi 11 .add 10 1,
oo 12 (.mk 1 1 (.int .i64 0) 17592186044416 (ci 0) (.t 11)),
om 7 12]
  (.seq (sr [0,1,2,7,8] [mi 8 0]
  (.blk 0
  (.loop aoP)))
  (.pre [7] (sr [6] [om 41 7,
om 6 41]
  (.pre [6] .ret)))))) }
def x151:gH:={ np:=3,isOpen:=false,ns:=0,res:=[.tmp 4],code :=
 (sr [0,1,2] [mi 4 0]
  (.seq (.reg true [4] [] [⟨some 5,none,[.box 1],.load .one (.t 1)⟩,
om 6 0,
oc 7 152 [.t 5,.t 6],
⟨some 8,none,[.box 2],.load .one (.t 2)⟩,
om 9 0,
oc 10 152 [.t 8,.t 9],
ob 11 .add 7 10,
om 4 11])
  (.pre [4] .ret))) }
def x152:gH:={ np:=2,isOpen:=false,ns:=0,res:=[.tmp 4],code :=
 (sr [0,1] [mi 4 0]
  (.seq (sr [0,1,8] [om 5 1,
om 6 0,
on 7 6,
ob 8 .lss 5 7]
  (.cond (.t 8)
  (sr [4] [om 9 0,
om 10 1,
os 11 1 9 10,
ol 12 11,
om 4 12]
  (.pre [4] .ret))
  .skip))
  (.pre [] (sr [4] [mi 4 0]
  (.pre [4] .ret))))) }
def x153:gH:={ np:=3,isOpen:=false,ns:=0,res:=[.tmp 4],code :=
 (sr [0,1,2] [mi 4 0]
  (.seq (.reg true [4] [] [⟨some 5,none,[.box 1],.load .one (.t 1)⟩,
om 6 0,
oc 7 152 [.t 5,.t 6],
⟨some 8,none,[.box 2],.load .one (.t 2)⟩,
om 9 0,
oc 10 152 [.t 8,.t 9],
ob 11 .sub 7 10,
om 4 11])
  (.pre [4] .ret))) }
def amk:gH:={ np:=2,isOpen:=false,ns:=0,res:=[.tmp 4],code :=
 (sr [0,1] [mi 4 0]
  (sr [0,1,5] [om 7 0,
oc 8 178 [.t 7],
om 5 8]
  (sr [0,1,5,6] [om 9 1,
oc 10 178 [.t 9],
om 6 10]
  (.seq (sr [0,1,6,11] [om 11 5]
  (.cond (.t 11)
  (.seq (sr [12] [om 12 6]
  (.cond (.t 12)
  (sr [4] [mi 4 0]
  (.pre [4] .ret))
  .skip))
  (.pre [] (sr [4] [oo 4 (.dx (ci (-1)))]
  (.pre [4] .ret))))
  .skip))
  (.pre [0,1,6] (.seq (sr [0,1,13] [om 13 6]
  (.cond (.t 13)
  (sr [4] [mi 4 1]
  (.pre [4] .ret))
  .skip))
  (.pre [0,1] (.seq (sr [0,1,16] [om 14 0,
om 15 1,
ob 16 .lss 14 15]
  (.cond (.t 16)
  (sr [4] [oo 4 (.dx (ci (-1)))]
  (.pre [4] .ret))
  .skip))
  (.pre [0,1] (.seq (sr [19] [om 17 0,
om 18 1,
ob 19 .gtr 17 18]
  (.cond (.t 19)
  (sr [4] [mi 4 1]
  (.pre [4] .ret))
  .skip))
  (.pre [] (sr [4] [mi 4 0]
  (.pre [4] .ret))))))))))))) }
def x157:gH:={ np:=3,isOpen:=false,ns:=2,res:=[.cell 6 (.agg 2),.tmp 7],code :=
 (sr [0,4,5,6] [oo 4 (.nK (.t 1)),
oo 5 (.nK (.t 2)),
oo 6 (.alloc 1 [.str [],.str []]),
mi 7 0]
  (sr [0,4,5,6,8] [oo 10 (.build [.bool false] []),
oo 11 (.box 0 (.t 10)),
om 8 11]
  (sr [0,4,5,6,8] [om 12 8,
oa 13 2 4,
oa 14 2 5,
oo 15 (.pF 2 (.agg [.str [],.str []]) 2 [(0,(.t 13)),(1,(.t 14))]),
oc 16 122 [.t 12,.t 15]]
  (.seq (.reg true [4,5,6,8,9] [] [om 17 8,
om 18 0,
om 19 8,
op 20 4 0,
⟨some 21,none,[.closed 20],.load .one (.t 20)⟩,
op 22 5 1,
⟨some 23,none,[.closed 22],.load .one (.t 22)⟩,
oc 24 124 [.t 19,.t 21,.t 23],
om 25 8,
op 26 5 0,
⟨some 27,none,[.closed 26],.load .one (.t 26)⟩,
op 28 4 1,
⟨some 29,none,[.closed 28],.load .one (.t 28)⟩,
oc 30 124 [.t 25,.t 27,.t 29],
oc 31 125 [.t 17,.t 18,.t 24,.t 30],
om 9 31])
  (sr [6,7] [om 32 8,
om 33 9,
om 34 8,
op 35 4 1,
ol 36 35,
op 37 5 1,
ol 38 37,
oc 39 124 [.t 34,.t 36,.t 38],
oc 40 103 [.t 32,.t 33,.t 39],
ox 41 40 0,
ox 42 40 1,
st 2 6 41,
om 7 42]
  (.pre [6,7] .ret)))))) }
def atY:gH:={ np:=2,isOpen:=false,ns:=2,res:=[.tmp 4,.tmp 5],code :=
 (sr [0,1] [oo 4 (.dx (.c (.str []))),
mi 5 0]
  (sr [6,7,8] [om 10 0,
om 11 1,
oc 12 109 [.t 10,.t 11],
om 9 12,
ox 13 9 0,
ox 14 9 1,
ox 15 9 2,
oo 6 (.alloc 0 [.bool false,.bO]),
oo 7 (.alloc 1 [.bool false,.bO]),
st 2 6 13,
st 2 7 14,
om 8 15]
  (.seq (sr [6,7,17] [om 16 8,
oo 17 (.un .not (.t 16))]
  (.cond (.t 17)
  (sr [4,5] [oo 4 (.dx (.c (.str []))),
mi 5 30]
  (.pre [4,5] .ret))
  .skip))
  (.pre [6,7] (.seq (.reg true [4,5] [] [op 18 6 0,
⟨some 19,none,[.box 18],.load .one (.t 18)⟩,
op 20 7 0,
⟨some 21,none,[.box 20],.load .one (.t 20)⟩,
oo 22 (.eqv true [] (.t 19) (.t 21)),
op 23 6 1,
⟨some 24,none,[.box 23],.load .one (.t 23)⟩,
op 25 7 1,
⟨some 26,none,[.box 25],.load .one (.t 25)⟩,
oc 27 181 [.t 24,.t 26],
oo 28 (.build [.bool false,.bO] [(0,1,(.t 22)),(1,1,(.t 27))]),
oc 29 114 [.t 28],
ox 30 29 0,
ox 31 29 1,
om 4 30,
om 5 31])
  (.pre [4,5] .ret)))))) }
def aml:gH:={ np:=2,isOpen:=false,ns:=1,res:=[.cell 4 (.agg 2)],code :=
 (sr [2,3,4] [oo 2 (.nK (.t 0)),
oo 3 (.nK (.t 1)),
oo 4 (.alloc 0 [.bool false,.bO])]
  (.seq (.blk 0
  (sr [2,3,4,5] [op 6 2 0,
ol 7 6,
op 8 3 0,
ol 9 8,
oo 10 (.eqv false [] (.t 7) (.t 9)),
om 5 10]
  (.cond (.t 5)
  (.seq (.reg true [4] [] [op 11 2 0,
⟨some 12,none,[.box 11],.load .one (.t 11)⟩,
op 13 2 1,
⟨some 14,none,[.box 13],.load .one (.t 13)⟩,
op 15 3 1,
⟨some 16,none,[.box 15],.load .one (.t 15)⟩,
oc 17 111 [.t 14,.t 16],
oo 18 (.build [.bool false,.bO] [(0,1,(.t 12)),(1,1,(.t 17))]),
⟨none,none,[.box 4],.store 2 (.t 4) (.t 18)⟩])
  (.pre [4] .ret))
  (sr [2,3,4,19] [op 20 2 1,
ol 21 20,
op 22 3 1,
ol 23 22,
oc 24 115 [.t 21,.t 23],
oi 25 .geq 24 0,
om 19 25]
  (.cond (.t 19)
  (.seq (.reg true [4] [] [op 26 2 0,
⟨some 27,none,[.box 26],.load .one (.t 26)⟩,
op 28 2 1,
⟨some 29,none,[.box 28],.load .one (.t 28)⟩,
op 30 3 1,
⟨some 31,none,[.box 30],.load .one (.t 30)⟩,
oc 32 113 [.t 29,.t 31],
oo 33 (.build [.bool false,.bO] [(0,1,(.t 27)),(1,1,(.t 32))]),
⟨none,none,[.box 4],.store 2 (.t 4) (.t 33)⟩])
  (.pre [4] .ret))
  .skip)))))
  (.pre [2,3,4] (.seq (.reg true [4] [] [op 34 3 0,
⟨some 35,none,[.box 34],.load .one (.t 34)⟩,
op 36 3 1,
⟨some 37,none,[.box 36],.load .one (.t 36)⟩,
op 38 2 1,
⟨some 39,none,[.box 38],.load .one (.t 38)⟩,
oc 40 113 [.t 37,.t 39],
oo 41 (.build [.bool false,.bO] [(0,1,(.t 35)),(1,1,(.t 40))]),
⟨none,none,[.box 4],.store 2 (.t 4) (.t 41)⟩])
  (.pre [4] .ret))))) }
def atZ:gH:={ np:=2,isOpen:=false,ns:=0,res:=[.tmp 4,.tmp 5],code :=
 (sr [0,1] [oo 4 (.dx (.c (.str []))),
mi 5 0]
  (sr [6,8] [om 10 0,
om 11 1,
oc 12 81 [.t 10,.t 11],
om 9 12,
ox 13 9 0,
ox 14 9 1,
ox 15 9 2,
om 6 13,
om 7 14,
om 8 15]
  (sr [4,5] [om 16 6,
om 17 8,
om 4 16,
om 5 17]
  (.pre [4,5] .ret)))) }
@[go_sem] def aJc:XC:=(.pre [0,4,5,6]
 (.seq (sr [0,4,5,6,21] [om 16 6,
oi 17 .geq 16 0,
om 18 17,
gm 19 18 true 0,
og 20 18 true (.bin .neq (.t 19) (.c (.str [48]))),
pf 21 18 20]
  (.cond (.t 21)
  .skip
  (.pre [4,5] (.exit 0))))
  (.pre [0,4,5,6] (.seq (.blk 1
  (.reg false [0,4,5,6] [] [om 24 5,
om 25 0,
om 26 6,
oo 27 (.Oa (.t 25) (.t 26)),
oo 28 (.bin .sub (.t 27) (.c (.int .u8 48))),
oo 29 (.conv .i64 (.t 28)),
oo 30 (.pF 1 (.int .i64 0) 1 [(0,(.t 29))]),
oo 31 (.app 0 1 17592186044416 (.t 24) (.t 30)),
om 5 31]))
  (.pre [0,4,5,6] (.reg false [0,4,5,6] [] [om 22 6,
oi 23 .sub 22 1,
om 6 23]))))))
def aJd:XC:=aJc
def x167:gH:={ np:=1,isOpen:=false,ns:=1,res:=[.tmp 2,.tmp 3],code :=
 (sr [0] [oo 2 (.dx (.c (.bool false))),
oo 3 (.dx (.c .bO))]
  (sr [0,4] [om 7 0,
oo 8 (.Oa (.t 7) (ci 0)),
oo 9 (.bin .eql (.t 8) (.c (.int .u8 45))),
om 4 9]
  (.seq (sr [0,4,10] [om 10 4]
  (.cond (.t 10)
  (.reg false [0,4] [] [om 11 0,
oo 12 (.slice none (.t 11) (some (ci 1)) none),
om 0 12])
  .skip))
  (.pre [0,4] (sr [0,4,5] [oo 5 (.dx (.c .bO))]
  (.seq (sr [0,4,5,6] [om 13 0,
oo 14 (.len true (.t 13)),
oi 15 .sub 14 1,
om 6 15]
  (.blk 0
  (.loop aJd)))
  (.pre [4,5] (sr [2,3] [om 32 4,
om 33 5,
om 2 32,
om 3 33]
  (.pre [2,3] .ret))))))))) }
@[go_sem] def aJe:XC:=(.pre [0,1,5]
 (.seq (sr [0,1,5,20] [om 19 5,
oi 20 .geq 19 0]
  (.cond (.t 20)
  .skip
  (.pre [] (.exit 0))))
  (.pre [0,1,5] (.seq (.blk 1
  (.seq (.reg true [0,1,5,31] [] [om 23 0,
om 24 5,
os 25 1 23 24,
⟨some 26,none,[.elem 25],.load .one (.t 25)⟩,
om 27 1,
om 28 5,
os 29 1 27 28,
⟨some 30,none,[.elem 29],.load .one (.t 29)⟩,
ob 31 .neq 26 30])
  (.cond (.t 31)
  (.seq (.seq (.reg true [40] [] [om 32 0,
om 33 5,
os 34 1 32 33,
⟨some 35,none,[.elem 34],.load .one (.t 34)⟩,
om 36 1,
om 37 5,
os 38 1 36 37,
⟨some 39,none,[.elem 38],.load .one (.t 38)⟩,
ob 40 .lss 35 39])
  (.cond (.t 40)
  (sr [4] [oo 4 (.dx (ci (-1)))]
  (.pre [4] .ret))
  .skip))
  (.pre [] (sr [4] [mi 4 1]
  (.pre [4] .ret))))
  .skip)))
  (.pre [0,1,5] (.reg false [0,1,5] [] [om 21 5,
oi 22 .sub 21 1,
om 5 22]))))))
def aJf:XC:=aJe
def x168:gH:={ np:=2,isOpen:=false,ns:=0,res:=[.tmp 4],code :=
 (sr [0,1] [mi 4 0]
  (.seq (sr [0,1,10] [om 6 0,
on 7 6,
om 8 1,
on 9 8,
ob 10 .neq 7 9]
  (.cond (.t 10)
  (.seq (sr [15] [om 11 0,
on 12 11,
om 13 1,
on 14 13,
ob 15 .lss 12 14]
  (.cond (.t 15)
  (sr [4] [oo 4 (.dx (ci (-1)))]
  (.pre [4] .ret))
  .skip))
  (.pre [] (sr [4] [mi 4 1]
  (.pre [4] .ret))))
  .skip))
  (.pre [0,1] (.seq (sr [0,1,5] [om 16 0,
on 17 16,
oi 18 .sub 17 1,
om 5 18]
  (.blk 0
  (.loop aJf)))
  (.pre [] (sr [4] [mi 4 0]
  (.pre [4] .ret))))))) }
def aJg:gH:={ np:=4,isOpen:=false,ns:=0,res:=[.tmp 8,.tmp 9],code :=
 (sr [0,1,2,3] [oo 8 (.dx (.c (.str []))),
mi 9 0]
  (sr [0,1,2,3,10] [om 12 0,
om 10 12]
  (sr [0,1,2,3,10] [oo 11 (.dx (.c .bO))]
  (.seq (sr [1,2,3,10,15] [om 13 0,
om 14 2,
oo 15 (.eqv false [] (.t 13) (.t 14))]
  (.cond (.t 15)
  (.reg false [10,11] [] [om 16 1,
om 17 3,
oc 18 172 [.t 16,.t 17],
om 11 18])
  (sr [1,2,3,10,22] [om 19 1,
om 20 3,
oc 21 168 [.t 19,.t 20],
oi 22 .geq 21 0]
  (.cond (.t 22)
  (.reg false [10,11] [] [om 23 1,
om 24 3,
oc 25 173 [.t 23,.t 24],
om 11 25])
  (sr [1,3,10] [om 26 2,
om 10 26]
  (.reg false [10,11] [] [om 27 3,
om 28 1,
oc 29 173 [.t 27,.t 28],
om 11 29]))))))
  (.pre [10,11] (sr [8,9] [om 30 10,
om 31 11,
oc 32 171 [.t 30,.t 31],
ox 33 32 0,
ox 34 32 1,
om 8 33,
om 9 34]
  (.pre [8,9] .ret))))))) }
@[go_sem] def aJh:XC:=(.pre [0,1,6,7,8]
 (.seq (sr [0,1,6,7,8,30] [om 27 7,
om 28 1,
oc 29 168 [.t 27,.t 28],
oi 30 .geq 29 0]
  (.cond (.t 30)
  .skip
  (.pre [0,1,6,7,8] (.exit 2))))
  (.pre [0,1,6,7,8] (.blk 3
  (sr [0,1,6,7,8] [om 31 7,
om 32 1,
oc 33 173 [.t 31,.t 32],
om 7 33]
  (.reg false [0,1,6,7,8] [] [om 34 6,
om 35 8,
os 36 1 34 35,
ol 37 36,
oi 38 .add 37 1,
os 39 1 34 35,
st 1 39 38]))))))
def aJi:XC:=aJh
@[go_sem] def aJj:XC:=(.pre [0,1,6,7,8]
 (.seq (sr [0,1,6,7,8,16] [om 15 8,
oi 16 .geq 15 0]
  (.cond (.t 16)
  .skip
  (.pre [6,7] (.exit 0))))
  (.pre [0,1,6,7,8] (.seq (.blk 1
  (sr [0,1,6,7,8] [om 19 0,
om 20 8,
os 21 1 19 20,
ol 22 21,
oo 23 (.pF 1 (.int .i64 0) 1 [(0,(.t 22))]),
om 24 7,
oo 25 (.app 1002 1 17592186044416 (.t 23) (.t 24)),
oc 26 194 [.t 25],
om 7 26]
  (.blk 2
  (.loop aJi))))
  (.pre [0,1,6,7,8] (.reg false [0,1,6,7,8] [] [om 17 8,
oi 18 .sub 17 1,
om 8 18]))))))
def aJk:XC:=aJj
def aJl:gH:={ np:=2,isOpen:=false,ns:=5,res:=[.tmp 4,.tmp 5],code :=
 (sr [0,1] [oo 4 (.dx (.c .bO)),
oo 5 (.dx (.c .bO))]
  (sr [0,1,6] [om 9 0,
on 10 9,
oo 11 (.mk 4 1 (.int .i64 0) 17592186044416 (.t 10) (.t 10)),
om 6 11]
  (sr [0,1,6,7] [oo 7 (.dx (.c .bO))]
  (.seq (sr [0,1,6,7,8] [om 12 0,
on 13 12,
oi 14 .sub 13 1,
om 8 14]
  (.blk 0
  (.loop aJk)))
  (.pre [6,7] (sr [4,5] [om 40 6,
oc 41 194 [.t 40],
om 42 7,
om 4 41,
om 5 42]
  (.pre [4,5] .ret))))))) }
def aJm:gH:={ np:=2,isOpen:=false,ns:=0,res:=[.tmp 4,.tmp 5],code :=
 (sr [0,1] [oo 4 (.dx (.c (.str []))),
mi 5 0]
  (sr [6,7] [om 9 0,
om 10 1,
oc 11 143 [.t 9,.t 10],
om 8 11,
ox 12 8 0,
ox 13 8 1,
om 6 12,
om 7 13]
  (.seq (sr [6,15] [om 14 7,
oo 15 (.un .not (.t 14))]
  (.cond (.t 15)
  (sr [4,5] [oo 4 (.dx (.c (.str []))),
mi 5 30]
  (.pre [4,5] .ret))
  .skip))
  (.pre [6] (sr [4,5] [om 16 6,
om 4 16,
mi 5 0]
  (.pre [4,5] .ret)))))) }
@[go_sem] def aJn:XC:=(.pre [0,1,5,6,7]
 (.seq (sr [0,1,5,6,7,22] [om 9 7,
om 10 0,
on 11 10,
ob 12 .lss 9 11,
om 13 12,
gm 14 13 false 7,
gm 15 13 false 1,
og 16 13 false (.len false (.t 15)),
gb 17 13 false .lss 14 16,
kT 18 13 17,
om 19 18,
gm 20 19 false 6,
og 21 19 false (.bin .gtr (.t 20) (ci 0)),
kT 22 19 21]
  (.cond (.t 22)
  .skip
  (.pre [5] (.exit 0))))
  (.pre [0,1,5,6,7] (.seq (.blk 1
  (sr [0,1,5,7,8] [om 25 6,
om 8 25]
  (.seq (sr [0,1,5,7,8,29] [om 26 7,
om 27 0,
on 28 27,
ob 29 .lss 26 28]
  (.cond (.t 29)
  (.reg false [0,1,5,7,8] [] [om 30 8,
om 31 0,
om 32 7,
os 33 1 31 32,
ol 34 33,
ob 35 .add 30 34,
om 8 35])
  .skip))
  (.pre [0,1,5,7,8] (.seq (sr [0,1,5,7,8,39] [om 36 7,
om 37 1,
on 38 37,
ob 39 .lss 36 38]
  (.cond (.t 39)
  (.reg false [0,1,5,7,8] [] [om 40 8,
om 41 1,
om 42 7,
os 43 1 41 42,
ol 44 43,
ob 45 .add 40 44,
om 8 45])
  .skip))
  (.pre [0,1,5,7,8] (sr [0,1,5,7,8] [om 46 5,
om 47 8,
oi 48 .rem 47 10,
oo 49 (.pF 1 (.int .i64 0) 1 [(0,(.t 48))]),
oo 50 (.app 0 1 17592186044416 (.t 46) (.t 49)),
om 5 50]
  (.reg false [0,1,5,6,7] [] [om 51 8,
oi 52 .quo 51 10,
om 6 52]))))))))
  (.pre [0,1,5,6,7] (.reg false [0,1,5,6,7] [] [om 23 7,
oi 24 .add 23 1,
om 7 24]))))))
def aJo:XC:=aJn
def aJp:gH:={ np:=2,isOpen:=false,ns:=1,res:=[.tmp 4],code :=
 (sr [0,1] [oo 4 (.dx (.c .bO))]
  (sr [0,1,5] [oo 5 (.dx (.c .bO))]
  (sr [0,1,5,6] [mi 6 0]
  (.seq (sr [0,1,5,6,7] [mi 7 0]
  (.blk 0
  (.loop aJo)))
  (.pre [5] (sr [4] [om 53 5,
om 4 53]
  (.pre [4] .ret))))))) }
@[go_sem] def aJq:XC:=(.pre [0,1,5,6,7]
 (.seq (sr [0,1,5,6,7,12] [om 9 7,
om 10 0,
on 11 10,
ob 12 .lss 9 11]
  (.cond (.t 12)
  .skip
  (.pre [5] (.exit 0))))
  (.pre [0,1,5,6,7] (.seq (.blk 1
  (sr [0,1,5,7,8] [om 15 0,
om 16 7,
os 17 1 15 16,
ol 18 17,
om 19 6,
ob 20 .sub 18 19,
om 8 20]
  (.seq (sr [0,1,5,7,8,24] [om 21 7,
om 22 1,
on 23 22,
ob 24 .lss 21 23]
  (.cond (.t 24)
  (.reg false [0,1,5,7,8] [] [om 25 8,
om 26 1,
om 27 7,
os 28 1 26 27,
ol 29 28,
ob 30 .sub 25 29,
om 8 30])
  .skip))
  (.pre [0,1,5,7,8] (sr [0,1,5,6,7,8] [mi 6 0]
  (.seq (sr [0,1,5,6,7,8,32] [om 31 8,
oi 32 .lss 31 0]
  (.cond (.t 32)
  (sr [0,1,5,7,8] [om 33 8,
oi 34 .add 33 10,
om 8 34]
  (.reg false [0,1,5,6,7,8] [] [mi 6 1]))
  .skip))
  (.pre [0,1,5,6,7,8] (.reg false [0,1,5,6,7] [] [om 35 5,
om 36 8,
oo 37 (.pF 1 (.int .i64 0) 1 [(0,(.t 36))]),
oo 38 (.app 1 1 17592186044416 (.t 35) (.t 37)),
om 5 38]))))))))
  (.pre [0,1,5,6,7] (.reg false [0,1,5,6,7] [] [om 13 7,
oi 14 .add 13 1,
om 7 14]))))))
def aJr:XC:=aJq
def aJs:gH:={ np:=2,isOpen:=false,ns:=2,res:=[.tmp 4],code :=
 (sr [0,1] [oo 4 (.dx (.c .bO))]
  (sr [0,1,5] [oo 5 (.dx (.c .bO))]
  (sr [0,1,5,6] [mi 6 0]
  (.seq (sr [0,1,5,6,7] [mi 7 0]
  (.blk 0
  (.loop aJr)))
  (.pre [5] (sr [4] [om 39 5,
oc 40 194 [.t 39],
om 4 40]
  (.pre [4] .ret))))))) }
@[go_sem] def aBe:XC:=(.pre [0,1,3]
 (.seq (sr [0,1,3,8] [om 7 3,
oi 8 .geq 7 0]
  (.cond (.t 8)
  .skip
  (.pre [] (.exit 0))))
  (.pre [0,1,3] (.seq (.blk 1
  (sr [0,1,3,18] [om 11 0,
om 12 3,
ol 13 1,
om 14 3,
os 15 1 13 14,
ol 16 15,
oo 17 (.call (.t 11) [.t 12,.t 16] []),
oo 18 (.un .not (.t 17))]
  (.cond (.t 18)
  (.pre [] .ret)
  .skip)))
  (.pre [0,1,3] (.reg false [0,1,3] [] [om 9 3,
oi 10 .sub 9 1,
om 3 10]))))))
def at0:XC:=aBe
@[go_sem] theorem aSF(L:Lib)(cx:Cx)(env:Env)(h:Heap):bV L cx at0 (env,h)=bV L cx aBe (env,h):=rfl
def akw:gH:={ np:=2,isOpen:=true,ns:=0,res:=[],code :=
 (sr [0,1,3] [ol 4 1,
on 5 4,
oi 6 .sub 5 1,
om 3 6]
  (.blk 0
  (.loop at0))) }
def at5:gH:={ np:=3,isOpen:=false,ns:=0,res:=[.tmp 4],code :=
 (sr [0,1,2] [mi 4 0]
  (.seq (.reg true [4] [] [⟨some 5,none,[.box 1],.load .one (.t 1)⟩,
om 6 0,
oc 7 152 [.t 5,.t 6],
⟨some 8,none,[.box 2],.load .one (.t 2)⟩,
ob 9 .mul 7 8,
om 4 9])
  (.pre [4] .ret))) }
def at6:gH:={ np:=1,isOpen:=false,ns:=0,res:=[.tmp 2],code :=
 (sr [0] [oo 2 (.dx (.c (.bool false)))]
  (sr [2] [om 3 0,
om 4 0,
ob 5 .neq 3 4,
om 2 5]
  (.pre [2] .ret))) }
def r12:DU:={ ps:=[10,11],xQ:=(.reg false [2,5,7] [] [om 7 11]),body :=
 (.blk 1
  (.seq (sr [2,5,7,14] [ol 12 5,
on 13 12,
oi 14 .gtr 13 0]
  (.cond (.t 14)
  (.reg false [2,5,7] [] [oo 15 (.pF 1 (.int .i64 0) 1 [(0,(ci 0))]),
ol 16 5,
oo 17 (.app 1001 1 17592186044416 (.t 15) (.t 16)),
st 1 5 17])
  .skip))
  (.pre [2,5,7] (.reg true [] [] [⟨some 18,none,[.box 5],.load .one (.t 5)⟩,
⟨some 19,none,[.box 2],.load .one (.t 2)⟩,
om 20 7,
oc 21 147 [.t 19,.t 20],
oc 22 111 [.t 18,.t 21],
⟨none,none,[.box 5],.store 1 (.t 5) (.t 22)⟩])))) }
def aoQ:gH:={ np:=2,isOpen:=false,ns:=3,res:=[.tmp 4],code :=
 (sr [1,2,4] [oo 2 (.nK (.t 0)),
oo 4 (.dx (.c .bO))]
  (sr [1,2,4,5] [oo 5 (.alloc 2 [.bO])]
  (.seq (sr [2,4,5,9] [om 8 1,
oc 9 145 [.t 8]]
  (.blk 0
  (.Gm 0 (.t 9) 12)))
  (.pre [5] (sr [4] [ol 23 5,
om 4 23]
  (.pre [4] .ret)))))) }
@[go_sem] def aJt:XC:=(.pre [0]
 (.seq (sr [0,14] [om 3 0,
on 4 3,
oi 5 .gtr 4 0,
om 6 5,
gm 7 6 true 0,
gm 8 6 true 0,
og 9 6 true (.len false (.t 8)),
og 10 6 true (.bin .sub (.t 9) (ci 1)),
JP 11 6 true 1 7 10,
rZ 12 6 true 11,
og 13 6 true (.bin .eql (.t 12) (ci 0)),
pf 14 6 13]
  (.cond (.t 14)
  .skip
  (.pre [0] (.exit 0))))
  (.pre [0] (.blk 1
  (.reg false [0] [] [om 15 0,
om 16 0,
on 17 16,
oi 18 .sub 17 1,
oo 19 (.slice (some 1) (.t 15) none (some (.t 18))),
om 0 19])))))
def aJu:XC:=aJt
def aJv:gH:={ np:=1,isOpen:=false,ns:=0,res:=[.tmp 2],code :=
 (sr [0] [oo 2 (.dx (.c .bO))]
  (.seq (.blk 0
  (.loop aJu))
  (.pre [0] (sr [2] [om 20 0,
om 2 20]
  (.pre [2] .ret))))) }
def rdT:List (Option DU):=[some r0,some r1,some r2,some r3,some r4,some r5,some r6,some r7,some r8,some r9,some r10,some r11,some r12]
def qR(g:Nat):Option DU:=(rdT[g]?).getD none
def fnT:List (Option gH):=[none,none,none,none,none,some x5,none,none,none,some x9,none,some x11,some x12,none,some x14,none,some x16,some x17,some x18,none,some x20,none,some ZK,some x23,some x24,some x25,some x26,none,some x28,some x29,none,some x31,some x32,some x33,some x34,some x35,some x36,some x37,none,some x39,none,some x41,some x42,none,none,some x45,some x46,some x47,some x48,some x49,some x50,some x51,some x52,some x53,some x54,some x55,some x56,some x57,some x58,some x59,some x60,none,none,some x63,some x64,some x65,some x66,some x67,some x68,some x69,some x70,none,none,some x73,some x74,none,none,none,some x78,none,some x80,some x81,some x82,none,none,some x85,some x86,some x87,some x88,some x89,some x90,some x91,some x92,some x93,some x94,some x95,some x96,some x97,some x98,some x99,some x100,some x101,some x102,some x103,none,some x105,none,some x107,some aIW,some atC,some atE,some atF,some x112,some x113,some x114,some x115,some aoM,none,some ajd,some atI,some aIX,some aIY,some atJ,none,some aje,some ajf,some aIZ,some ZL,some acn,some aI0,some atK,some atL,some akq,some akr,some ajg,some atM,some atN,none,some aI3,some aI4,some aI5,some aI8,some aI9,some aJb,some atP,some atQ,some aco,some atT,some atU,some atX,some x150,some x151,some x152,some x153,none,none,some amk,some x157,none,none,none,some atY,some aml,none,none,some atZ,none,some x167,some x168,some aJg,some aJl,some aJm,some aJp,some aJs,none,some akw,some at5,none,some at6,none,none,some aoQ,none,none,none,none,none,none,none,none,none,none,none,none,some aJv]
def FJ(f:Nat):Option gH:=(fnT[f]?).getD none
def eB(f:Nat):Bool:=[3,4,5,6,7,8,9,10,11,12,13,14,15,16,17,18,19,20,21,22,23,24,25,26,27,28,29,30,31,32,33,34,35,36,37,38,39,40,41,42,43,44,45,46,47,48,49,50,51,52,53,54,55,56,57,58,59,60,61,62,63,64,65,66,67,70,71,72,73,74,75,76,77,78,79,80,81,82,84,85,86,87,88,90,91,92,93,94,95,97,98,102,105,106,107,108,109,110,111,112,113,114,115,116,117,119,120,121,126,129,130,131,133,134,135,138,139,140,141,142,143,144,145,146,147,148,149,150,151,152,153,156,157,161,162,165,167,168,169,170,171,172,173,176,178,181,194,5096,5118,104,123,163,164,174].contains f
def kinds(f:Nat):Option OK:=match f with|104=>some .itoa|123=>some .ako|163=>some .trimPrefix|164=>some .trim|174=>some (.atoi 243)|_=>none
def lib:Lib:={ FJ:=FJ,qR:=qR,IW:=ajb kinds,brw:=fun f=>([58]:List Nat).contains f }
end Go.VI.Dump
