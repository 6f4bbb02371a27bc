/-
  Texts T, KitA, KitB of this proof, joined.
-/
import Derived.Test.YthjlodlkpgjlkaaGreatProg
import Derived.KernelRfl
import Derived.IntWalk
import Derived.Test.YthjlodlkpgjlkaaGreatP7
set_option linter.unusedVariables false
namespace Go.Proofs.YthjlodlkpgjlkaaGreat
open Go.Abs
abbrev Zp7:MT:=⟨114,4,true,false⟩
abbrev Zpp:MT:=⟨3,119,false,true⟩
abbrev Zhg:MT:=⟨9,185,false,false⟩
abbrev Zfi:MT:=⟨9,186,false,false⟩
abbrev ZeR:MT:=⟨9,3,false,false⟩
abbrev Zbl:MT:=⟨9,4,false,false⟩
def tab:Tab:=[
 ⟨2,false,[.int .i64],[],none,.int .i64,none,none⟩,
 ⟨3,false,[.int .i64],[],none,.int .i64,none,none⟩,
 ⟨4,false,[.bool],[],none,.bool,none,none⟩,
 ⟨5,false,[.int .u8],[],none,.int .u8,none,none⟩,
 ⟨6,false,[.int .u8],[],none,.int .u8,none,none⟩,
 ⟨7,true,[.int .i64,.int .i64,.bool,.int .u8],[(0,2),(1,3),(2,4),(3,6)],none,.oth,none,none⟩,
 ⟨8,true,[.int .i64,.int .i64,.bool,.int .u8],[(0,2),(1,3),(2,4),(3,6)],none,.oth,none,none⟩,
 ⟨9,false,[.str],[],none,.str,none,none⟩,
 ⟨10,false,[.str],[],none,.str,none,none⟩,
 ⟨11,false,[.str],[],none,.str,none,none⟩,
 ⟨12,false,[.int .u64],[],none,.int .u64,none,none⟩,
 ⟨13,true,[.str,.int .u64],[(0,9),(1,12)],none,.oth,none,none⟩,
 ⟨14,true,[.str,.int .u64],[(0,9),(1,12)],none,.oth,none,none⟩,
 ⟨15,false,[.oth],[],none,.oth,none,none⟩,
 ⟨16,false,[.oth],[],none,.oth,none,none⟩,
 ⟨17,false,[.oth],[],none,.oth,none,none⟩,
 ⟨18,true,[.oth],[(0,17)],none,.oth,none,none⟩,
 ⟨19,true,[.oth],[(0,17)],none,.oth,none,none⟩,
 ⟨21,false,[.int .i32],[],none,.int .i32,none,none⟩,
 ⟨22,false,[.sl 74],[],some 74,.sl 74,none,none⟩,
 ⟨23,false,[.sl 25],[],some 25,.sl 25,none,none⟩,
 ⟨24,true,[.str,.bool,.sl 25],[(0,9),(1,4),(2,23)],none,.oth,none,none⟩,
 ⟨25,true,[.str,.bool,.sl 25],[(0,9),(1,4),(2,23)],none,.oth,none,none⟩,
 ⟨26,false,[.int .i64],[],none,.int .i64,none,none⟩,
 ⟨37,false,[.sl 95],[],some 95,.sl 95,none,none⟩,
 ⟨38,false,[.sl 3],[],some 3,.sl 3,none,none⟩,
 ⟨43,false,[.sl 48],[],some 48,.sl 48,none,none⟩,
 ⟨47,true,[.str,.str,.bool,.sl 25],[(0,9),(1,25)],none,.oth,none,none⟩,
 ⟨48,true,[.str,.str,.bool,.sl 25],[(0,9),(1,25)],none,.oth,none,none⟩,
 ⟨51,false,[.sl 116],[],some 116,.sl 116,none,none⟩,
 ⟨52,false,[.sl 172],[],some 172,.sl 172,none,none⟩,
 ⟨53,false,[.sl 177],[],some 177,.sl 177,none,none⟩,
 ⟨54,true,[.int .i64,.sl 116,.int .i64,.sl 172,.int .i64,.sl 177],[(0,3),(1,51),(2,3),(3,52),(4,3),(5,53)],none,.oth,none,none⟩,
 ⟨55,true,[.int .i64,.sl 116,.int .i64,.sl 172,.int .i64,.sl 177],[(0,3),(1,51),(2,3),(3,52),(4,3),(5,53)],none,.oth,none,none⟩,
 ⟨56,false,[.sl 114],[],some 114,.sl 114,none,none⟩,
 ⟨60,true,[.str,.bool,.sl 25,.str,.bool,.sl 25,.str,.bool,.sl 25],[],none,.oth,some (3,25),none⟩,
 ⟨66,true,[.str,.bool,.sl 25,.str,.bool,.sl 25],[(0,25),(3,25)],none,.oth,none,none⟩,
 ⟨67,true,[.str,.bool,.sl 25,.str,.bool,.sl 25],[(0,25),(3,25)],none,.oth,none,none⟩,
 ⟨73,true,[.str,.int .i64,.sl 3],[(0,9),(1,3),(2,38)],none,.oth,none,none⟩,
 ⟨74,true,[.str,.int .i64,.sl 3],[(0,9),(1,3),(2,38)],none,.oth,none,none⟩,
 ⟨83,false,[.sl 9],[],some 9,.sl 9,none,none⟩,
 ⟨94,true,[.str,.bool,.sl 25,.str,.bool,.sl 25],[(0,25),(3,25)],none,.oth,none,none⟩,
 ⟨95,true,[.str,.bool,.sl 25,.str,.bool,.sl 25],[(0,25),(3,25)],none,.oth,none,none⟩,
 ⟨103,false,[.oth],[],none,.oth,none,none⟩,
 ⟨113,true,[.str,.int .i64],[(0,9),(1,3)],none,.oth,none,none⟩,
 ⟨114,true,[.str,.int .i64],[(0,9),(1,3)],none,.oth,none,none⟩,
 ⟨115,true,[.str,.int .i64,.int .i64],[(0,9),(1,3),(2,3)],none,.oth,none,none⟩,
 ⟨116,true,[.str,.int .i64,.int .i64],[(0,9),(1,3),(2,3)],none,.oth,none,none⟩,
 ⟨119,true,[.bool,.bool,.bool,.bool],[],none,.oth,some (4,4),none⟩,
 ⟨120,false,[.mp Zpp],[],none,.mp Zpp,none,some Zpp⟩,
 ⟨134,false,[.oth],[],none,.oth,none,none⟩,
 ⟨135,true,[.str,.int .i64,.sl 9,.int .i64],[(0,9),(1,3),(2,83),(3,3)],none,.oth,none,none⟩,
 ⟨136,true,[.str,.int .i64,.sl 9,.int .i64],[(0,9),(1,3),(2,83),(3,3)],none,.oth,none,none⟩,
 ⟨141,false,[.sl 38],[],some 38,.sl 38,none,none⟩,
 ⟨149,false,[.mp ZeR],[],none,.mp ZeR,none,some ZeR⟩,
 ⟨155,false,[.sl 37],[],some 37,.sl 37,none,none⟩,
 ⟨156,false,[.mp Zbl],[],none,.mp Zbl,none,some Zbl⟩,
 ⟨158,false,[.sl 4],[],some 4,.sl 4,none,none⟩,
 ⟨162,true,[.sl 116],[(0,51)],none,.oth,none,none⟩,
 ⟨163,true,[.sl 116],[(0,51)],none,.oth,none,none⟩,
 ⟨164,true,[.sl 116,.int .i64],[(0,51),(1,3)],none,.oth,none,none⟩,
 ⟨165,true,[.sl 116,.int .i64],[(0,51),(1,3)],none,.oth,none,none⟩,
 ⟨166,true,[.sl 172],[(0,52)],none,.oth,none,none⟩,
 ⟨167,true,[.sl 172],[(0,52)],none,.oth,none,none⟩,
 ⟨168,true,[.int .i64,.sl 177],[(0,3),(1,53)],none,.oth,none,none⟩,
 ⟨169,true,[.int .i64,.sl 177],[(0,3),(1,53)],none,.oth,none,none⟩,
 ⟨170,false,[.sl 206],[],some 206,.sl 206,none,none⟩,
 ⟨171,true,[.str,.sl 206],[(0,9),(1,170)],none,.oth,none,none⟩,
 ⟨172,true,[.str,.sl 206],[(0,9),(1,170)],none,.oth,none,none⟩,
 ⟨174,false,[.sl 186],[],some 186,.sl 186,none,none⟩,
 ⟨175,false,[.sl 185],[],some 185,.sl 185,none,none⟩,
 ⟨176,true,[.str,.sl 186,.sl 185],[(0,9),(1,174),(2,175)],none,.oth,none,none⟩,
 ⟨177,true,[.str,.sl 186,.sl 185],[(0,9),(1,174),(2,175)],none,.oth,none,none⟩,
 ⟨185,false,[.sl 174],[],some 174,.sl 174,none,none⟩,
 ⟨186,false,[.int .u64],[],none,.int .u64,none,none⟩,
 ⟨205,true,[.int .u64,.sl 3],[(0,186),(1,38)],none,.oth,none,none⟩,
 ⟨206,true,[.int .u64,.sl 3],[(0,186),(1,38)],none,.oth,none,none⟩,
 ⟨217,false,[.sl 5],[],some 5,.sl 5,none,none⟩,
 ⟨231,true,[.str,.bool,.sl 25,.str,.bool,.sl 25],[],none,.oth,some (2,25),none⟩,
 ⟨243,false,[.mp Zp7],[],none,.mp Zp7,none,some Zp7⟩,
 ⟨246,false,[.int .u64],[],none,.int .u64,none,none⟩,
 ⟨266,false,[.int .i64],[],none,.int .i64,none,none⟩,
 ⟨273,false,[.int .u32],[],none,.int .u32,none,none⟩,
 ⟨279,false,[.sl 170],[],some 170,.sl 170,none,none⟩,
 ⟨288,false,[.int .u64],[],none,.int .u64,none,none⟩,
 ⟨292,false,[.oth],[],none,.oth,none,none⟩,
 ⟨301,false,[.oth],[],none,.oth,none,none⟩,
 ⟨304,true,[.oth,.oth,.oth,.str],[(0,17),(1,17),(2,17),(3,9)],none,.oth,none,none⟩,
 ⟨305,true,[.oth,.oth,.oth,.str],[(0,17),(1,17),(2,17),(3,9)],none,.oth,none,none⟩,
 ⟨306,true,[],[],none,.oth,some (0,16),none⟩,
 ⟨307,true,[],[(0,306)],none,.oth,none,none⟩,
 ⟨308,true,[],[(0,306)],none,.oth,none,none⟩,
 ⟨310,false,[.int .u8],[],none,.int .u8,none,none⟩,
 ⟨311,false,[.int .u8],[],none,.int .u8,none,none⟩,
 ⟨313,false,[.oth],[],none,.oth,none,none⟩,
 ⟨314,false,[.int .i32],[],none,.int .i32,none,none⟩,
 ⟨315,false,[.int .i32],[],none,.int .i32,none,none⟩,
 ⟨319,false,[.sl 327],[],some 327,.sl 327,none,none⟩,
 ⟨321,false,[.oth],[],none,.oth,none,none⟩,
 ⟨322,true,[.sl 116,.sl 327,.sl 327,.sl 5,.sl 5],[(0,51),(1,319),(2,319),(3,217),(4,217)],none,.oth,none,none⟩,
 ⟨323,true,[.sl 116,.sl 327,.sl 327,.sl 5,.sl 5],[(0,51),(1,319),(2,319),(3,217),(4,217)],none,.oth,none,none⟩,
 ⟨326,true,[.str,.bool,.sl 25,.sl 3],[(0,25),(3,38)],none,.oth,none,none⟩,
 ⟨327,true,[.str,.bool,.sl 25,.sl 3],[(0,25),(3,38)],none,.oth,none,none⟩,
 ⟨330,false,[.mp Zfi],[],none,.mp Zfi,none,some Zfi⟩,
 ⟨331,false,[.mp Zfi],[],none,.mp Zfi,none,some Zfi⟩,
 ⟨335,false,[.oth],[],none,.oth,none,none⟩,
 ⟨342,false,[.oth],[],none,.oth,none,none⟩,
 ⟨343,true,[.sl 172,.sl 9],[(0,52),(1,83)],none,.oth,none,none⟩,
 ⟨344,true,[.sl 172,.sl 9],[(0,52),(1,83)],none,.oth,none,none⟩,
 ⟨351,false,[.sl 331],[],some 331,.sl 331,none,none⟩,
 ⟨363,false,[.mp Zhg],[],none,.mp Zhg,none,some Zhg⟩,
 ⟨364,true,[.sl 186,.mp Zhg],[(0,174),(1,363)],none,.oth,none,none⟩,
 ⟨365,true,[.sl 186,.mp Zhg],[(0,174),(1,363)],none,.oth,none,none⟩,
 ⟨370,false,[.oth],[],none,.oth,none,none⟩,
 ⟨371,true,[.int .i64,.sl 177,.bool],[(0,3),(1,53),(2,4)],none,.oth,none,none⟩,
 ⟨372,true,[.int .i64,.sl 177,.bool],[(0,3),(1,53),(2,4)],none,.oth,none,none⟩,
 ⟨379,false,[.oth],[],none,.oth,none,none⟩]
theorem tab_checked:tab.all (tiOk Tryz.prog tab)=true:=by kernel_rfl
theorem tab_ok:TabOk Tryz.prog tab:=tabOk_of tab_checked
abbrev ZU:Nat:=3
abbrev Zrf:Nat:=4
abbrev Zi7:Nat:=5
abbrev Za:Nat:=9
abbrev Zb:Nat:=25
abbrev Zfh:Nat:=37
abbrev Ze5:Nat:=38
abbrev Za0:Nat:=48
abbrev Zc:Nat:=74
abbrev Zd:Nat:=95
abbrev Ze:Nat:=114
abbrev Ze7:Nat:=174
abbrev Zgv:Nat:=185
abbrev Zhd:Nat:=186
abbrev Zn9:Nat:=206
abbrev ZqV:Nat:=327
abbrev Zf5:Nat:=3
abbrev ZgR:Nat:=4
abbrev Zfm:Nat:=5
abbrev Zg2:Nat:=9
abbrev ZdM:Nat:=10
abbrev ZfR:Nat:=11
abbrev ZbB:Nat:=12
abbrev ZbH:Nat:=13
abbrev ZfV:Nat:=14
abbrev Z2:Nat:=15
abbrev Zde:Nat:=16
abbrev ZfU:Nat:=17
abbrev ZbJ:Nat:=18
abbrev Zjf:Nat:=19
abbrev ZfS:Nat:=20
abbrev ZfB:Nat:=21
abbrev Zl2:Nat:=22
abbrev Zei:Nat:=23
abbrev ZaT:Nat:=24
abbrev Zfj:Nat:=33
abbrev Zax:Nat:=37
abbrev ZY:Nat:=38
abbrev Zek:Nat:=39
abbrev ZR:Nat:=40
abbrev Zfx:Nat:=41
abbrev ZdU:Nat:=42
abbrev ZaB:Nat:=43
abbrev Zfq:Nat:=44
abbrev ZfT:Nat:=45
abbrev Ze4:Nat:=46
abbrev Zin:Nat:=47
abbrev Zh5:Nat:=48
abbrev Zp3:Nat:=49
abbrev ZgN:Nat:=50
abbrev Zg8:Nat:=51
abbrev Zg7:Nat:=52
abbrev ZfE:Nat:=53
abbrev Zgd:Nat:=54
abbrev ZjP:Nat:=55
abbrev Zfk:Nat:=56
abbrev ZaM:Nat:=57
abbrev ZeH:Nat:=58
abbrev ZfZ:Nat:=59
abbrev Zhl:Nat:=60
abbrev ZeE:Nat:=61
abbrev Zil:Nat:=70
abbrev ZcO:Nat:=85
abbrev ZfO:Nat:=86
abbrev ZaC:Nat:=87
abbrev Zdg:Nat:=88
abbrev Zb7:Nat:=89
abbrev Zi8:Nat:=90
abbrev Zej:Nat:=91
abbrev Zfa:Nat:=92
abbrev ZeW:Nat:=93
abbrev Zai:Nat:=94
abbrev ZaU:Nat:=95
abbrev ZS:Nat:=96
abbrev ZM:Nat:=97
abbrev ZdC:Nat:=98
abbrev Zbd:Nat:=99
abbrev Zhm:Nat:=100
abbrev ZbQ:Nat:=101
abbrev Zns:Nat:=102
abbrev Zes:Nat:=103
abbrev Zim:Nat:=104
abbrev Zh6:Nat:=105
abbrev ZeP:Nat:=106
abbrev Zdn:Nat:=107
abbrev Zj:Nat:=108
abbrev Z4:Nat:=109
abbrev Zgs:Nat:=110
abbrev Zfg:Nat:=111
abbrev Zdy:Nat:=112
abbrev Zbx:Nat:=113
abbrev ZH:Nat:=114
abbrev ZV:Nat:=115
abbrev ZaO:Nat:=116
abbrev ZL:Nat:=117
abbrev Zbj:Nat:=118
abbrev Zhc:Nat:=119
abbrev ZfW:Nat:=120
abbrev Zdl:Nat:=121
abbrev Zer:Nat:=122
abbrev Zeq:Nat:=123
abbrev Zfc:Nat:=138
abbrev Zlq:Nat:=154
abbrev Zgy:Nat:=162
abbrev ZdA:Nat:=163
abbrev Zbo:Nat:=164
abbrev Z5:Nat:=165
abbrev Zg3:Nat:=166
abbrev Zbm:Nat:=167
abbrev ZZ:Nat:=168
abbrev Zf2:Nat:=169
abbrev Zfw:Nat:=170
abbrev Zt:Nat:=171
abbrev Z1:Nat:=173
abbrev ZbF:Nat:=174
abbrev Ze6:Nat:=175
abbrev ZbT:Nat:=176
abbrev ZK:Nat:=177
abbrev Zgu:Nat:=178
abbrev Zhj:Nat:=179
abbrev ZgB:Nat:=180
abbrev ZeQ:Nat:=181
abbrev Zap:Nat:=182
abbrev ZaN:Nat:=183
abbrev ZG:Nat:=184
abbrev ZeL:Nat:=185
abbrev ZdD:Nat:=186
abbrev ZW:Nat:=187
abbrev Zc4:Nat:=188
abbrev Zcu:Nat:=189
abbrev Zff:Nat:=190
abbrev Zb6:Nat:=199
abbrev Zdi:Nat:=215
abbrev ZbZ:Nat:=219
abbrev Zb3:Nat:=220
abbrev Zb1:Nat:=221
abbrev Zi9:Nat:=223
abbrev Zio:Nat:=224
abbrev Zdq:Nat:=225
abbrev Zf6:Nat:=226
abbrev Zae:Nat:=227
abbrev Za8:Nat:=249
def rsL:List RS:=[
 .tup [],
 .tup [],
 .tup [],
 .one (.v .bool),
 .one (.v .bool),
 .one (.v .bool),
 .one (.v .bool),
 .one (.v .bool),
 .one (.v .bool),
 .one (.v (.int .i64)),
 .one (.v (.int .i64)),
 .tup [.one (.v .bool),.one (.v (.int .i64))],
 .tup [.agg [.v .str,.v .bool,.v (.sl Zb)],.one (.v (.int .i64))],
 .one (.v (.int .i64)),
 .one (.v .bool),
 .one (.v .bool),
 .one (.v .bool),
 .agg [.v .str,.v .bool,.v (.sl Zb)],
 .tup [.one (.v (.sl ZU)),.one (.v (.int .i64))],
 .tup [.one (.v (.sl ZU)),.one (.v (.int .i64))],
 .one (.v .bool),
 .one (.v (.int .i64)),
 .one (.v .bool),
 .agg [.v .str,.v .bool,.v (.sl Zb)],
 .one (.v .bool),
 .tup [.one (.v .bool),.one (.v (.int .i64))],
 .one (.v (.int .i64)),
 .tup [.one (.v .bool),.one (.v (.int .i64))],
 .tup [.one (.v (.int .i64)),.one (.v (.int .i64))],
 .one (.v .bool),
 .one (.v (.sl Ze)),
 .one (.v (.int .i64)),
 .tup [.one (.v (.sl Ze)),.one (.v (.int .i64))],
 .one (.v (.int .i64)),
 .one (.v .bool),
 .one (.v (.sl Ze)),
 .tup [.one (.v (.int .i64)),.one (.v (.int .i64))],
 .one (.v .bool),
 .one (.v (.int .i64)),
 .one (.v (.int .i64)),
 .one (.v .str),
 .one (.v (.int .i64)),
 .one (.v .bool),
 .agg [.v .str,.v .bool,.v (.sl Zb)],
 .one (.v .bool),
 .one (.v (.int .i64)),
 .one (.v (.int .i64)),
 .tup [.agg [.v .str,.v .bool,.v (.sl Zb)],.one (.v (.int .i64)),.one (.v (.int .i64))],
 .tup [.one (.v (.sl Zd)),.one (.v (.int .i64)),.one (.v (.int .i64))],
 .tup [.one (.v (.sl Zd)),.one (.v (.int .i64))],
 .one (.v (.sl ZU)),
 .agg [.v .str,.v (.int .i64),.v (.sl ZU)],
 .one (.v (.int .i64)),
 .one (.v .bool),
 .one (.v (.sl ZU)),
 .one (.v (.int .i64)),
 .one (.v .bool),
 .one (.v (.sl Za)),
 .one (.v .bool),
 .tup [.one (.v (.int .i64)),.one (.v (.int .i64))],
 .agg [.v .str,.v .bool,.v (.sl Zb)],
 .one (.v (.int .i64)),
 .tup [],
 .one (.v (.int .i64)),
 .one (.v (.int .i64)),
 .one (.v (.int .i64)),
 .one (.v (.int .i64)),
 .one (.v (.int .i64)),
 .tup [.one (.v .bool),.one (.v (.int .i64))],
 .tup [.one (.v .bool),.one (.v (.int .i64))],
 .one (.v (.int .i64)),
 .one (.v .bool),
 .one (.v (.sl Ze)),
 .tup [.one (.v (.int .i64)),.one (.v (.int .i64))],
 .agg [.v .str,.v (.int .i64),.v (.int .i64)],
 .one (.v .bool),
 .one (.v (.int .i64)),
 .one (.v (.int .i64)),
 .one (.v (.int .i64)),
 .one (.v (.int .i64)),
 .one (.v .bool),
 .tup [.one (.v (.int .i64)),.one (.v (.int .i64))],
 .tup [.one (.v (.int .i64)),.one (.v (.int .i64))],
 .one (.v .bool),
 .one (.v .bool),
 .one (.v .bool),
 .one (.v .bool),
 .one (.v (.int .i64)),
 .one (.v .bool),
 .one (.v .bool),
 .one (.v .bool),
 .one (.fn 171 [Zb]),
 .tup [.agg [.v .str,.v (.int .i64),.v (.sl ZU)],.one (.v .bool)],
 .one (.v (.sl Zb)),
 .agg [.v .str,.v .bool,.v (.sl Zb)],
 .tup [],
 .tup [],
 .one (.v .bool),
 .tup [],
 .one (.v (.int .i64)),
 .one (.v (.sl Za)),
 .one (.v (.sl Ze5)),
 .tup [.agg [.v .str,.v .bool,.v (.sl Zb)],.one (.v .bool)],
 .one (.v .bool),
 .tup [.agg [.v .str,.v .bool,.v (.sl Zb)],.one (.v (.int .i64))],
 .one (.v .bool),
 .one (.v (.int .i64)),
 .one (.v (.int .i64)),
 .one (.v .bool),
 .one (.v .bool),
 .one (.v .bool),
 .tup [.one (.v (.mp ZeR)),.one (.v .bool)],
 .one (.v (.sl Zd)),
 .one (.v (.sl Za)),
 .one (.v .bool),
 .one (.v .bool),
 .one (.v .bool),
 .one (.v .bool),
 .tup [],
 .one (.v (.int .i64)),
 .one (.v .bool),
 .tup [.one (.same 1 (.sl Ze)),.one (.v .bool)],
 .one (.v .bool),
 .one (.v (.sl Za)),
 .one (.v (.int .i64)),
 .one (.v (.int .i64)),
 .one (.v .bool),
 .one (.v .bool),
 .tup [.one (.v (.sl Zn9)),.one (.v .bool)],
 .one (.v .bool),
 .tup [.agg [.v .str,.v (.sl Zhd),.v (.sl Zgv)],.one (.v .bool)],
 .agg [.v .str,.v (.int .i64),.v (.int .i64)],
 .one (.v .bool),
 .one (.v .bool),
 .one (.v (.sl Ze)),
 .tup [],
 .one (.v (.int .i64)),
 .one (.v (.int .i64)),
 .one (.v (.int .i64)),
 .one (.v (.int .i64)),
 .one (.v (.int .i64)),
 .one (.v .str),
 .one (.v .bool),
 .one (.v .bool),
 .one (.v .str),
 .one (.v .bool),
 .one (.v .bool),
 .one (.v (.int .i64)),
 .one (.v .str),
 .one (.v (.int .i64)),
 .one (.v (.int .i64)),
 .one (.v .str),
 .one (.v (.int .i64)),
 .tup [.one (.v (.sl Za)),.one (.v (.sl Zn9)),.one (.v (.int .i64))],
 .one (.v (.sl Za)),
 .one (.v (.int .i64)),
 .one (.v (.int .u64)),
 .one (.v (.int .u64)),
 .tup [.one (.v (.sl Za)),.agg [.v .str,.v (.sl Zhd),.v (.sl Zgv)],.one (.v (.int .i64))],
 .one (.v (.sl Ze7)),
 .one (.v .bool),
 .one (.v (.int .i64)),
 .one (.v .bool),
 .one (.v .str),
 .one (.v .bool),
 .one (.v .bool),
 .one (.v .bool),
 .one (.v .bool),
 .one (.v .bool),
 .one (.v (.int .i64)),
 .one (.v (.int .i64)),
 .tup [],
 .one (.v .bool),
 .tup [.one (.v (.int .i64)),.one (.v .bool)],
 .one (.v (.int .i64)),
 .one (.v .str),
 .tup [.one (.v .str),.one (.v (.int .i64))],
 .tup [],
 .one (.v .bool),
 .tup [.one (.v (.sl Ze)),.one (.v .bool)],
 .one (.v .bool),
 .one (.v .bool),
 .one (.v .bool),
 .one (.v .bool),
 .one (.v (.int .i64)),
 .one (.v (.sl Zd)),
 .tup [],
 .one (.v (.int .i64)),
 .one (.v (.int .i64)),
 .one (.v .bool),
 .one (.v (.int .i64)),
 .one (.v (.int .i64)),
 .one (.v (.sl ZU)),
 .one (.v (.sl Ze7)),
 .tup [.one (.v (.int .i64)),.one (.v .bool)],
 .one (.v (.int .i64)),
 .one (.v (.int .i64)),
 .tup [],
 .one (.v (.int .i64)),
 .one (.v (.int .i64)),
 .one (.v .bool),
 .one (.v (.int .i64)),
 .one (.v (.int .i64)),
 .one (.v .bool),
 .one (.v .bool),
 .one (.v .bool),
 .one (.v .bool),
 .one (.v .bool),
 .one (.v .bool),
 .one (.v .bool),
 .one (.v .bool),
 .one (.v .bool),
 .one (.v .bool),
 .one (.v .bool),
 .tup [.one (.v (.sl Zn9)),.one (.v .bool)],
 .one (.v (.sl Za)),
 .one (.v .bool),
 .tup [.agg [.v .str,.v (.sl Zhd),.v (.sl Zgv)],.one (.v .bool)],
 .one (.v (.sl Ze7)),
 .one (.v .str),
 .one (.v (.int .i64)),
 .one (.v (.int .i64)),
 .one (.v (.sl ZU)),
 .one (.v .bool),
 .one (.v .bool),
 .tup [.one (.v (.sl Ze)),.one (.v .bool)],
 .one (.v .bool),
 .one (.v .bool),
 .tup [],
 .tup [],
 .tup [],
 .tup [],
 .tup [.one (.v (.int .i64)),.one (.v (.int .i64))],
 .tup [],
 .one (.v .bool),
 .one (.v (.int .i64)),
 .tup [.one (.v (.int .i64)),.one (.v .bool)],
 .one (.v (.int .i64)),
 .one (.v (.int .i64)),
 .one (.v (.int .i64)),
 .one (.v (.int .i64)),
 .one (.v (.int .i64)),
 .one (.v (.int .i64)),
 .one (.v (.int .i64)),
 .tup [.one (.v (.sl Zn9)),.one (.v .bool)],
 .one (.v (.sl Zhd)),
 .one (.v (.sl Ze7)),
 .one (.v (.sl Ze7)),
 .one (.v .bool),
 .one (.v .bool),
 .tup [],
 .tup [],
 .tup [],
 .tup [.one (.v (.int .i64)),.one (.v (.int .i64))],
 .tup [],
 .one (.v .bool),
 .one (.v .bool),
 .one (.v (.int .i64)),
 .tup [.one (.v (.int .i64)),.one (.v .bool)],
 .tup [],
 .one (.v (.int .u64)),
 .one (.v (.int .u64)),
 .one (.v (.int .i64)),
 .one (.v (.int .i64)),
 .one (.v .bool),
 .tup [.one (.v (.sl Zn9)),.one (.v .bool)],
 .one (.v (.sl Zn9)),
 .one (.v .bool),
 .one (.v (.int .u64)),
 .one (.v (.int .u64)),
 .tup [],
 .one (.v (.int .i64)),
 .one (.v (.int .i64)),
 .one (.v .bool),
 .tup [.one (.v (.int .i64)),.one (.v (.int .i64))],
 .tup [.one (.v (.int .i64)),.one (.v (.int .i64))],
 .one (.v .str),
 .tup [],
 .one (.v .str),
 .tup [],
 .one (.v .str),
 .tup [],
 .one (.v .str),
 .tup [],
 .one (.v .str),
 .tup [],
 .one (.v .str),
 .tup [],
 .one (.v (.int .i64)),
 .one (.v .str),
 .tup [],
 .tup [.one (.v (.int .i64)),.one (.v (.int .i64))],
 .tup [.one (.v .bool),.one (.v (.int .i64))],
 .one (.v (.int .i64)),
 .one (.v .bool),
 .one (.v (.int .i64)),
 .one (.v .bool),
 .one (.v (.sl ZqV)),
 .one (.v .bool),
 .one (.v .bool),
 .one (.v .bool),
 .one (.v .bool),
 .one (.v .bool),
 .one (.v .bool),
 .one (.v .bool),
 .one (.v .bool),
 .tup [.one (.v (.int .i64)),.one (.v (.int .i64))],
 .tup [.one (.v .bool),.one (.v (.int .i64))],
 .one (.v .bool),
 .tup [.one (.v .bool),.one (.v (.int .i64))],
 .one (.v (.mp ZeR)),
 .one (.v (.int .i64)),
 .tup [.one (.v (.int .i64)),.one (.v (.int .i64))],
 .tup [.one (.v .bool),.one (.v (.int .i64))],
 .tup [.one (.v (.int .i64)),.one (.v (.int .i64))],
 .tup [.one (.v .bool),.one (.v (.int .i64))],
 .tup [.one (.v (.mp Zfi)),.one (.v (.int .i64))],
 .tup [],
 .one (.v (.int .i64)),
 .tup [.one (.v (.sl Zn9)),.one (.v .bool)],
 .one (.v .bool),
 .one (.v .bool),
 .one (.v .bool),
 .tup [.one (.v (.mp Zfi)),.one (.v (.int .i64))],
 .tup [],
 .one (.v .bool),
 .tup [.one (.v (.int .i64)),.one (.v .bool)],
 .one (.v (.int .i64)),
 .one (.v (.int .i64)),
 .tup [.one (.v (.int .i64)),.one (.v .bool)],
 .one (.v .str),
 .tup [.one (.v (.mp Zfi)),.one (.v .bool)],
 .one (.v .bool),
 .one (.v .bool),
 .tup [.one (.v (.mp Zfi)),.one (.v .bool)],
 .tup [.one (.v .str),.one (.v .bool)],
 .tup [.one (.v (.int .u64)),.one (.v .bool)],
 .tup [.one (.v (.int .i64)),.one (.v (.int .i64))],
 .tup [.one (.v (.int .u64)),.one (.v (.int .u64))],
 .tup [.one (.v (.int .i64)),.one (.v (.int .i64))],
 .tup [.one (.v .bool),.one (.v (.int .i64))],
 .tup [.one (.v (.int .i64)),.one (.v (.int .i64))],
 .tup [.one (.v .bool),.one (.v (.int .i64))],
 .tup [.agg [.v (.sl Zhd),.v (.mp Zhg)],.one (.v (.int .i64))],
 .one (.v .bool),
 .one (.v (.sl Ze7)),
 .tup [.agg [.v .str,.v (.sl Zhd),.v (.sl Zgv)],.one (.v .bool)],
 .one (.v .bool),
 .agg [.v (.sl Zhd),.v (.mp Zhg)],
 .tup [.one (.v (.int .i64)),.one (.v .bool)],
 .one (.v (.int .i64)),
 .one (.v (.sl Ze7)),
 .tup [],
 .tup [],
 .tup [.one (.v (.int .u64)),.one (.v .bool)],
 .one (.v .str)]
def rsT (f:FuncId) (_:List D):RS:=rsL.getD f (.tup [])
def nilsL:List (List (Option Nat)):=[
 [],
 [],
 [],
 [some 74,none],
 [some 74,some 95,some 95],
 [some 74,none,some 48],
 [none,some 114],
 [none,none],
 [none,none],
 [some 74],
 [some 74],
 [some 74,none],
 [some 74,none],
 [none],
 [none,none,none,none],
 [],
 [some 74,none],
 [some 74,none],
 [some 74,some 95,some 95],
 [some 74,some 95,some 95],
 [some 3,some 3],
 [some 48],
 [some 48,none],
 [some 48,none],
 [none,none],
 [none,some 114],
 [none],
 [none,some 114],
 [none,none,none],
 [some 116,none,some 114],
 [some 25],
 [none],
 [some 25],
 [some 25],
 [some 114,some 114],
 [some 25],
 [none,none,none],
 [none,none],
 [none,none],
 [some 74,none],
 [none],
 [none],
 [some 74,none],
 [some 74,none],
 [none],
 [none],
 [none],
 [none,some 9],
 [none],
 [some 95],
 [some 74,none],
 [some 74,none,none],
 [some 95,some 95],
 [some 74,some 37],
 [some 74,some 95,some 95],
 [some 95,some 95],
 [some 74,some 95],
 [some 74,none,some 9],
 [some 9,none],
 [some 48,none],
 [some 48,none],
 [none,none],
 [none],
 [some 116],
 [some 116,none],
 [some 172],
 [none,some 177],
 [some 114],
 [some 172,some 114],
 [none,some 177,some 114],
 [some 25],
 [some 116,none,some 114],
 [some 25],
 [none,none,none],
 [some 116,none],
 [some 116,none,none],
 [some 116],
 [some 116,none],
 [some 172],
 [none,some 177],
 [none,none],
 [some 172,none,none],
 [none,some 177,none,none],
 [some 116,none,none,none],
 [some 116,none,none],
 [none],
 [none],
 [none,none],
 [none,none],
 [none],
 [none],
 [none],
 [some 74,none],
 [some 74,none],
 [none],
 [none],
 [none,none],
 [none,none],
 [none],
 [some 95],
 [some 95],
 [none],
 [none,some 3],
 [none,none],
 [none],
 [some 95,none],
 [some 95],
 [some 95],
 [some 95,none],
 [none],
 [none],
 [some 95],
 [some 37],
 [some 25],
 [some 9,none],
 [none],
 [some 9,none],
 [none],
 [some 74,none,none],
 [some 95],
 [none],
 [none,none],
 [none,none],
 [some 9,none],
 [some 116],
 [some 206],
 [none,none],
 [none],
 [some 172,none,none],
 [some 206,none],
 [none,some 177,none,none],
 [some 116,none],
 [some 114,none],
 [none],
 [some 25],
 [some 114,none],
 [none,none],
 [some 3],
 [none,none],
 [none,none],
 [some 116,none],
 [none],
 [some 116,none],
 [none],
 [none],
 [none],
 [none],
 [some 172,none],
 [none],
 [some 206],
 [some 177,none],
 [none],
 [none,none],
 [some 172,none],
 [some 25],
 [some 9,none,none],
 [some 9,some 206,some 9,some 3],
 [some 206],
 [none,some 177,none],
 [none,some 9,none,none],
 [none,none],
 [some 116,none,none],
 [none],
 [none,none],
 [some 5,none],
 [none],
 [none],
 [some 25,none],
 [none],
 [none],
 [none],
 [none],
 [none,some 3,none],
 [some 74,none,none],
 [none,none],
 [none],
 [none,none],
 [none,none],
 [none],
 [some 95],
 [none,none],
 [some 95,some 95],
 [none],
 [none],
 [some 95,none],
 [some 95,none],
 [some 9],
 [some 9,none],
 [some 9,none],
 [none],
 [none,none],
 [some 3,some 3],
 [none,none],
 [none],
 [some 116,none,none],
 [none,none],
 [some 114,none],
 [some 114,none,none,none,none],
 [none],
 [none,none],
 [none],
 [some 116,none],
 [some 3,some 3],
 [some 3,none],
 [none],
 [some 186],
 [some 186],
 [some 186,none],
 [none],
 [some 185,none],
 [some 174],
 [some 174,none],
 [some 174],
 [some 172,none],
 [some 172,none,some 9],
 [none,some 9],
 [none,some 177,none],
 [none,some 177,none,some 9],
 [none],
 [none,none],
 [some 5,none],
 [some 25,none],
 [some 3],
 [none],
 [none],
 [none,some 114],
 [none,none],
 [none],
 [some 9,none,none,none],
 [some 114,none,none,none],
 [some 114,none,none,none],
 [some 114,none,none,none],
 [some 114,none,none,none],
 [some 114,none,none,none],
 [some 114,none,none,none],
 [some 114,none,none,none,none],
 [some 114,none,none,none,none],
 [none],
 [none],
 [none,none],
 [some 3,none],
 [some 186,none],
 [some 185,none],
 [some 174,none],
 [some 206,some 170,none],
 [some 186,some 174,some 186],
 [some 174,some 174],
 [some 174,some 174],
 [none],
 [none,none],
 [some 9,none,none],
 [some 9,none,none],
 [some 9,none,none],
 [some 9,none,none],
 [some 9,none,none],
 [some 9,none,none],
 [none,none],
 [some 9,none,none,none],
 [some 9,none,none,none],
 [some 114,none,none,none,none],
 [none],
 [none],
 [some 114,none,none,none],
 [some 114,none,none,none,none,none],
 [none,some 170],
 [some 206,some 206],
 [some 206,none],
 [some 206],
 [none,none],
 [none,none],
 [some 9,none,none,none],
 [some 9,none,none],
 [some 9,none,none,none,none],
 [none],
 [some 114,none,none,none,none],
 [some 9,none,none,none],
 [none],
 [none],
 [none],
 [none],
 [none],
 [none],
 [none],
 [none],
 [none],
 [none],
 [none],
 [none],
 [none],
 [none],
 [none],
 [none,none,none],
 [none,some 114],
 [none,none,none],
 [some 116,none,none],
 [some 114],
 [none,none],
 [none,some 327],
 [none,none,none],
 [none],
 [none],
 [some 25,some 25,none],
 [none,none,none],
 [none],
 [none,none,none],
 [none],
 [none,none,none],
 [none,some 114],
 [some 116,none,none,none],
 [some 116,none,some 114],
 [none],
 [some 116,none,none],
 [none,none,none],
 [none,some 114],
 [some 172,none,none],
 [some 172,some 114],
 [some 172,none,some 9],
 [none],
 [none,none],
 [some 172,none],
 [some 206,none],
 [none],
 [some 3,none],
 [none,none],
 [none],
 [none],
 [some 172,none,none],
 [none,none],
 [some 206,none],
 [some 9,none],
 [none,none],
 [none,some 331],
 [none,none,none],
 [none],
 [none,none],
 [none,none],
 [none,none],
 [none],
 [none,none],
 [none,none,none],
 [none,some 114],
 [none,some 177,none,none],
 [none,some 177,some 114],
 [none,some 177,none],
 [some 186,some 186],
 [none],
 [none,some 177,none],
 [some 174],
 [none,none],
 [some 177,none,none],
 [none,none],
 [none],
 [none,some 174,some 186,some 186],
 [none,some 174,some 174,some 174],
 [none,none,none],
 [none]]
def nilsT (f:FuncId):List (Option Nat):=nilsL.getD f []
def ownsT (f:FuncId):Option (Nat×TypeId):=match f with | 121=>some (1,114) | _=>none
def extT (f:FuncId):Bool:=Nat.beq f 239
def entT (f:FuncId):Bool:=Nat.blt f 356&&!([0,1,239,276,277,278,279,280,281,282,283,284,285,286,287,288,289,290,355].any (Nat.beq f))
abbrev cl:FuncId→List D→Heap→(D→Heap→Prop)→Prop:=ACalls Tryz.prog (lfs tab)
def rowA (f:FuncId) (r:List V):List D:=match f with | 171=>[.ln ((r.tail.tail.tail.headD V.none).int.toNat),.agg [.v .str (r.headD V.none),.v .bool (r.tail.headD V.none),.v (.sl Zb) (r.tail.tail.headD V.none)]] | _=>[]
def itA (f:FuncId) (caps:List D) (rows:List (List V)):Prop:=AIter Tryz.prog (lfs tab) (rowA f) f caps rows
def freshT (f:FuncId):Option TypeId:=match f with | 185=>some 95 | _=>none
def frA (f:FuncId) (args:List D) (xs:List (List V)):Prop:=match freshT f with | some e=>AFresh Tryz.prog (lfs tab) f args e xs | none=>False
def envA (l:List (Nat×List Adj)) (c:CutT) (r:List Nat) (z:List (Nat×List Frz)) (y:List Nat):Env:={ T:=tab,rs:=rsT,ext:=extT,ent:=entT,call:=cl,owns:=ownsT,nils:=nilsT,frz:=frzLook z,lit:=inL r,join:=inL y,cut:=cutLook c,flt:=fltLook c,late:=lateLook c,adj:=adjLook l,iter:=itA,row:=rowA,fresh:=freshT,freshP:=frA }
theorem ents:(List.range 356).all (fun f=>!entT f||entOk Tryz.prog f)=true:=by kernel_rfl
theorem envOk (l:List (Nat×List Adj)) (c:CutT) (r:List Nat) (z:List (Nat×List Frz)) (y:List Nat):EnvOk Tryz.prog (envA l c r z y):=⟨tab_ok,fun f hf args w=>by
 have hf':entT f=true:=hf
 have hlt:f<356:=by
  have:=((Bool.and_eq_true _ _).mp hf').1
  exact Nat.le_of_ble_eq_true this
 have h:=List.all_eq_true.1 ents f (List.mem_range.2 hlt)
 rw [hf'] at h
 exact ent_of (by simpa using h) args w,fun _ _ _ _ h=>h,fun _ _ _ _ _ h k=>k.mono h,by kernel_rfl,fun _ _ _ h=>h,fun f args e xs h1 h2=>(by
 have h1:freshT f=some e:=h1
 have h2:frA f args xs:=h2
 unfold frA at h2
 rw [h1] at h2
 exact h2),fun f hf a b w=>by
 have hf2:f=239:=Nat.eq_of_beq_eq_true hf
 subst hf2
 rw [run_callFunc_extern Tryz.func239 (by kernel_rfl) (by kernel_rfl) (by kernel_rfl) (e:=Extern.BytealgCompare.compare) (by kernel_rfl),Lib.run_compareString]; rfl⟩
end Go.Proofs.YthjlodlkpgjlkaaGreat
set_option linter.unusedSimpArgs false
namespace Go.Proofs.YthjlodlkpgjlkaaGreat
open Go.Abs
abbrev iD (n:Int):D:=.v (.int .i64) (.i n)
abbrev bD (b:Bool):D:=.v .bool (.b b)
abbrev sD (s:ByteArray):D:=.v .str (.s s)
abbrev uD (n:Int):D:=.v (.int .u8) (.i n)
def Fn (f:FuncId) (args:List D) (r:D):Prop:=∀ Q:D→Heap→Prop,Q r []→cl f args [] Q
theorem Fn.use {f:FuncId} {args:List D} {r:D} (h:Fn f args r) {Q:D→Heap→Prop} (hq:Q r []):cl f args [] Q:=h Q hq
theorem Fn.here {f:FuncId} {args:List D} {r r':D} (h:Fn f args r) (e:r'=r):cl f args [] (fun x H'=>x=r'∧H'=[]):=h _ ⟨e.symm,rfl⟩
theorem iff_intro {b:Bool} {p q:Prop} (h1:b=true→p) (h2:b=false→q):iff b p q:=by
 cases b with
 | true=>exact h1 rfl
 | false=>exact h2 rfl
theorem iff_dec {c:Prop} [Decidable c] {p q:Prop} (h1:c→p) (h2:¬ c→q):iff (decide c) p q:=by
 by_cases h:c
 ·exact iff_yes (decide_eq_true h) (h1 h)
 ·exact iff_no (decide_eq_false h) (h2 h)
theorem iff_beq {α:Type} [BEq α] [LawfulBEq α] {a b:α} {p q:Prop} (h1:a=b→p) (h2:a≠b→q):iff (a == b) p q:=by
 by_cases h:a=b
 ·exact iff_yes (by simp [h]) (h1 h)
 ·exact iff_no (by simp [h]) (h2 h)
theorem iff_bne {α:Type} [BEq α] [LawfulBEq α] {a b:α} {p q:Prop} (h1:a≠b→p) (h2:a=b→q):iff (a != b) p q:=by
 by_cases h:a=b
 ·exact iff_no (by simp [h]) (h2 h)
 ·exact iff_yes (by simp [h]) (h1 h)
theorem iff_not {b:Bool} {p q:Prop} (h:iff b q p):iff (!b) p q:=by cases b <;> exact h
theorem wrap_in (n:Int) (h1:-9223372036854775808≤n) (h2:n≤9223372036854775807):IntKind.i64.wrap n=n:=IntWalk.i64_in n ⟨h1,h2⟩
theorem wrap_u64 (n:Int) (h1:0≤n) (h2:n≤18446744073709551615):IntKind.u64.wrap n=n:=by
 simp only [IntKind.wrap,IntKind.signed,IntKind.bits,Bool.false_and,Bool.false_eq_true,if_false]; omega
theorem big_eq:big=9223372036854775807:=rfl
theorem ba_toList (s:ByteArray):s.toList=s.data.toList:=by
 have key:∀ (n i:Nat) (r:List UInt8),s.size - i=n→i≤s.size→ByteArray.toList.loop s i r=r.reverse++s.data.toList.drop i:=by
  intro n
  induction n with
  | zero =>
   intro i r h1 h2
   unfold ByteArray.toList.loop
   have:¬ i<s.size:=by omega
   rw [if_neg this]
   have h3:s.data.toList.length=s.size:=by simp
   simp [List.drop_eq_nil_of_le (by omega:s.data.toList.length≤i)]
  | succ n ih =>
   intro i r h1 h2
   unfold ByteArray.toList.loop
   have hi:i<s.size:=by omega
   rw [if_pos hi,ih (i+1) _ (by omega) (by omega)]
   have h3:i<s.data.toList.length:=by simpa using hi
   rw [List.drop_eq_getElem_cons h3]
   have:s.get! i=s.data.toList[i]:=by
    show s.data[i]! = _
    rw [getElem!_pos s.data i (by simpa using hi)]
    simp
   simp [this]
 have:=key s.size 0 [] (by omega) (by omega)
 simpa [ByteArray.toList] using this
theorem ba_ext {a b:ByteArray} (h:a.data.toList=b.data.toList):a=b:=by
 cases a; cases b; simp at h; exact congrArg _ h
theorem ba_eq_iff {a b:ByteArray}:a.data.toList=b.data.toList↔a=b:=⟨ba_ext,fun h=>h▸rfl⟩
theorem ba_beq (a b:ByteArray):(a.toList == b.toList)=decide (a=b):=by
 rw [ba_toList,ba_toList,Bool.eq_iff_iff,beq_iff_eq,ba_eq_iff,decide_eq_true_iff]
theorem ba_size (s:ByteArray):s.data.toList.length=s.size:=by simp
theorem ba_nil (s:ByteArray):(s=ByteArray.mk #[])↔s.size=0:=by
 constructor
 ·rintro rfl; rfl
 ·intro h
  apply ba_ext
  apply List.eq_nil_of_length_eq_zero
  rw [ba_size]; exact h
abbrev cmpN (a b:ByteArray):Int:=Lib.compareBytes a.data.toList b.data.toList
theorem cmp_self:∀ l:List UInt8,Lib.compareBytes l l=0
 | []=>rfl
 | a::l=>by simp [Lib.compareBytes,cmp_self l]
theorem u8_lt (a b:UInt8):a<b↔a.toNat<b.toNat:=UInt8.lt_iff_toNat_lt
theorem cmp_cases:∀ (l m:List UInt8),(Lib.compareBytes l m = -1∧Lib.compareBytes m l=1)∨(Lib.compareBytes l m=0∧l=m)∨(Lib.compareBytes l m=1∧Lib.compareBytes m l = -1)
 | [],[]=>by simp [Lib.compareBytes]
 | [],_::_=>by simp [Lib.compareBytes]
 | _::_,[]=>by simp [Lib.compareBytes]
 | a::l,b::m=>by
  simp only [Lib.compareBytes]
  by_cases h1:a<b
  ·have h2:¬ b<a:=by rw [u8_lt] at *; omega
   simp [h1,h2]
  ·by_cases h2:b<a
   ·simp [h1,h2]
   ·have h3:a=b:=by
     apply UInt8.toNat_inj.1; rw [u8_lt] at *; omega
    subst h3
    simp only [if_neg h1]
    rcases cmp_cases l m with h | ⟨h,h'⟩ | h
    ·exact .inl h
    ·exact .inr (.inl ⟨h,by rw [h']⟩)
    ·exact .inr (.inr h)
theorem cmp_trans:∀ (l m n:List UInt8),Lib.compareBytes l m = -1→Lib.compareBytes m n = -1→Lib.compareBytes l n = -1
 | [],[],n,h,_=>by simp [Lib.compareBytes] at h
 | [],_::_,[],_,h=>by simp [Lib.compareBytes] at h
 | [],_::_,_::_,_,_=>by simp [Lib.compareBytes]
 | _::_,[],_,h,_=>by simp [Lib.compareBytes] at h
 | _::_,_::_,[],_,h=>by simp [Lib.compareBytes] at h
 | a::l,b::m,c::n,h1,h2=>by
  simp only [Lib.compareBytes] at *
  by_cases hab:a<b
  ·by_cases hbc:b<c
   ·have:a<c:=by rw [u8_lt] at *; omega
    simp [this]
   ·rw [if_neg hbc] at h2
    by_cases hcb:c<b
    ·simp [hcb] at h2
    ·have:a<c:=by rw [u8_lt] at *; omega
     simp [this]
  ·rw [if_neg hab] at h1
   by_cases hba:b<a
   ·simp [hba] at h1
   ·rw [if_neg hba] at h1
    have he:a=b:=by apply UInt8.toNat_inj.1; rw [u8_lt] at *; omega
    subst he
    by_cases hbc:a<c
    ·simp [hbc]
    ·rw [if_neg hbc] at h2
     by_cases hcb:c<a
     ·simp [hcb] at h2
     ·rw [if_neg hcb] at h2
      rw [if_neg hbc,if_neg hcb]
      exact cmp_trans l m n h1 h2
theorem bytesLess_cmp:∀ (l m:List UInt8),Op.bytesLess l m=decide (Lib.compareBytes l m = -1)
 | [],[]=>by simp [Op.bytesLess,Lib.compareBytes]
 | _::_,[]=>by simp [Op.bytesLess,Lib.compareBytes]
 | [],_::_=>by simp [Op.bytesLess,Lib.compareBytes]
 | a::l,b::m=>by
  simp only [Op.bytesLess,Lib.compareBytes,bytesLess_cmp l m]
  by_cases h1:a<b
  ·simp [h1]
  ·by_cases h2:b<a
   ·have:a≠b:=by intro h; rw [u8_lt] at h2; rw [h] at h2; omega
    simp [h1,h2,this]
   ·have h3:a=b:=by apply UInt8.toNat_inj.1; rw [u8_lt] at *; omega
    subst h3
    simp [h1]
theorem cmpN_cases (a b:ByteArray):(cmpN a b = -1∧cmpN b a=1)∨(cmpN a b=0∧a=b)∨(cmpN a b=1∧cmpN b a = -1):=by
 rcases cmp_cases a.data.toList b.data.toList with h | ⟨h1,h2⟩ | h
 ·exact .inl h
 ·exact .inr (.inl ⟨h1,ba_ext h2⟩)
 ·exact .inr (.inr h)
theorem cmpN_self (a:ByteArray):cmpN a a=0:=cmp_self _
theorem cmpN_zero {a b:ByteArray}:cmpN a b=0↔a=b:=by
 rcases cmpN_cases a b with h | h | h
 ·constructor
  ·omega
  ·rintro rfl; have:=cmpN_self a; omega
 ·exact ⟨fun _=>h.2,fun _=>h.1⟩
 ·constructor
  ·omega
  ·rintro rfl; have:=cmpN_self a; omega
theorem cmpN_trans {a b c:ByteArray} (h1:cmpN a b = -1) (h2:cmpN b c = -1):cmpN a c = -1:=cmp_trans _ _ _ h1 h2
theorem cmpN_flip (a b:ByteArray):cmpN b a = - cmpN a b:=by
 rcases cmpN_cases a b with h | ⟨h,rfl⟩ | h
 ·omega
 ·rw [cmpN_self]; rfl
 ·omega
theorem less_cmp (a b:ByteArray):Op.bytesLess a.toList b.toList=decide (cmpN a b = -1):=by rw [ba_toList,ba_toList]; exact bytesLess_cmp _ _
def letterB (c:Int):Bool:=decide (65≤c∧c≤90∨97≤c∧c≤122∨48≤c∧c≤57∨c=95∨c=39)
def lettersL (l:List UInt8):Bool:=l.all fun c=>letterB (c.toNat:Int)
def markedL (l:List UInt8):Bool:=decide (l.getLast?=some 35)
def nameOk (s:ByteArray) (m:Bool):Bool :=
 decide (s.size≤24)&&(if m&&markedL s.data.toList then decide (1<s.size)&&lettersL s.data.toList.dropLast else decide (0<s.size)&&lettersL s.data.toList)
theorem extract_list (s:ByteArray) (i j:Nat):(s.extract i j).data.toList=(s.data.toList.take j).drop i:=by
 simp [ByteArray.data_extract,Array.toList_extract,List.extract_eq_take_drop,List.drop_take]
end Go.Proofs.YthjlodlkpgjlkaaGreat
namespace Go.Proofs.YthjlodlkpgjlkaaGreat
open Go.Abs
inductive Tm where
 | mk (name:ByteArray) (var:Bool) (args:List Tm)
namespace Tm
def name:Tm→ByteArray | mk n _ _=>n
def var:Tm→Bool | mk _ v _=>v
def args:Tm→List Tm | mk _ _ xs=>xs
theorem eta:∀ t:Tm,t=mk t.name t.var t.args | mk _ _ _=>rfl
theorem ext {s t:Tm} (h1:s.name=t.name) (h2:s.var=t.var) (h3:s.args=t.args):s=t:=by
 rw [eta s,eta t,h1,h2,h3]
mutual
def enc:Tm→List V | mk n v xs=>[.s n,.b v,.l (encL xs)]
def encL:List Tm→List (List V) | []=>[] | t::r=>t.enc::encL r
end
mutual
def size:Tm→Nat | mk _ _ xs=>1+sizeL xs
def sizeL:List Tm→Nat | []=>0 | t::r=>t.size+sizeL r
end
mutual
def depth:Tm→Nat | mk _ _ xs=>depthL xs+1
def depthL:List Tm→Nat | []=>0 | t::r=>max t.depth (depthL r)
end
mutual
def formed:Tm→Bool | mk n v xs=>if v then nameOk n false&&xs.isEmpty else nameOk n true&&decide (xs.length≤8)&&formedL xs
def formedL:List Tm→Bool | []=>true | t::r=>t.formed&&formedL r
end
theorem enc_eq:∀ t:Tm,t.enc=[.s t.name,.b t.var,.l (encL t.args)] | mk _ _ _=>rfl
theorem size_eq:∀ t:Tm,t.size=1+sizeL t.args | mk _ _ _=>rfl
theorem depth_eq:∀ t:Tm,t.depth=depthL t.args+1 | mk _ _ _=>rfl
theorem encL_eq:∀ (l:List Tm),encL l=l.map enc
 | []=>rfl
 | t::r=>by simp [encL,encL_eq r]
theorem encL_length (l:List Tm):(encL l).length=l.length:=by simp [encL_eq]
theorem encL_getD (l:List Tm) (k:Nat) (h:k<l.length):(encL l).getD k []=(l[k]).enc:=by
 rw [encL_eq,List.getD_eq_getElem?_getD,List.getElem?_map,List.getElem?_eq_getElem h]; rfl
theorem ind {p:Tm→Prop} (h:∀ t:Tm,(∀ a∈t.args,p a)→p t):∀ t,p t
 | mk n v xs=>h (mk n v xs) fun a ha=>ind h a
termination_by t=>SizeOf.sizeOf t
decreasing_by
 have:=List.sizeOf_lt_of_mem (show a∈xs from ha)
 simp; omega
theorem size_pos (t:Tm):1≤t.size:=by rw [size_eq]; omega
theorem sizeL_mem:∀ {l:List Tm} {a:Tm},a∈l→a.size≤sizeL l
 | t::r,a,h=>by
  rcases List.mem_cons.1 h with rfl | h
  ·simp [sizeL]
  ·have:=sizeL_mem h; simp [sizeL]; omega
theorem size_mem {t a:Tm} (h:a∈t.args):a.size<t.size:=by have:=sizeL_mem h; rw [size_eq t]; omega
theorem sizeL_append:∀ (l r:List Tm),sizeL (l++r)=sizeL l+sizeL r
 | [],r=>by simp [sizeL]
 | t::l,r=>by simp [sizeL,sizeL_append l r]; omega
theorem sizeL_take (l:List Tm) (k:Nat) (h:k<l.length):sizeL (l.take (k+1))=sizeL (l.take k)+l[k].size:=by
 rw [List.take_succ_eq_append_getElem h,sizeL_append]; simp [sizeL]
theorem sizeL_take_le (l:List Tm) (k:Nat):sizeL (l.take k)≤sizeL l:=by
 have:=sizeL_append (l.take k) (l.drop k)
 rw [List.take_append_drop] at this; omega
theorem length_sizeL:∀ (l:List Tm),l.length≤sizeL l
 | []=>by simp [sizeL]
 | t::r=>by have:=length_sizeL r; have:=size_pos t; simp [sizeL]; omega
theorem depthL_append:∀ (l r:List Tm),depthL (l++r)=max (depthL l) (depthL r)
 | [],r=>by simp [depthL]
 | t::l,r=>by simp [depthL,depthL_append l r,Nat.max_assoc]
theorem depthL_take (l:List Tm) (k:Nat) (h:k<l.length):depthL (l.take (k+1))=max (depthL (l.take k)) l[k].depth:=by
 rw [List.take_succ_eq_append_getElem h,depthL_append]; simp [depthL]
theorem depthL_le_sizeL {l:List Tm} (h:∀ a∈l,a.depth≤a.size):depthL l≤sizeL l:=by
 induction l with
 | nil=>simp [depthL]
 | cons t r ih =>
  have h1:=h t (by simp)
  have h2:=ih fun a ha=>h a (by simp [ha])
  simp [depthL,sizeL]; omega
theorem depth_le_size:∀ t:Tm,t.depth≤t.size:=ind fun t ih=>by
 have:=depthL_le_sizeL ih
 rw [depth_eq,size_eq]; omega
theorem formedL_eq:∀ (l:List Tm),formedL l=l.all formed
 | []=>rfl
 | t::r=>by simp [formedL,formedL_eq r]
theorem formed_eq:∀ t:Tm,t.formed=if t.var then nameOk t.name false&&t.args.isEmpty else nameOk t.name true&&decide (t.args.length≤8)&&t.args.all formed
 | mk n v xs=>by
  simp only [formed,name,var,args,formedL_eq]
  try rfl
def check (t:Tm):Int:=if t.formed then (if t.size≤4000∧t.depth≤200 then 0 else 3) else 4
def checkAll:List Tm→Int
 | []=>0
 | t::r=>if t.check=0 then checkAll r else t.check
theorem check_zero {t:Tm}:t.check=0↔t.formed=true∧t.size≤4000∧t.depth≤200:=by
 unfold check
 cases t.formed with
 | false=>simp
 | true=>by_cases h:t.size≤4000∧t.depth≤200 <;> simp [h]
theorem checkAll_zero:∀ {l:List Tm},checkAll l=0↔∀ t∈l,t.check=0
 | []=>by simp [checkAll]
 | t::r=>by
  simp only [checkAll]
  by_cases h:t.check=0
  ·simp [h,checkAll_zero (l:=r)]
  ·simp [h]
def cmpI (a b:Int):Int:=if a<b then -1 else if b<a then 1 else 0
mutual
def cmp:Tm→Tm→Int
 | mk n v xs,mk m w ys =>
  if v≠w then (if v then -1 else 1)
  else if cmpN n m≠0 then cmpN n m
  else if cmpI xs.length ys.length≠0 then cmpI xs.length ys.length
  else cmpL xs ys
def cmpL:List Tm→List Tm→Int
 | t::r,s::q=>if cmp t s≠0 then cmp t s else cmpL r q
 | _,_=>0
end
theorem cmp_eq:∀ a b:Tm,cmp a b=if a.var≠b.var then (if a.var then -1 else 1)
  else if cmpN a.name b.name≠0 then cmpN a.name b.name
  else if cmpI a.args.length b.args.length≠0 then cmpI a.args.length b.args.length
  else cmpL a.args b.args
 | mk _ _ _,mk _ _ _=>rfl
theorem cmpI_zero {a b:Int}:cmpI a b=0↔a=b:=by unfold cmpI; split <;> (try split) <;> omega
theorem cmpL_zero:∀ {l r:List Tm},l.length=r.length→(∀ a∈l,∀ b,cmp a b=0↔a=b)→(cmpL l r=0↔l=r)
 | [],[],_,_=>by simp [cmpL]
 | [],_::_,h,_=>by simp at h
 | _::_,[],h,_=>by simp at h
 | t::l,s::r,h,ih=>by
  have h1:=ih t (by simp) s
  have h2:=cmpL_zero (l:=l) (r:=r) (by simpa using h) fun a ha=>ih a (by simp [ha])
  simp only [cmpL]
  by_cases h3:cmp t s=0
  ·rw [if_neg (by simp [h3]),h2]
   have:=h1.1 h3
   subst this
   simp
  ·simp [h3]
   intro h4; exact absurd (h1.2 h4) h3
theorem cmp_zero:∀ {a b:Tm},cmp a b=0↔a=b:=fun {a b}=>ind (p:=fun a=>∀ b,cmp a b=0↔a=b) (fun a ih b=>by
 rw [cmp_eq]
 by_cases h1:a.var=b.var
 ·rw [if_neg (by simp [h1])]
  by_cases h2:cmpN a.name b.name=0
  ·rw [if_neg (by simp [h2])]
   by_cases h3:cmpI a.args.length b.args.length=0
   ·rw [if_neg (by simp [h3])]
    have h4:=cmpI_zero.1 h3
    rw [cmpL_zero (by omega) ih]
    exact ⟨fun h=>ext (cmpN_zero.1 h2) h1 h,fun h=>by rw [h]⟩
   ·rw [if_pos h3]
    exact ⟨fun h=>absurd h h3,fun h=>by rw [h] at h3; exact absurd (cmpI_zero.2 rfl) h3⟩
  ·rw [if_pos h2]
   exact ⟨fun h=>absurd h h2,fun h=>by rw [h] at h2; exact absurd (cmpN_self _) h2⟩
 ·rw [if_pos h1]
  constructor
  ·intro h; exfalso; revert h; cases a.var <;> simp
  ·intro h; exact absurd (by rw [h]) h1) a b
def eqB (a b:Tm):Bool:=decide (cmp a b=0)
theorem eqB_iff {a b:Tm}:eqB a b=true↔a=b:=by unfold eqB; rw [decide_eq_true_iff,cmp_zero]
theorem eqB_self (a:Tm):eqB a a=true:=eqB_iff.2 rfl
end Tm
abbrev tD (t:Tm):D:=.agg [.v .str (.s t.name),.v .bool (.b t.var),.v (.sl Zb) (.l (Tm.encL t.args))]
abbrev tsD (l:List Tm):D:=.v (.sl Zb) (.l (Tm.encL l))
end Go.Proofs.YthjlodlkpgjlkaaGreat
