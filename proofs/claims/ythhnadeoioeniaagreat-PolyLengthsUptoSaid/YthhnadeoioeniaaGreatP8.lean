/-
  Texts T, KitA, PolA, PolB of this proof, joined.
-/
import Derived.Test.YthhnadeoioeniaaGreatProg
import Derived.KernelRfl
import Derived.IntWalk
import Derived.Test.YthhnadeoioeniaaGreatP7
set_option linter.unusedVariables false
namespace Go.Proofs.YthhnadeoioeniaaGreat
open Go.Abs
abbrev Zek:MT:=⟨9,3,false,false⟩
abbrev Zc:MT:=⟨9,31,false,false⟩
abbrev Zim:MT:=⟨9,4,false,false⟩
def tab:Tab:=[
 ⟨1,false,[.oth],[],none,.oth,none,none⟩,
 ⟨2,false,[.int .i64],[],none,.int .i64,none,none⟩,
 ⟨3,false,[.int .i64],[],none,.int .i64,none,none⟩,
 ⟨4,false,[.bool],[],none,.bool,none,none⟩,
 ⟨5,false,[.int .u8],[],none,.int .u8,none,none⟩,
 ⟨6,false,[.int .u8],[],none,.int .u8,none,none⟩,
 ⟨7,true,[.int .i64,.int .i64,.bool,.int .u8],[(0,2),(1,3),(2,4),(3,6)],none,.oth,none,none⟩,
 ⟨8,true,[.int .i64,.int .i64,.bool,.int .u8],[(0,2),(1,3),(2,4),(3,6)],none,.oth,none,none⟩,
 ⟨9,false,[.str],[],none,.str,none,none⟩,
 ⟨10,false,[.str],[],none,.str,none,none⟩,
 ⟨11,false,[.str],[],none,.str,none,none⟩,
 ⟨12,false,[.int .u64],[],none,.int .u64,none,none⟩,
 ⟨13,true,[.str,.int .u64],[(0,9),(1,12)],none,.oth,none,none⟩,
 ⟨14,true,[.str,.int .u64],[(0,9),(1,12)],none,.oth,none,none⟩,
 ⟨15,false,[.oth],[],none,.oth,none,none⟩,
 ⟨16,false,[.oth],[],none,.oth,none,none⟩,
 ⟨17,false,[.oth],[],none,.oth,none,none⟩,
 ⟨18,true,[.oth],[(0,17)],none,.oth,none,none⟩,
 ⟨19,true,[.oth],[(0,17)],none,.oth,none,none⟩,
 ⟨21,false,[.int .i32],[],none,.int .i32,none,none⟩,
 ⟨22,false,[.sl 89],[],some 89,.sl 89,none,none⟩,
 ⟨23,false,[.sl 25],[],some 25,.sl 25,none,none⟩,
 ⟨24,true,[.str,.bool,.sl 25],[(0,9),(1,4),(2,23)],none,.oth,none,none⟩,
 ⟨25,true,[.str,.bool,.sl 25],[(0,9),(1,4),(2,23)],none,.oth,none,none⟩,
 ⟨26,false,[.sl 9],[],some 9,.sl 9,none,none⟩,
 ⟨27,false,[.sl 82],[],some 82,.sl 82,none,none⟩,
 ⟨28,false,[.int .i64],[],none,.int .i64,none,none⟩,
 ⟨30,false,[.oth],[],none,.oth,none,none⟩,
 ⟨31,false,[.int .u64],[],none,.int .u64,none,none⟩,
 ⟨33,false,[.oth],[],none,.oth,none,none⟩,
 ⟨34,false,[.oth],[],none,.oth,none,none⟩,
 ⟨35,false,[.oth],[],none,.oth,none,none⟩,
 ⟨36,false,[.oth],[],none,.oth,none,none⟩,
 ⟨37,false,[.oth],[],none,.oth,none,none⟩,
 ⟨38,false,[.oth],[],none,.oth,none,none⟩,
 ⟨39,false,[.oth],[],none,.oth,none,none⟩,
 ⟨40,true,[.str,.bool,.sl 25,.str,.bool,.sl 25],[(0,25),(3,25)],none,.oth,none,none⟩,
 ⟨41,true,[.str,.bool,.sl 25,.str,.bool,.sl 25],[(0,25),(3,25)],none,.oth,none,none⟩,
 ⟨42,false,[.sl 99],[],some 99,.sl 99,none,none⟩,
 ⟨44,false,[.oth],[],none,.oth,none,none⟩,
 ⟨45,false,[.oth],[],none,.oth,none,none⟩,
 ⟨46,false,[.oth],[],none,.oth,none,none⟩,
 ⟨47,false,[.oth],[],none,.oth,none,none⟩,
 ⟨48,false,[.oth],[],none,.oth,none,none⟩,
 ⟨49,false,[.sl 104],[],some 104,.sl 104,none,none⟩,
 ⟨51,false,[.oth],[],none,.oth,none,none⟩,
 ⟨52,false,[.oth],[],none,.oth,none,none⟩,
 ⟨53,false,[.sl 31],[],some 31,.sl 31,none,none⟩,
 ⟨54,false,[.oth],[],none,.oth,none,none⟩,
 ⟨55,false,[.oth],[],none,.oth,none,none⟩,
 ⟨57,false,[.oth],[],none,.oth,none,none⟩,
 ⟨58,false,[.oth],[],none,.oth,none,none⟩,
 ⟨59,false,[.sl 65],[],some 65,.sl 65,none,none⟩,
 ⟨60,false,[.sl 3],[],some 3,.sl 3,none,none⟩,
 ⟨62,false,[.oth],[],none,.oth,none,none⟩,
 ⟨63,false,[.oth],[],none,.oth,none,none⟩,
 ⟨64,true,[.str,.bool,.sl 25,.str,.bool,.sl 25],[(0,25),(3,25)],none,.oth,none,none⟩,
 ⟨65,true,[.str,.bool,.sl 25,.str,.bool,.sl 25],[(0,25),(3,25)],none,.oth,none,none⟩,
 ⟨66,false,[.oth],[],none,.oth,none,none⟩,
 ⟨67,false,[.oth],[],none,.oth,none,none⟩,
 ⟨68,false,[.sl 127],[],some 127,.sl 127,none,none⟩,
 ⟨69,true,[.str,.bool,.sl 25,.sl 127],[(0,25),(3,68)],none,.oth,none,none⟩,
 ⟨70,true,[.str,.bool,.sl 25,.sl 127],[(0,25),(3,68)],none,.oth,none,none⟩,
 ⟨72,false,[.oth],[],none,.oth,none,none⟩,
 ⟨73,false,[.oth],[],none,.oth,none,none⟩,
 ⟨74,false,[.oth],[],none,.oth,none,none⟩,
 ⟨75,false,[.oth],[],none,.oth,none,none⟩,
 ⟨76,false,[.oth],[],none,.oth,none,none⟩,
 ⟨77,false,[.mp Zc],[],none,.mp Zc,none,some Zc⟩,
 ⟨78,false,[.mp Zc],[],none,.mp Zc,none,some Zc⟩,
 ⟨80,false,[.oth],[],none,.oth,none,none⟩,
 ⟨81,true,[.int .u64,.sl 3],[(0,31),(1,60)],none,.oth,none,none⟩,
 ⟨82,true,[.int .u64,.sl 3],[(0,31),(1,60)],none,.oth,none,none⟩,
 ⟨84,false,[.oth],[],none,.oth,none,none⟩,
 ⟨85,false,[.oth],[],none,.oth,none,none⟩,
 ⟨86,false,[.oth],[],none,.oth,none,none⟩,
 ⟨87,false,[.oth],[],none,.oth,none,none⟩,
 ⟨88,true,[.str,.sl 82],[(0,9),(1,27)],none,.oth,none,none⟩,
 ⟨89,true,[.str,.sl 82],[(0,9),(1,27)],none,.oth,none,none⟩,
 ⟨90,false,[.oth],[],none,.oth,none,none⟩,
 ⟨91,false,[.oth],[],none,.oth,none,none⟩,
 ⟨92,false,[.oth],[],none,.oth,none,none⟩,
 ⟨94,false,[.oth],[],none,.oth,none,none⟩,
 ⟨95,false,[.oth],[],none,.oth,none,none⟩,
 ⟨96,false,[.oth],[],none,.oth,none,none⟩,
 ⟨97,false,[.oth],[],none,.oth,none,none⟩,
 ⟨98,true,[.str,.str,.bool,.sl 25],[(0,9),(1,25)],none,.oth,none,none⟩,
 ⟨99,true,[.str,.str,.bool,.sl 25],[(0,9),(1,25)],none,.oth,none,none⟩,
 ⟨100,false,[.oth],[],none,.oth,none,none⟩,
 ⟨101,false,[.oth],[],none,.oth,none,none⟩,
 ⟨102,false,[.oth],[],none,.oth,none,none⟩,
 ⟨103,true,[.str,.int .i64],[(0,9),(1,3)],none,.oth,none,none⟩,
 ⟨104,true,[.str,.int .i64],[(0,9),(1,3)],none,.oth,none,none⟩,
 ⟨105,false,[.oth],[],none,.oth,none,none⟩,
 ⟨106,false,[.oth],[],none,.oth,none,none⟩,
 ⟨107,false,[.oth],[],none,.oth,none,none⟩,
 ⟨108,false,[.oth],[],none,.oth,none,none⟩,
 ⟨109,false,[.oth],[],none,.oth,none,none⟩,
 ⟨110,false,[.oth],[],none,.oth,none,none⟩,
 ⟨111,false,[.oth],[],none,.oth,none,none⟩,
 ⟨112,false,[.oth],[],none,.oth,none,none⟩,
 ⟨113,false,[.oth],[],none,.oth,none,none⟩,
 ⟨114,false,[.oth],[],none,.oth,none,none⟩,
 ⟨115,false,[.oth],[],none,.oth,none,none⟩,
 ⟨116,false,[.oth],[],none,.oth,none,none⟩,
 ⟨117,false,[.oth],[],none,.oth,none,none⟩,
 ⟨118,false,[.oth],[],none,.oth,none,none⟩,
 ⟨119,false,[.oth],[],none,.oth,none,none⟩,
 ⟨120,false,[.oth],[],none,.oth,none,none⟩,
 ⟨121,false,[.oth],[],none,.oth,none,none⟩,
 ⟨122,false,[.oth],[],none,.oth,none,none⟩,
 ⟨124,false,[.oth],[],none,.oth,none,none⟩,
 ⟨125,false,[.oth],[],none,.oth,none,none⟩,
 ⟨126,true,[.int .i64,.sl 3],[(0,3),(1,60)],none,.oth,none,none⟩,
 ⟨127,true,[.int .i64,.sl 3],[(0,3),(1,60)],none,.oth,none,none⟩,
 ⟨129,false,[.oth],[],none,.oth,none,none⟩,
 ⟨130,false,[.oth],[],none,.oth,none,none⟩,
 ⟨131,false,[.mp Zim],[],none,.mp Zim,none,some Zim⟩,
 ⟨132,false,[.oth],[],none,.oth,none,none⟩,
 ⟨133,false,[.oth],[],none,.oth,none,none⟩,
 ⟨134,false,[.oth],[],none,.oth,none,none⟩,
 ⟨135,false,[.oth],[],none,.oth,none,none⟩,
 ⟨136,true,[.sl 89,.sl 9],[(0,22),(1,26)],none,.oth,none,none⟩,
 ⟨137,true,[.sl 89,.sl 9],[(0,22),(1,26)],none,.oth,none,none⟩,
 ⟨138,false,[.oth],[],none,.oth,none,none⟩,
 ⟨139,false,[.int .u64],[],none,.int .u64,none,none⟩,
 ⟨140,false,[.oth],[],none,.oth,none,none⟩,
 ⟨141,false,[.oth],[],none,.oth,none,none⟩,
 ⟨142,false,[.oth],[],none,.oth,none,none⟩,
 ⟨143,false,[.oth],[],none,.oth,none,none⟩,
 ⟨144,false,[.oth],[],none,.oth,none,none⟩,
 ⟨145,false,[.oth],[],none,.oth,none,none⟩,
 ⟨146,false,[.oth],[],none,.oth,none,none⟩,
 ⟨147,false,[.sl 27],[],some 27,.sl 27,none,none⟩,
 ⟨148,false,[.oth],[],none,.oth,none,none⟩,
 ⟨149,false,[.oth],[],none,.oth,none,none⟩,
 ⟨150,false,[.oth],[],none,.oth,none,none⟩,
 ⟨151,false,[.oth],[],none,.oth,none,none⟩,
 ⟨152,false,[.oth],[],none,.oth,none,none⟩,
 ⟨153,false,[.oth],[],none,.oth,none,none⟩,
 ⟨154,false,[.oth],[],none,.oth,none,none⟩,
 ⟨156,false,[.oth],[],none,.oth,none,none⟩,
 ⟨157,false,[.oth],[],none,.oth,none,none⟩,
 ⟨158,false,[.oth],[],none,.oth,none,none⟩,
 ⟨159,false,[.oth],[],none,.oth,none,none⟩,
 ⟨160,false,[.oth],[],none,.oth,none,none⟩,
 ⟨162,false,[.oth],[],none,.oth,none,none⟩,
 ⟨163,false,[.mp Zek],[],none,.mp Zek,none,some Zek⟩,
 ⟨165,false,[.oth],[],none,.oth,none,none⟩,
 ⟨166,false,[.oth],[],none,.oth,none,none⟩,
 ⟨167,false,[.oth],[],none,.oth,none,none⟩,
 ⟨168,false,[.oth],[],none,.oth,none,none⟩,
 ⟨169,false,[.oth],[],none,.oth,none,none⟩,
 ⟨170,false,[.oth],[],none,.oth,none,none⟩,
 ⟨172,false,[.oth],[],none,.oth,none,none⟩,
 ⟨173,false,[.oth],[],none,.oth,none,none⟩,
 ⟨174,false,[.oth],[],none,.oth,none,none⟩,
 ⟨175,false,[.oth],[],none,.oth,none,none⟩,
 ⟨176,false,[.oth],[],none,.oth,none,none⟩,
 ⟨177,false,[.oth],[],none,.oth,none,none⟩,
 ⟨178,false,[.oth],[],none,.oth,none,none⟩,
 ⟨179,false,[.oth],[],none,.oth,none,none⟩,
 ⟨180,false,[.oth],[],none,.oth,none,none⟩,
 ⟨181,false,[.sl 78],[],some 78,.sl 78,none,none⟩,
 ⟨183,false,[.oth],[],none,.oth,none,none⟩,
 ⟨184,false,[.oth],[],none,.oth,none,none⟩,
 ⟨185,false,[.oth],[],none,.oth,none,none⟩,
 ⟨186,false,[.int .i64],[],none,.int .i64,none,none⟩,
 ⟨188,false,[.oth],[],none,.oth,none,none⟩,
 ⟨189,false,[.oth],[],none,.oth,none,none⟩,
 ⟨190,false,[.oth],[],none,.oth,none,none⟩,
 ⟨191,false,[.oth],[],none,.oth,none,none⟩,
 ⟨192,false,[.oth],[],none,.oth,none,none⟩,
 ⟨193,false,[.int .u32],[],none,.int .u32,none,none⟩,
 ⟨194,false,[.oth],[],none,.oth,none,none⟩,
 ⟨195,false,[.oth],[],none,.oth,none,none⟩,
 ⟨196,false,[.oth],[],none,.oth,none,none⟩,
 ⟨197,false,[.oth],[],none,.oth,none,none⟩,
 ⟨198,false,[.oth],[],none,.oth,none,none⟩,
 ⟨199,false,[.oth],[],none,.oth,none,none⟩,
 ⟨200,false,[.oth],[],none,.oth,none,none⟩,
 ⟨201,false,[.oth],[],none,.oth,none,none⟩,
 ⟨202,false,[.oth],[],none,.oth,none,none⟩,
 ⟨203,false,[.oth],[],none,.oth,none,none⟩,
 ⟨204,false,[.sl 5],[],some 5,.sl 5,none,none⟩,
 ⟨205,true,[.str,.bool,.sl 25,.str,.bool,.sl 25],[],none,.oth,some (2,25),none⟩,
 ⟨206,false,[.oth],[],none,.oth,none,none⟩,
 ⟨207,false,[.oth],[],none,.oth,none,none⟩,
 ⟨208,false,[.oth],[],none,.oth,none,none⟩,
 ⟨209,false,[.oth],[],none,.oth,none,none⟩,
 ⟨211,false,[.oth],[],none,.oth,none,none⟩,
 ⟨213,false,[.oth],[],none,.oth,none,none⟩,
 ⟨214,false,[.oth],[],none,.oth,none,none⟩,
 ⟨215,false,[.oth],[],none,.oth,none,none⟩,
 ⟨216,false,[.oth],[],none,.oth,none,none⟩,
 ⟨217,false,[.oth],[],none,.oth,none,none⟩,
 ⟨218,false,[.oth],[],none,.oth,none,none⟩,
 ⟨219,false,[.oth],[],none,.oth,none,none⟩,
 ⟨220,false,[.oth],[],none,.oth,none,none⟩,
 ⟨221,false,[.oth],[],none,.oth,none,none⟩,
 ⟨222,false,[.int .u64],[],none,.int .u64,none,none⟩,
 ⟨223,false,[.oth],[],none,.oth,none,none⟩,
 ⟨224,false,[.oth],[],none,.oth,none,none⟩,
 ⟨225,false,[.oth],[],none,.oth,none,none⟩,
 ⟨226,false,[.oth],[],none,.oth,none,none⟩,
 ⟨227,false,[.oth],[],none,.oth,none,none⟩,
 ⟨228,false,[.oth],[],none,.oth,none,none⟩,
 ⟨229,false,[.oth],[],none,.oth,none,none⟩,
 ⟨230,false,[.oth],[],none,.oth,none,none⟩,
 ⟨231,false,[.oth],[],none,.oth,none,none⟩,
 ⟨232,false,[.oth],[],none,.oth,none,none⟩,
 ⟨233,false,[.oth],[],none,.oth,none,none⟩,
 ⟨235,false,[.oth],[],none,.oth,none,none⟩,
 ⟨236,false,[.oth],[],none,.oth,none,none⟩,
 ⟨237,false,[.oth],[],none,.oth,none,none⟩,
 ⟨238,false,[.oth],[],none,.oth,none,none⟩,
 ⟨239,false,[.oth],[],none,.oth,none,none⟩,
 ⟨240,false,[.oth],[],none,.oth,none,none⟩,
 ⟨241,false,[.oth],[],none,.oth,none,none⟩,
 ⟨242,false,[.oth],[],none,.oth,none,none⟩,
 ⟨243,true,[.oth,.oth,.oth,.str],[(0,17),(1,17),(2,17),(3,9)],none,.oth,none,none⟩,
 ⟨244,true,[.oth,.oth,.oth,.str],[(0,17),(1,17),(2,17),(3,9)],none,.oth,none,none⟩,
 ⟨245,true,[],[],none,.oth,some (0,16),none⟩,
 ⟨246,true,[],[(0,245)],none,.oth,none,none⟩,
 ⟨247,true,[],[(0,245)],none,.oth,none,none⟩,
 ⟨248,false,[.oth],[],none,.oth,none,none⟩,
 ⟨249,false,[.int .u8],[],none,.int .u8,none,none⟩,
 ⟨250,false,[.int .u8],[],none,.int .u8,none,none⟩,
 ⟨251,false,[.oth],[],none,.oth,none,none⟩,
 ⟨252,false,[.oth],[],none,.oth,none,none⟩,
 ⟨253,false,[.int .i32],[],none,.int .i32,none,none⟩,
 ⟨254,false,[.int .i32],[],none,.int .i32,none,none⟩,
 ⟨255,true,[.int .u64,.int .u64,.int .u32,.int .u8,.int .u8,.int .u8,.int .u8,.oth,.oth,.int .i32,.int .i32],[(0,12),(1,12),(2,193),(3,249),(4,5),(5,5),(6,250),(7,251),(8,252),(9,253),(10,254)],none,.oth,none,none⟩,
 ⟨256,true,[.int .u64,.int .u64,.int .u32,.int .u8,.int .u8,.int .u8,.int .u8,.oth,.oth,.int .i32,.int .i32],[(0,12),(1,12),(2,193),(3,249),(4,5),(5,5),(6,250),(7,251),(8,252),(9,253),(10,254)],none,.oth,none,none⟩,
 ⟨257,false,[.oth],[],none,.oth,none,none⟩]
theorem tab_checked:tab.all (tiOk Tryz.prog tab)=true:=by kernel_rfl
theorem tab_ok:TabOk Tryz.prog tab:=tabOk_of tab_checked
abbrev ZT:Nat:=3
abbrev Zh5:Nat:=5
abbrev Zb:Nat:=9
abbrev Za:Nat:=25
abbrev ZmU:Nat:=31
abbrev Zap:Nat:=65
abbrev Zh:Nat:=78
abbrev Zk:Nat:=82
abbrev Zg:Nat:=89
abbrev Z2:Nat:=99
abbrev ZY:Nat:=104
abbrev Zfc:Nat:=127
abbrev Zfy:Nat:=9
abbrev Zkq:Nat:=10
abbrev Zen:Nat:=11
abbrev ZaJ:Nat:=14
abbrev ZeO:Nat:=15
abbrev ZeK:Nat:=16
abbrev Zfm:Nat:=18
abbrev ZeF:Nat:=21
abbrev ZdN:Nat:=22
abbrev Zcl:Nat:=23
abbrev Zfi:Nat:=28
abbrev ZhJ:Nat:=32
abbrev Zdk:Nat:=33
abbrev ZI:Nat:=34
abbrev ZM:Nat:=35
abbrev Zp:Nat:=36
abbrev Zeh:Nat:=37
abbrev Zb3:Nat:=38
abbrev ZfL:Nat:=39
abbrev Zbk:Nat:=40
abbrev Ze5:Nat:=41
abbrev Zcb:Nat:=42
abbrev ZhF:Nat:=44
abbrev Zef:Nat:=48
abbrev Zdp:Nat:=49
abbrev ZeA:Nat:=50
abbrev ZcN:Nat:=51
abbrev ZC:Nat:=52
abbrev ZeL:Nat:=53
abbrev ZeM:Nat:=54
abbrev Zfk:Nat:=55
abbrev Zu:Nat:=56
abbrev Za6:Nat:=57
abbrev ZR:Nat:=58
abbrev Zgq:Nat:=59
abbrev Zd5:Nat:=60
abbrev Z5:Nat:=61
abbrev ZdY:Nat:=62
abbrev Zl2:Nat:=67
abbrev Zay:Nat:=70
abbrev Zjr:Nat:=73
abbrev ZdV:Nat:=77
abbrev ZgV:Nat:=83
abbrev ZbB:Nat:=84
abbrev ZhP:Nat:=85
abbrev Zd7:Nat:=86
abbrev ZcX:Nat:=87
abbrev ZaX:Nat:=88
abbrev ZcL:Nat:=91
abbrev Zgm:Nat:=92
abbrev ZfN:Nat:=93
abbrev ZQ:Nat:=94
abbrev Zeq:Nat:=95
abbrev Zdq:Nat:=96
abbrev Zct:Nat:=97
abbrev Zbg:Nat:=101
abbrev ZaR:Nat:=102
abbrev ZP:Nat:=103
abbrev ZW:Nat:=104
abbrev Zbx:Nat:=105
abbrev ZX:Nat:=106
abbrev Zab:Nat:=107
abbrev ZO:Nat:=108
abbrev Zed:Nat:=109
abbrev ZbE:Nat:=110
abbrev ZN:Nat:=111
abbrev Zb7:Nat:=113
abbrev ZgS:Nat:=114
abbrev Zee:Nat:=115
abbrev Zfo:Nat:=116
abbrev ZeC:Nat:=117
abbrev Za5:Nat:=118
abbrev ZaF:Nat:=119
abbrev ZhO:Nat:=123
abbrev Zc0:Nat:=124
abbrev Zij:Nat:=125
abbrev Za4:Nat:=126
abbrev Z4:Nat:=127
abbrev ZeR:Nat:=128
abbrev Zem:Nat:=129
abbrev ZG:Nat:=130
abbrev ZaT:Nat:=133
abbrev Zej:Nat:=134
abbrev ZdD:Nat:=135
abbrev Zbc:Nat:=136
abbrev Zdx:Nat:=147
abbrev Ze9:Nat:=148
abbrev ZL:Nat:=154
abbrev Zca:Nat:=155
abbrev Z0:Nat:=156
abbrev ZcS:Nat:=157
abbrev Za7:Nat:=158
abbrev Z3:Nat:=159
abbrev ZfI:Nat:=160
abbrev ZdQ:Nat:=161
abbrev ZgU:Nat:=162
abbrev ZeX:Nat:=163
abbrev Zbw:Nat:=164
abbrev ZaV:Nat:=165
abbrev Zad:Nat:=166
abbrev Zbr:Nat:=167
abbrev ZlH:Nat:=168
abbrev ZhN:Nat:=169
abbrev ZbG:Nat:=170
abbrev Zd6:Nat:=178
abbrev Zel:Nat:=181
abbrev ZeJ:Nat:=182
abbrev Zbs:Nat:=188
abbrev ZbF:Nat:=189
abbrev ZaU:Nat:=191
abbrev Zbj:Nat:=192
abbrev Zcp:Nat:=193
abbrev ZeP:Nat:=194
abbrev Zb9:Nat:=198
abbrev Zgl:Nat:=199
abbrev Zh3:Nat:=201
abbrev Zh4:Nat:=202
abbrev Zi6:Nat:=203
abbrev ZdE:Nat:=205
def rsL:List RS:=[
 .tup [],
 .tup [],
 .tup [],
 .one (.v .bool),
 .one (.v .bool),
 .one (.v .bool),
 .one (.v .bool),
 .one (.v .bool),
 .one (.v .bool),
 .one (.v .bool),
 .tup [.one (.v (.sl Zb)),.one (.v (.sl Zk)),.one (.v (.int .i64))],
 .tup [.one (.v (.int .u64)),.one (.v (.int .i64))],
 .one (.v (.int .i64)),
 .tup [.one (.v (.sl Zb)),.one (.v (.sl Zk)),.one (.v (.int .i64))],
 .one (.v .bool),
 .one (.v .bool),
 .one (.v .bool),
 .one (.v (.int .u64)),
 .tup [.one (.v (.int .i64)),.one (.v (.int .i64))],
 .one (.v (.int .i64)),
 .one (.v .bool),
 .agg [.v .str,.v .bool,.v (.sl Za)],
 .tup [.one (.v .bool),.one (.v (.int .i64))],
 .one (.v (.int .i64)),
 .tup [.one (.v .bool),.one (.v (.int .i64))],
 .tup [.one (.v (.int .u64)),.one (.v (.int .i64))],
 .tup [.one (.v (.int .u64)),.one (.v (.int .i64))],
 .tup [.one (.v (.int .u64)),.one (.v .bool)],
 .tup [.one (.v (.sl ZT)),.one (.v (.int .i64))],
 .tup [.one (.v (.int .i64)),.one (.v (.int .i64))],
 .one (.v (.int .i64)),
 .one (.v .bool),
 .tup [.one (.v (.sl Za)),.one (.v (.int .i64))],
 .one (.v (.sl ZY)),
 .one (.v (.int .i64)),
 .one (.v (.sl Zb)),
 .tup [.one (.v (.mp Zc)),.one (.v (.int .i64))],
 .tup [.one (.v (.int .i64)),.one (.v (.int .i64))],
 .tup [],
 .one (.v (.int .i64)),
 .one (.v (.int .i64)),
 .one (.v .bool),
 .one (.v (.int .i64)),
 .one (.v (.int .i64)),
 .one (.v (.int .i64)),
 .one (.v (.sl Zb)),
 .one (.v .bool),
 .tup [.one (.v (.sl Zk)),.one (.v .bool)],
 .agg [.v .str,.v .bool,.v (.sl Za)],
 .agg [.v .str,.v .bool,.v (.sl Za)],
 .one (.v (.sl Zg)),
 .one (.v (.int .i64)),
 .tup [.one (.v (.int .i64)),.one (.v (.int .i64))],
 .tup [.one (.v (.int .i64)),.one (.v (.int .i64))],
 .agg [.v .str,.v .bool,.v (.sl Za)],
 .one (.v (.int .i64)),
 .tup [.one (.v (.sl Zk)),.one (.v .bool)],
 .one (.v .bool),
 .one (.v .bool),
 .one (.v .bool),
 .one (.v (.int .i64)),
 .one (.v .str),
 .one (.v (.int .i64)),
 .one (.v (.int .i64)),
 .tup [.one (.v (.sl Zk)),.one (.v .bool)],
 .one (.v .bool),
 .one (.v .bool),
 .one (.v .bool),
 .one (.v .bool),
 .one (.v .bool),
 .one (.v .bool),
 .one (.v .bool),
 .tup [.one (.v (.int .u64)),.one (.v .bool)],
 .tup [.one (.v (.int .u64)),.one (.v .bool)],
 .one (.v (.int .u64)),
 .one (.v (.int .u64)),
 .one (.v (.int .u64)),
 .one (.v (.int .i64)),
 .one (.v (.int .i64)),
 .one (.v (.int .u64)),
 .one (.v (.int .i64)),
 .tup [.one (.v (.sl ZY)),.one (.v .bool)],
 .one (.v .bool),
 .tup [.agg [.v .str,.v .bool,.v (.sl Za)],.one (.v (.int .i64))],
 .one (.v .bool),
 .one (.v .bool),
 .one (.fn 130 [Za]),
 .tup [],
 .tup [.one (.v (.mp Zc)),.one (.v (.int .i64))],
 .tup [],
 .one (.v (.int .i64)),
 .one (.v (.int .i64)),
 .one (.v .bool),
 .one (.v .bool),
 .one (.v (.int .i64)),
 .one (.v .bool),
 .one (.v (.int .i64)),
 .one (.v (.int .i64)),
 .one (.v (.sl Zb)),
 .one (.v (.sl ZT)),
 .tup [.one (.v (.sl Zk)),.one (.v .bool)],
 .one (.fn 154 [Zh]),
 .one (.v (.int .i64)),
 .one (.v .bool),
 .one (.v .bool),
 .one (.v .bool),
 .one (.v .bool),
 .tup [.one (.v (.int .i64)),.one (.v .bool)],
 .one (.v (.int .i64)),
 .one (.v (.int .i64)),
 .one (.v (.int .i64)),
 .one (.v .bool),
 .one (.v (.int .i64)),
 .one (.v (.int .i64)),
 .tup [.one (.v (.int .u64)),.one (.v (.int .u64))],
 .one (.v (.int .i64)),
 .tup [.one (.v (.mp Zek)),.one (.v .bool)],
 .one (.v .bool),
 .one (.v .bool),
 .one (.v .bool),
 .one (.v (.int .i64)),
 .tup [.one (.v (.sl ZY)),.one (.v .bool)],
 .one (.v (.int .i64)),
 .tup [.one (.v (.sl Z2)),.one (.v (.int .i64))],
 .tup [.one (.v (.int .i64)),.one (.v (.int .i64))],
 .agg [.v .str,.v .bool,.v (.sl Za)],
 .one (.v .bool),
 .one (.v .bool),
 .one (.v (.int .i64)),
 .one (.v (.int .i64)),
 .tup [],
 .one (.v .bool),
 .tup [],
 .tup [.one (.v (.int .i64)),.one (.v .bool)],
 .one (.v .str),
 .tup [.one (.v (.mp Zc)),.one (.v .bool)],
 .one (.v .bool),
 .tup [],
 .tup [],
 .tup [],
 .tup [.one (.v (.int .i64)),.one (.v (.int .i64))],
 .tup [],
 .one (.v .bool),
 .one (.v (.int .i64)),
 .tup [.one (.v (.int .i64)),.one (.v .bool)],
 .one (.v (.int .i64)),
 .one (.v (.int .i64)),
 .one (.v .bool),
 .one (.v .bool),
 .one (.v (.sl Zb)),
 .one (.v .bool),
 .tup [.one (.v (.sl Zk)),.one (.v .bool)],
 .one (.v (.sl Zk)),
 .one (.v .bool),
 .tup [],
 .one (.v .bool),
 .one (.v (.int .i64)),
 .one (.v .str),
 .one (.v .bool),
 .one (.v .bool),
 .one (.v .bool),
 .one (.v (.int .i64)),
 .one (.v (.int .i64)),
 .one (.v .bool),
 .one (.v (.int .i64)),
 .one (.v .bool),
 .one (.v .bool),
 .one (.v .bool),
 .tup [.agg [.v .str,.v .bool,.v (.sl Za)],.one (.v .bool)],
 .tup [.one (.v (.sl Z2)),.one (.v .bool)],
 .one (.v (.int .i64)),
 .one (.v (.sl ZT)),
 .tup [],
 .tup [],
 .tup [],
 .tup [.one (.v (.int .i64)),.one (.v (.int .i64))],
 .tup [],
 .one (.v .bool),
 .one (.v .bool),
 .one (.v (.int .i64)),
 .tup [.one (.v (.int .i64)),.one (.v .bool)],
 .one (.v .bool),
 .tup [.one (.v (.mp Zc)),.one (.v .bool)],
 .tup [],
 .one (.v (.int .u64)),
 .one (.v (.int .u64)),
 .one (.v (.int .i64)),
 .one (.v (.int .i64)),
 .one (.v .str),
 .one (.v (.int .i64)),
 .one (.v (.int .i64)),
 .one (.v .bool),
 .one (.v (.int .i64)),
 .one (.v (.int .i64)),
 .tup [.one (.v (.sl Z2)),.one (.v .bool)],
 .tup [],
 .one (.v (.int .i64)),
 .one (.v (.int .i64)),
 .one (.v .bool),
 .tup [.one (.v .str),.one (.v .bool)],
 .tup [.one (.v (.int .i64)),.one (.v (.int .i64))],
 .one (.v .bool),
 .one (.v .bool),
 .one (.v (.sl Z2)),
 .tup [.one (.v (.int .i64)),.one (.v (.int .i64))],
 .one (.v (.int .i64)),
 .one (.v .str),
 .tup [],
 .one (.v .str),
 .tup [],
 .one (.v .str),
 .tup [],
 .one (.v .str),
 .tup [],
 .one (.v .str),
 .tup [],
 .one (.v .str),
 .tup [],
 .one (.v (.int .i64)),
 .one (.v .str),
 .tup [],
 .one (.v .str)]
def rsT (f:FuncId) (_:List D):RS:=rsL.getD f (.tup [])
def nilsL:List (List (Option Nat)):=[
 [],
 [],
 [],
 [some 89,none],
 [some 89,none,some 99],
 [some 89,some 104],
 [some 82,some 31],
 [some 89,none,some 31],
 [some 89,none,some 65],
 [some 89,some 65,none],
 [some 89,none],
 [some 89,none],
 [some 89],
 [some 89,none],
 [],
 [some 9,some 9],
 [some 82,some 82],
 [some 82],
 [some 89,none,none],
 [some 99],
 [some 99,none],
 [some 99,none],
 [some 89,some 104],
 [some 89],
 [some 89,some 104],
 [some 82,some 31],
 [some 82,some 31],
 [some 89,none,some 9,some 31],
 [some 89,some 65],
 [some 89,none,none],
 [some 65],
 [some 3,some 3],
 [some 65,none],
 [some 25],
 [none],
 [some 25],
 [some 89,none,some 9],
 [none],
 [some 82,none],
 [none,none],
 [some 3,some 3],
 [none,none],
 [none,none],
 [some 82],
 [none],
 [some 25],
 [some 89,none],
 [some 89,none,some 9],
 [none],
 [none,some 25],
 [],
 [some 3,some 3],
 [some 89,none,none],
 [some 99,none],
 [some 99,none],
 [some 104],
 [some 89,none],
 [some 82,none],
 [none],
 [some 3,none],
 [some 89,none],
 [none],
 [some 82],
 [some 104],
 [some 89,none,none],
 [some 82,none],
 [none],
 [none],
 [some 31,none],
 [none],
 [some 3,none],
 [none],
 [none,none],
 [none,none],
 [none,none],
 [none,none],
 [none,none],
 [some 65],
 [some 9,none,none],
 [some 9,some 82,some 9,some 3],
 [some 65],
 [some 65],
 [none,none],
 [some 65,none,none],
 [none],
 [none],
 [none],
 [some 9],
 [none,none],
 [some 82,none,none,none,none],
 [none],
 [none,none],
 [none],
 [none],
 [none,none],
 [none],
 [none],
 [none],
 [none,some 9],
 [none,none],
 [some 82,some 27,none],
 [none],
 [none,none],
 [some 104,none],
 [none],
 [none,none],
 [none],
 [some 89,none,none],
 [none,none],
 [none,none],
 [some 82,none],
 [none],
 [some 31,none],
 [some 3,none],
 [none,none],
 [some 65],
 [some 65],
 [none],
 [some 65,none],
 [none],
 [some 25],
 [none,some 104],
 [none,none],
 [some 65,none,none],
 [none,some 3,none,none],
 [none,some 3,none],
 [some 25,none],
 [none],
 [none],
 [none],
 [none],
 [none,some 3,none],
 [some 9,none,none,none],
 [some 9,none],
 [none,none],
 [none,some 78],
 [none,none,none],
 [some 82,none,none,none],
 [some 82,none,none,none],
 [some 82,none,none,none],
 [some 82,none,none,none],
 [some 82,none,none,none],
 [some 82,none,none,none],
 [some 82,none,none,none,none],
 [some 82,none,none,none,none],
 [none],
 [none],
 [none],
 [none],
 [some 9,none],
 [none,some 27],
 [some 82,some 82],
 [some 82,none],
 [some 82],
 [none],
 [none],
 [some 104,none],
 [none,none],
 [some 5,none],
 [none],
 [none],
 [none,none],
 [some 25],
 [none,none],
 [some 65,none],
 [some 9,none],
 [none],
 [some 9,none],
 [none,some 3],
 [none,none],
 [some 25,none],
 [some 3],
 [some 9,none,none],
 [some 9,none,none],
 [some 9,none,none],
 [some 9,none,none],
 [some 9,none,none],
 [some 9,none,none],
 [none,none],
 [some 9,none,none,none],
 [some 9,none,none,none],
 [none],
 [none,none],
 [some 82,none,none,none,none],
 [none],
 [none],
 [some 82,none,none,none],
 [some 82,none,none,none,none,none],
 [none,none],
 [some 5,none],
 [none,none],
 [none,none],
 [some 9,none],
 [some 9,none],
 [some 99,none,none],
 [some 9,none,none,none],
 [some 9,none,none],
 [some 9,none,none,none,none],
 [none],
 [none,none],
 [some 82,none,none,none,none],
 [some 99,none],
 [none,none],
 [some 99,none,none],
 [some 9,none,none,none],
 [none,none],
 [none],
 [none],
 [none],
 [none],
 [none],
 [none],
 [none],
 [none],
 [none],
 [none],
 [none],
 [none],
 [none],
 [none],
 [none],
 [none]]
def nilsT (f:FuncId):List (Option Nat):=nilsL.getD f []
def ownsT (f:FuncId):Option (Nat×TypeId):=match f with | _=>none
def extT (f:FuncId):Bool:=Nat.beq f 190
def entT (f:FuncId):Bool:=Nat.blt f 222&&!([0,1,190,206,207,208,209,210,211,212,213,214,215,216,217,218,219,220,221].any (Nat.beq f))
abbrev cl:FuncId→List D→Heap→(D→Heap→Prop)→Prop:=ACalls Tryz.prog (lfs tab)
def rowA (f:FuncId) (r:List V):List D:=match f with | 130=>[.ln ((r.tail.tail.tail.headD V.none).int.toNat),.agg [.v .str (r.headD V.none),.v .bool (r.tail.headD V.none),.v (.sl Za) (r.tail.tail.headD V.none)]] | 154=>[.v .str (r.headD V.none)] | _=>[]
def anyT (f:FuncId):Bool:=Nat.beq f 154
def itA (f:FuncId) (caps:List D) (rows:List (List V)):Prop:=AIterB (anyT f) Tryz.prog (lfs tab) (rowA f) f caps rows
def freshT (f:FuncId):Option TypeId:=match f with | 33=>some 104 | _=>none
def frA (f:FuncId) (args:List D) (xs:List (List V)):Prop:=match freshT f with | some e=>AFresh Tryz.prog (lfs tab) f args e xs | none=>False
def envA (l:List (Nat×List Adj)) (c:CutT) (r:List Nat) (z:List (Nat×List Frz)) (y:List Nat):Env:={ T:=tab,rs:=rsT,ext:=extT,ent:=entT,call:=cl,owns:=ownsT,nils:=nilsT,frz:=frzLook z,lit:=inL r,join:=inL y,cut:=cutLook c,flt:=fltLook c,late:=lateLook c,adj:=adjLook l,iter:=itA,anyI:=anyT,row:=rowA,fresh:=freshT,freshP:=frA,keep:=false }
theorem ents:(List.range 222).all (fun f=>!entT f||entOk Tryz.prog f)=true:=by kernel_rfl
theorem envOk (l:List (Nat×List Adj)) (c:CutT) (r:List Nat) (z:List (Nat×List Frz)) (y:List Nat):EnvOk Tryz.prog (envA l c r z y):=⟨tab_ok,fun f hf args w=>by
 have hf':entT f=true:=hf
 have hlt:f<222:=by
  have:=((Bool.and_eq_true _ _).mp hf').1
  exact Nat.le_of_ble_eq_true this
 have h:=List.all_eq_true.1 ents f (List.mem_range.2 hlt)
 rw [hf'] at h
 exact ent_of (by simpa using h) args w,fun _ _ _ _ h=>h,fun _ _ _ _ _ h k=>k.mono h,by kernel_rfl,fun _ _ _ h=>h,fun f args e xs h1 h2=>(by
 have h1:freshT f=some e:=h1
 have h2:frA f args xs:=h2
 unfold frA at h2
 rw [h1] at h2
 exact h2),fun f hf a b w=>by
 have hf2:f=190:=Nat.eq_of_beq_eq_true hf
 subst hf2
 rw [run_callFunc_extern Tryz.func190 (by kernel_rfl) (by kernel_rfl) (by kernel_rfl) (e:=Extern.BytealgCompare.compare) (by kernel_rfl),Lib.run_compareString]; rfl⟩
end Go.Proofs.YthhnadeoioeniaaGreat
set_option linter.unusedSimpArgs false
namespace Go.Proofs.YthhnadeoioeniaaGreat
open Go.Abs
abbrev iD (n:Int):D:=.v (.int .i64) (.i n)
abbrev bD (b:Bool):D:=.v .bool (.b b)
abbrev sD (s:ByteArray):D:=.v .str (.s s)
abbrev uD (n:Int):D:=.v (.int .u8) (.i n)
def Fn (f:FuncId) (args:List D) (r:D):Prop:=∀ Q:D→Heap→Prop,Q r []→cl f args [] Q
theorem Fn.use {f:FuncId} {args:List D} {r:D} (h:Fn f args r) {Q:D→Heap→Prop} (hq:Q r []):cl f args [] Q:=h Q hq
theorem Fn.here {f:FuncId} {args:List D} {r r':D} (h:Fn f args r) (e:r'=r):cl f args [] (fun x H'=>x=r'∧H'=[]):=h _ ⟨e.symm,rfl⟩
theorem iff_intro {b:Bool} {p q:Prop} (h1:b=true→p) (h2:b=false→q):iff b p q:=by
 cases b with
 | true=>exact h1 rfl
 | false=>exact h2 rfl
theorem iff_dec {c:Prop} [Decidable c] {p q:Prop} (h1:c→p) (h2:¬ c→q):iff (decide c) p q:=by
 by_cases h:c
 ·exact iff_yes (decide_eq_true h) (h1 h)
 ·exact iff_no (decide_eq_false h) (h2 h)
theorem iff_beq {α:Type} [BEq α] [LawfulBEq α] {a b:α} {p q:Prop} (h1:a=b→p) (h2:a≠b→q):iff (a == b) p q:=by
 by_cases h:a=b
 ·exact iff_yes (by simp [h]) (h1 h)
 ·exact iff_no (by simp [h]) (h2 h)
theorem iff_bne {α:Type} [BEq α] [LawfulBEq α] {a b:α} {p q:Prop} (h1:a≠b→p) (h2:a=b→q):iff (a != b) p q:=by
 by_cases h:a=b
 ·exact iff_no (by simp [h]) (h2 h)
 ·exact iff_yes (by simp [h]) (h1 h)
theorem iff_not {b:Bool} {p q:Prop} (h:iff b q p):iff (!b) p q:=by cases b <;> exact h
theorem wrap_in (n:Int) (h1:-9223372036854775808≤n) (h2:n≤9223372036854775807):IntKind.i64.wrap n=n:=IntWalk.i64_in n ⟨h1,h2⟩
theorem wrap_u64 (n:Int) (h1:0≤n) (h2:n≤18446744073709551615):IntKind.u64.wrap n=n:=by
 simp only [IntKind.wrap,IntKind.signed,IntKind.bits,Bool.false_and,Bool.false_eq_true,if_false]; omega
theorem big_eq:big=9223372036854775807:=rfl
theorem ba_toList (s:ByteArray):s.toList=s.data.toList:=by
 have key:∀ (n i:Nat) (r:List UInt8),s.size - i=n→i≤s.size→ByteArray.toList.loop s i r=r.reverse++s.data.toList.drop i:=by
  intro n
  induction n with
  | zero =>
   intro i r h1 h2
   unfold ByteArray.toList.loop
   have:¬ i<s.size:=by omega
   rw [if_neg this]
   have h3:s.data.toList.length=s.size:=by simp
   simp [List.drop_eq_nil_of_le (by omega:s.data.toList.length≤i)]
  | succ n ih =>
   intro i r h1 h2
   unfold ByteArray.toList.loop
   have hi:i<s.size:=by omega
   rw [if_pos hi,ih (i+1) _ (by omega) (by omega)]
   have h3:i<s.data.toList.length:=by simpa using hi
   rw [List.drop_eq_getElem_cons h3]
   have:s.get! i=s.data.toList[i]:=by
    show s.data[i]! = _
    rw [getElem!_pos s.data i (by simpa using hi)]
    simp
   simp [this]
 have:=key s.size 0 [] (by omega) (by omega)
 simpa [ByteArray.toList] using this
theorem ba_ext {a b:ByteArray} (h:a.data.toList=b.data.toList):a=b:=by
 cases a; cases b; simp at h; exact congrArg _ h
theorem ba_eq_iff {a b:ByteArray}:a.data.toList=b.data.toList↔a=b:=⟨ba_ext,fun h=>h▸rfl⟩
theorem ba_beq (a b:ByteArray):(a.toList == b.toList)=decide (a=b):=by
 rw [ba_toList,ba_toList,Bool.eq_iff_iff,beq_iff_eq,ba_eq_iff,decide_eq_true_iff]
theorem ba_size (s:ByteArray):s.data.toList.length=s.size:=by simp
theorem ba_nil (s:ByteArray):(s=ByteArray.mk #[])↔s.size=0:=by
 constructor
 ·rintro rfl; rfl
 ·intro h
  apply ba_ext
  apply List.eq_nil_of_length_eq_zero
  rw [ba_size]; exact h
abbrev cmpN (a b:ByteArray):Int:=Lib.compareBytes a.data.toList b.data.toList
theorem cmp_self:∀ l:List UInt8,Lib.compareBytes l l=0
 | []=>rfl
 | a::l=>by simp [Lib.compareBytes,cmp_self l]
theorem u8_lt (a b:UInt8):a<b↔a.toNat<b.toNat:=UInt8.lt_iff_toNat_lt
theorem cmp_cases:∀ (l m:List UInt8),(Lib.compareBytes l m = -1∧Lib.compareBytes m l=1)∨(Lib.compareBytes l m=0∧l=m)∨(Lib.compareBytes l m=1∧Lib.compareBytes m l = -1)
 | [],[]=>by simp [Lib.compareBytes]
 | [],_::_=>by simp [Lib.compareBytes]
 | _::_,[]=>by simp [Lib.compareBytes]
 | a::l,b::m=>by
  simp only [Lib.compareBytes]
  by_cases h1:a<b
  ·have h2:¬ b<a:=by rw [u8_lt] at *; omega
   simp [h1,h2]
  ·by_cases h2:b<a
   ·simp [h1,h2]
   ·have h3:a=b:=by
     apply UInt8.toNat_inj.1; rw [u8_lt] at *; omega
    subst h3
    simp only [if_neg h1]
    rcases cmp_cases l m with h | ⟨h,h'⟩ | h
    ·exact .inl h
    ·exact .inr (.inl ⟨h,by rw [h']⟩)
    ·exact .inr (.inr h)
theorem cmp_trans:∀ (l m n:List UInt8),Lib.compareBytes l m = -1→Lib.compareBytes m n = -1→Lib.compareBytes l n = -1
 | [],[],n,h,_=>by simp [Lib.compareBytes] at h
 | [],_::_,[],_,h=>by simp [Lib.compareBytes] at h
 | [],_::_,_::_,_,_=>by simp [Lib.compareBytes]
 | _::_,[],_,h,_=>by simp [Lib.compareBytes] at h
 | _::_,_::_,[],_,h=>by simp [Lib.compareBytes] at h
 | a::l,b::m,c::n,h1,h2=>by
  simp only [Lib.compareBytes] at *
  by_cases hab:a<b
  ·by_cases hbc:b<c
   ·have:a<c:=by rw [u8_lt] at *; omega
    simp [this]
   ·rw [if_neg hbc] at h2
    by_cases hcb:c<b
    ·simp [hcb] at h2
    ·have:a<c:=by rw [u8_lt] at *; omega
     simp [this]
  ·rw [if_neg hab] at h1
   by_cases hba:b<a
   ·simp [hba] at h1
   ·rw [if_neg hba] at h1
    have he:a=b:=by apply UInt8.toNat_inj.1; rw [u8_lt] at *; omega
    subst he
    by_cases hbc:a<c
    ·simp [hbc]
    ·rw [if_neg hbc] at h2
     by_cases hcb:c<a
     ·simp [hcb] at h2
     ·rw [if_neg hcb] at h2
      rw [if_neg hbc,if_neg hcb]
      exact cmp_trans l m n h1 h2
theorem bytesLess_cmp:∀ (l m:List UInt8),Op.bytesLess l m=decide (Lib.compareBytes l m = -1)
 | [],[]=>by simp [Op.bytesLess,Lib.compareBytes]
 | _::_,[]=>by simp [Op.bytesLess,Lib.compareBytes]
 | [],_::_=>by simp [Op.bytesLess,Lib.compareBytes]
 | a::l,b::m=>by
  simp only [Op.bytesLess,Lib.compareBytes,bytesLess_cmp l m]
  by_cases h1:a<b
  ·simp [h1]
  ·by_cases h2:b<a
   ·have:a≠b:=by intro h; rw [u8_lt] at h2; rw [h] at h2; omega
    simp [h1,h2,this]
   ·have h3:a=b:=by apply UInt8.toNat_inj.1; rw [u8_lt] at *; omega
    subst h3
    simp [h1]
theorem cmpN_cases (a b:ByteArray):(cmpN a b = -1∧cmpN b a=1)∨(cmpN a b=0∧a=b)∨(cmpN a b=1∧cmpN b a = -1):=by
 rcases cmp_cases a.data.toList b.data.toList with h | ⟨h1,h2⟩ | h
 ·exact .inl h
 ·exact .inr (.inl ⟨h1,ba_ext h2⟩)
 ·exact .inr (.inr h)
theorem cmpN_self (a:ByteArray):cmpN a a=0:=cmp_self _
theorem cmpN_zero {a b:ByteArray}:cmpN a b=0↔a=b:=by
 rcases cmpN_cases a b with h | h | h
 ·constructor
  ·omega
  ·rintro rfl; have:=cmpN_self a; omega
 ·exact ⟨fun _=>h.2,fun _=>h.1⟩
 ·constructor
  ·omega
  ·rintro rfl; have:=cmpN_self a; omega
theorem cmpN_trans {a b c:ByteArray} (h1:cmpN a b = -1) (h2:cmpN b c = -1):cmpN a c = -1:=cmp_trans _ _ _ h1 h2
theorem cmpN_flip (a b:ByteArray):cmpN b a = - cmpN a b:=by
 rcases cmpN_cases a b with h | ⟨h,rfl⟩ | h
 ·omega
 ·rw [cmpN_self]; rfl
 ·omega
theorem less_cmp (a b:ByteArray):Op.bytesLess a.toList b.toList=decide (cmpN a b = -1):=by rw [ba_toList,ba_toList]; exact bytesLess_cmp _ _
def letterB (c:Int):Bool:=decide (65≤c∧c≤90∨97≤c∧c≤122∨48≤c∧c≤57∨c=95∨c=39)
def lettersL (l:List UInt8):Bool:=l.all fun c=>letterB (c.toNat:Int)
def markedL (l:List UInt8):Bool:=decide (l.getLast?=some 35)
def nameOk (s:ByteArray) (m:Bool):Bool :=
 decide (s.size≤24)&&(if m&&markedL s.data.toList then decide (1<s.size)&&lettersL s.data.toList.dropLast else decide (0<s.size)&&lettersL s.data.toList)
theorem extract_list (s:ByteArray) (i j:Nat):(s.extract i j).data.toList=(s.data.toList.take j).drop i:=by
 simp [ByteArray.data_extract,Array.toList_extract,List.extract_eq_take_drop,List.drop_take]
end Go.Proofs.YthhnadeoioeniaaGreat
namespace Go.Proofs.YthhnadeoioeniaaGreat
def cmpE:List Int→List Int→Int
 | [],[]=>0
 | [],_::_=>-1
 | _::_,[]=>1
 | a::l,b::m=>if a<b then -1 else if b<a then 1 else cmpE l m
theorem cmpE_cases:∀ l m:List Int,cmpE l m = -1∨cmpE l m=0∨cmpE l m=1
 | [],[]=>.inr (.inl rfl)
 | [],_::_=>.inl rfl
 | _::_,[]=>.inr (.inr rfl)
 | a::l,b::m=>by
  rw [cmpE]
  split
  ·exact .inl rfl
  ·split
   ·exact .inr (.inr rfl)
   ·exact cmpE_cases l m
theorem cmpE_zero:∀ {l m:List Int},cmpE l m=0↔l=m
 | [],[]=>by simp [cmpE]
 | [],_::_=>by simp [cmpE]
 | _::_,[]=>by simp [cmpE]
 | a::l,b::m=>by
  rw [cmpE,List.cons.injEq,← cmpE_zero (l:=l) (m:=m)]
  split
  ·constructor
   ·intro h; cases h
   ·rintro ⟨h,_⟩; omega
  ·split
   ·constructor
    ·intro h; cases h
    ·rintro ⟨h,_⟩; omega
   ·constructor
    ·intro h; exact ⟨by omega,h⟩
    ·exact fun h=>h.2
theorem cmpE_self (l:List Int):cmpE l l=0:=cmpE_zero.2 rfl
theorem cmpE_flip:∀ l m:List Int,cmpE m l = -cmpE l m
 | [],[]=>rfl
 | [],_::_=>rfl
 | _::_,[]=>rfl
 | a::l,b::m=>by
  rw [cmpE,cmpE]
  by_cases h1:a<b
  ·rw [if_pos h1,if_neg (by omega),if_pos h1]; rfl
  ·by_cases h2:b<a
   ·rw [if_pos h2,if_neg h1,if_pos h2]
   ·rw [if_neg h1,if_neg h2,if_neg h2,if_neg h1,cmpE_flip l m]
theorem cmpE_trans:∀ {l m n:List Int},cmpE l m = -1→cmpE m n = -1→cmpE l n = -1
 | [],[],n,h,_=>by simp [cmpE] at h
 | [],_::_,[],_,h=>by simp [cmpE] at h
 | [],_::_,_::_,_,_=>rfl
 | _::_,[],_,h,_=>by simp [cmpE] at h
 | _::_,_::_,[],_,h=>by simp [cmpE] at h
 | a::l,b::m,c::n,h1,h2=>by
  rw [cmpE] at h1 h2 ⊢
  by_cases p1:a<b
  ·by_cases p2:b<c
   ·rw [if_pos (by omega)]
   ·rw [if_neg p2] at h2
    by_cases p3:c<b
    ·rw [if_pos p3] at h2; cases h2
    ·rw [if_pos (by omega)]
  ·rw [if_neg p1] at h1
   by_cases p2:b<a
   ·rw [if_pos p2] at h1; cases h1
   ·rw [if_neg p2] at h1
    by_cases p3:b<c
    ·rw [if_pos (by omega)]
    ·rw [if_neg p3] at h2
     by_cases p4:c<b
     ·rw [if_pos p4] at h2; cases h2
     ·rw [if_neg p4] at h2
      rw [if_neg (by omega),if_neg (by omega)]
      exact cmpE_trans h1 h2
structure Mo where
 coef:Nat
 exps:List Int
abbrev Mos:=List Mo
abbrev maxV:Nat:=4611686018427387904
abbrev ovr:Nat:=4611686018427387905
def plusP (a b:Nat):Nat:=min (a+b) ovr
def timesP (a b:Nat):Nat:=min (a*b) ovr
theorem plusP_right (a b c:Nat):plusP (plusP a b) c=plusP (plusP a c) b:=by unfold plusP; omega
theorem plusP_ge (a b:Nat) (h:maxV<a):maxV<plusP a b:=by
 have h:4611686018427387904<a:=h
 show 4611686018427387904<min (a+b) 4611686018427387905
 omega
def addP:Mos→Mo→Mos
 | [],m=>[m]
 | x::l,m=>if cmpE x.exps m.exps = -1 then x::addP l m else if cmpE x.exps m.exps=0 then ⟨plusP x.coef m.coef,x.exps⟩::l else m::x::l
theorem addP_lt {x m:Mo} {l:Mos} (h:cmpE x.exps m.exps = -1):addP (x::l) m=x::addP l m:=by rw [addP,if_pos h]
theorem addP_eq {x m:Mo} {l:Mos} (h:cmpE x.exps m.exps=0):addP (x::l) m=⟨plusP x.coef m.coef,x.exps⟩::l:=by rw [addP,if_neg (by omega),if_pos h]
theorem addP_gt {x m:Mo} {l:Mos} (h:cmpE x.exps m.exps=1):addP (x::l) m=m::x::l:=by rw [addP,if_neg (by omega),if_neg (by omega)]
theorem addP_lt' {c:Nat} {e:List Int} {m:Mo} {l:Mos} (h:cmpE e m.exps = -1):addP (⟨c,e⟩::l) m=⟨c,e⟩::addP l m:=addP_lt (x:=⟨c,e⟩) h
theorem addP_eq' {c:Nat} {e:List Int} {m:Mo} {l:Mos} (h:cmpE e m.exps=0):addP (⟨c,e⟩::l) m=⟨plusP c m.coef,e⟩::l:=addP_eq (x:=⟨c,e⟩) h
theorem addP_gt' {c:Nat} {e:List Int} {m:Mo} {l:Mos} (h:cmpE e m.exps=1):addP (⟨c,e⟩::l) m=m::⟨c,e⟩::l:=addP_gt (x:=⟨c,e⟩) h
theorem addP_comm (a b:Mo):∀ l:Mos,(∀ x∈l,x.coef≤ovr)→a.coef≤ovr→b.coef≤ovr→addP (addP l a) b=addP (addP l b) a:=by
 have two:∀ (a b:Mo) (l:Mos),(∀ x∈l,cmpE x.exps a.exps=1∧cmpE x.exps b.exps=1∨True)→cmpE a.exps b.exps = -1→addP (addP [] a) b=addP (addP [] b) a:=fun a b l _ h=>by
  have h2:cmpE b.exps a.exps=1:=by rw [cmpE_flip,h] <;> rfl
  show addP [a] b=addP [b] a
  rw [addP_lt h,addP_gt h2]; rfl
 intro l
 induction l with
 | nil =>
  intro _ _ _
  rcases cmpE_cases a.exps b.exps with h | h | h
  ·exact two a b [] (fun x hx=>.inr trivial) h
  ·have e:=cmpE_zero.1 h
   show addP [a] b=addP [b] a
   rw [addP_eq h,addP_eq (by rw [e]; exact cmpE_self _),e]
   congr 2
   unfold plusP; omega
  ·have h2:cmpE b.exps a.exps = -1:=by rw [cmpE_flip,h] <;> rfl
   exact (two b a [] (fun x hx=>.inr trivial) h2).symm
 | cons x l ih =>
  intro hx ha hb
  have ih:=ih (fun y hy=>hx y (by simp [hy])) ha hb
  have hxc:=hx x (by simp)
  rcases cmpE_cases x.exps a.exps with h | h | h <;> rcases cmpE_cases x.exps b.exps with g | g | g
  ·rw [addP_lt h,addP_lt g,addP_lt g,addP_lt h,ih]
  ·rw [addP_lt h,addP_eq g,addP_eq g,addP_lt' h]
  ·have k:cmpE b.exps a.exps = -1:=cmpE_trans (by rw [cmpE_flip,g] <;> rfl) h
   rw [addP_lt h,addP_gt g,addP_gt g,addP_lt k,addP_lt h]
  ·rw [addP_eq h,addP_lt g,addP_lt' g,addP_eq h]
  ·rw [addP_eq h,addP_eq g,addP_eq' g,addP_eq' h,plusP_right]
  ·have k:cmpE b.exps a.exps = -1:=by rw [← cmpE_zero.1 h,cmpE_flip,g] <;> rfl
   rw [addP_eq h,addP_gt g,addP_gt' g,addP_lt k,addP_eq h]
  ·have k:cmpE a.exps b.exps = -1:=cmpE_trans (by rw [cmpE_flip,h] <;> rfl) g
   rw [addP_gt h,addP_lt g,addP_lt k,addP_lt g,addP_gt h]
  ·have k:cmpE a.exps b.exps = -1:=by rw [← cmpE_zero.1 g,cmpE_flip,h] <;> rfl
   rw [addP_gt h,addP_eq g,addP_lt k,addP_eq g,addP_gt' h]
  ·rw [addP_gt h,addP_gt g]
   rcases cmpE_cases a.exps b.exps with k | k | k
   ·have k2:cmpE b.exps a.exps=1:=by rw [cmpE_flip,k] <;> rfl
    rw [addP_lt k,addP_gt g,addP_gt k2]
   ·have e:=cmpE_zero.1 k
    rw [addP_eq k,addP_eq (by rw [e]; exact cmpE_self _),e]
    congr 2
    unfold plusP; omega
   ·have k2:cmpE b.exps a.exps = -1:=by rw [cmpE_flip,k] <;> rfl
    rw [addP_gt k,addP_lt k2,addP_gt h]
theorem addP_coef {m:Mo} (hm:m.coef≤ovr):∀ {l:Mos},(∀ x∈l,x.coef≤ovr)→∀ x∈addP l m,x.coef≤ovr
 | [],_,x,hx=>by have:x=m:=(by simpa [addP] using hx); rw [this]; exact hm
 | y::l,h,x,hx=>by
  have hy:=h y (by simp)
  rcases cmpE_cases y.exps m.exps with g | g | g
  ·rw [addP_lt g] at hx
   rcases List.mem_cons.1 hx with rfl | hx
   ·exact hy
   ·exact addP_coef hm (fun z hz=>h z (by simp [hz])) x hx
  ·rw [addP_eq g] at hx
   rcases List.mem_cons.1 hx with rfl | hx
   ·show plusP _ _≤ovr
    unfold plusP; omega
   ·exact h x (by simp [hx])
  ·rw [addP_gt g] at hx
   rcases List.mem_cons.1 hx with rfl | hx
   ·exact hm
   ·exact h x hx
def addsP (l:Mos) (ms:Mos):Mos:=ms.foldl addP l
theorem addsP_coef:∀ {ms l:Mos},(∀ x∈ms,x.coef≤ovr)→(∀ x∈l,x.coef≤ovr)→∀ x∈addsP l ms,x.coef≤ovr
 | [],_,_,h,x,hx=>h x hx
 | m::ms,l,hm,h,x,hx=>addsP_coef (ms:=ms) (fun y hy=>hm y (by simp [hy])) (addP_coef (hm m (by simp)) h) x hx
theorem addsP_perm {ms ms':Mos} (hp:ms.Perm ms'):∀ l:Mos,(∀ x∈ms,x.coef≤ovr)→(∀ x∈l,x.coef≤ovr)→addsP l ms=addsP l ms':=by
 induction hp with
 | nil=>intro l _ _; rfl
 | cons a _ ih=>intro l hm h; exact ih _ (fun x hx=>hm x (by simp [hx])) (addP_coef (hm a (by simp)) h)
 | swap a b r =>
  intro l hm h
  show addsP (addP (addP l b) a) r=addsP (addP (addP l a) b) r
  rw [addP_comm b a l h (hm b (by simp)) (hm a (by simp))]
 | trans h1 _ ih1 ih2 =>
  intro l hm h
  rw [ih1 l hm h,ih2 l (fun x hx=>hm x (h1.mem_iff.2 hx)) h]
def bigMo (x:Mo):Bool:=decide (maxV<x.coef)||x.exps.any fun n=>decide (1048576<n)
def largeP (l:Mos):Bool:=decide (4096<l.length)||l.any bigMo
theorem addP_length (m:Mo):∀ l:Mos,l.length≤(addP l m).length
 | []=>Nat.zero_le _
 | x::l=>by
  rcases cmpE_cases x.exps m.exps with g | g | g
  ·rw [addP_lt g]; have:=addP_length m l; simp only [List.length_cons]; omega
  ·rw [addP_eq g]; simp
  ·rw [addP_gt g]; simp
theorem addP_big (m:Mo):∀ l:Mos,l.any bigMo=true→(addP l m).any bigMo=true
 | [],h=>by simp at h
 | x::l,h=>by
  rw [List.any_cons,Bool.or_eq_true] at h
  rcases cmpE_cases x.exps m.exps with g | g | g
  ·rw [addP_lt g,List.any_cons,Bool.or_eq_true]
   exact h.imp id (addP_big m l)
  ·rw [addP_eq g,List.any_cons,Bool.or_eq_true]
   refine h.imp (fun h=>?_) id
   unfold bigMo at h ⊢
   rw [Bool.or_eq_true] at h ⊢
   exact h.imp (fun h=>decide_eq_true (plusP_ge _ _ (of_decide_eq_true h))) id
  ·rw [addP_gt g,List.any_cons,List.any_cons,Bool.or_eq_true,Bool.or_eq_true]
   exact .inr h
theorem addP_large {m:Mo} {l:Mos} (h:largeP l=true):largeP (addP l m)=true:=by
 unfold largeP at h ⊢
 rw [Bool.or_eq_true] at h ⊢
 refine h.imp (fun h=>decide_eq_true ?_) (addP_big m l)
 have h:=of_decide_eq_true h
 have:=addP_length m l
 omega
theorem addsP_large:∀ {ms l:Mos},largeP l=true→largeP (addsP l ms)=true
 | [],_,h=>h
 | m::ms,l,h=>addsP_large (ms:=ms) (addP_large h)
def chkP:Mos→Mos→Option Mos
 | l,[]=>some l
 | l,m::ms=>if largeP (addP l m) then none else chkP (addP l m) ms
end Go.Proofs.YthhnadeoioeniaaGreat
namespace Go.Proofs.YthhnadeoioeniaaGreat
def SortP (l:Mos):Prop:=l.Pairwise fun x y=>cmpE x.exps y.exps = -1
theorem addP_mem {m:Mo}:∀ {l:Mos},∀ x∈addP l m,x.exps=m.exps∨∃ y∈l,y.exps=x.exps
 | [],x,hx=>by have:x=m:=(by simpa [addP] using hx); exact .inl (by rw [this])
 | y::l,x,hx=>by
  rcases cmpE_cases y.exps m.exps with g | g | g
  ·rw [addP_lt g] at hx
   rcases List.mem_cons.1 hx with rfl | hx
   ·exact .inr ⟨x,by simp,rfl⟩
   ·rcases addP_mem x hx with h | ⟨z,hz,h⟩
    ·exact .inl h
    ·exact .inr ⟨z,by simp [hz],h⟩
  ·rw [addP_eq g] at hx
   rcases List.mem_cons.1 hx with rfl | hx
   ·exact .inr ⟨y,by simp,rfl⟩
   ·exact .inr ⟨x,by simp [hx],rfl⟩
  ·rw [addP_gt g] at hx
   rcases List.mem_cons.1 hx with rfl | hx
   ·exact .inl rfl
   ·exact .inr ⟨x,hx,rfl⟩
theorem addP_sort {m:Mo}:∀ {l:Mos},SortP l→SortP (addP l m)
 | [],_=>by simp [addP,SortP]
 | y::l,h=>by
  have h:=List.pairwise_cons.1 h
  rcases cmpE_cases y.exps m.exps with g | g | g
  ·rw [addP_lt g]
   refine List.pairwise_cons.2 ⟨fun x hx=>?_,addP_sort h.2⟩
   rcases addP_mem x hx with e | ⟨z,hz,e⟩
   ·rw [e]; exact g
   ·rw [← e]; exact h.1 z hz
  ·rw [addP_eq g]
   exact List.pairwise_cons.2 ⟨h.1,h.2⟩
  ·rw [addP_gt g]
   have g2:cmpE m.exps y.exps = -1:=by rw [cmpE_flip,g] <;> rfl
   refine List.pairwise_cons.2 ⟨fun x hx=>?_,List.pairwise_cons.2 h⟩
   rcases List.mem_cons.1 hx with rfl | hx
   ·exact g2
   ·exact cmpE_trans g2 (h.1 x hx)
theorem addsP_sort:∀ {ms l:Mos},SortP l→SortP (addsP l ms)
 | [],_,h=>h
 | m::ms,l,h=>addsP_sort (ms:=ms) (addP_sort h)
theorem addP_new {m:Mo}:∀ {l:Mos},(∀ y∈l,y.exps≠m.exps)→(addP l m).Perm (m::l)
 | [],_=>.refl _
 | y::l,h=>by
  rcases cmpE_cases y.exps m.exps with g | g | g
  ·rw [addP_lt g]
   exact ((addP_new fun z hz=>h z (by simp [hz])).cons y).trans (.swap m y l)
  ·exact absurd (cmpE_zero.1 g) (h y (by simp))
  ·rw [addP_gt g]
theorem addP_old {m:Mo}:∀ {l:Mos},SortP l→∀ y∈l,y.exps=m.exps→∃ l',l.Perm (y::l')∧(addP l m).Perm (⟨plusP y.coef m.coef,m.exps⟩::l')
 | [],_,y,hy,_=>by simp at hy
 | x::l,h,y,hy,e=>by
  have h:=List.pairwise_cons.1 h
  rcases List.mem_cons.1 hy with rfl | hy
  ·refine ⟨l,.refl _,?_⟩
   rw [addP_eq (cmpE_zero.2 e),e]
  ·have g:cmpE x.exps m.exps = -1:=by rw [← e]; exact h.1 y hy
   obtain ⟨l',p1,p2⟩:=addP_old h.2 y hy e
   rw [addP_lt g]
   exact ⟨x::l',(p1.cons x).trans (.swap y x l'),(p2.cons x).trans (.swap _ x l')⟩
def addE:List Int→List Int→List Int
 | a::l,b::m=>(a+b)::addE l m
 | _,_=>[]
theorem addE_length:∀ (l m:List Int),l.length=m.length→(addE l m).length=l.length
 | [],[],_=>rfl
 | _::l,_::m,h=>by
  simp only [addE,List.length_cons] at h ⊢
  rw [addE_length l m (by omega)]
 | [],_::_,h=>by simp at h
 | _::_,[],h=>by simp at h
def mulMo (x y:Mo):Mo:=⟨timesP x.coef y.coef,addE x.exps y.exps⟩
def pairsP (a b:Mos):Mos:=a.flatMap fun x=>b.map (mulMo x)
def mulP (a b:Mos):Option Mos:=if largeP (addsP [] (pairsP a b)) then none else some (addsP [] (pairsP a b))
theorem mulMo_coef (x y:Mo):(mulMo x y).coef≤ovr:=by show min _ ovr≤ovr; omega
theorem pairsP_coef (a b:Mos):∀ x∈pairsP a b,x.coef≤ovr:=fun x hx=>by
 unfold pairsP at hx
 obtain ⟨y,_,hx⟩:=List.mem_flatMap.1 hx
 obtain ⟨z,_,rfl⟩:=List.mem_map.1 hx
 exact mulMo_coef y z
theorem flatMap_perm {α β:Type} {f g:α→List β}:∀ l:List α,(∀ x∈l,(f x).Perm (g x))→(l.flatMap f).Perm (l.flatMap g)
 | [],_=>.refl _
 | x::l,h=>by
  rw [List.flatMap_cons,List.flatMap_cons]
  exact (h x (by simp)).append (flatMap_perm l fun y hy=>h y (by simp [hy]))
theorem pairsP_perm {a a' b b':Mos} (h:a.Perm a') (h2:b.Perm b'):(pairsP a b).Perm (pairsP a' b'):=by
 unfold pairsP
 refine (h.flatMap_right _).trans ?_
 exact flatMap_perm _ fun x _=>h2.map _
theorem mulP_perm {a a' b b':Mos} (h:a.Perm a') (h2:b.Perm b'):mulP a b=mulP a' b':=by
 unfold mulP
 rw [addsP_perm (pairsP_perm h h2) [] (pairsP_coef a b) fun x hx=>by simp at hx]
def powL (i:Nat) (e:Int):List UInt8:=[UInt8.ofNat (i / 256),UInt8.ofNat i,UInt8.ofNat (e.toNat / 16777216),UInt8.ofNat (e.toNat / 65536),UInt8.ofNat (e.toNat / 256),UInt8.ofNat e.toNat]
def keyL:Nat→List Int→List UInt8
 | _,[]=>[]
 | i,e::r=>(if 0<e then powL i e else [])++keyL (i+1) r
theorem powL_inj {i j:Nat} {e f:Int} (hi:i<65536) (hj:j<65536) (he:0≤e) (he2:e<4294967296) (hf:0≤f) (hf2:f<4294967296) (h:powL i e=powL j f):i=j∧e=f:=by
 unfold powL at h
 simp only [List.cons.injEq,and_true] at h
 obtain ⟨h1,h2,h3,h4,h5,h6⟩:=h
 have k:∀ {a b:Nat},UInt8.ofNat a=UInt8.ofNat b→a % 256=b % 256:=fun {a b} h=>by
  have:=congrArg UInt8.toNat h
  simpa using this
 have h1:=k h1
 have h2:=k h2
 have h3:=k h3
 have h4:=k h4
 have h5:=k h5
 have h6:=k h6
 omega
def ValidE (n:Nat) (l:List Int):Prop:=l.length=n∧∀ e∈l,0≤e∧e<4294967296
theorem keyL_first {i:Nat}:∀ (l:List Int) (j:Nat),(∀ e∈l,0≤e∧e<4294967296)→j+l.length≤65536→keyL j l=[]∨∃ k e r,keyL j l=powL k e++r∧j≤k∧k<65536∧0<e∧e<4294967296
 | [],j,_,_=>.inl rfl
 | a::l,j,h,hj=>by
  have ha:=h a (by simp)
  simp only [List.length_cons] at hj
  rw [keyL]
  by_cases h0:0<a
  ·rw [if_pos h0]
   exact .inr ⟨j,a,_,rfl,Nat.le_refl _,by omega,h0,ha.2⟩
  ·rw [if_neg h0,List.nil_append]
   rcases keyL_first (i:=i) l (j+1) (fun e he=>h e (by simp [he])) (by omega) with g | ⟨k,e,r,g,g1,g2⟩
   ·exact .inl g
   ·exact .inr ⟨k,e,r,g,by omega,g2⟩
theorem powL_append {i j:Nat} {e f:Int} {r s:List UInt8} (h:powL i e++r=powL j f++s):powL i e=powL j f∧r=s:=List.append_inj h rfl
theorem keyL_inj:∀ (l m:List Int) (i:Nat),l.length=m.length→(∀ e∈l,0≤e∧e<4294967296)→(∀ e∈m,0≤e∧e<4294967296)→i+l.length≤65536→keyL i l=keyL i m→l=m
 | [],[],_,_,_,_,_,_=>rfl
 | [],_::_,_,h,_,_,_,_=>by simp at h
 | _::_,[],_,h,_,_,_,_=>by simp at h
 | a::l,b::m,i,hl,h1,h2,hi,h=>by
  have ha:=h1 a (by simp)
  have hb:=h2 b (by simp)
  have h1':∀ e∈l,0≤e∧e<4294967296:=fun e he=>h1 e (by simp [he])
  have h2':∀ e∈m,0≤e∧e<4294967296:=fun e he=>h2 e (by simp [he])
  simp only [List.length_cons] at hl hi
  have far:∀ (c:Int) (x y:List Int),x.length=y.length→(∀ e∈y,0≤e∧e<4294967296)→i+1+y.length≤65536→0<c→c<4294967296→powL i c++keyL (i+1) x=keyL (i+1) y→False:=fun c x y hxy hy hiy hc hc2 h=>by
   rcases keyL_first (i:=i) y (i+1) hy hiy with g | ⟨k,e,r,g,g1,g2,g3,g4⟩
   ·rw [g] at h; simp [powL] at h
   ·rw [g] at h
    have:=powL_inj (by omega) g2 (by omega) hc2 (by omega) g4 (powL_append h).1
    omega
  rw [keyL,keyL] at h
  by_cases a0:0<a
  ·rw [if_pos a0] at h
   by_cases b0:0<b
   ·rw [if_pos b0] at h
    obtain ⟨p1,p2⟩:=powL_append h
    have e1:=powL_inj (by omega) (by omega) ha.1 ha.2 hb.1 hb.2 p1
    rw [e1.2,keyL_inj l m (i+1) (by omega) h1' h2' (by omega) p2]
   ·rw [if_neg b0,List.nil_append] at h
    exact (far a l m (by omega) h2' (by omega) a0 ha.2 h).elim
  ·rw [if_neg a0,List.nil_append] at h
   by_cases b0:0<b
   ·rw [if_pos b0] at h
    exact (far b m l (by omega) h1' (by omega) b0 hb.2 h.symm).elim
   ·rw [if_neg b0,List.nil_append] at h
    have:a=b:=by omega
    rw [this,keyL_inj l m (i+1) (by omega) h1' h2' (by omega) h]
end Go.Proofs.YthhnadeoioeniaaGreat
