/- Printed by gen.py: functions of the program, each as what must be shown of it. -/
import Derived.Test.YtplieiecebljmaaGreatProg
import Derived.Test.YtplieiecebljmaaGreatKFails2
namespace b_
abbrev bG.s:=bG.seq
abbrev bG.l:=bG.leaf
abbrev bG.c:=bG.cond
abbrev bG.r:=bG.f_ []
end b_
namespace Go.Proofs.YtplieiecebljmaaGreat
open Go b_
section
namespace F
abbrev Gs:Nat:=10
abbrev yZ:Nat:=11
abbrev C1:Nat:=14
abbrev xw:Nat:=19
abbrev BR:Nat:=20
abbrev BH:Nat:=21
abbrev BJ:Nat:=22
abbrev BM:Nat:=23
abbrev wh:Nat:=24
abbrev zF:Nat:=25
abbrev zu:Nat:=26
abbrev D_:Nat:=27
abbrev uS:Nat:=28
abbrev zH:Nat:=29
abbrev wi:Nat:=31
abbrev y6:Nat:=33
abbrev CY:Nat:=34
abbrev Eb:Nat:=35
abbrev zB:Nat:=36
abbrev zI:Nat:=38
abbrev C3:Nat:=39
abbrev AK:Nat:=43
abbrev AL:Nat:=44
abbrev AJ:Nat:=45
abbrev tz:Nat:=57
abbrev y8:Nat:=58
abbrev yF:Nat:=59
abbrev yM:Nat:=60
abbrev xV:Nat:=61
abbrev BL:Nat:=62
abbrev x0:Nat:=63
abbrev m9:Nat:=64
abbrev y2:Nat:=65
abbrev y7:Nat:=66
abbrev y5:Nat:=67
abbrev yJ:Nat:=68
abbrev zE:Nat:=69
abbrev r5:Nat:=70
abbrev D7:Nat:=71
abbrev D8:Nat:=72
abbrev BP:Nat:=73
abbrev Dn:Nat:=74
abbrev y0:Nat:=76
abbrev th:Nat:=78
abbrev CX:Nat:=79
abbrev D5:Nat:=80
abbrev wg:Nat:=81
abbrev yv:Nat:=88
abbrev VX:Nat:=90
abbrev Dk:Nat:=92
abbrev Cw:Nat:=99
abbrev D3:Nat:=103
abbrev sB:Nat:=104
abbrev vy:Nat:=105
abbrev rF:Nat:=106
abbrev nS:Nat:=107
abbrev fM:Nat:=108
abbrev yD:Nat:=109
abbrev zt:Nat:=110
abbrev Bt:Nat:=111
abbrev xT:Nat:=112
abbrev auo:Nat:=113
abbrev Dq:Nat:=114
abbrev Dr:Nat:=115
abbrev AS:Nat:=116
abbrev Dp:Nat:=117
abbrev vq:Nat:=118
abbrev mu:Nat:=119
abbrev yB:Nat:=120
abbrev tG:Nat:=121
abbrev Dm:Nat:=122
abbrev BN:Nat:=125
abbrev wU:Nat:=129
abbrev vg:Nat:=130
abbrev rC:Nat:=131
abbrev GL:Nat:=132
abbrev yu:Nat:=133
abbrev GM:Nat:=134
abbrev yn:Nat:=135
abbrev y3:Nat:=138
abbrev s4:Nat:=141
abbrev pe:Nat:=142
abbrev D2:Nat:=144
abbrev Da:Nat:=145
abbrev CK:Nat:=146
abbrev wO:Nat:=147
abbrev CC:Nat:=148
abbrev wP:Nat:=149
abbrev CD:Nat:=150
abbrev vx:Nat:=151
abbrev Dl:Nat:=152
abbrev Dj:Nat:=153
abbrev De:Nat:=154
abbrev zk:Nat:=155
abbrev zj:Nat:=156
abbrev DN:Nat:=157
abbrev zc:Nat:=158
abbrev AZ:Nat:=159
abbrev Zh:Nat:=160
abbrev aup:Nat:=161
abbrev zC:Nat:=162
abbrev wR:Nat:=164
abbrev wS:Nat:=165
abbrev vu:Nat:=166
abbrev yx:Nat:=167
abbrev Cu:Nat:=168
abbrev s0:Nat:=169
abbrev ve:Nat:=170
abbrev GN:Nat:=183
abbrev AN:Nat:=184
abbrev AO:Nat:=185
abbrev E1:Nat:=186
abbrev E2:Nat:=187
abbrev Df:Nat:=188
abbrev vt:Nat:=189
abbrev sE:Nat:=190
abbrev ql:Nat:=191
abbrev uA:Nat:=192
abbrev A0:Nat:=193
abbrev Ap:Nat:=195
abbrev vr:Nat:=196
abbrev yo:Nat:=197
abbrev C4:Nat:=204
abbrev C5:Nat:=205
abbrev Dy:Nat:=206
abbrev yy:Nat:=207
abbrev Di:Nat:=208
abbrev Dd:Nat:=209
abbrev s6:Nat:=211
abbrev yO:Nat:=213
abbrev Dh:Nat:=214
abbrev s9:Nat:=215
end F
namespace ah
abbrev t:Nat:=0
abbrev int:Nat:=3
abbrev bool:Nat:=4
abbrev uint8:Nat:=5
abbrev string:Nat:=9
abbrev auq:Nat:=24
abbrev cm:Nat:=27
abbrev JW:Nat:=32
abbrev cL:Nat:=44
abbrev e3:Nat:=56
abbrev IJ:Nat:=67
abbrev asH:Nat:=70
abbrev Qc:Nat:=73
abbrev qt:Nat:=75
abbrev eg:Nat:=81
abbrev nj:Nat:=87
abbrev Md:Nat:=93
abbrev um:Nat:=96
abbrev AH:Nat:=97
abbrev OK:Nat:=101
abbrev o0:Nat:=107
abbrev cO:Nat:=125
abbrev FF:Nat:=140
abbrev uz:Nat:=144
abbrev HS:Nat:=150
abbrev aaf:Nat:=160
abbrev rN:Nat:=168
abbrev KR:Nat:=169
abbrev Dg:Nat:=171
abbrev aur:Nat:=204
abbrev aaU:Nat:=206
abbrev adt:Nat:=218
abbrev H3:Nat:=241
abbrev vT:Nat:=249
abbrev YZ:Nat:=259
end ah
namespace G
end G
def aus:List j7:=[(.kp []),
  (.one (.one .fn)),
  (.one (.one (.int .i64))),
  (.one (.one (.int .i64))),
  (.one (.one .bool)),
  (.one (.one (.int .u8))),
  (.one (.one (.int .u8))),
  (.one (.flat [(.int .i64),(.int .i64), .bool,(.int .u8)])),
  (.one (.flat [(.int .i64),(.int .i64), .bool,(.int .u8)])),
  (.one (.one .str)),
  (.one (.one .str)),
  (.one (.one .str)),
  (.one (.one (.int .u64))),
  (.one (.flat [.str,(.int .u64)])),
  (.one (.flat [.str,(.int .u64)])),
  (.one (.one .ptr)),
  (.one (.one .ptr)),
  (.one (.one .ptr)),
  (.one (.flat [.ptr])),
  (.one (.flat [.ptr])),
  (.one (.one .any)),
  (.one (.one (.int .i32))),
  (.one (.one .slice)),
  (.one (.one .ptr)),
  (.one (.one (.int .i64))),
  (.kp [(.one .ptr),(.one (.int .i64))]),
  (.one (.one .fn)),
  (.one (.one .slice)),
  (.kp [(.one .slice),(.one (.int .i64))]),
  (.one (.one .fn)),
  (.one (.one (.int .u64))),
  (.one (.flat [(.int .i64),(.int .u64), .slice])),
  (.one (.flat [(.int .i64),(.int .u64), .slice])),
  (.one (.one .agg)),
  (.one (.one .agg)),
  (.one (.one .fn)),
  (.one (.one .fn)),
  (.one (.one .agg)),
  (.one (.one .agg)),
  (.one (.one .agg)),
  (.one (.one .agg)),
  (.kp [(.one .agg),(.one (.int .i64))]),
  (.one (.one .fn)),
  (.one (.one .fn)),
  (.one (.one .slice)),
  (.one (.one .fn)),
  (.one (.one .fn)),
  (.one (.one .fn)),
  (.one (.one .fn)),
  (.one (.one .fn)),
  (.one (.one .ptr)),
  (.one (.one .fn)),
  (.kp [(.one .slice),(.one .bool),(.one (.int .i64))]),
  (.one (.one .fn)),
  (.kp [(.one .bool),(.one (.int .i64))]),
  (.one (.one .fn)),
  (.one (.one .slice)),
  (.kp [(.one .slice),(.one (.int .i64))]),
  (.one (.one .fn)),
  (.one (.one .ptr)),
  (.kp [(.one .ptr),(.one .bool)]),
  (.one (.one .fn)),
  (.kp [(.one .ptr),(.one (.int .i64))]),
  (.one (.one .fn)),
  (.one (.one .ptr)),
  (.one (.one .ptr)),
  (.one (.one .agg)),
  (.one (.one .agg)),
  (.one (.one .fn)),
  (.one (.one .fn)),
  (.one (.one .slice)),
  (.one (.one .ptr)),
  (.one (.flat [.slice])),
  (.one (.flat [.slice])),
  (.one (.flat [(.int .i64), .slice, .slice,(.int .i64)])),
  (.one (.flat [(.int .i64), .slice, .slice,(.int .i64)])),
  (.one (.one .fn)),
  (.one (.one .fn)),
  (.one (.one .fn)),
  (.one (.one .fn)),
  (.one (.one .fn)),
  (.one (.one .slice)),
  (.one (.one .fn)),
  (.one (.one .fn)),
  (.one (.one (.int .u16))),
  (.one (.one .fn)),
  (.one (.flat [.slice, .slice])),
  (.one (.flat [.slice, .slice])),
  (.kp [(.one (.int .i64)),(.one (.int .i64))]),
  (.one (.one .fn)),
  (.one (.one .fn)),
  (.one (.one .fn)),
  (.one (.flat [(.int .u8),(.int .u8)])),
  (.one (.flat [(.int .u8),(.int .u8)])),
  (.one (.one .fn)),
  (.one (.one .fn)),
  (.one (.one .slice)),
  (.one (.one .map)),
  (.one (.one .agg)),
  (.one (.one .agg)),
  (.one (.one .agg)),
  (.one (.one .agg)),
  (.one (.one .fn)),
  (.one (.one .fn)),
  (.one (.one (.int .u32))),
  (.one (.one .fn)),
  (.one (.one .agg)),
  (.one (.one .agg)),
  (.one (.one .ptr)),
  (.one (.one .map)),
  (.one (.one .agg)),
  (.one (.one .agg)),
  (.one (.one .fn)),
  (.one (.flat [(.int .i64),(.int .i64),(.int .i64),(.int .u64),(.int .u64),(.int .i64)])),
  (.one (.flat [(.int .i64),(.int .i64),(.int .i64),(.int .u64),(.int .u64),(.int .i64)])),
  (.kp [(.flat [(.int .i64),(.int .i64),(.int .i64),(.int .u64),(.int .u64),(.int .i64)]),(.one (.int .u64)),(.one (.int .i64))]),
  (.one (.one .fn)),
  (.one (.one .fn)),
  (.one (.one .fn)),
  (.kp [(.flat [(.int .i64),(.int .i64),(.int .i64),(.int .u64),(.int .u64),(.int .i64)]),(.one (.int .u64)),(.one (.int .i64))]),
  (.one (.one .fn)),
  (.one (.one .fn)),
  (.kp [(.flat [(.int .i64),(.int .u64), .slice]),(.one (.int .i64))]),
  (.one (.one .fn)),
  (.one (.flat [.bool, .slice, .slice, .slice])),
  (.one (.flat [.bool, .slice, .slice, .slice])),
  (.kp [(.flat [.bool, .slice, .slice, .slice]),(.one .bool)]),
  (.one (.one .fn)),
  (.one (.one .ptr)),
  (.one (.one .fn)),
  (.one (.one .slice)),
  (.one (.flat [.slice, .slice])),
  (.one (.flat [.slice, .slice])),
  (.one (.one .ptr)),
  (.kp [(.one .ptr),(.one (.int .i64))]),
  (.one (.one .fn)),
  (.one (.flat [(.int .i64),(.int .i64),(.int .u64)])),
  (.one (.flat [(.int .i64),(.int .i64),(.int .u64)])),
  (.one (.one .fn)),
  (.one (.one .fn)),
  (.one (.one .slice)),
  (.kp [(.one .slice),(.one (.int .i64))]),
  (.one (.one .fn)),
  (.one (.one .agg)),
  (.one (.one .agg)),
  (.kp [(.one (.int .i64)),(.one .bool)]),
  (.one (.one .fn)),
  (.one (.one .fn)),
  (.one (.one .fn)),
  (.one (.flat [.ptr, .ptr,(.int .u64),(.int .i64),(.int .i64)])),
  (.one (.flat [.ptr, .ptr,(.int .u64),(.int .i64),(.int .i64)])),
  (.one (.one .fn)),
  (.one (.one .fn)),
  (.one (.one .fn)),
  (.kp [(.one .ptr),(.one (.int .i64))]),
  (.one (.one .fn)),
  (.kp [(.one .ptr),(.one (.int .i64))]),
  (.one (.one .fn)),
  (.one (.one .slice)),
  (.one (.flat [.ptr, .slice,(.int .i64)])),
  (.one (.flat [.ptr, .slice,(.int .i64)])),
  (.one (.one .fn)),
  (.one (.one .fn)),
  (.one (.one .fn)),
  (.one (.one .fn)),
  (.one (.one .ptr)),
  (.one (.one .fn)),
  (.one (.flat [.bool, .bool, .bool,(.int .i64),(.int .i64), .slice])),
  (.one (.flat [.bool, .bool, .bool,(.int .i64),(.int .i64), .slice])),
  (.one (.one .slice)),
  (.one (.flat [(.int .i64), .slice, .slice])),
  (.one (.flat [(.int .i64), .slice, .slice])),
  (.one (.one .fn)),
  (.kp [(.one .slice),(.one (.int .i64)),(.one (.int .i64))]),
  (.one (.one .fn)),
  (.one (.one .fn)),
  (.one (.one .ptr)),
  (.one (.one .fn)),
  (.one (.flat [(.int .i64),(.int .i64)])),
  (.one (.flat [(.int .i64),(.int .i64)])),
  (.one (.one .slice)),
  (.one (.one .fn)),
  (.one (.one .fn)),
  (.one (.one .fn)),
  (.one (.one .fn)),
  (.one (.one .fn)),
  (.one (.one .fn)),
  (.kp [(.one .slice),(.one (.int .i64))]),
  (.one (.one .fn)),
  (.one (.one .fn)),
  (.one (.one .fn)),
  (.one (.one (.int .u64))),
  (.one (.one .fn)),
  (.one (.one .fn)),
  (.one (.one .agg)),
  (.one (.one .fn)),
  (.one (.one .fn)),
  (.one (.one .fn)),
  (.kp [(.flat [.bool, .slice, .slice, .slice]),(.one (.int .i64))]),
  (.one (.one .fn)),
  (.one (.one .fn)),
  (.one (.one .fn)),
  (.one (.one .fn)),
  (.one (.one .fn)),
  (.one (.one .ptr)),
  (.one (.flat [.ptr, .slice, .slice])),
  (.one (.flat [.ptr, .slice, .slice])),
  (.kp [(.one (.int .i64)),(.one (.int .i64)),(.one (.int .i64))]),
  (.one (.one .fn)),
  (.one (.one .fn)),
  (.one (.one .fn)),
  (.one (.one .fn)),
  (.one (.one .fn)),
  (.one (.one .fn)),
  (.one (.one .fn)),
  (.one (.one .fn)),
  (.one (.one .ptr)),
  (.one (.flat [.ptr, .slice,(.int .i64)])),
  (.one (.flat [.ptr, .slice,(.int .i64)])),
  (.one (.one .fn)),
  (.one (.one .fn)),
  (.one (.one .fn)),
  (.kp [(.flat [(.int .i64),(.int .i64),(.int .i64),(.int .u64),(.int .u64),(.int .i64)]),(.one (.int .i64)),(.one (.int .u64)),(.one (.int .i64))]),
  (.one (.one .fn)),
  (.one (.one .fn)),
  (.kp [(.one .slice),(.one .bool)]),
  (.one (.one .fn)),
  (.one (.one .fn)),
  (.one (.one .fn)),
  (.one (.one .fn)),
  (.one (.one .fn)),
  (.one (.one .fn)),
  (.one (.one .agg)),
  (.one (.one .agg)),
  (.one (.one .fn)),
  (.one (.one .fn)),
  (.one (.one .fn)),
  (.one (.one .fn)),
  (.one (.one .fn)),
  (.one (.one .fn)),
  (.one (.one .ptr)),
  (.one (.one .slice)),
  (.kp [(.one .slice),(.one (.int .i64)),(.one (.int .i64)),(.one (.int .i64))]),
  (.one (.one .fn)),
  (.one (.one .fn)),
  (.one (.one .fn)),
  (.kp [(.one .slice),(.one (.int .i64))]),
  (.one (.one .fn)),
  (.one (.flat [.slice,(.int .i64)])),
  (.one (.flat [.slice,(.int .i64)])),
  (.one (.one .fn)),
  (.one (.one .fn)),
  (.one (.one .fn)),
  (.one (.one .ptr)),
  (.one (.flat [.slice,(.int .i64)])),
  (.one (.flat [.slice,(.int .i64)])),
  (.one (.one .fn)),
  (.one (.one .ptr)),
  (.one (.flat [.slice, .bool])),
  (.one (.flat [.slice, .bool])),
  (.one (.one .fn)),
  (.one (.one .fn)),
  (.kp [(.one (.int .u64)),(.one .bool)]),
  (.one (.one .fn)),
  (.one (.one .fn)),
  (.one (.one (.int .i64))),
  (.kp [(.one (.int .i64)),(.one (.int .i64))]),
  (.one (.one .fn)),
  (.one (.one .fn)),
  (.one (.one .fn)),
  (.one (.one .fn)),
  (.one (.one .fn)),
  (.one (.one .fn)),
  (.one (.one .fn)),
  (.one (.one .fn)),
  (.kp [(.one .ptr),(.one (.int .i64))]),
  (.one (.one .fn)),
  (.one (.one .fn)),
  (.one (.one .fn)),
  (.one (.one .fn)),
  (.one (.one .fn)),
  (.kp [(.one (.int .i64)),(.one (.int .i64))]),
  (.one (.one .fn)),
  (.one (.one .fn)),
  (.one (.one .fn)),
  (.one (.one .fn)),
  (.one (.one (.int .u64))),
  (.one (.one .fn)),
  (.one (.one .fn)),
  (.one (.one .fn)),
  (.one (.one .ptr)),
  (.one (.one .fn)),
  (.one (.one .fn)),
  (.one (.one .fn)),
  (.one (.one .fn)),
  (.one (.one .ptr)),
  (.one (.one .fn)),
  (.kp [(.flat [.bool, .slice, .slice, .slice]),(.one .slice),(.flat [.bool, .slice, .slice, .slice]),(.one .bool)]),
  (.one (.one .fn)),
  (.one (.one .fn)),
  (.one (.one .fn)),
  (.one (.flat [.ptr, .ptr, .ptr, .str])),
  (.one (.flat [.ptr, .ptr, .ptr, .str])),
  (.one (.one .agg)),
  (.one (.one .agg)),
  (.one (.one .agg)),
  (.one (.one (.int .u8))),
  (.one (.one (.int .u8))),
  (.one (.one .fn)),
  (.one (.one .ptr)),
  (.one (.one (.int .i32))),
  (.one (.one (.int .i32))),
  (.one (.one .agg)),
  (.one (.one .agg)),
  (.one (.one .fn)),
  (.one (.one .ptr))]
def aG:TypeId→j7:=fun t=>aus.getD t (.one (.one .any))
theorem Xt:Tryz.prog.follows .mixedOrders=true:=by kernel_rfl
def ai (w:World):Addr:=⟨w.heap.size,0,none⟩
def aC (n:Int):Int:=IntKind.wrap .i64 n
def a7 (n:Int) (k:Nat):Prop:=(0:Int)≤n∧n<((k:Nat):Int)
def aB (c:Bool) (A B:Prop):Prop:=(c=true→A)∧(c=false→B)
def yp:Int:=9223372036854775807
def st (w:World) (A:Addr) (v:Value) (K:World→Prop):Prop:=(∃u:Value,w.cell? A=some u)∧w.frozen? A=false∧ay (w.setCell A v) fun ag=>K ag
def zD (w:World) (z:Obj) (l:List Value) (k:Nat) (K:World→Prop):Prop:=ay (w.alloc z) fun ag=>cZ ag (ai w) (Array.toList l.toArray)∧Array.size l.toArray=k∧ay (setCells ag (ai w) 0 (Array.toList l.toArray)) fun aw=>K aw
def ON (s:aa) (n:Int) (w:World) (k:Nat) (K:List Value→Prop):Prop:=∃a:Addr,s.a=some a∧a7 n s.len∧∃l:List Value,eN w (a.add (Int.toNat n*k)) 0 k=some l∧K l
def aT (f:Nat) (a:Array Value) (w:World) (K:Int→World→Prop):Prop:=Calls Tryz.prog f a w fun e w'=>∃dG:Int,e= .returned (.int .i64 dG)∧K dG w'
def bC (f:Nat) (a:Array Value) (w:World) (K:World→Prop):Prop:=Calls Tryz.prog f a w fun e w'=>e= .returned (.tuple #[])∧K w'
def ba (f:Nat) (a:Array Value) (w:World) (K:Bool→World→Prop):Prop:=Calls Tryz.prog f a w fun e w'=>∃dG:Bool,e= .returned (.bool dG)∧K dG w'
def gl (f:Nat) (a:Array Value) (w:World) (K:aa→Int→World→Prop):Prop:=Calls Tryz.prog f a w fun e w'=>∃dG:aa,∃eu:Int,e= .returned (.tuple #[.slice dG.a dG.len dG.cap, .int .i64 eu])∧K dG eu w'
def dN (f:Nat) (a:Array Value) (w:World) (K:Int→Bool→World→Prop):Prop:=Calls Tryz.prog f a w fun e w'=>∃dG:Int,∃eu:Bool,e= .returned (.tuple #[.int .i64 dG, .bool eu])∧K dG eu w'
def fE (f:Nat) (a:Array Value) (w:World) (K:Bool→aa→aa→aa→Bool→World→Prop):Prop:=Calls Tryz.prog f a w fun e w'=>∃dG:Bool,∃eu:aa,∃gR:aa,∃mm:aa,∃zO:Bool,e= .returned (.tuple #[.agg #[.bool dG, .slice eu.a eu.len eu.cap, .slice gR.a gR.len gR.cap, .slice mm.a mm.len mm.cap], .bool zO])∧K dG eu gR mm zO w'
def DZ (f:Nat) (a:Array Value) (w:World) (K:Bool→Int→World→Prop):Prop:=Calls Tryz.prog f a w fun e w'=>∃dG:Bool,∃eu:Int,e= .returned (.tuple #[.bool dG, .int .i64 eu])∧K dG eu w'
def Z8 (f:Nat) (a:Array Value) (w:World) (K:Array Value→World→Prop):Prop:=Calls Tryz.prog f a w fun e w'=>∃dG:Array Value,e= .returned (.agg dG)∧K dG w'
def uw (f:Nat) (a:Array Value) (w:World) (K:Bool→aa→aa→aa→Int→World→Prop):Prop:=Calls Tryz.prog f a w fun e w'=>∃dG:Bool,∃eu:aa,∃gR:aa,∃mm:aa,∃zO:Int,e= .returned (.tuple #[.agg #[.bool dG, .slice eu.a eu.len eu.cap, .slice gR.a gR.len gR.cap, .slice mm.a mm.len mm.cap], .int .i64 zO])∧K dG eu gR mm zO w'
def jt (f:Nat) (a:Array Value) (w:World) (K:Bool→aa→aa→aa→World→Prop):Prop:=Calls Tryz.prog f a w fun e w'=>∃dG:Bool,∃eu:aa,∃gR:aa,∃mm:aa,e= .returned (.agg #[.bool dG, .slice eu.a eu.len eu.cap, .slice gR.a gR.len gR.cap, .slice mm.a mm.len mm.cap])∧K dG eu gR mm w'
def ee (f:Nat) (a:Array Value) (w:World) (K:aa→World→Prop):Prop:=Calls Tryz.prog f a w fun e w'=>∃dG:aa,e= .returned (.slice dG.a dG.len dG.cap)∧K dG w'
def Io (f:Nat) (a:Array Value) (w:World) (K:Int→Int→Int→World→Prop):Prop:=Calls Tryz.prog f a w fun e w'=>∃dG:Int,∃eu:Int,∃gR:Int,e= .returned (.tuple #[.int .i64 dG, .int .i64 eu, .int .i64 gR])∧K dG eu gR w'
def nt (f:Nat) (a:Array Value) (w:World) (K:Int→World→Prop):Prop:=Calls Tryz.prog f a w fun e w'=>∃dG:Int,e= .returned (.int .u32 dG)∧K dG w'
def JX (f:Nat) (a:Array Value) (w:World) (K:Int→World→Prop):Prop:=Calls Tryz.prog f a w fun e w'=>∃dG:Int,e= .returned (.int .u64 dG)∧K dG w'
def EY (f:Nat) (a:Array Value) (w:World) (K:aa→Bool→World→Prop):Prop:=Calls Tryz.prog f a w fun e w'=>∃dG:aa,∃eu:Bool,e= .returned (.tuple #[.slice dG.a dG.len dG.cap, .bool eu])∧K dG eu w'
def aaK (f:Nat) (a:Array Value) (w:World) (K:Int→Int→aa→Int→World→Prop):Prop:=Calls Tryz.prog f a w fun e w'=>∃dG:Int,∃eu:Int,∃gR:aa,∃mm:Int,e= .returned (.tuple #[.agg #[.int .i64 dG, .int .u64 eu, .slice gR.a gR.len gR.cap], .int .i64 mm])∧K dG eu gR mm w'
def F6 (f:Nat) (a:Array Value) (w:World) (K:aa→Int→Int→Int→World→Prop):Prop:=Calls Tryz.prog f a w fun e w'=>∃dG:aa,∃eu:Int,∃gR:Int,∃mm:Int,e= .returned (.tuple #[.slice dG.a dG.len dG.cap, .int .i64 eu, .int .i64 gR, .int .i64 mm])∧K dG eu gR mm w'
def N3 (f:Nat) (a:Array Value) (w:World) (K:Int→Bool→World→Prop):Prop:=Calls Tryz.prog f a w fun e w'=>∃dG:Int,∃eu:Bool,e= .returned (.tuple #[.int .u64 dG, .bool eu])∧K dG eu w'
def AP (f:Nat) (a:Array Value) (w:World) (K:Option Addr→World→Prop):Prop:=Calls Tryz.prog f a w fun e w'=>∃dG:Option Addr,e= .returned (.pointer dG)∧K dG w'
def AR (f:Nat) (a:Array Value) (w:World) (K:Option Addr→Int→World→Prop):Prop:=Calls Tryz.prog f a w fun e w'=>∃dG:Option Addr,∃eu:Int,e= .returned (.tuple #[.pointer dG, .int .i64 eu])∧K dG eu w'
def sD (f:Nat) (a:Array Value) (w:World) (K:Int→Int→World→Prop):Prop:=Calls Tryz.prog f a w fun e w'=>∃dG:Int,∃eu:Int,e= .returned (.tuple #[.int .i64 dG, .int .i64 eu])∧K dG eu w'
def aa_ (f:Nat) (a:Array Value) (w:World) (K:Bool→aa→aa→aa→aa→Bool→aa→aa→aa→Bool→World→Prop):Prop:=Calls Tryz.prog f a w fun e w'=>∃dG:Bool,∃eu:aa,∃gR:aa,∃mm:aa,∃zO:aa,∃afN:Bool,∃Q9:aa,∃Q_:aa,∃Ra:aa,∃afO:Bool,e= .returned (.tuple #[.agg #[.bool dG, .slice eu.a eu.len eu.cap, .slice gR.a gR.len gR.cap, .slice mm.a mm.len mm.cap], .slice zO.a zO.len zO.cap, .agg #[.bool afN, .slice Q9.a Q9.len Q9.cap, .slice Q_.a Q_.len Q_.cap, .slice Ra.a Ra.len Ra.cap], .bool afO])∧K dG eu gR mm zO afN Q9 Q_ Ra afO w'
def DO (f:Nat) (a:Array Value) (w:World) (K:Int→aa→aa→Int→World→Prop):Prop:=Calls Tryz.prog f a w fun e w'=>∃dG:Int,∃eu:aa,∃gR:aa,∃mm:Int,e= .returned (.agg #[.int .i64 dG, .slice eu.a eu.len eu.cap, .slice gR.a gR.len gR.cap, .int .i64 mm])∧K dG eu gR mm w'
def y9 (f:Nat) (a:Array Value) (w:World) (K:Option Addr→Bool→World→Prop):Prop:=Calls Tryz.prog f a w fun e w'=>∃dG:Option Addr,∃eu:Bool,e= .returned (.tuple #[.pointer dG, .bool eu])∧K dG eu w'
def Qj (f:Nat) (a:Array Value) (w:World) (K:aa→Bool→Int→World→Prop):Prop:=Calls Tryz.prog f a w fun e w'=>∃dG:aa,∃eu:Bool,∃gR:Int,e= .returned (.tuple #[.slice dG.a dG.len dG.cap, .bool eu, .int .i64 gR])∧K dG eu gR w'
def aeb (f:Nat) (a:Array Value) (w:World) (K:aa→Int→Int→World→Prop):Prop:=Calls Tryz.prog f a w fun e w'=>∃dG:aa,∃eu:Int,∃gR:Int,e= .returned (.tuple #[.slice dG.a dG.len dG.cap, .int .i64 eu, .int .i64 gR])∧K dG eu gR w'
def bI (w:World) (A:Addr) (K:Int→Prop):Prop:=∃x:Int,w.cell? A=some (.int .i64 x)∧K x
def aq (w:World) (A:Addr) (K:aa→Prop):Prop:=∃x:aa,w.cell? A=some (.slice x.a x.len x.cap)∧K x
def bS (w:World) (A:Addr) (K:Bool→Prop):Prop:=∃x:Bool,w.cell? A=some (.bool x)∧K x
def h8 (w:World) (A:Addr) (K:Int→Prop):Prop:=∃x:Int,w.cell? A=some (.int .u8 x)∧K x
def kU (w:World) (A:Addr) (K:Int→Prop):Prop:=∃x:Int,w.cell? A=some (.int .u64 x)∧K x
def dx:Obj:= .cells #[.bool false, .slice none 0 0, .slice none 0 0, .slice none 0 0] ah.cO
def pN:Obj:= .cells #[.int .u8 0, .int .u8 0, .int .u8 0, .int .u8 0, .int .u8 0, .int .u8 0, .int .u8 0, .int .u8 0, .int .u8 0, .int .u8 0, .int .u8 0, .int .u8 0, .int .u8 0, .int .u8 0, .int .u8 0, .int .u8 0, .int .u8 0, .int .u8 0, .int .u8 0, .int .u8 0, .int .u8 0, .int .u8 0, .int .u8 0, .int .u8 0, .int .u8 0, .int .u8 0, .int .u8 0, .int .u8 0, .int .u8 0, .int .u8 0, .int .u8 0, .int .u8 0, .int .u8 0, .int .u8 0, .int .u8 0, .int .u8 0, .int .u8 0, .int .u8 0, .int .u8 0, .int .u8 0, .int .u8 0, .int .u8 0, .int .u8 0, .int .u8 0, .int .u8 0, .int .u8 0, .int .u8 0, .int .u8 0, .int .u8 0, .int .u8 0, .int .u8 0, .int .u8 0, .int .u8 0, .int .u8 0, .int .u8 0, .int .u8 0, .int .u8 0, .int .u8 0, .int .u8 0, .int .u8 0, .int .u8 0, .int .u8 0, .int .u8 0, .int .u8 0, .int .u8 0, .int .u8 0, .int .u8 0, .int .u8 0, .int .u8 0, .int .u8 0, .int .u8 0, .int .u8 0, .int .u8 0, .int .u8 0, .int .u8 0, .int .u8 0, .int .u8 0, .int .u8 0, .int .u8 0, .int .u8 0, .int .u8 0, .int .u8 0, .int .u8 0, .int .u8 0, .int .u8 0, .int .u8 0, .int .u8 0, .int .u8 0, .int .u8 0, .int .u8 0, .int .u8 0, .int .u8 0, .int .u8 0, .int .u8 0, .int .u8 0, .int .u8 0, .int .u8 0, .int .u8 0, .int .u8 0, .int .u8 0, .int .u8 0, .int .u8 0, .int .u8 0, .int .u8 0, .int .u8 0, .int .u8 0, .int .u8 0, .int .u8 0, .int .u8 0, .int .u8 0, .int .u8 0, .int .u8 0, .int .u8 0, .int .u8 0, .int .u8 0, .int .u8 0, .int .u8 0, .int .u8 0, .int .u8 0, .int .u8 0, .int .u8 0, .int .u8 0, .int .u8 0, .int .u8 0, .int .u8 0, .int .u8 0, .int .u8 0, .int .u8 0, .int .u8 0, .int .u8 0, .int .u8 0, .int .u8 0, .int .u8 0, .int .u8 0, .int .u8 0, .int .u8 0, .int .u8 0, .int .u8 0, .int .u8 0, .int .u8 0, .int .u8 0, .int .u8 0, .int .u8 0, .int .u8 0, .int .u8 0, .int .u8 0, .int .u8 0, .int .u8 0, .int .u8 0, .int .u8 0, .int .u8 0, .int .u8 0, .int .u8 0, .int .u8 0, .int .u8 0, .int .u8 0, .int .u8 0, .int .u8 0, .int .u8 0, .int .u8 0, .int .u8 0, .int .u8 0, .int .u8 0, .int .u8 0, .int .u8 0, .int .u8 0, .int .u8 0, .int .u8 0, .int .u8 0, .int .u8 0, .int .u8 0, .int .u8 0, .int .u8 0, .int .u8 0, .int .u8 0, .int .u8 0, .int .u8 0, .int .u8 0, .int .u8 0, .int .u8 0, .int .u8 0, .int .u8 0, .int .u8 0, .int .u8 0, .int .u8 0, .int .u8 0, .int .u8 0, .int .u8 0, .int .u8 0, .int .u8 0, .int .u8 0, .int .u8 0, .int .u8 0, .int .u8 0, .int .u8 0, .int .u8 0, .int .u8 0, .int .u8 0, .int .u8 0, .int .u8 0, .int .u8 0, .int .u8 0, .int .u8 0, .int .u8 0, .int .u8 0, .int .u8 0, .int .u8 0, .int .u8 0, .int .u8 0, .int .u8 0, .int .u8 0, .int .u8 0, .int .u8 0, .int .u8 0, .int .u8 0, .int .u8 0, .int .u8 0, .int .u8 0, .int .u8 0, .int .u8 0, .int .u8 0, .int .u8 0, .int .u8 0, .int .u8 0, .int .u8 0, .int .u8 0, .int .u8 0, .int .u8 0, .int .u8 0, .int .u8 0, .int .u8 0, .int .u8 0, .int .u8 0, .int .u8 0, .int .u8 0, .int .u8 0, .int .u8 0, .int .u8 0, .int .u8 0, .int .u8 0, .int .u8 0, .int .u8 0, .int .u8 0, .int .u8 0, .int .u8 0, .int .u8 0, .int .u8 0, .int .u8 0, .int .u8 0, .int .u8 0, .int .u8 0, .int .u8 0, .int .u8 0, .int .u8 0, .int .u8 0, .int .u8 0] ah.o0
def z3:Obj:= .cells #[.int .i64 0, .int .u64 0, .slice none 0 0] ah.JW
def z4:Obj:= .cells #[.slice none 0 0, .int .i64 0] ah.vT
def z5:Obj:= .cells #[.int .u8 97] ah.uint8
def Ql:Obj:= .cells #[.int .i64 0, .slice none 0 0, .slice none 0 0, .int .i64 0] ah.qt
def bc:bG:=(.s .r (.c (.s .r .l) .l))
def oc:bG:=(.s .r (.s (.c .l .l) (.s (.dn (.s .r bc)) .r)))
def i_:bG:=(.s .r (.s bc (.s .r .l)))
def kq:bG:=(.s .r (.s (.s .r (.dn (.loop [(8,(.int .i64))] [0,1,7] oc))) (.s .r .l)))
def k0:bG:=(.s bc (.s .r (.s .r .l)))
def mY:bG:=(.s .r (.s (.dn (.s .r (.c (.s .r .l) bc))) (.s .r (.s .r .l))))
def cS:bG:=(.s .r (.s (.c .l .l) (.s (.dn (.s .r .r)) .r)))
def a3:bG:=(.s (.f_ [.run, .run, .run, .pure 2]) .l)
def a4:bG:=(.s .r (.s .r (.s .r .l)))
def a5:bG:=(.s .r (.s (.f_ [.run, .run, .run, .run, .pure 3]) .l))
def hL:bG:=(.s .r (.s (.f_ [.run, .run, .run, .pure 2, .run, .run, .run, .split 7]) .l))
def kl:bG:=(.c (.s .r (.s .r .l)) .l)
def im:bG:=(.s (.f_ [.run, .run, .run, .run, .split 5]) (.c (.s .r .l) .l))
def a9:bG:=(.s (.f_ [.run, .run, .run, .split 3]) (.c (.s .r .l) .l))
def hE:bG:=(.s (.f_ [.run, .run, .run, .pure 3]) (.c (.s .r .l) .l))
def ja:bG:=(.s (.f_ [.run, .run, .run, .pure 2]) (.c (.s .r .l) .l))
theorem okF {f:Nat} {fn:Func} (A:bG) {args:List Value} {w:World} {Q:Value→World→Prop} {p:Prop} (aH:Tryz.prog.funcs[f]? =some fn) (U:GJ fn args.length=true) (ad:p=Jc Tryz.prog aG A fn args w Q) (h:p):aQ Tryz.prog f args.toArray w Q:=at7 Xt aH U (Eq.mp ad h)
def Ki (mB:World) (aw:World) (Q:Value→World→Prop) (Hy:Bool):Prop:=aq mB (Addr.add (ai aw) 1) fun qY=>aq mB (Addr.add (ai aw) 2) fun yS=>aq mB (Addr.add (ai aw) 3) fun iE=>Q (.tuple #[.agg #[.bool Hy, .slice
 qY.a qY.len qY.cap, .slice yS.a yS.len yS.cap, .slice iE.a iE.len iE.cap], .bool false]) mB
def Kj (pU:World) (dy:World) (aw:World) (CU:Bool) (Q:Value→World→Prop):Prop:=aq pU (Addr.add (ai dy) 1) fun gq=>aq pU (Addr.add (ai dy) 2) fun rI=>aq pU (Addr.add (ai dy) 3) fun k4=>cZ pU (ai aw)
 [.bool CU, .slice gq.a gq.len gq.cap, .slice rI.a rI.len rI.cap, .slice k4.a k4.len k4.cap]∧(4:Nat)=4∧ay (setCells pU (ai aw) 0 [.bool CU, .slice gq.a gq.len gq.cap, .slice rI.a rI.len rI.cap, .slice k4.a
 k4.len k4.cap]) fun tc=>bS tc (ai aw) fun OD=>aq tc (Addr.add (ai aw) 1) fun td=>aq tc (Addr.add (ai aw) 2) fun jw=>aq tc (Addr.add (ai aw) 3) fun jx=>Q (.tuple #[.agg #[.bool OD, .slice td.a td.len
 td.cap, .slice jw.a jw.len jw.cap, .slice jx.a jx.len jx.cap], .bool true]) tc
def OI (h_:aa) (fz:World) (tb:World) (dy:World) (ug:World→Prop):Prop:=∃hJ:aa,∃oY:World,Sem.run Tryz.prog (Builtin.append_ #[ah.cL,ah.cL] ah.cL #[.slice h_.a h_.len h_.cap,
 .slice (some (ai fz)) 1 1]) tb= .ok (.slice hJ.a hJ.len hJ.cap) oY∧st oY (Addr.add (ai dy) 1) (.slice hJ.a hJ.len hJ.cap) fun uh=>ug uh
def ck (hM:World) (dy:World) (uZ:Bool) (iX:aa) (iJ:aa) (nO:aa) (sN:World) (wB:Bool) (gi:aa) (qx:aa) (il:aa) (w:World) (key:aa) (aw:World) (Q:Value→World→Prop):Prop:=cZ hM (ai dy)
 [.bool uZ, .slice iX.a iX.len iX.cap, .slice iJ.a iJ.len iJ.cap, .slice nO.a nO.len nO.cap]∧(4:Nat)=4∧ay (setCells hM (ai dy) 0 [.bool uZ, .slice iX.a iX.len iX.cap, .slice iJ.a iJ.len iJ.cap, .slice nO.a nO.len
 nO.cap]) fun fk=>cZ fk (ai sN) [.bool wB, .slice gi.a gi.len gi.cap, .slice qx.a qx.len qx.cap, .slice il.a il.len il.cap]∧(4:Nat)=4∧ay (setCells fk (ai sN) 0 [.bool wB, .slice gi.a gi.len gi.cap, .slice
 qx.a qx.len qx.cap, .slice il.a il.len il.cap]) fun yP=>cY (fun ug:World→Prop=>bS yP (ai w) fun yQ=>aB (!yQ) (ay (yP.drew) fun qX=>∃Fj:Nat→Prop,¬Fj (Addr.add (ai dy) 1).block∧aq qX (Addr.add (ai dy) 1)
 fun h_=>ee F.mu #[.slice key.a key.len key.cap] qX fun ny fz=>ao Fj qX fz∧ay (fz.alloc (.cells #[.slice ny.a ny.len ny.cap] ah.cm)) fun tb=>ao Fj fz tb∧OI h_ fz tb dy ug) (ug
 yP)) (fun rG=>aq rG (Addr.add (ai dy) 1) fun fI=>aq rG (Addr.add (ai sN) 1) fun gp=>∃gP:aa,∃gV:World,Sem.run Tryz.prog (Builtin.append_ #[ah.cL,ah.cL] ah.cL #[.slice fI.a fI.len fI.cap,
 .slice gp.a gp.len gp.cap]) rG= .ok (.slice gP.a gP.len gP.cap) gV∧st gV (Addr.add (ai dy) 1) (.slice gP.a gP.len gP.cap) fun nU=>aq nU (Addr.add (ai dy) 2) fun ju=>aq nU (Addr.add (ai sN) 2) fun l5=>∃qk:aa,
 ∃rH:World,Sem.run Tryz.prog (Builtin.append_ #[ah.cL,ah.cL] ah.cL #[.slice ju.a ju.len ju.cap, .slice l5.a l5.len l5.cap]) nU= .ok (.slice qk.a qk.len qk.cap) rH∧st rH (Addr.add (ai dy) 2)
 (.slice qk.a qk.len qk.cap) fun ss=>aq ss (Addr.add (ai dy) 3) fun kD=>aq ss (Addr.add (ai sN) 3) fun pT=>∃nz:aa,∃oB:World,Sem.run Tryz.prog (Builtin.append_ #[ah.eg,ah.eg] ah.eg #[.slice kD.a kD.len
 kD.cap, .slice pT.a pT.len pT.cap]) ss= .ok (.slice nz.a nz.len nz.cap) oB∧st oB (Addr.add (ai dy) 3) (.slice nz.a nz.len nz.cap) fun xj=>bS xj (ai dy) fun OC=>aq xj (Addr.add (ai dy) 1) fun yR=>aq xj
 (Addr.add (ai dy) 2) fun iT=>aq xj (Addr.add (ai dy) 3) fun jv=>ba F.nS #[.agg #[.bool OC, .slice yR.a yR.len yR.cap, .slice iT.a iT.len iT.cap, .slice jv.a jv.len jv.cap]] xj fun KC pU=>aB (!KC) (cZ
 pU (ai aw) [.bool false, .slice none 0 0, .slice none 0 0, .slice none 0 0]∧(4:Nat)=4∧ay (setCells pU (ai aw) 0 [.bool false, .slice none 0 0, .slice none 0 0, .slice none 0 0]) fun mB=>bS mB (ai aw) fun Hy=>Ki mB aw Q
 Hy) (bS pU (ai dy) fun CU=>Kj pU dy aw CU Q))
def Lb (dO:World) (cF:World) (tM:Bool) (kr:aa) (gm:aa) (dh:aa) (Rb:World→Prop):Prop:=cZ dO (ai cF) [.bool tM, .slice kr.a kr.len kr.cap, .slice gm.a gm.len gm.cap, .slice dh.a dh.len dh.cap]∧(4
 :Nat)=4∧ay (setCells dO (ai cF) 0 [.bool tM, .slice kr.a kr.len kr.cap, .slice gm.a gm.len gm.cap, .slice dh.a dh.len dh.cap]) fun fC=>Rb fC
def Pt (oJ:World) (jI:World) (vW:Bool) (me:aa) (mf:aa) (mg:aa) (uF:Bool) (Q:Value→World→Prop) (c:Option Addr) (n31:Int):Prop:=cZ oJ (ai jI) [.bool vW, .slice me.a me.len me.cap,
 .slice mf.a mf.len mf.cap, .slice mg.a mg.len mg.cap]∧(4:Nat)=4∧ay (setCells oJ (ai jI) 0 [.bool vW, .slice me.a me.len me.cap, .slice mf.a mf.len mf.cap, .slice mg.a mg.len mg.cap]) fun mh=>
 aB (!uF) (Q (.tuple #[.slice none 0 0, .int .i64 0, .int .i64 0, .int .i64 4]) mh) (bS mh (ai jI) fun FP=>aq mh (Addr.add (ai jI) 1) fun o5=>aq mh (Addr.add (ai jI) 2) fun q4=>aq mh (Addr.add (ai jI) 3) fun
 q5=>gl F.sE #[.pointer c, .agg #[.bool FP, .slice o5.a o5.len o5.cap, .slice q4.a q4.len q4.cap, .slice q5.a q5.len q5.cap]] mh fun q6 FQ DH=>Q (.tuple #[.slice q6.a q6.len q6.cap, .int
 .i64 n31, .int .i64 (aC (n31+2)), .int .i64 FQ]) DH)
def da (nU:World) (di:World) (uK:Bool) (hJ:aa) (gJ:aa) (hD:aa) (oK:Nat→Prop) (gV:World) (uL:Bool) (fI:aa) (gp:aa) (gP:aa) (up:Option Addr) (n36:Int) (w:World) (dy:World) (n31:Int) (Q:Value
 →World→Prop) (c:Option Addr):Prop:=cZ nU (ai di) [.bool uK, .slice hJ.a hJ.len hJ.cap, .slice gJ.a gJ.len gJ.cap, .slice hD.a hD.len hD.cap]∧(4:Nat)=4∧ay (setCells nU (ai di) 0 [.bool uK, .slice hJ.a
 hJ.len hJ.cap, .slice gJ.a gJ.len gJ.cap, .slice hD.a hD.len hD.cap]) fun sH=>ao oK nU sH∧cZ sH (ai gV) [.bool uL, .slice fI.a fI.len fI.cap, .slice gp.a gp.len gp.cap, .slice gP.a gP.len gP.cap]∧(4:
 Nat)=4∧ay (setCells sH (ai gV) 0 [.bool uL, .slice fI.a fI.len fI.cap, .slice gp.a gp.len gp.cap, .slice gP.a gP.len gP.cap]) fun lp=>cY (fun DF:World→Prop=>∃DG:Addr,up=some DG∧bI lp (DG.add 5) fun A6
 =>aB (decide (n36>A6)) (ay (lp.drew) fun iP=>∃xM:Nat→Prop,¬xM ((ai w):Addr).block∧bS iP (ai w) fun qV=>aq iP (Addr.add (ai w) 1) fun iS=>aq iP (Addr.add (ai w) 2) fun g1=>aq iP (Addr.add (ai w) 3) fun g2
 =>¬xM ((ai dy):Addr).block∧bS iP (ai dy) fun A7=>aq iP (Addr.add (ai dy) 1) fun iT=>aq iP (Addr.add (ai dy) 2) fun jv=>aq iP (Addr.add (ai dy) 3) fun iv=>cZ iP (ai di) [.bool qV, .slice iS.a iS.len
 iS.cap, .slice g1.a g1.len g1.cap, .slice g2.a g2.len g2.cap]∧(4:Nat)=4∧ay (setCells iP (ai di) 0 [.bool qV, .slice iS.a iS.len iS.cap, .slice g1.a g1.len g1.cap, .slice g2.a g2.len g2.cap]) fun oI=>ao xM iP
 oI∧Lb oI gV A7 iT jv iv DF) (DF lp)) (fun mB=>ay (mB.drew) fun fP=>∃mS:Nat→Prop,¬mS ((ai di):Addr).block∧bS fP (ai di) fun rT=>aq fP (Addr.add (ai di) 1) fun iE=>aq fP (Addr.add (ai di) 2) fun
 jB=>aq fP (Addr.add (ai di) 3) fun gq=>∃tq:Addr,up=some tq∧¬mS ((tq.add 1).add 1).block∧aq fP ((tq.add 1).add 1) fun k4=>∃xN:Addr,k4.a=some xN∧a7 n31 k4.len∧¬mS (xN.add (Int.toNat n31*
 1)).block∧aq fP (xN.add (Int.toNat n31*1)) fun mT=>¬mS ((ai gV):Addr).block∧bS fP (ai gV) fun zf=>aq fP (Addr.add (ai gV) 1) fun jw=>aq fP (Addr.add (ai gV) 2) fun jx=>aq fP (Addr.add (ai gV) 3) fun
 mU=>(fE F.ql #[.agg #[.bool rT, .slice iE.a iE.len iE.cap, .slice jB.a jB.len jB.cap, .slice gq.a gq.len gq.cap], .slice mT.a mT.len mT.cap, .agg #[.bool zf, .slice jw.a jw.len jw.cap, .slice jx.a
 jx.len jx.cap, .slice mU.a mU.len mU.cap]] fP fun vW me mf mg uF jI=>ao mS fP jI∧ay (jI.alloc dx) fun oJ=>ao mS jI oJ∧Pt oJ jI vW me mf mg uF Q c n31)∧(ay (fP.alloc dx) fun
 vX=>ao mS fP vX∧fE F.ql #[.agg #[.bool rT, .slice iE.a iE.len iE.cap, .slice jB.a jB.len jB.cap, .slice gq.a gq.len gq.cap], .slice mT.a mT.len mT.cap, .agg #[.bool zf, .slice jw.a jw.len jw.cap,
 .slice jx.a jx.len jx.cap, .slice mU.a mU.len mU.cap]] vX fun A8 nH o6 o7 A9 xO=>ao mS vX xO∧Pt xO fP A8 nH o6 o7 A9 Q c n31))
def dB (zP:World) (gf:World) (ag:World) (Q:Value→World→Prop):Prop:=bS zP (ai gf) fun wB=>Kj zP gf ag wB Q
def Ot (ko:World) (bK:World) (ag:World) (tp:Bool) (Q:Value→World→Prop):Prop:=aq ko (Addr.add (ai bK) 1) fun lR=>aq ko (Addr.add (ai bK) 2) fun rR=>aq ko (Addr.add (ai bK) 3) fun ir=>cZ ko (ai ag)
 [.bool tp, .slice lR.a lR.len lR.cap, .slice rR.a rR.len rR.cap, .slice ir.a ir.len ir.cap]∧(4:Nat)=4∧ay (setCells ko (ai ag) 0 [.bool tp, .slice lR.a lR.len lR.cap, .slice rR.a rR.len rR.cap, .slice ir.a ir.len
 ir.cap]) fun j2=>bS j2 (ai ag) fun yQ=>aq j2 (Addr.add (ai ag) 1) fun iu=>aq j2 (Addr.add (ai ag) 2) fun fq=>aq j2 (Addr.add (ai ag) 3) fun h_=>Q (.agg #[.bool yQ, .slice iu.a iu.len iu.cap, .slice fq.a fq.len
 fq.cap, .slice h_.a h_.len h_.cap]) j2
def uE (e5:World) (bK:World) (nt:Array Value) (l:aa) (w:World) (to:Int) (ag:World) (Q:Value→World→Prop):Prop:=cZ e5 (ai bK) (Array.toList nt)∧Array.size nt=4∧ay (setCells e5 (ai bK) 0
 (Array.toList nt)) fun cF=>∃ (FK:Int→World→Prop) (K0:Int→World→Nat),FK 0 cF∧∀ (n19:Int) (cB:World),FK n19 cB→aB (decide (n19<(l.len:Int))) (∃kF:Addr,l.a=some kF∧a7 n19 l.len∧aq cB (kF.add
 (Int.toNat n19*2)) fun fW=>bI cB ((kF.add (Int.toNat n19*2)).add 1) fun n23=>ay (cB.alloc z4) fun cW=>cZ cW (ai cB) [.slice fW.a fW.len fW.cap, .int .i64 n23]∧(2:Nat)=2∧ay (setCells cW (ai cB) 0 [.slice
 fW.a fW.len fW.cap, .int .i64 n23]) fun fH=>cY (fun Dz:World→Prop=>aq fH (ai cB) fun dh=>aB (!(Option.isNone dh.a)) (aq fH (Addr.add (ai bK) 1) fun eV=>aq fH (ai cB) fun ib=>ay (fH.alloc (.cells #[.slice ib.a
 ib.len ib.cap] ah.cm)) fun gn=>OI eV fH gn bK Dz) (Dz fH)) (fun eR=>aq eR (Addr.add (ai bK) 3) fun fX=>bI eR (Addr.add (ai cB) 1) fun n36=>ay (eR.alloc (.cells #[.int .i64 n36] ah.int)) fun kn=>∃ej:aa,
 ∃lQ:World,Sem.run Tryz.prog (Builtin.append_ #[ah.eg,ah.eg] ah.eg #[.slice fX.a fX.len fX.cap, .slice (some (ai eR)) 1 1]) kn= .ok (.slice ej.a ej.len ej.cap) lQ∧st lQ (Addr.add (ai bK) 3) (.slice ej.a
 ej.len ej.cap) fun uB=>FK (aC (n19+1)) uB∧K0 (aC (n19+1)) uB<K0 n19 cB)) (ay (cB.drew) fun dE=>¬False∧aq dE (Addr.add (ai bK) 1) fun nf=>¬False∧aq dE (Addr.add (ai w) 1) fun hU=>((0:Int)≤(aC (to-
 1))∧(aC (to-1))≤(hU.len:Int))∧∃iX:aa,∃j1:World,Sem.run Tryz.prog (Builtin.append_ #[ah.cL,ah.cL] ah.cL #[.slice nf.a nf.len nf.cap, .slice (bg hU.a 1 (Int.toNat (aC (to-1))) hU.cap)
 (hU.len-(Int.toNat (aC (to-1)))) (hU.cap-(Int.toNat (aC (to-1))))]) dE= .ok (.slice iX.a iX.len iX.cap) j1∧st j1 (Addr.add (ai bK) 1) (.slice iX.a iX.len iX.cap) fun hX=>ay (hX.drew) fun dy=>¬False∧aq dy
 (Addr.add (ai bK) 3) fun nF=>¬False∧aq dy (Addr.add (ai w) 3) fun jA=>((0:Int)≤to∧to≤(jA.len:Int))∧∃gi:aa,∃rQ:World,Sem.run Tryz.prog (Builtin.append_ #[ah.eg,ah.eg] ah.eg #[.slice nF.a nF.len
 nF.cap, .slice (bg jA.a 1 (Int.toNat to) jA.cap) (jA.len-(Int.toNat to)) (jA.cap-(Int.toNat to))]) dy= .ok (.slice gi.a gi.len gi.cap) rQ∧st rQ (Addr.add (ai bK) 3) (.slice gi.a gi.len gi.cap) fun ko=>bS ko (ai
 bK) fun tp=>Ot ko bK ag tp Q)
def lq (Rc:Array Value) (hM:World) (B5:Nat→Prop) (Re:Array Value) (ag:World) (aw:World) (Q:Value→World→Prop) (il:aa):Prop:=jt F.fM #[.agg Rc] hM fun afP gJ hD nP sT=>ao B5 hM sT∧jt
 F.fM #[.agg Re] sT fun afQ zQ rm ju ln=>ao B5 sT ln∧cZ ln (ai ag) [.bool afP, .slice gJ.a gJ.len gJ.cap, .slice hD.a hD.len hD.cap, .slice nP.a nP.len nP.cap]∧(4:Nat)=4∧ay (setCells ln (ai ag) 0
 [.bool afP, .slice gJ.a gJ.len gJ.cap, .slice hD.a hD.len hD.cap, .slice nP.a nP.len nP.cap]) fun lp=>ao B5 ln lp∧cZ lp (ai aw) [.bool afQ, .slice zQ.a zQ.len zQ.cap, .slice rm.a rm.len rm.cap, .slice ju.a
 ju.len ju.cap]∧(4:Nat)=4∧ay (setCells lp (ai aw) 0 [.bool afQ, .slice zQ.a zQ.len zQ.cap, .slice rm.a rm.len rm.cap, .slice ju.a ju.len ju.cap]) fun jG=>bS jG (ai ag) fun Oz=>aq jG (Addr.add (ai ag) 1) fun qj=>
 aq jG (Addr.add (ai ag) 2) fun kD=>aq jG (Addr.add (ai ag) 3) fun pT=>bS jG (ai aw) fun qV=>aq jG (Addr.add (ai aw) 1) fun iS=>aq jG (Addr.add (ai aw) 2) fun g1=>aq jG (Addr.add (ai aw) 3) fun g2=>Q (.tuple #[.agg
 #[.bool Oz, .slice qj.a qj.len qj.cap, .slice kD.a kD.len kD.cap, .slice pT.a pT.len pT.cap], .slice il.a il.len il.cap, .agg #[.bool qV, .slice iS.a iS.len iS.cap, .slice g1.a g1.len g1.cap, .slice g2.a g2.len
 g2.cap], .bool true]) jG
def nx (c5:World) (ag:World) (Q:Value→World→Prop):Prop:=bS c5 (ai ag) fun D9=>Ki c5 ag Q D9
def Fc (lC:World) (bh:World) (ag:World) (Q:Value→World→Prop):Prop:=bS lC (ai bh) fun Xu=>Ot lC bh ag Xu Q
def Qe (np:Nat→Prop) (cW:World) (cv:World) (eD:aa) (kr:aa) (e7:aa) (bk:Int) (m:Option Addr) (Q:Value→World→Prop):Prop:=ao np cW cv∧∃dh:aa,∃fC:World,Sem.run Tryz.prog (Builtin.append_
 #[ah.e3,ah.e3] ah.e3 #[.slice eD.a eD.len eD.cap, .slice kr.a kr.len kr.cap]) cv= .ok (.slice dh.a dh.len dh.cap) fC∧ao np cv fC∧∃ib:aa,∃gn:World,Sem.run Tryz.prog (Builtin.append_
 #[ah.e3,ah.e3] ah.e3 #[.slice dh.a dh.len dh.cap, .slice (bg e7.a 2 (Int.toNat (aC (bk+1))) e7.cap) (e7.len-(Int.toNat (aC (bk+1)))) (e7.cap-(Int.toNat (aC (bk+1))))]) fC= .ok (.slice ib.a
 ib.len ib.cap) gn∧ao np fC gn∧∃n4:Addr,m=some n4∧(∃u:Value,gn.cell? n4=some u)∧gn.frozen? n4=false∧ay (gn.setCell n4 (.slice ib.a ib.len ib.cap)) fun nC=>Q (.tuple #[]) nC
def Qf (pC:Nat→Prop) (sJ:World) (uh:World) (p9:aa) (gJ:aa) (nn:aa) (bk:Int) (m:Option Addr) (Q:Value→World→Prop):Prop:=ao pC sJ uh∧∃nP:aa,∃ln:World,Sem.run Tryz.prog (Builtin.append_
 #[ah.e3,ah.e3] ah.e3 #[.slice p9.a p9.len p9.cap, .slice gJ.a gJ.len gJ.cap]) uh= .ok (.slice nP.a nP.len nP.cap) ln∧ao pC uh ln∧∃gp:aa,∃tx:World,Sem.run Tryz.prog (Builtin.append_
 #[ah.e3,ah.e3] ah.e3 #[.slice nP.a nP.len nP.cap, .slice (bg nn.a 2 (Int.toNat bk) nn.cap) (nn.len-(Int.toNat bk)) (nn.cap-(Int.toNat bk))]) ln= .ok (.slice gp.a gp.len gp.cap) tx∧ao pC ln
 tx∧∃Rf:Addr,m=some Rf∧(∃u:Value,tx.cell? Rf=some u)∧tx.frozen? Rf=false∧ay (tx.setCell Rf (.slice gp.a gp.len gp.cap)) fun nU=>Q (.tuple #[]) nU
def O3 (bW:World) (w:World) (Q:Value→World→Prop) (n7:Int):Prop:=bS bW (ai w) fun iY=>aq bW (Addr.add (ai w) 1) fun fT=>aq bW (Addr.add (ai w) 2) fun ed=>aq bW (Addr.add (ai w) 3) fun fJ=>Q (.tuple #[.agg #[.bool
 iY, .slice fT.a fT.len fT.cap, .slice ed.a ed.len ed.cap, .slice fJ.a fJ.len fJ.cap], .int .i64 n7]) bW
def Zl (c_:aa) (n17:Int) (e6:World) (bh:World) (u0:Int→World→Prop) (zR:Int→World→Nat):Prop:=∃rn:Addr,c_.a=some rn∧a7 n17 c_.len∧aq e6 (rn.add (Int.toNat n17*1)) fun e7=>ay (e6.drew) fun dO
 =>∃w3:Nat→Prop,¬w3 (Addr.add (ai bh) 1).block∧aq dO (Addr.add (ai bh) 1) fun eD=>ee F.mu #[.slice e7.a e7.len e7.cap] dO fun gm cW=>ao w3 dO cW∧ay (cW.alloc (.cells #[.slice gm.a
 gm.len gm.cap] ah.cm)) fun m_=>ao w3 cW m_∧∃eV:aa,∃fy:World,Sem.run Tryz.prog (Builtin.append_ #[ah.cL,ah.cL] ah.cL #[.slice eD.a eD.len eD.cap, .slice (some (ai cW)) 1 1]) m_=
 .ok (.slice eV.a eV.len eV.cap) fy∧st fy (Addr.add (ai bh) 1) (.slice eV.a eV.len eV.cap) fun gn=>u0 (aC (n17+1)) gn∧zR (aC (n17+1)) gn<zR n17 e6
def Zm (ik:aa) (n34:Int) (lC:World) (bh:World) (MG:Int→World→Prop) (Rg:Int→World→Nat):Prop:=∃a36:Addr,ik.a=some a36∧a7 n34 ik.len∧aq lC (a36.add (Int.toNat n34*1)) fun kt=>ay (lC.drew) fun jJ
 =>∃Xv:Nat→Prop,¬Xv (Addr.add (ai bh) 2).block∧aq jJ (Addr.add (ai bh) 2) fun eJ=>ee F.mu #[.slice kt.a kt.len kt.cap] jJ fun hU dE=>ao Xv jJ dE∧ay (dE.alloc (.cells #[.slice hU.a
 hU.len hU.cap] ah.cm)) fun mb=>ao Xv dE mb∧∃iJ:aa,∃hX:World,Sem.run Tryz.prog (Builtin.append_ #[ah.cL,ah.cL] ah.cL #[.slice eJ.a eJ.len eJ.cap, .slice (some (ai dE)) 1 1]) mb=
 .ok (.slice iJ.a iJ.len iJ.cap) hX∧st hX (Addr.add (ai bh) 2) (.slice iJ.a iJ.len iJ.cap) fun dy=>MG (aC (n34+1)) dy∧Rg (aC (n34+1)) dy<Rg n34 lC
def Ht (r4:Bool) (p_:Bool→World→Prop) (bh:World) (w:World):Prop:=aB (!r4) (p_ true bh) (bS bh (ai w) fun tE=>aq bh (Addr.add (ai w) 1) fun c_=>aq bh (Addr.add (ai w) 2) fun ff=>aq bh (Addr.add (ai w) 3) fun dH
 =>ba F.nS #[.agg #[.bool tE, .slice c_.a c_.len c_.cap, .slice ff.a ff.len ff.cap, .slice dH.a dH.len dH.cap]] bh fun zy ep=>p_ (!zy) ep)
def SA (bH:World) (aw:World) (ag:World) (zp:World→Prop):Prop:=ay (bH.drew) fun b6=>∃Xw:Nat→Prop,¬Xw (Addr.add (ai aw) 3).block∧aq b6 (Addr.add (ai aw) 3) fun ed=>aT F.wR #[.pointer (some (ai
 ag)), .int .i64 2] b6 fun n14 cJ=>ao Xw b6 cJ∧ay (cJ.alloc (.cells #[.int .i64 n14] ah.int)) fun e5=>ao Xw cJ e5∧∃dH:aa,∃ep:World,Sem.run Tryz.prog (Builtin.append_ #[ah.eg,ah.eg] ah.eg #[.slice
 ed.a ed.len ed.cap, .slice (some (ai cJ)) 1 1]) e5= .ok (.slice dH.a dH.len dH.cap) ep∧st ep (Addr.add (ai aw) 3) (.slice dH.a dH.len dH.cap) fun e6=>zp e6
def J4 (jJ:World) (w:World) (Q:Value→World→Prop):Prop:=bS jJ (ai w) fun Xx=>aq jJ (Addr.add (ai w) 1) fun eJ=>aq jJ (Addr.add (ai w) 2) fun qy=>aq jJ (Addr.add (ai w) 3) fun nf=>Q (.tuple #[.agg #[.bool Xx,
 .slice eJ.a eJ.len eJ.cap, .slice qy.a qy.len qy.cap, .slice nf.a nf.len nf.cap], .int .i64 4]) jJ
def Tb (dH:aa) (g5:aa) (dp:World) (sU:Nat→Prop) (MH:Option Nat) (i:Int) (d:Option Addr) (Q:Value→World→Prop):Prop:=∃e7:aa,∃dO:World,Sem.run Tryz.prog (Builtin.append_ #[ah.um,
 ah.um] ah.um #[.slice dH.a dH.len dH.cap, .slice g5.a g5.len g5.cap]) dp= .ok (.slice e7.a e7.len e7.cap) dO∧ao sU dp dO∧∃c5:World,Sem.run Tryz.prog (Instr.mapUpdate ah.AH
 (.map MH) (.int .i64 i) (.slice e7.a e7.len e7.cap)) dO= .ok () c5∧∃a23:Addr,d=some a23∧bI c5 (a23.add 6) fun n24=>∃a25:Addr,d=some a25∧st c5 (a25.add 6) (.int .i64 (aC (n24+1))) fun cv=>Q (.int .i64 0) cv
def Si (kt:aa):Prop:=(0:Int)≤(aC (232-(kt.len:Int)))∧((aC (232-(kt.len:Int))):Int)≤(aC (232-(kt.len:Int)))∧((aC (232-(kt.len:Int))):Int)≤yp∧((1:Nat):Int)*(aC (232-(kt.len:Int)))≤
 140737488355328
def Sj (lQ:World) (de:aa) (eR:World) (jL:aa) (jJ:World) (kt:aa) (GO:aa→World→Prop):Prop:=ay (lQ.alloc (.cells #[.slice de.a de.len de.cap, .slice (some (ai eR)) (Int.toNat 4) (Int.toNat 4), .slice jL.a
 jL.len jL.cap, .slice (some (ai jJ)) (Int.toNat (aC (232-(kt.len:Int)))) (Int.toNat (aC (232-(kt.len:Int))))] ah.cm)) fun uB=>ee F.s4 #[.slice (some (ai lQ)) 4 4] uB fun hU dE=>GO hU dE
def Sn (bW:World) (w:World) (Q:Value→World→Prop):Prop:=bI bW (ai w) fun n9=>kU bW (Addr.add (ai w) 1) fun n10=>aq bW (Addr.add (ai w) 2) fun ed=>Q (.tuple #[.agg #[.int .i64 n9, .int .u64 n10, .slice ed.a ed.len
 ed.cap], .int .i64 4]) bW
def S_ (bH:World) (w:World) (Jf:List Value) (Q:Value→World→Prop):Prop:=cZ bH (ai w) (Array.toList Jf.toArray)∧Array.size Jf.toArray=256∧ay (setCells bH (ai w) 0 (Array.toList Jf.toArray)) fun bW=>∃AM:List
 Value,eN bW (ai w) 0 256=some AM∧Q (.agg AM.toArray) bW
def Ps (hM:World) (dy:World) (wB:Bool) (gi:aa) (qx:aa) (il:aa) (mi:Int) (Q:Value→World→Prop) (c:Option Addr) (n41:Int) (w:World) (up:Option Addr) (n36:Int) (n31:Int):Prop:=cZ hM (ai dy)
 [.bool wB, .slice gi.a gi.len gi.cap, .slice qx.a qx.len qx.cap, .slice il.a il.len il.cap]∧(4:Nat)=4∧ay (setCells hM (ai dy) 0 [.bool wB, .slice gi.a gi.len gi.cap, .slice qx.a qx.len qx.cap, .slice il.a il.len
 il.cap]) fun fk=>aB (mi !=0) (Q (.tuple #[.slice none 0 0, .int .i64 0, .int .i64 0, .int .i64 mi]) fk) (∃K8:Addr,c=some K8∧aq fk (K8.add 2) fun p1=>ay (fk.alloc (.cells #[.int .i64 n41] ah.int)) fun DI=>∃iu:
 aa,∃tu:World,Sem.run Tryz.prog (Builtin.append_ #[ah.eg,ah.eg] ah.eg #[.slice p1.a p1.len p1.cap, .slice (some (ai fk)) 1 1]) DI= .ok (.slice iu.a iu.len iu.cap) tu∧∃q8:Addr,c=some q8∧st tu (q8.add
 2) (.slice iu.a iu.len iu.cap) fun fz=>ay (fz.drew) fun di=>∃oK:Nat→Prop,¬oK ((ai dy):Addr).block∧bS di (ai dy) fun uK=>aq di (Addr.add (ai dy) 1) fun hJ=>aq di (Addr.add (ai dy) 2) fun gJ=>aq di
 (Addr.add (ai dy) 3) fun hD=>¬oK ((ai w):Addr).block∧bS di (ai w) fun uL=>aq di (Addr.add (ai w) 1) fun fI=>aq di (Addr.add (ai w) 2) fun gp=>aq di (Addr.add (ai w) 3) fun gP=>(ay (di.alloc dx) fun gV=>ao oK
 di gV∧ay (gV.alloc dx) fun nU=>ao oK gV nU∧da nU di uK hJ gJ hD oK gV uL fI gp gP up n36 w dy n31 Q c)∧(ay (di.alloc dx) fun q9=>ao oK di q9∧ay (q9.alloc dx) fun FW=>ao oK q9 FW∧da FW
 q9 uK hJ gJ hD oK di uL fI gp gP up n36 w dy n31 Q c))
def Fo (sV:Bool) (ej:aa) (ga:aa) (eJ:aa) (MI:World) (jm:Nat→Prop) (dE:World) (uZ:Bool) (iX:aa) (iJ:aa) (nO:aa) (zg:World) (w:World) (key:aa) (aw:World) (Q:Value→World→Prop):Prop:=jt
 F.fM #[.agg #[.bool sV, .slice ej.a ej.len ej.cap, .slice ga.a ga.len ga.cap, .slice eJ.a eJ.len eJ.cap]] MI fun aut auu auv auw afR=>ao jm MI afR∧ck afR dE uZ iX iJ nO zg aut auu auv auw w key aw
 Q
def SJ (cJ:World) (bh:World) (jt:Array Value) (w:World) (ag:World) (Q:Value→World→Prop):Prop:=cZ cJ (ai bh) (Array.toList jt)∧Array.size jt=4∧ay (setCells cJ (ai bh) 0 (Array.toList jt)) fun b2=>aq
 b2 (Addr.add (ai w) 1) fun c_=>∃ (u0:Int→World→Prop) (zR:Int→World→Nat),u0 0 b2∧∀ (n17:Int) (e6:World),u0 n17 e6→aB (decide (n17<(c_.len:Int))) (Zl c_ n17 e6 bh u0 zR) (aq e6 (Addr.add (ai w) 2) fun
 ik=>∃ (MG:Int→World→Prop) (Rg:Int→World→Nat),MG 0 e6∧∀ (n34:Int) (lC:World),MG n34 lC→aB (decide (n34<(ik.len:Int))) (Zm ik n34 lC bh MG Rg) (Fc lC bh ag Q))
def TH (bp:World) (w:World) (Q:Value→World→Prop) (n7:Int):Prop:=cZ bp (ai w) [.bool false, .slice none 0 0, .slice none 0 0, .slice none 0 0]∧(4:Nat)=4∧ay (setCells bp (ai w) 0 [.bool false, .slice none 0 0,
 .slice none 0 0, .slice none 0 0]) fun bW=>O3 bW w Q n7
end
section
set_option maxRecDepth 100000
def W.m9 (a:aa) (b:aa) (w:World) (Q:Value→World→Prop):Prop:=∃dk:Int,∃aw:World,Sem.run Tryz.prog (callFunc F.auo #[.slice a.a a.len a.cap, .slice b.a b.len b.cap]) w= .ok (.value (.int
 .i64 dk)) aw∧Q (.int .i64 dk) aw
def A.m9:bG:=(.s .r (.s .r .l))
theorem W.aja (a:aa) (b:aa) (w:World) (Q:Value→World→Prop) (h:W.m9 a b w Q):aQ Tryz.prog F.m9 #[.slice a.a a.len a.cap, .slice b.a b.len b.cap] w Q:=okF A.m9 Tryz.func64 (by kernel_rfl) (by kernel_rfl) h
def W.D3 (s:aa) (v:Int) (w:World) (Q:Value→World→Prop):Prop:=aT F.D2 #[.slice s.a s.len s.cap, .int .i64 v] w fun bk ag=>Q (.bool (decide (bk≥0))) ag
def A.D3:bG:=(.s .r (.s .r .l))
theorem W.arf (s:aa) (v:Int) (w:World) (Q:Value→World→Prop) (h:W.D3 s v w Q):aQ Tryz.prog F.D3 #[.slice s.a s.len s.cap, .int .i64 v] w Q:=okF A.D3 Tryz.func103 (by kernel_rfl) (by kernel_rfl) h
def W.yD (s:aa) (i:Int) (j:Int) (w:World) (Q:Value→World→Prop):Prop:=((0:Int)≤(s.len:Int)∧(s.len:Int)≤((s.cap:Nat):Int))∧((0:Int)≤j∧j≤(((Int.toNat (s.len:Int)):Nat):
 Int))∧((0:Int)≤i∧i≤(((Int.toNat j):Nat):Int))∧aB (i==j) (Q (.slice s.a s.len s.cap) w) (ay (w.drew) fun ag=>((0:Int)≤i∧i≤((s.cap:Nat):Int))∧((0:Int)≤j∧j≤(s.len:Int))∧∃s2:aa,∃aS:World,
 Sem.run Tryz.prog (Builtin.append_ #[ah.cL,ah.cL] ah.cL #[.slice (bg s.a 1 0 s.cap) ((Int.toNat i)-0) (s.cap-0), .slice (bg s.a 1 (Int.toNat j) s.cap) (s.len-(Int.toNat j)) (s.cap-(Int.toNat j))]) ag
 = .ok (.slice s2.a s2.len s2.cap) aS∧((0:Int)≤(s.len:Int)∧(s.len:Int)≤((s2.cap:Nat):Int))∧((0:Int)≤(s2.len:Int)∧(s2.len:Int)≤(((Int.toNat (s.len:Int)):Nat):Int))∧∃ (h8:Value) (bH:World),Sem.run Tryz.prog
 (Builtin.clear_ #[ah.cL] ah.t #[.slice (bg s2.a 1 (Int.toNat (s2.len:Int)) s2.cap) ((Int.toNat (s.len:Int))-(Int.toNat (s2.len:Int))) (s2.cap-(Int.toNat (s2.len:Int)))]) aS= .ok h8 bH∧Q (.slice s2.a s2.len s2.cap) bH)
def A.yD:bG:=(.s .r (.s .r (.s bc (.s .r (.s (.er 6 false ⟨[0,0,3,0,0,24,36,127],[0,0,3,0,0,24,36,73]⟩ [1048576,2097152,4194304,8388608,16777216,33554432,67108864,1] [1,2,3145728,
 1,4,25165824,37748736,67108864] (.take 0 (.take 1 (.take 2 (.take 3 (.take 4 (.take 5 (.tail [.run, .run])))))))) (.s .r (.s .r .l)))))))
theorem W.aj7 (s:aa) (i:Int) (j:Int) (w:World) (Q:Value→World→Prop) (h:W.yD s i j w Q):aQ Tryz.prog F.yD #[.slice s.a s.len s.cap, .int .i64 i, .int .i64 j] w Q:=okF A.yD Tryz.func109 (by kernel_rfl) (by kernel_rfl) h
def W.Dp (x:Int) (w:World) (Q:Value→World→Prop):Prop:=(0:Int)≤x∧∃c3:UInt8,Tz (ByteArray.mk #[0,1,1,2,1,2,2,3,1,2,2,3,2,3,3,4,1,2,2,3,2,3,3,4,2,3,3,4,3,4,4,5,1,2,
 2,3,2,3,3,4,2,3,3,4,3,4,4,5,2,3,3,4,3,4,4,5,3,4,4,5,4,5,5,6,1,2,2,3,2,3,3,4,2,3,3,4,3,4,4,5,2,3,3,4,3,4,4,5,3,4,4,5,4,5,5,6,2,3,3,4,3,4,4,5,3,4,4,5,4,5,5,6,3,4,
 4,5,4,5,5,6,4,5,5,6,5,6,6,7,1,2,2,3,2,3,3,4,2,3,3,4,3,4,4,5,2,3,3,4,3,4,4,5,3,4,4,5,4,5,5,6,2,3,3,4,3,4,4,5,3,4,4,5,4,5,5,6,3,4,4,5,4,5,5,6,4,5,5,6,5,6,6,7,2,3,
 3,4,3,4,4,5,3,4,4,5,4,5,5,6,3,4,4,5,4,5,5,6,4,5,5,6,5,6,6,7,3,4,4,5,4,5,5,6,4,5,5,6,5,6,6,7,4,5,5,6,5,6,6,7,5,6,6,7,6,7,7,8]) (Int.toNat x)=some c3∧Q (.int .i64 (aC ((c3.toNat
 :Nat):Int))) w
def A.Dp:bG:=(.s .r (.s .r .l))
theorem W.amT (x:Int) (w:World) (Q:Value→World→Prop) (h:W.Dp x w Q):aQ Tryz.prog F.Dp #[.int .u8 x] w Q:=okF A.Dp Tryz.func117 (by kernel_rfl) (by kernel_rfl) h
def W.mu (s:aa) (w:World) (Q:Value→World→Prop):Prop:=aB (Option.isNone s.a) (Q (.slice none 0 0) w) (ay (w.alloc (.cells #[] ah.uint8)) fun ag=>∃s2:aa,∃aS:World,Sem.run Tryz.prog
 (Builtin.append_ #[ah.cm,ah.cm] ah.cm #[.slice (some (ai w)) 0 0, .slice s.a s.len s.cap]) ag= .ok (.slice s2.a s2.len s2.cap) aS∧Q (.slice s2.a s2.len s2.cap) aS)
def A.mu:bG:=i_
theorem W.aiu (s:aa) (w:World) (Q:Value→World→Prop) (h:W.mu s w Q):aQ Tryz.prog F.mu #[.slice s.a s.len s.cap] w Q:=okF A.mu Tryz.func119 (by kernel_rfl) (by kernel_rfl) h
def W.yB (s:aa) (i:Int) (v:aa) (w:World) (Q:Value→World→Prop):Prop:=((0:Int)≤i∧i≤(s.len:Int))∧aB ((v.len:Int)==0) (Q (.slice s.a s.len s.cap) w) (aB (i==(s.len:Int)) (∃s1:aa,
 ∃aw:World,Sem.run Tryz.prog (Builtin.append_ #[ah.cL,ah.cL] ah.cL #[.slice s.a s.len s.cap, .slice v.a v.len v.cap]) w= .ok (.slice s1.a s1.len s1.cap) aw∧Q (.slice s1.a s1.len s1.cap) aw) (aB (decide
 (((aC ((s.len:Int)+(v.len:Int))):Int)>((s.cap:Nat):Int))) (((0:Int)≤i∧i≤((s.cap:Nat):Int))∧∃bY:aa,∃bp:World,Sem.run Tryz.prog (Builtin.append_ #[ah.cL,ah.int] ah.cL #[.slice (bg s.a 1 0
 s.cap) ((Int.toNat i)-0) (s.cap-0), .int .i64 (aC ((aC ((s.len:Int)+(v.len:Int)))-i))]) w= .ok (.slice bY.a bY.len bY.cap) bp∧((0:Int)≤i∧i≤(bY.len:Int))∧∃n5:Int,∃a8:World,Sem.run Tryz.prog (Builtin.copy_
 #[ah.cL,ah.cL] ah.int #[.slice (bg bY.a 1 (Int.toNat i) bY.cap) (bY.len-(Int.toNat i)) (bY.cap-(Int.toNat i)), .slice v.a v.len v.cap]) bp= .ok (.int .i64 n5) a8∧ay (a8.drew) fun bh=>((0:Int)≤(aC (i+
 (v.len:Int)))∧(aC (i+(v.len:Int)))≤(bY.len:Int))∧((0:Int)≤i∧i≤(s.len:Int))∧∃n8:Int,∃b6:World,Sem.run Tryz.prog (Builtin.copy_ #[ah.cL,ah.cL] ah.int #[.slice (bg bY.a 1 (Int.toNat (aC (i+
 (v.len:Int)))) bY.cap) (bY.len-(Int.toNat (aC (i+(v.len:Int))))) (bY.cap-(Int.toNat (aC (i+(v.len:Int))))), .slice (bg s.a 1 (Int.toNat i) s.cap) (s.len-(Int.toNat i)) (s.cap-(Int.toNat i))]) bh= .ok (.int .i64 n8) b6∧Q
 (.slice bY.a bY.len bY.cap) b6) (((0:Int)≤(aC ((s.len:Int)+(v.len:Int)))∧(aC ((s.len:Int)+(v.len:Int)))≤((s.cap:Nat):Int))∧((0:Int)≤(aC (i+(v.len:Int)))∧(aC (i+(v.len:Int)))≤((((Int.toNat (aC ((s.len:Int)+
 (v.len:Int))))-0):Nat):Int))∧∃n_:Bool,∃b9:World,Sem.run Tryz.prog (callFunc F.Zh #[.slice v.a v.len v.cap, .slice (bg (bg s.a 1 0 s.cap) 1 (Int.toNat (aC (i+(v.len:Int)))) (s.cap-0))
 (((Int.toNat (aC ((s.len:Int)+(v.len:Int))))-0)-(Int.toNat (aC (i+(v.len:Int))))) ((s.cap-0)-(Int.toNat (aC (i+(v.len:Int)))))]) w= .ok (.value (.bool n_)) b9∧aB (!n_) (ay (b9.drew) fun cJ=>((0:Int)≤(aC (i+
 (v.len:Int)))∧(aC (i+(v.len:Int)))≤((((Int.toNat (aC ((s.len:Int)+(v.len:Int))))-0):Nat):Int))∧((0:Int)≤i∧i≤((((Int.toNat (aC ((s.len:Int)+(v.len:Int))))-0):Nat):Int))∧∃n13:Int,∃c0:World,Sem.run
 Tryz.prog (Builtin.copy_ #[ah.cL,ah.cL] ah.int #[.slice (bg (bg s.a 1 0 s.cap) 1 (Int.toNat (aC (i+(v.len:Int)))) (s.cap-0)) (((Int.toNat (aC ((s.len:Int)+(v.len:Int))))-0)-(Int.toNat (aC (i+
 (v.len:Int))))) ((s.cap-0)-(Int.toNat (aC (i+(v.len:Int))))), .slice (bg (bg s.a 1 0 s.cap) 1 (Int.toNat i) (s.cap-0)) (((Int.toNat (aC ((s.len:Int)+(v.len:Int))))-0)-(Int.toNat i)) ((s.cap-0)-(Int.toNat i))]) cJ=
 .ok (.int .i64 n13) c0∧((0:Int)≤i∧i≤((((Int.toNat (aC ((s.len:Int)+(v.len:Int))))-0):Nat):Int))∧∃n15:Int,∃cF:World,Sem.run Tryz.prog (Builtin.copy_ #[ah.cL,ah.cL] ah.int #[.slice (bg (bg
 s.a 1 0 s.cap) 1 (Int.toNat i) (s.cap-0)) (((Int.toNat (aC ((s.len:Int)+(v.len:Int))))-0)-(Int.toNat i)) ((s.cap-0)-(Int.toNat i)), .slice v.a v.len v.cap]) c0= .ok (.int .i64 n15) cF∧Q (.slice (bg s.a 1 0 s.cap)
 ((Int.toNat (aC ((s.len:Int)+(v.len:Int))))-0) (s.cap-0)) cF) (((0:Int)≤(s.len:Int)∧(s.len:Int)≤((((Int.toNat (aC ((s.len:Int)+(v.len:Int))))-0):Nat):Int))∧∃n17:Int,∃e6:World,Sem.run Tryz.prog
 (Builtin.copy_ #[ah.cL,ah.cL] ah.int #[.slice (bg (bg s.a 1 0 s.cap) 1 (Int.toNat (s.len:Int)) (s.cap-0)) (((Int.toNat (aC ((s.len:Int)+(v.len:Int))))-0)-(Int.toNat (s.len:Int))) ((s.cap-0)-(Int.toNat
 (s.len:Int))), .slice v.a v.len v.cap]) b9= .ok (.int .i64 n17) e6∧((0:Int)≤i∧i≤((((Int.toNat (aC ((s.len:Int)+(v.len:Int))))-0):Nat):Int))∧bC F.aup #[.slice (bg (bg s.a 1 0 s.cap) 1
 (Int.toNat i) (s.cap-0)) (((Int.toNat (aC ((s.len:Int)+(v.len:Int))))-0)-(Int.toNat i)) ((s.cap-0)-(Int.toNat i)), .int .i64 (v.len:Int)] e6 fun dp=>Q (.slice (bg s.a 1 0 s.cap) ((Int.toNat (aC ((s.len:Int)+
 (v.len:Int))))-0) (s.cap-0)) dp))))
def A.yB:bG:=(.s .r (.s .r (.s .r (.s bc (.s .r (.s bc (.s (.s .r (.c (.s .r (.s .r (.s (.er 8 false ⟨[0,0,0,6,9,0,0,96,144],[0,0,0,6,9,0,0,96,144]⟩ [70368744177664,140737488355328,
 281474976710656,562949953421312,1125899906842624,2251799813685248,4503599627370496,9007199254740992,18014398509481984] [512,2,128,422212465065984,633318697598976,1,2,6755399441055744,10133099161583616] (.take 0 (.take 1 (.take
 2 (.take 3 (.take 4 (.take 5 (.take 6 (.take 7 (.tail [.run])))))))))) (.s .r .l)))) .l)) (.s .r (.s (.s .r (.c (.s (.er 8 false ⟨[0,0,0,6,9,0,0,96,144],[0,0,0,6,9,0,0,96,144]⟩ [590295810358705651712,
 1180591620717411303424,2361183241434822606848,4722366482869645213696,9444732965739290427392,18889465931478580854784,37778931862957161709568,75557863725914323419136,151115727451828646838272] [1,2,128,3541774862152233910272,
 5312662293228350865408,1,2,56668397794435742564352,85002596691653613846528] (.take 0 (.take 1 (.take 2 (.take 3 (.take 4 (.take 5 (.take 6 (.take 7 (.tail [.run])))))))))) (.s .r (.s .r .l))) .l)) a4)))))))))
theorem W.ajX (s:aa) (i:Int) (v:aa) (w:World) (Q:Value→World→Prop) (h:W.yB s i v w Q):aQ Tryz.prog F.yB #[.slice s.a s.len s.cap, .int .i64 i, .slice v.a v.len v.cap] w Q:=okF A.yB Tryz.func120 (by kernel_rfl) (by kernel_rfl) h
def W.Dm (s:aa) (w:World) (Q:Value→World→Prop):Prop:=aB (Option.isNone s.a) (Q (.slice none 0 0) w) (ay (w.alloc (.cells #[] ah.uint8)) fun ag=>∃s2:aa,∃aS:World,Sem.run Tryz.prog
 (Builtin.append_ #[ah.KR,ah.KR] ah.KR #[.slice (some (ai w)) 0 0, .slice s.a s.len s.cap]) ag= .ok (.slice s2.a s2.len s2.cap) aS∧Q (.slice s2.a s2.len s2.cap) aS)
def A.Dm:bG:=i_
theorem W.amN (s:aa) (w:World) (Q:Value→World→Prop) (h:W.Dm s w Q):aQ Tryz.prog F.Dm #[.slice s.a s.len s.cap] w Q:=okF A.Dm Tryz.func122 (by kernel_rfl) (by kernel_rfl) h
def W.D2 (s:aa) (v:Int) (w:World) (Q:Value→World→Prop):Prop:=∃ (fQ:Int→World→Prop) (h5:Int→World→Nat),fQ 0 w∧∀ (bk:Int) (bp:World),fQ bk bp→aB (decide (bk<(s.len:Int))) (∃a5:
 Addr,s.a=some a5∧a7 bk s.len∧bI bp (a5.add (Int.toNat bk*1)) fun n6=>aB (v==n6) (Q (.int .i64 bk) bp) (fQ (aC (bk+1)) bp∧h5 (aC (bk+1)) bp<h5 bk bp)) (Q (.int .i64 (-1)) bp)
def A.D2:bG:=kq
theorem W.ard (s:aa) (v:Int) (w:World) (Q:Value→World→Prop) (h:W.D2 s v w Q):aQ Tryz.prog F.D2 #[.slice s.a s.len s.cap, .int .i64 v] w Q:=okF A.D2 Tryz.func144 (by kernel_rfl) (by kernel_rfl) h
def W.CK (x:aa) (target:aa) (cmp:r6) (w:World) (Q:Value→World→Prop):Prop:=∃ (fQ:Int→Int→World→Prop) (h5:Int→Int→World→Nat),fQ 0 (x.len:Int) w∧∀ (bk:Int)
 (fL:Int) (bH:World),fQ bk fL bH→aB (decide (bk<fL)) ((0:Int)≤1∧∃hL:Addr,x.a=some hL∧((0:Int)≤(aC (Int.fdiv (IntKind.wrap .u64 (aC (bk+fL))) (2^(min (Int.toNat 1) 64))))∧(aC (Int.fdiv (IntKind.wrap .u64 (aC
 (bk+fL))) (2^(min (Int.toNat 1) 64))))<(x.len:Int))∧aq bH (hL.add (Int.toNat (aC (Int.fdiv (IntKind.wrap .u64 (aC (bk+fL))) (2^(min (Int.toNat 1) 64))))*1)) fun g_=>tY Tryz.prog cmp.f∧Calls Tryz.prog cmp.f (cmp.pre
 ++ #[.slice g_.a g_.len g_.cap, .slice target.a target.len target.cap]++cmp.cap) bH fun Ai bW=>∃n10:Int,Ai= .returned (.int .i64 n10)∧aB (decide (n10<0)) (fQ (aC ((aC (Int.fdiv (IntKind.wrap .u64 (aC (bk+fL))) (2^(min
 (Int.toNat 1) 64))))+1)) fL bW∧h5 (aC ((aC (Int.fdiv (IntKind.wrap .u64 (aC (bk+fL))) (2^(min (Int.toNat 1) 64))))+1)) fL bW<h5 bk fL bH) (fQ bk (aC (Int.fdiv (IntKind.wrap .u64 (aC (bk+fL))) (2^(min (Int.toNat 1) 64)))) bW
 ∧h5 bk (aC (Int.fdiv (IntKind.wrap .u64 (aC (bk+fL))) (2^(min (Int.toNat 1) 64)))) bW<h5 bk fL bH)) (cY (fun Rh:Bool→World→Prop=>aB (decide (bk<(x.len:Int))) (∃i_:Addr,x.a=some i_∧a7 bk x.len∧aq bH (i_.add
 (Int.toNat bk*1)) fun ft=>tY Tryz.prog cmp.f∧Calls Tryz.prog cmp.f (cmp.pre++ #[.slice ft.a ft.len ft.cap, .slice target.a target.len target.cap]++cmp.cap) bH fun Xy c0=>∃n16:Int,Xy= .returned (.int .i64 n16)∧
 Rh (n16==0) c0) (Rh false bH)) (fun (u3:Bool) e6=>Q (.tuple #[.int .i64 bk, .bool u3]) e6))
def A.CK:bG:=(.s .r (.s .r (.s .r (.s (.dn (.loop [(9,(.int .i64)),(10,(.int .i64))] [0,1,2,8] (.s (.s .r (.c .l .l)) (.dn (.s .r (.s .r (.c .r .r))))))) (.s (.f_ [.run, .run,
 .run, .run, .run, .split 8]) .l)))))
theorem W.akf (x:aa) (target:aa) (cmp:r6) (w:World) (Q:Value→World→Prop) (h:W.CK x target cmp w Q):aQ Tryz.prog F.CK #[.slice x.a x.len x.cap, .slice target.a target.len target.cap, .func (.func cmp.f) cmp.pre cmp.cap] w Q:=okF A.CK Tryz.func146 (by kernel_rfl) (by kernel_rfl) h
def W.CC (s:aa) (f:r6) (w:World) (Q:Value→World→Prop):Prop:=aT F.E1 #[.slice s.a s.len s.cap, .func (.func f.f) f.pre f.cap] w fun bk ag=>Q (.bool
 (decide (bk≥0))) ag
def A.CC:bG:=(.s .r (.s .r .l))
theorem W.ajf (s:aa) (f:r6) (w:World) (Q:Value→World→Prop) (h:W.CC s f w Q):aQ Tryz.prog F.CC #[.slice s.a s.len s.cap, .func (.func f.f) f.pre f.cap] w Q:=okF A.CC Tryz.func148 (by kernel_rfl) (by kernel_rfl) h
def W.CD (s:aa) (f:r6) (w:World) (Q:Value→World→Prop):Prop:=aT F.E2 #[.slice s.a s.len s.cap, .func (.func f.f) f.pre f.cap] w fun bk ag=>Q (.bool (decide (bk≥0))) ag
def A.CD:bG:=(.s .r (.s .r .l))
theorem W.ajj (s:aa) (f:r6) (w:World) (Q:Value→World→Prop) (h:W.CD s f w Q):aQ Tryz.prog F.CD #[.slice s.a s.len s.cap, .func (.func f.f) f.pre f.cap] w Q:=okF A.CD Tryz.func150 (by kernel_rfl) (by kernel_rfl) h
def W.vx (s:aa) (w:World) (Q:Value→World→Prop):Prop:=aB (Option.isNone s.a) (Q (.slice none 0 0) w) (ay (w.alloc (.cells #[] ah.int)) fun ag=>∃s2:aa,∃aS:World,Sem.run Tryz.prog (Builtin.append_
 #[ah.eg,ah.eg] ah.eg #[.slice (some (ai w)) 0 0, .slice s.a s.len s.cap]) ag= .ok (.slice s2.a s2.len s2.cap) aS∧Q (.slice s2.a s2.len s2.cap) aS)
def A.vx:bG:=i_
theorem W.akc (s:aa) (w:World) (Q:Value→World→Prop) (h:W.vx s w Q):aQ Tryz.prog F.vx #[.slice s.a s.len s.cap] w Q:=okF A.vx Tryz.func151 (by kernel_rfl) (by kernel_rfl) h
def W.yx (a:aa) (b:aa) (w:World) (Q:Value→World→Prop):Prop:=∃s1:ByteArray,∃aw:World,Sem.run Tryz.prog (convert ah.cm ah.string (.slice a.a a.len a.cap)) w= .ok (.string s1) aw∧∃bY:ByteArray,∃bp
 :World,Sem.run Tryz.prog (convert ah.cm ah.string (.slice b.a b.len b.cap)) aw= .ok (.string bY) bp∧Q (.bool (ByteArray.toList s1==ByteArray.toList bY)) bp
def A.yx:bG:=(.s .r (.s .r .l))
theorem W.ajb (a:aa) (b:aa) (w:World) (Q:Value→World→Prop) (h:W.yx a b w Q):aQ Tryz.prog F.yx #[.slice a.a a.len a.cap, .slice b.a b.len b.cap] w Q:=okF A.yx Tryz.func167 (by kernel_rfl) (by kernel_rfl) h
end
section
set_option maxRecDepth 100000
def W.E1 (s:aa) (f:r6) (w:World) (Q:Value→World→Prop):Prop:=∃ (fQ:Int→World→Prop) (h5:Int→World→Nat),fQ 0 w∧∀ (bk:Int) (bp:World),fQ bk bp→aB (decide (bk<(s.len:Int)))
 (∃a5:Addr,s.a=some a5∧a7 bk s.len∧aq bp (a5.add (Int.toNat bk*1)) fun cM=>tY Tryz.prog f.f∧Calls Tryz.prog f.f (f.pre++ #[.slice cM.a cM.len cM.cap]++f.cap) bp fun vl bh=>∃iY:Bool,vl= .returned (.bool iY)∧
 aB iY (Q (.int .i64 bk) bh) (fQ (aC (bk+1)) bh∧h5 (aC (bk+1)) bh<h5 bk bp)) (Q (.int .i64 (-1)) bp)
def A.E1:bG:=kq
theorem W.ajg (s:aa) (f:r6) (w:World) (Q:Value→World→Prop) (h:W.E1 s f w Q):aQ Tryz.prog F.E1 #[.slice s.a s.len s.cap, .func (.func f.f) f.pre f.cap] w Q:=okF A.E1 Tryz.func186 (by kernel_rfl) (by kernel_rfl) h
def W.E2 (s:aa) (f:r6) (w:World) (Q:Value→World→Prop):Prop:=∃ (fQ:Int→World→Prop) (h5:Int→World→Nat),fQ 0 w∧∀ (bk:Int) (bp:World),fQ bk bp→aB (decide (bk<(s.len:Int))) (∃a5:
 Addr,s.a=some a5∧a7 bk s.len∧bI bp (a5.add (Int.toNat bk*1)) fun n6=>tY Tryz.prog f.f∧Calls Tryz.prog f.f (f.pre++ #[.int .i64 n6]++f.cap) bp fun vl bh=>∃iY:Bool,vl= .returned (.bool iY)∧aB iY (Q (.int .i64
 bk) bh) (fQ (aC (bk+1)) bh∧h5 (aC (bk+1)) bh<h5 bk bp)) (Q (.int .i64 (-1)) bp)
def A.E2:bG:=kq
theorem W.ajk (s:aa) (f:r6) (w:World) (Q:Value→World→Prop) (h:W.E2 s f w Q):aQ Tryz.prog F.E2 #[.slice s.a s.len s.cap, .func (.func f.f) f.pre f.cap] w Q:=okF A.E2 Tryz.func187 (by kernel_rfl) (by kernel_rfl) h
def W.A0 (s:aa) (w:World) (Q:Value→World→Prop):Prop:=aB (Option.isNone s.a) (Q (.slice none 0 0) w) (ay (w.alloc (.cells #[] ah.cm)) fun ag=>∃s2:aa,∃aS:World,Sem.run Tryz.prog
 (Builtin.append_ #[ah.cL,ah.cL] ah.cL #[.slice (some (ai w)) 0 0, .slice s.a s.len s.cap]) ag= .ok (.slice s2.a s2.len s2.cap) aS∧Q (.slice s2.a s2.len s2.cap) aS)
def A.A0:bG:=i_
theorem W.anY (s:aa) (w:World) (Q:Value→World→Prop) (h:W.A0 s w Q):aQ Tryz.prog F.A0 #[.slice s.a s.len s.cap] w Q:=okF A.A0 Tryz.func193 (by kernel_rfl) (by kernel_rfl) h
end
section
set_option maxRecDepth 100000
def W.yZ (n:Int) (w:World) (Q:Value→World→Prop):Prop:=aB ((decide (n<16))||(decide (n>1600))) (Q (.tuple #[.pointer none, .int .i64 1]) w) (((0:Int)≤n∧n≤n∧n≤yp∧((256:Nat):Int)*n≤
 140737488355328)∧ay (w.alloc (.cells (pM Tryz.prog ah.o0 (Int.toNat n)) ah.o0)) fun ag=>∃sG:Option Nat,∃aS:World,Sem.run Tryz.prog (Instr.makeMap ah.AH none) ag= .ok (.map sG) aS∧∃gl:
 Array Value,Sem.run Tryz.prog (Instr.build ah.OK #[(1, .slice (some (ai w)) (Int.toNat n) (Int.toNat n)),(2, .map sG)]) aS= .ok (.agg gl) aS∧ay (aS.alloc (.cells gl ah.OK)) fun bH=>∃hL:Addr,(some (ai aS):Option
 Addr)=some hL∧bC F.C3 #[.pointer (some hL)] bH fun bh=>Q (.tuple #[.pointer (some (ai aS)), .int .i64 0]) bh)
def A.yZ:bG:=(.s .r (.s ja a4))
theorem W.als (n:Int) (w:World) (Q:Value→World→Prop) (h:W.yZ n w Q):aQ Tryz.prog F.yZ #[.int .i64 n] w Q:=okF A.yZ Tryz.func11 (by kernel_rfl) (by kernel_rfl) h
def W.C1 (d:Option Addr) (i:Int) (b:aa) (w:World) (Q:Value→World→Prop):Prop:=ba F.AK #[.pointer d, .int .i64 i] w fun eP ag=>aB ((!eP)||((b.len:Int) !=256)) (Q (.int .i64 1) ag) (∃a4:Addr,
 d=some a4∧ba F.AL #[.pointer (some a4), .int .i64 2] ag fun k6 bH=>aB k6 (Q (.int .i64 3) bH) (ay (bH.drew) fun bW=>∃sU:Nat→Prop,∃hE:Addr,d=some hE∧¬sU (hE.add 5).block∧∃MH:Option Nat,bW.cell?
 (hE.add 5)=some (.map MH)∧∃i_:Addr,d=some i_∧¬sU (i_.add 5).block∧∃Xz:Option Nat,bW.cell? (i_.add 5)=some (.map Xz)∧256≤b.len∧∃k0:Addr,b.a=some k0∧¬sU k0.block∧∃XA:List Value,eN bW
 k0 0 256=some XA∧(∃dH:aa,∃ep:World,Sem.run Tryz.prog (Instr.lookup ah.AH (.map Xz) (.int .i64 i) false) bW= .ok (.slice dH.a dH.len dH.cap) ep∧ao sU bW ep∧∃g5:aa,∃dp:World,Sem.run
 Tryz.prog (Instr.buildSlice ah.um 1 #[(0, .agg XA.toArray)]) ep= .ok (.slice g5.a g5.len g5.cap) dp∧ao sU ep dp∧Tb dH g5 dp sU MH i d Q)∧(∃dh:aa,∃fC:World,Sem.run Tryz.prog (Instr.buildSlice
 ah.um 1 #[(0, .agg XA.toArray)]) bW= .ok (.slice dh.a dh.len dh.cap) fC∧ao sU bW fC∧∃ib:aa,∃gn:World,Sem.run Tryz.prog (Instr.lookup ah.AH (.map Xz) (.int .i64 i) false) fC= .ok (.slice
 ib.a ib.len ib.cap) gn∧ao sU fC gn∧Tb ib dh gn sU MH i d Q)))
def A.C1:bG:=(.s .r (.s (.dn (.s (.f_ [.run, .run, .run, .run, .run, .pure 3]) (.c (.s .r .l) bc))) (.s (.er 16 true ⟨[0,1,2,4,0,0,32,64,128,0,768,0,2048,4096,8192,17408,65535],[0,1,2,4,0,0,32,
 64,128,0,768,0,2048,4096,8192,17408,32792]⟩ [4194304,8388608,16777216,33554432,67108864,134217728,268435456,536870912,1073741824,2147483648,4294967296,8589934592,17179869184,34359738368,68719476736,137438953472,0]
 [1,4194304,8388608,16777216,2,1,134217728,268435456,536870912,2,3221225472,4,8589934592,17179869184,34359738368,73014444032,137539616768] (.take 0 (.take 1 (.take 2 (.take 3 (.take 4 (.take 5 (.take 6 (.take 7 (.take 8
 (.take 9 (.take 11 (.take 12 (.take 13 (.two 10 (.cK 14 (.cK 15 (.tail [.run]))) 14 (.cK 10 (.cK 15 (.tail [.run])))))))))))))))))) (.s .r (.s .r .l)))))
theorem W.alk (d:Option Addr) (i:Int) (b:aa) (w:World) (Q:Value→World→Prop) (h:W.C1 d i b w Q):aQ Tryz.prog F.C1 #[.pointer d, .int .i64 i, .slice b.a b.len b.cap] w Q:=okF A.C1 Tryz.func14 (by kernel_rfl) (by kernel_rfl) h
def W.xw (d:Option Addr) (j5:Int) (after:Int) (w:World) (Q:Value→World→Prop):Prop:=aB ((((Option.isNone d)||(decide (j5<1)))||(decide (j5>3)))||(decide (after<0))) (Q (.int .i64 1) w) (∃bc:
 Addr,d=some bc∧((0:Int)≤j5∧j5<((4:Nat):Int))∧st w (Addr.add bc (Int.toNat j5*1)) (.int .i64 after) fun aw=>Q (.int .i64 0) aw)
def A.xw:bG:=(.s .r (.s (.s (.f_ [.run, .run, .run, .pure 2, .run, .run, .run, .pure 2, .run, .run, .run, .pure 2]) (.c (.s .r .l) .l)) (.s .r (.s .r .l))))
theorem W.alt (d:Option Addr) (j5:Int) (after:Int) (w:World) (Q:Value→World→Prop) (h:W.xw d j5 after w Q):aQ Tryz.prog F.xw #[.pointer d, .int .i64 j5, .int .i64 after] w Q:=okF A.xw Tryz.func19 (by kernel_rfl) (by kernel_rfl) h
def W.BH (t:Option Addr) (key:aa) (w:World) (Q:Value→World→Prop):Prop:=cY (fun dI:Bool→World→Prop=>aB (Option.isNone t) (dI true w) (ba F.tz #[.slice key.a key.len key.cap] w fun fa aw=>dI (!fa)
 aw)) (fun (h7:Bool) a8=>aB h7 (aB (Option.isNone t) (Q (.tuple #[.slice none 0 0, .bool false, .int .i64 1]) a8) (Q (.tuple #[.slice none 0 0, .bool false, .int .i64 0]) a8)) (gl F.y8 #[.pointer t, .slice key.a key.len
 key.cap] a8 fun dc n10 bh=>aB ((n10 !=0)||((dc.len:Int)==0)) (Q (.tuple #[.slice none 0 0, .bool false, .int .i64 n10]) bh) (∃ja:Addr,dc.a=some ja∧((0:Int)≤(aC ((dc.len:Int)-1))∧(aC ((dc.len:Int)-1))<
 (dc.len:Int))∧bS bh ((ja.add (Int.toNat (aC ((dc.len:Int)-1))*6)).add 1) fun En=>aq bh (((ja.add (Int.toNat (aC ((dc.len:Int)-1))*6)).add 1).add 1) fun ft=>aq bh (((ja.add (Int.toNat (aC ((dc.len:Int)-1))*6)).add
 1).add 2) fun c_=>aq bh (((ja.add (Int.toNat (aC ((dc.len:Int)-1))*6)).add 1).add 3) fun ff=>ay (bh.alloc dx) fun cF=>cZ cF (ai bh) [.bool En, .slice ft.a ft.len ft.cap, .slice c_.a c_.len c_.cap, .slice ff.a
 ff.len ff.cap]∧(4:Nat)=4∧ay (setCells cF (ai bh) 0 [.bool En, .slice ft.a ft.len ft.cap, .slice c_.a c_.len c_.cap, .slice ff.a ff.len ff.cap]) fun ep=>bS ep (ai bh) fun tN=>aq ep (Addr.add (ai bh) 1) fun eI=>
 aq ep (Addr.add (ai bh) 2) fun e7=>aq ep (Addr.add (ai bh) 3) fun e4=>dN F.yF #[.agg #[.bool tN, .slice eI.a eI.len eI.cap, .slice e7.a e7.len e7.cap, .slice e4.a e4.len e4.cap], .slice key.a key.len key.cap] ep
 fun n24 uO c5=>aB (!uO) (Q (.tuple #[.slice none 0 0, .bool false, .int .i64 0]) c5) (aq c5 (Addr.add (ai bh) 2) fun gm=>∃a27:Addr,gm.a=some a27∧a7 n24 gm.len∧aq c5 (a27.add (Int.toNat n24*1)) fun eV=>Q (.tuple
 #[.slice eV.a eV.len eV.cap, .bool true, .int .i64 0]) c5))))
def A.BH:bG:=(.s .r (.s (.s (.f_ [.run, .run, .run, .split 3]) (.c (.s bc (.s .r .l)) .l)) (.s .r (.s hE (.s .r i_)))))
theorem W.aqi (t:Option Addr) (key:aa) (w:World) (Q:Value→World→Prop) (h:W.BH t key w Q):aQ Tryz.prog F.BH #[.pointer t, .slice key.a key.len key.cap] w Q:=okF A.BH Tryz.func21 (by kernel_rfl) (by kernel_rfl) h
def W.BJ (t:Option Addr) (key:aa) (w:World) (Q:Value→World→Prop):Prop:=cY (fun dI:Bool→World→Prop=>aB (Option.isNone t) (dI true w) (ba F.tz #[.slice key.a key.len key.cap] w fun fa aw=>dI
 (!fa) aw)) (fun (h7:Bool) a8=>aB h7 (Q (.tuple #[.bool false, .int .i64 1]) a8) (gl F.y8 #[.pointer t, .slice key.a key.len key.cap] a8 fun dc n10 bh=>aB ((n10 !=0)||((dc.len:Int)==0)) (Q (.tuple #[.bool false, .int
 .i64 n10]) bh) (∃ja:Addr,dc.a=some ja∧((0:Int)≤(aC ((dc.len:Int)-1))∧(aC ((dc.len:Int)-1))<(dc.len:Int))∧bS bh ((ja.add (Int.toNat (aC ((dc.len:Int)-1))*6)).add 1) fun En=>aq bh (((ja.add (Int.toNat (aC
 ((dc.len:Int)-1))*6)).add 1).add 1) fun ft=>aq bh (((ja.add (Int.toNat (aC ((dc.len:Int)-1))*6)).add 1).add 2) fun c_=>aq bh (((ja.add (Int.toNat (aC ((dc.len:Int)-1))*6)).add 1).add 3) fun ff=>fE F.yM #[.agg
 #[.bool En, .slice ft.a ft.len ft.cap, .slice c_.a c_.len c_.cap, .slice ff.a ff.len ff.cap], .slice key.a key.len key.cap] bh fun tN eI e7 e4 tF cF=>ay (cF.alloc dx) fun kJ=>cZ kJ (ai cF) [.bool tN, .slice
 eI.a eI.len eI.cap, .slice e7.a e7.len e7.cap, .slice e4.a e4.len e4.cap]∧(4:Nat)=4∧ay (setCells kJ (ai cF) 0 [.bool tN, .slice eI.a eI.len eI.cap, .slice e7.a e7.len e7.cap, .slice e4.a e4.len e4.cap]) fun cW
 =>aB (!tF) (Q (.tuple #[.bool false, .int .i64 0]) cW) (bS cW (ai cF) fun uO=>aq cW (Addr.add (ai cF) 1) fun gm=>aq cW (Addr.add (ai cF) 2) fun dh=>aq cW (Addr.add (ai cF) 3) fun eV=>aT F.xV #[.pointer t,
 .slice dc.a dc.len dc.cap, .agg #[.bool uO, .slice gm.a gm.len gm.cap, .slice dh.a dh.len dh.cap, .slice eV.a eV.len eV.cap]] cW fun n31 fy=>Q (.tuple #[.bool (n31==0), .int .i64 n31]) fy))))
def A.BJ:bG:=(.s .r (.s a9 (.s .r (.s hE (.s .r k0)))))
theorem W.aqq (t:Option Addr) (key:aa) (w:World) (Q:Value→World→Prop) (h:W.BJ t key w Q):aQ Tryz.prog F.BJ #[.pointer t, .slice key.a key.len key.cap] w Q:=okF A.BJ Tryz.func22 (by kernel_rfl) (by kernel_rfl) h
def W.BM (t:Option Addr) (ix:aa) (to:aa) (most:Int) (w:World) (Q:Value→World→Prop):Prop:=ay (w.alloc (.cells #[.slice ix.a ix.len ix.cap] ah.cm)) fun ag=>ay (ag.alloc (.cells #[.slice
 to.a to.len to.cap] ah.cm)) fun aw=>ay (aw.alloc (.cells #[.int .i64 most] ah.int)) fun aS=>aB (Option.isNone t) (Q (.tuple #[.slice none 0 0, .int .i64 1]) aS) (∃a4:Addr,t=some a4∧bI aS (a4.add 4) fun n5=>cY (fun F8:
 Bool→World→Prop=>aB (n5==0) (F8 true aS) (bI aS (ai aw) fun n7=>F8 (decide (n7<1)) aS)) (fun (n3:Bool) b6=>aB n3 (Q (.tuple #[.slice none 0 0, .int .i64 0]) b6) (ay (b6.alloc (.cells #[.slice none 0 0] ah.e3)) fun
 bK=>ay (bK.drew) fun b9=>∃Ri:Nat→Prop,∃kq:Addr,t=some kq∧¬Ri (kq.add 3).block∧bI b9 (kq.add 3) fun n14=>∃mY:Addr,t=some mY∧¬Ri (mY.add 4).block∧bI b9 (mY.add 4) fun n16=>¬Ri ((ai w):
 Addr).block∧aq b9 (ai w) fun gy=>ao Ri b9 b9∧DZ F.BL #[.pointer t, .int .i64 n14, .int .i64 n16, .slice gy.a gy.len gy.cap, .func (.func F.x0) #[] #[.pointer (some (ai ag)), .pointer (some (ai w)),
 .pointer (some (ai b6)), .pointer (some (ai aw))]] b9 fun rf n21 e6=>aB (n21 !=0) (Q (.tuple #[.slice none 0 0, .int .i64 n21]) e6) (aq e6 (ai b6) fun fW=>Q (.tuple #[.slice fW.a fW.len fW.cap, .int .i64 0]) e6))))
def A.BM:bG:=(.s .r (.s bc (.s (.s (.f_ [.run, .run, .run, .run, .run, .run, .split 2]) (.c (.s .r .l) .l)) (.s .r (.s (.er 16 true ⟨[0,0,2,4,8,0,32,64,128,0,0,1809,2048,4096,4096,16383,65535],[0,0,2,4,
 8,0,32,64,128,0,0,1809,2048,4096,4096,8192,16384]⟩ [33554432,67108864,134217728,268435456,536870912,1073741824,2147483648,4294967296,8589934592,17179869184,34359738368,68719476736,16777216,137438953472,
 274877906944,2048,4096] [1,1,67108864,134217728,268435456,1,1073741824,2147483648,4294967296,32,1248,60699967488,68719476736,16777216,16777216,137438953472,274877906944] (.take 0 (.take 1 (.take 2 (.take 3 (.take 4 (.take
 5 (.take 6 (.take 7 (.take 8 (.take 9 (.cK 10 (.out 11 false (.take 12 (.take 13 (.take 14 (.take 15 (.tail [.run])))))))))))))))))) (.s bc (.s .r .l)))))))
theorem W.aq2 (t:Option Addr) (ix:aa) (to:aa) (most:Int) (w:World) (Q:Value→World→Prop) (h:W.BM t ix to most w Q):aQ Tryz.prog F.BM #[.pointer t, .slice ix.a ix.len ix.cap, .slice to.a to.len to.cap, .int .i64 most] w Q:=okF A.BM Tryz.func23 (by kernel_rfl) (by kernel_rfl) h
def W.zF (c:Option Addr) (s:Option Addr) (gen:Int) (root:Int) (bw:Int) (w:World) (Q:Value→World→Prop):Prop:=cY (fun dI:Bool→World→Prop=>aB (((((Option.isNone c)||(Option.isNone s))||(decide
 (bw<0)))||(decide (bw>12)))||(decide (root<0))) (dI true w) (∃cS:Addr,c=some cS∧∃iK:Option Addr,w.cell? cS=some (.pointer iK)∧aT F.AJ #[.pointer iK] w fun n6 bp=>dI (decide (root≥n6)) bp))
 (fun (k6:Bool) bW=>aB (k6||(!((root==0)==(bw==0)))) (Q (.tuple #[.pointer none, .int .i64 1]) bW) (ay (bW.alloc (.cells #[.pointer c, .pointer s, .int .u64 gen, .int .i64 root, .int .i64 bw] ah.HS)) fun b6=>Q
 (.tuple #[.pointer (some (ai bW)), .int .i64 0]) b6))
def A.zF:bG:=(.s .r (.s (.s (.f_ [.run, .run, .run, .pure 2, .run, .run, .run, .pure 2, .run, .run, .run, .pure 2, .run, .run, .run, .pure 2, .run, .run, .run, .split 7, .run, .run, .run, .run, .run, .run, .run, .run, .pure 5])
 (.c (.s .r .l) .l)) (.s .r .l)))
theorem W.ar_ (c:Option Addr) (s:Option Addr) (gen:Int) (root:Int) (bw:Int) (w:World) (Q:Value→World→Prop) (h:W.zF c s gen root bw w Q):aQ Tryz.prog F.zF #[.pointer c, .pointer s, .int .u64 gen, .int .i64 root, .int .i64 bw] w Q:=okF A.zF Tryz.func25 (by kernel_rfl) (by kernel_rfl) h
def W.zu (t:Option Addr) (key:aa) (val:aa) (w:World) (Q:Value→World→Prop):Prop:=cY (fun dI:Bool→World→Prop=>aB (Option.isNone t) (dI true w) (ba F.tz #[.slice key.a key.len key.cap] w fun fa aw
 =>dI (!fa) aw)) (fun (h7:Bool) a8=>aB (h7||(decide ((val.len:Int)>24))) (Q (.int .i64 1) a8) (ay (a8.drew) fun bh=>∃XB:Nat→Prop,∃a9:Addr,t=some a9∧¬XB (a9.add 1).block∧∃Jg:Option Addr,bh.cell? (a9.add 1)=
 some (.pointer Jg)∧∃ja:Addr,t=some ja∧¬XB (ja.add 4).block∧bI bh (ja.add 4) fun n12=>aT F.y5 #[.pointer Jg] bh fun n15 b2=>ao XB bh b2∧aB (decide (n15<(aC ((aC (2*n12))+3)))) (Q (.int .i64 2)
 b2) (gl F.y8 #[.pointer t, .slice key.a key.len key.cap] b2 fun g5 n19 cF=>aB (n19 !=0) (Q (.int .i64 n19) cF) (ay (cF.alloc dx) fun cB=>cZ cB (ai cF) [.bool true, .slice none 0 0, .slice none 0 0, .slice none
 0 0]∧(4:Nat)=4∧ay (setCells cB (ai cF) 0 [.bool true, .slice none 0 0, .slice none 0 0, .slice none 0 0]) fun dO=>cY (fun Rb:World→Prop=>aB (decide ((g5.len:Int)>0)) (∃a23:Addr,g5.a=some a23∧((0:Int)≤(aC
 ((g5.len:Int)-1))∧(aC ((g5.len:Int)-1))<(g5.len:Int))∧bS dO ((a23.add (Int.toNat (aC ((g5.len:Int)-1))*6)).add 1) fun tM=>aq dO (((a23.add (Int.toNat (aC ((g5.len:Int)-1))*6)).add 1).add 1) fun kr=>aq dO
 (((a23.add (Int.toNat (aC ((g5.len:Int)-1))*6)).add 1).add 2) fun gm=>aq dO (((a23.add (Int.toNat (aC ((g5.len:Int)-1))*6)).add 1).add 3) fun dh=>Lb dO cF tM kr gm dh Rb) (Rb dO)) (fun fy=>bS fy (ai cF) fun
 XC=>aq fy (Addr.add (ai cF) 1) fun ik=>aq fy (Addr.add (ai cF) 2) fun de=>aq fy (Addr.add (ai cF) 3) fun k1=>fE F.yJ #[.agg #[.bool XC, .slice ik.a ik.len ik.cap, .slice de.a de.len de.cap, .slice k1.a
 k1.len k1.cap], .slice key.a key.len key.cap, .slice val.a val.len val.cap] fy fun Jh kt ej ga XD eR=>ay (eR.alloc dx) fun dE=>cZ dE (ai eR) [.bool Jh, .slice kt.a kt.len kt.cap, .slice ej.a ej.len ej.cap,
 .slice ga.a ga.len ga.cap]∧(4:Nat)=4∧ay (setCells dE (ai eR) 0 [.bool Jh, .slice kt.a kt.len kt.cap, .slice ej.a ej.len ej.cap, .slice ga.a ga.len ga.cap]) fun gK=>aB (!XD) (Q (.int .i64 4) gK) (bS gK (ai eR)
 fun uZ=>aq gK (Addr.add (ai eR) 1) fun iX=>aq gK (Addr.add (ai eR) 2) fun iJ=>aq gK (Addr.add (ai eR) 3) fun nO=>aT F.xV #[.pointer t, .slice g5.a g5.len g5.cap, .agg #[.bool uZ, .slice iX.a iX.len
 iX.cap, .slice iJ.a iJ.len iJ.cap, .slice nO.a nO.len nO.cap]] gK fun aux dy=>Q (.int .i64 aux) dy))))))
def A.zu:bG:=(.s .r (.s (.dn (.s (.f_ [.run, .run, .run, .split 3, .run, .run, .run, .run, .pure 3]) (.c (.s .r .l) (.s (.er 11 true ⟨[0,1,2,4,8,0,32,64,128,256,512,1040,2064],[0,1,2,4,8,0,32,64,128,
 256,512,1040,2048]⟩ [67108864,134217728,268435456,536870912,1073741824,2147483648,4294967296,8589934592,17179869184,34359738368,68719476736,137438953472,33554432] [1,67108864,134217728,268435456,536870912,1,2147483648,
 4294967296,8589934592,17179869184,34359738368,69793218560,137438953472] (.take 0 (.take 1 (.take 2 (.take 3 (.take 5 (.take 6 (.take 7 (.take 8 (.take 9 (.take 10 (.cK 4 (.tail [.run, .run]))))))))))))) (.c (.s .r .l) .l))))) (.s .r
 (.s bc (.s .r (.s (.kZ [] [0,1,2,7,9] (.s .r (.c .r .l))) i_))))))
theorem W.ap7 (t:Option Addr) (key:aa) (val:aa) (w:World) (Q:Value→World→Prop) (h:W.zu t key val w Q):aQ Tryz.prog F.zu #[.pointer t, .slice key.a key.len key.cap, .slice val.a val.len val.cap] w Q:=okF A.zu Tryz.func26 (by kernel_rfl) (by kernel_rfl) h
def W.y6 (s:Option Addr) (w:World) (Q:Value→World→Prop):Prop:=aB (Option.isNone s) (Q (.slice none 0 0) w) (∃bc:Addr,s=some bc∧bI w bc fun db=>∃ (j8:aa→Int→World→Prop) (mZ:aa→Int→World→
 Nat),j8 ⟨none,0,0⟩ 0 w∧∀ (bJ:aa) (n6:Int) (bh:World),j8 bJ n6 bh→aB (decide (n6<db)) (cY (fun zp:aa→World→Prop=>∃a9:Addr,s=some a9∧aq bh (a9.add 1) fun fT=>ba F.th #[.slice fT.a fT.len
 fT.cap, .int .i64 n6] bh fun tE b9=>aB tE (ay (b9.alloc (.cells #[.int .i64 n6] ah.int)) fun c0=>∃ff:aa,∃cF:World,Sem.run Tryz.prog (Builtin.append_ #[ah.eg,ah.eg] ah.eg #[.slice bJ.a bJ.len bJ.cap, .slice
 (some (ai b9)) 1 1]) c0= .ok (.slice ff.a ff.len ff.cap) cF∧zp ff cF) (zp bJ b9)) (fun (gy:aa) e6=>j8 gy (aC (n6+1)) e6∧mZ gy (aC (n6+1)) e6<mZ bJ n6 bh)) (Q (.slice bJ.a bJ.len bJ.cap) bh))
def A.y6:bG:=(.s .r (.s bc (.s .r (.s (.s .r (.dn (.loop [(3, .slice),(11,(.int .i64))] [0,10] (.s .r (.s (.c .l .l) (.s (.kZ [(3, .slice)] [0,10,11] (.dn (.s .r (.s .r (.c .r .l))))) .r)))))) (.s .r .l)))))
theorem W.amW (s:Option Addr) (w:World) (Q:Value→World→Prop) (h:W.y6 s w Q):aQ Tryz.prog F.y6 #[.pointer s] w Q:=okF A.y6 Tryz.func33 (by kernel_rfl) (by kernel_rfl) h
def W.CY (d:Option Addr) (i:Int) (w:World) (Q:Value→World→Prop):Prop:=ba F.AK #[.pointer d, .int .i64 i] w fun eP ag=>aB (!eP) (Q (.tuple #[.slice none 0 0, .int .i64 1]) ag) (∃a4:Addr,d=some
 a4∧ba F.AL #[.pointer (some a4), .int .i64 1] ag fun k6 bH=>aB k6 (Q (.tuple #[.slice none 0 0, .int .i64 3]) bH) (Z8 F.CX #[.pointer d, .int .i64 i] bH fun jt bW=>ay (bW.alloc pN) fun b9=>cZ b9 (ai
 bW) (Array.toList jt)∧Array.size jt=256∧ay (setCells b9 (ai bW) 0 (Array.toList jt)) fun cJ=>Q (.tuple #[.slice (bg (some (ai bW)) 1 0 256) (256-0) (256-0), .int .i64 0]) cJ))
def A.CY:bG:=mY
theorem W.alf (d:Option Addr) (i:Int) (w:World) (Q:Value→World→Prop) (h:W.CY d i w Q):aQ Tryz.prog F.CY #[.pointer d, .int .i64 i] w Q:=okF A.CY Tryz.func34 (by kernel_rfl) (by kernel_rfl) h
def W.zB (t:Option Addr) (w:World) (Q:Value→World→Prop):Prop:=aB (Option.isNone t) (Q (.tuple #[.int .i64 0, .int .i64 0]) w) (ay (w.drew) fun ag=>∃cS:Addr,t=some cS∧¬False∧bI ag (cS.add 3) fun bk=>∃
 a4:Addr,t=some a4∧¬False∧bI ag (a4.add 4) fun n5=>Q (.tuple #[.int .i64 bk, .int .i64 n5]) ag)
def A.zB:bG:=(.s .r (.s bc (.s (.er 9 false ⟨[0,1,2,4,0,16,32,64,15,511],[0,1,2,4,0,16,32,64,8,128]⟩ [64,128,256,512,1024,2048,4096,8192,4,8] [1,64,128,256,1,1024,2048,4096,512,8192]
 (.take 0 (.take 1 (.take 2 (.take 3 (.take 4 (.take 5 (.take 6 (.take 7 (.take 8 (.tail [.run]))))))))))) .l)))
theorem W.aq6 (t:Option Addr) (w:World) (Q:Value→World→Prop) (h:W.zB t w Q):aQ Tryz.prog F.zB #[.pointer t] w Q:=okF A.zB Tryz.func36 (by kernel_rfl) (by kernel_rfl) h
def W.C3 (f:Option Addr) (w:World) (Q:Value→World→Prop):Prop:=∃ (fQ:Int→World→Prop) (h5:Int→World→Nat),fQ 0 w∧∀ (bk:Int) (bp:World),fQ bk bp→aB (decide (bk<4)) (∃a5:Addr,f=some a5∧
 ((0:Int)≤bk∧bk<((4:Nat):Int))∧st bp (Addr.add a5 (Int.toNat bk*1)) (.int .i64 (-1)) fun a8=>fQ (aC (bk+1)) a8∧h5 (aC (bk+1)) a8<h5 bk bp) (Q (.tuple #[]) bp)
def A.C3:bG:=(.s .r (.dn (.loop [(3,(.int .i64))] [0] cS)))
theorem W.alr (f:Option Addr) (w:World) (Q:Value→World→Prop) (h:W.C3 f w Q):aQ Tryz.prog F.C3 #[.pointer f] w Q:=okF A.C3 Tryz.func39 (by kernel_rfl) (by kernel_rfl) h
def W.AK (d:Option Addr) (i:Int) (w:World) (Q:Value→World→Prop):Prop:=cY (fun dI:Bool→World→Prop=>aB ((!(Option.isNone d))&&(decide (i≥0))) (∃cS:Addr,d=some cS∧aq w (cS.add 4) fun bY=>dI
 (decide (i<(bY.len:Int))) w) (dI false w)) (fun (fa:Bool) bH=>Q (.bool fa) bH)
def A.AK:bG:=hL
theorem W.ak8 (d:Option Addr) (i:Int) (w:World) (Q:Value→World→Prop) (h:W.AK d i w Q):aQ Tryz.prog F.AK #[.pointer d, .int .i64 i] w Q:=okF A.AK Tryz.func43 (by kernel_rfl) (by kernel_rfl) h
def W.AL (f:Option Addr) (j5:Int) (w:World) (Q:Value→World→Prop):Prop:=∃bc:Addr,f=some bc∧((0:Int)≤j5∧j5<((4:Nat):Int))∧bI w (Addr.add bc (Int.toNat j5*1)) fun db=>aB (db==
 (-1)) (Q (.bool false) w) (aB (db==0) (∃a3:Addr,f=some a3∧((0:Int)≤j5∧j5<((4:Nat):Int))∧st w (Addr.add a3 (Int.toNat j5*1)) (.int .i64 (-1)) fun bp=>Q (.bool true) bp) (ay (w.drew) fun bH=>∃hL:Addr,f
 =some hL∧((0:Int)≤j5∧j5<((4:Nat):Int))∧¬False∧bI bH (Addr.add hL (Int.toNat j5*1)) fun n7=>∃im:Addr,f=some im∧((0:Int)≤j5∧j5<((4:Nat):Int))∧st bH (Addr.add im (Int.toNat j5*1))
 (.int .i64 (aC (n7-1))) fun b6=>Q (.bool false) b6))
def A.AL:bG:=(.s .r (.s (.s .r (.dn (.s .r (.c (.s .r .l) (.s .r kl))))) (.s (.er 7 false ⟨[0,0,1,6,8,16,1,127,191],[0,0,1,6,8,16,1,66,160]⟩ [262144,524288,1048576,2097152,4194304,8388608,16777216,
 33554432,0] [1,2,262144,1572864,2097152,4194304,262144,17301504,41943040] (.take 0 (.take 1 (.take 2 (.take 3 (.take 4 (.take 5 (.take 6 (.tail [.run, .run]))))))))) (.s .r .l))))
theorem W.ak_ (f:Option Addr) (j5:Int) (w:World) (Q:Value→World→Prop) (h:W.AL f j5 w Q):aQ Tryz.prog F.AL #[.pointer f, .int .i64 j5] w Q:=okF A.AL Tryz.func44 (by kernel_rfl) (by kernel_rfl) h
def W.AJ (d:Option Addr) (w:World) (Q:Value→World→Prop):Prop:=aB (Option.isNone d) (Q (.int .i64 0) w) (∃bc:Addr,d=some bc∧aq w (bc.add 4) fun s2=>Q (.int .i64 (s2.len:Int)) w)
def A.AJ:bG:=i_
theorem W.ak7 (d:Option Addr) (w:World) (Q:Value→World→Prop) (h:W.AJ d w Q):aQ Tryz.prog F.AJ #[.pointer d] w Q:=okF A.AJ Tryz.func45 (by kernel_rfl) (by kernel_rfl) h
def W.tz (j9:aa) (w:World) (Q:Value→World→Prop):Prop:=Q (.bool ((decide ((j9.len:Int)≥1))&&(decide ((j9.len:Int)≤24)))) w
def A.tz:bG:=a5
theorem W.ap6 (j9:aa) (w:World) (Q:Value→World→Prop) (h:W.tz j9 w Q):aQ Tryz.prog F.tz #[.slice j9.a j9.len j9.cap] w Q:=okF A.tz Tryz.func57 (by kernel_rfl) (by kernel_rfl) h
def W.y8 (t:Option Addr) (key:aa) (w:World) (Q:Value→World→Prop):Prop:=∃bc:Addr,t=some bc∧bI w (bc.add 3) fun db=>∃a3:Addr,t=some a3∧bI w (a3.add 4) fun fL=>∃ (yb:aa→Int→Int→World→
 Prop) (Eo:aa→Int→Int→World→Nat),yb ⟨none,0,0⟩ db fL w∧∀ (g_:aa) (n8:Int) (n9:Int) (bK:World),yb g_ n8 n9 bK→aB (decide (n9>0)) (uw F.sB #[.pointer t, .int .i64 n8, .bool (n9==1)] bK fun tE c_
 ff dH n17 b9=>ay (b9.alloc dx) fun e6=>cZ e6 (ai b9) [.bool tE, .slice c_.a c_.len c_.cap, .slice ff.a ff.len ff.cap, .slice dH.a dH.len dH.cap]∧(4:Nat)=4∧ay (setCells e6 (ai b9) 0 [.bool tE, .slice
 c_.a c_.len c_.cap, .slice ff.a ff.len ff.cap, .slice dH.a dH.len dH.cap]) fun dp=>aB (n17 !=0) (Q (.tuple #[.slice none 0 0, .int .i64 n17]) dp) (bS dp (ai b9) fun rf=>aq dp (Addr.add (ai b9) 1) fun e4=>aq dp
 (Addr.add (ai b9) 2) fun fW=>aq dp (Addr.add (ai b9) 3) fun eD=>∃y9:Array Value,Sem.run Tryz.prog (Instr.build ah.uz #[(0, .int .i64 n8),(1, .agg #[.bool rf, .slice e4.a e4.len e4.cap, .slice fW.a fW.len fW.cap,
 .slice eD.a eD.len eD.cap])]) dp= .ok (.agg y9) dp∧ay (dp.alloc (.cells #[.int .i64 0, .bool false, .slice none 0 0, .slice none 0 0, .slice none 0 0, .int .i64 0] ah.uz)) fun fH=>cZ fH (ai dp) (Array.toList y9)
 ∧Array.size y9=6∧ay (setCells fH (ai dp) 0 (Array.toList y9)) fun cv=>cY (fun Ep:Int→World→Prop=>aB (decide (n9>1)) (bS cv (ai b9) fun zz=>aq cv (Addr.add (ai b9) 1) fun ib=>aq cv (Addr.add (ai b9) 2) fun
 h9=>aq cv (Addr.add (ai b9) 3) fun ik=>aT F.vy #[.agg #[.bool zz, .slice ib.a ib.len ib.cap, .slice h9.a h9.len h9.cap, .slice ik.a ik.len ik.cap], .slice key.a key.len key.cap] cv fun n34 nC=>st nC (Addr.add
 (ai dp) 5) (.int .i64 n34) fun lC=>aq lC (Addr.add (ai b9) 3) fun jL=>bI lC (Addr.add (ai dp) 5) fun n37=>∃B6:Addr,jL.a=some B6∧a7 n37 jL.len∧bI lC (B6.add (Int.toNat n37*1)) fun n39=>Ep n39 lC) (Ep n8
 cv)) (fun (n40:Int) dE=>∃afS:List Value,eN dE (ai dp) 0 6=some afS∧∃hU:aa,∃mb:World,Sem.run Tryz.prog (Instr.buildSlice ah.FF 1 #[(0, .agg afS.toArray)]) dE= .ok (.slice hU.a hU.len hU.cap) mb
 ∧∃iJ:aa,∃hX:World,Sem.run Tryz.prog (Builtin.append_ #[ah.FF,ah.FF] ah.FF #[.slice g_.a g_.len g_.cap, .slice hU.a hU.len hU.cap]) mb= .ok (.slice iJ.a iJ.len iJ.cap) hX∧yb iJ n40 (aC
 (n9-1)) hX∧Eo iJ n40 (aC (n9-1)) hX<Eo g_ n8 n9 bK))) (Q (.tuple #[.slice g_.a g_.len g_.cap, .int .i64 0]) bK)
def A.y8:bG:=(.s .r (.s .r (.s .r (.s (.s .r (.dn (.loop [(6, .slice),(7,(.int .i64)),(8,(.int .i64))] [0,1] (.s (.s .r (.c .l .l)) (.s (.dn (.s .r (.s bc (.s .r (.s (.kZ [(7,(.int .i64))] [0,1,6,8,11] (.s .r (.c
 (.s .r .r) .l))) .r))))) .r))))) (.s .r .l)))))
theorem W.anj (t:Option Addr) (key:aa) (w:World) (Q:Value→World→Prop) (h:W.y8 t key w Q):aQ Tryz.prog F.y8 #[.pointer t, .slice key.a key.len key.cap] w Q:=okF A.y8 Tryz.func58 (by kernel_rfl) (by kernel_rfl) h
def W.yF (cE:Bool) (bq:aa) (br:aa) (bt:aa) (key:aa) (w:World) (Q:Value→World→Prop):Prop:=ay (w.alloc (.cells #[.bool cE, .slice bq.a bq.len bq.cap, .slice br.a br.len
 br.cap, .slice bt.a bt.len bt.cap] ah.cO)) fun ag=>bS ag (ai w) fun cG=>aq ag (Addr.add (ai w) 1) fun bY=>aq ag (Addr.add (ai w) 2) fun cN=>aq ag (Addr.add (ai w) 3) fun bJ=>dN F.rF #[.agg #[.bool cG,
 .slice bY.a bY.len bY.cap, .slice cN.a cN.len cN.cap, .slice bJ.a bJ.len bJ.cap], .slice key.a key.len key.cap] ag fun n8 iY a8=>Q (.tuple #[.int .i64 n8, .bool iY]) a8
def A.yF:bG:=(.s .r (.s .r .l))
theorem W.akl (cE:Bool) (bq:aa) (br:aa) (bt:aa) (key:aa) (w:World) (Q:Value→World→Prop) (h:W.yF cE bq br bt key w Q):aQ Tryz.prog F.yF #[.agg #[.bool cE, .slice bq.a bq.len bq.cap, .slice br.a br.len br.cap, .slice bt.a bt.len bt.cap], .slice key.a key.len key.cap] w Q:=okF A.yF Tryz.func59 (by kernel_rfl) (by kernel_rfl) h
def W.yM (cE:Bool) (bq:aa) (br:aa) (bt:aa) (key:aa) (w:World) (Q:Value→World→Prop):Prop:=ay (w.alloc (.cells #[.bool cE, .slice bq.a bq.len bq.cap, .slice br.a br.len
 br.cap, .slice bt.a bt.len bt.cap] ah.cO)) fun ag=>ay (ag.alloc dx) fun aw=>bS aw (ai w) fun eP=>aq aw (Addr.add (ai w) 1) fun cN=>aq aw (Addr.add (ai w) 2) fun bJ=>aq aw (Addr.add (ai w) 3) fun cM=>dN
 F.rF #[.agg #[.bool eP, .slice cN.a cN.len cN.cap, .slice bJ.a bJ.len bJ.cap, .slice cM.a cM.len cM.cap], .slice key.a key.len key.cap] aw fun n9 n_ bh=>bS bh (ai w) fun r4=>cY (fun p_:Bool→World→Prop=>Ht r4 p_ bh
 w) (fun (rf:Bool) dO=>aB (rf||(!n_)) (cZ dO (ai ag) [.bool false, .slice none 0 0, .slice none 0 0, .slice none 0 0]∧(4:Nat)=4∧ay (setCells dO (ai ag) 0 [.bool false, .slice none 0 0, .slice none 0 0, .slice none 0
 0]) fun c5=>nx c5 ag Q) (bS dO (ai w) fun auy=>aq dO (Addr.add (ai w) 1) fun eV=>aq dO (Addr.add (ai w) 2) fun ib=>aq dO (Addr.add (ai w) 3) fun h9=>jt F.fM #[.agg #[.bool auy, .slice eV.a eV.len eV.cap, .slice
 ib.a ib.len ib.cap, .slice h9.a h9.len h9.cap]] dO fun zS gS fX jL gf=>ay (gf.alloc dx) fun kn=>cZ kn (ai gf) [.bool zS, .slice gS.a gS.len gS.cap, .slice fX.a fX.len fX.cap, .slice jL.a jL.len jL.cap]∧
 (4:Nat)=4∧ay (setCells kn (ai gf) 0 [.bool zS, .slice gS.a gS.len gS.cap, .slice fX.a fX.len fX.cap, .slice jL.a jL.len jL.cap]) fun jJ=>aq jJ (Addr.add (ai gf) 1) fun ga=>ee F.yD
 #[.slice ga.a ga.len ga.cap, .int .i64 n9, .int .i64 (aC (n9+1))] jJ fun nf uB=>st uB (Addr.add (ai gf) 1) (.slice nf.a nf.len nf.cap) fun jl=>aq jl (Addr.add (ai gf) 2) fun iX=>ee F.yD
 #[.slice iX.a iX.len iX.cap, .int .i64 n9, .int .i64 (aC (n9+1))] jl fun mK j1=>st j1 (Addr.add (ai gf) 2) (.slice mK.a mK.len mK.cap) fun zP=>dB zP gf ag Q))
def A.yM:bG:=(.s .r (.s .r (.s (.s (.f_ [.run, .run, .run, .run, .split 3, .run, .run, .run, .run, .pure 2]) (.c (.s .r .l) .l)) (.s .r a4))))
theorem W.akB (cE:Bool) (bq:aa) (br:aa) (bt:aa) (key:aa) (w:World) (Q:Value→World→Prop) (h:W.yM cE bq br bt key w Q):aQ Tryz.prog F.yM #[.agg #[.bool cE, .slice bq.a bq.len bq.cap, .slice br.a br.len br.cap, .slice bt.a bt.len bt.cap], .slice key.a key.len key.cap] w Q:=okF A.yM Tryz.func60 (by kernel_rfl) (by kernel_rfl) h
def W.xV (t:Option Addr) (mH:aa) (u4:Bool) (od:aa) (oe:aa) (og:aa) (w:World) (Q:Value→World→Prop):Prop:=ay (w.alloc (.cells #[.bool u4, .slice od.a od.len
 od.cap, .slice oe.a oe.len oe.cap, .slice og.a og.len og.cap] ah.cO)) fun ag=>ay (ag.alloc (.cells #[.int .i64 0] ah.auq)) fun aw=>ay (aw.drew) fun aS=>∃k9:Nat→Prop,∃
 a5:Addr,t=some a5∧¬k9 (a5.add 1).block∧∃oN:Option Addr,aS.cell? (a5.add 1)=some (.pointer oN)∧∃kl:Addr,t=some kl∧¬k9 (kl.add 4).block∧bI aS (kl.add 4) fun n8=>aT F.y5 #[.pointer oN] aS fun n11 b6
 =>ao k9 aS b6∧aB (decide (n11<(aC ((aC (2*n8))+3)))) (st b6 (ai ag) (.int .i64 2) fun cJ=>bI cJ (ai ag) fun n13=>Q (.int .i64 n13) cJ) (ay (b6.alloc (.cells #[.pointer t, .slice none 0 0, .slice none 0 0] ah.aaU))
 fun c0=>ay (c0.alloc (.cells #[.pointer none] ah.aur)) fun e5=>st e5 (ai c0) (.pointer (some (ai b6))) fun cF=>∃MJ:Option Addr,cF.cell? (ai c0)=some (.pointer MJ)∧bS cF (ai w) fun tN=>aq cF (Addr.add
 (ai w) 1) fun eI=>aq cF (Addr.add (ai w) 2) fun e7=>aq cF (Addr.add (ai w) 3) fun e4=>Io F.xT #[.pointer MJ, .slice mH.a mH.len mH.cap, .agg #[.bool tN, .slice eI.a eI.len eI.cap, .slice e7.a e7.len
 e7.cap, .slice e4.a e4.len e4.cap]] cF fun n24 n25 n26 c5=>st c5 (ai ag) (.int .i64 n26) fun m_=>bI m_ (ai ag) fun n28=>aB (n28 !=0) (bI m_ (ai ag) fun n29=>st m_ (ai ag) (.int .i64 n29) fun gn=>Jd Tryz.prog
 F.zt #[.pointer (some (ai ag)), .pointer (some (ai c0))] gn fun gf=>bI gf (ai ag) fun n32=>Q (.int .i64 n32) gf) (ay (m_.drew) fun e1=>¬False∧∃MK:Option Addr,e1.cell? (ai c0)=some (.pointer MK)∧¬
 False∧∃afT:Option Addr,e1.cell? (ai c0)=some (.pointer afT)∧∃a36:Addr,afT=some a36∧¬False∧aq e1 (a36.add 2) fun kt=>bC F.Bt #[.pointer MK, .slice kt.a kt.len kt.cap] e1 fun jJ=>∃ML:Addr,
 t=some ML∧st jJ (ML.add 3) (.int .i64 n24) fun dE=>∃MM:Addr,t=some MM∧st dE (MM.add 4) (.int .i64 n25) fun jl=>st jl (ai ag) (.int .i64 0) fun mb=>Jd Tryz.prog F.zt #[.pointer (some (ai ag)),
 .pointer (some (ai c0))] mb fun j1=>bI j1 (ai ag) fun XE=>Q (.int .i64 XE) j1))
def A.xV:bG:=(.s .r (.s (.s (.er 11 true ⟨[0,1,2,4,8,0,32,64,128,256,512,1040],[0,1,2,4,8,0,32,64,128,256,512,1040]⟩ [1024,2048,4096,8192,16384,32768,65536,131072,262144,524288,1048576,
 2097152] [1,1024,2048,4096,8192,1,32768,65536,131072,262144,524288,1064960] (.take 0 (.take 1 (.take 2 (.take 3 (.take 5 (.take 6 (.take 7 (.take 8 (.take 9 (.take 10 (.cK 4 (.tail [.run]))))))))))))) (.c (.s .r .l) .l)) (.s .r
 (.s .l (.s .r (.s bc (.s (.er 5 false ⟨[0,0,2,4,8,17],[0,0,2,4,8,17]⟩ [137438953472,274877906944,549755813888,1099511627776,2199023255552,4398046511104] [128,128,274877906944,549755813888,1099511627776,2336462209024]
 (.take 0 (.take 1 (.take 2 (.take 3 (.take 4 (.tail [.run]))))))) (.s .r (.s .r .l)))))))))
theorem W.auz (t:Option Addr) (mH:aa) (u4:Bool) (od:aa) (oe:aa) (og:aa) (w:World) (Q:Value→World→Prop):W.xV t mH u4 od oe og w Q=Xr Tryz.prog aG A.xV Tryz.f61 [.pointer t, .slice mH.a mH.len mH.cap, .agg #[.bool u4, .slice od.a od.len od.cap, .slice oe.a oe.len oe.cap, .slice og.a og.len og.cap]] w Q:=by kernel_rfl
theorem W.apG (t:Option Addr) (mH:aa) (u4:Bool) (od:aa) (oe:aa) (og:aa) (w:World) (Q:Value→World→Prop) (h:W.xV t mH u4 od oe og w Q):Calls Tryz.prog F.xV #[.pointer t, .slice mH.a mH.len mH.cap, .agg #[.bool u4, .slice od.a od.len od.cap, .slice oe.a oe.len oe.cap, .slice og.a og.len og.cap]] w fun e ag=>∃v,e= .returned v∧Q v ag:=
  aui Xt Tryz.func61 (by kernel_rfl) (Eq.mp (W.auz t mH u4 od oe og w Q) h)
def W.BL (t:Option Addr) (no:Int) (level:Int) (ix:aa) (f:r6) (w:World) (Q:Value→World→Prop):Prop:=uw F.sB #[.pointer t, .int .i64 no, .bool (level==1)] w fun eP cN bJ cM n7 ag=>ay
 (ag.alloc dx) fun bW=>cZ bW (ai ag) [.bool eP, .slice cN.a cN.len cN.cap, .slice bJ.a bJ.len bJ.cap, .slice cM.a cM.len cM.cap]∧(4:Nat)=4∧ay (setCells bW (ai ag) 0 [.bool eP, .slice cN.a cN.len cN.cap, .slice bJ.a bJ.len
 bJ.cap, .slice cM.a cM.len cM.cap]) fun b6=>aB (n7 !=0) (Q (.tuple #[.bool false, .int .i64 n7]) b6) (bS b6 (ai ag) fun n_=>aq b6 (Addr.add (ai ag) 1) fun ed=>aq b6 (Addr.add (ai ag) 2) fun fJ=>aq b6 (Addr.add (ai ag) 3) fun ft
 =>tY Tryz.prog f.f∧Calls Tryz.prog f.f (f.pre++ #[.int .i64 no, .agg #[.bool n_, .slice ed.a ed.len ed.cap, .slice fJ.a fJ.len fJ.cap, .slice ft.a ft.len ft.cap]]++f.cap) b6 fun Xy c0=>∃Rj:Bool,Xy= .returned
 (.bool Rj)∧aB (!Rj) (Q (.tuple #[.bool false, .int .i64 0]) c0) (aB (level==1) (Q (.tuple #[.bool true, .int .i64 0]) c0) (ay (c0.drew) fun ep=>∃XF:Nat→Prop,¬XF (Addr.add (ai ag) 3).block∧aq ep (Addr.add (ai ag) 3)
 fun eI=>¬XF ((ai ag):Addr).block∧bS ep (ai ag) fun rf=>aq ep (Addr.add (ai ag) 1) fun e4=>aq ep (Addr.add (ai ag) 2) fun fW=>aq ep (Addr.add (ai ag) 3) fun eD=>aT F.vy #[.agg #[.bool rf, .slice e4.a e4.len
 e4.cap, .slice fW.a fW.len fW.cap, .slice eD.a eD.len eD.cap], .slice ix.a ix.len ix.cap] ep fun n26 cW=>ao XF ep cW∧((0:Int)≤n26∧n26≤(eI.len:Int))∧∃ (XG:Int→World→Prop) (afU:Int→World→
 Nat),XG 0 cW∧∀ (n29:Int) (gn:World),XG n29 gn→aB (decide (n29<(((eI.len-(Int.toNat n26)):Nat):Int))) (∃n4:Addr,(bg eI.a 1 (Int.toNat n26) eI.cap)=some n4∧((0:Int)≤n29∧n29<(((eI.len-(Int.toNat
 n26)):Nat):Int))∧bI gn (n4.add (Int.toNat n29*1)) fun n32=>DZ F.BL #[.pointer t, .int .i64 n32, .int .i64 (aC (level-1)), .slice ix.a ix.len ix.cap, .func (.func f.f) f.pre f.cap] gn fun zT n36 e1
 =>aB ((n36 !=0)||(!zT)) (Q (.tuple #[.bool zT, .int .i64 n36]) e1) (XG (aC (n29+1)) e1∧afU (aC (n29+1)) e1<afU n29 gn)) (Q (.tuple #[.bool true, .int .i64 0]) gn))))
def A.BL:bG:=(.s .r (.s .r (.s bc (.s bc (.s bc (.s (.s (.er 8 true ⟨[0,1,0,0,12,18,32,0],[0,1,0,0,12,18,32,0]⟩ [68719476736,137438953472,274877906944,549755813888,1099511627776,2199023255552,
 4398046511104,8796093022208] [4096,68719476736,4096,8,824633720832,1236950581248,2199023255552,0] (.take 0 (.take 1 (.take 2 (.take 3 (.take 7 (.cK 4 (.take 5 (.take 6 .fin))))))))) (.dn (.loop [(43,(.int .i64))] [0,2,3,4,41,
 42] (.s .r (.s (.c .l .l) (.s (.dn (.s .r (.s .r ja))) .r)))))) (.s .r .l)))))))
theorem W.aqG (t:Option Addr) (no:Int) (level:Int) (ix:aa) (f:r6) (w:World) (Q:Value→World→Prop) (h:W.BL t no level ix f w Q):aQ Tryz.prog F.BL #[.pointer t, .int .i64 no, .int .i64 level, .slice ix.a ix.len ix.cap, .func (.func f.f) f.pre f.cap] w Q:=okF A.BL Tryz.func62 (by kernel_rfl) (by kernel_rfl) h
def W.x0 (XH:Int) (cE:Bool) (bq:aa) (br:aa) (bt:aa) (x:Addr) (tO:Addr) (B7:Addr) (Rk:Addr) (w:World) (Q:Value→World→Prop):Prop:=ay (w.alloc (.cells #[.bool cE, .slice
 bq.a bq.len bq.cap, .slice br.a br.len br.cap, .slice bt.a bt.len bt.cap] ah.cO)) fun ag=>aq ag (Addr.add (ai w) 1) fun s2=>∃ (j8:Int→World→Prop) (mZ:Int→World→Nat),j8 0 ag∧∀ (n5
 :Int) (a8:World),j8 n5 a8→aB (decide (n5<(s2.len:Int))) (∃kl:Addr,s2.a=some kl∧a7 n5 s2.len∧aq a8 (kl.add (Int.toNat n5*1)) fun ec=>aq a8 x fun dc=>cY (fun yc:Bool→World→Prop=>aB (decide ((dc.len:Int)>0))
 (aq a8 x fun ed=>aT F.m9 #[.slice ec.a ec.len ec.cap, .slice ed.a ed.len ed.cap] a8 fun n14 cJ=>yc (decide (n14≥0)) cJ) (yc false a8)) (fun (we:Bool) cF=>cY (fun MN:Bool→World→Prop=>aB we (bS cF (ai
 w) fun tN=>MN tN cF) (MN false cF)) (fun (zy:Bool) cB=>aB zy (Q (.bool false) cB) (cY (fun MO:World→Prop=>bS cB (ai w) fun tF=>cY (fun MP:Bool→World→Prop=>aB tF (aq cB tO fun rp=>aT F.m9
 #[.slice ec.a ec.len ec.cap, .slice rp.a rp.len rp.cap] cB fun n27 fH=>MP (decide (n27≥0)) fH) (MP false cB)) (fun (zz:Bool) fy=>aB zz (ay (fy.drew) fun gn=>∃Rl:Nat→Prop,¬Rl B7.block∧aq gn B7 fun de=>
 ¬Rl (Addr.add (ai w) 2).block∧aq gn (Addr.add (ai w) 2) fun k1=>∃Ji:Addr,k1.a=some Ji∧a7 n5 k1.len∧¬Rl (Ji.add (Int.toNat n5*1)).block∧aq gn (Ji.add (Int.toNat n5*1)) fun fX=>∃afV:Array Value,(∀kn:
 World,Sem.run Tryz.prog (Instr.build ah.nj #[(0, .slice ec.a ec.len ec.cap),(1, .slice fX.a fX.len fX.cap)]) kn= .ok (.agg afV) kn)∧∃ej:aa,∃lQ:World,Sem.run Tryz.prog (Instr.buildSlice ah.e3 1 #[(0, .agg
 afV)]) gn= .ok (.slice ej.a ej.len ej.cap) lQ∧ao Rl gn lQ∧∃eJ:aa,∃dE:World,Sem.run Tryz.prog (Builtin.append_ #[ah.e3,ah.e3] ah.e3 #[.slice de.a de.len de.cap, .slice ej.a ej.len
 ej.cap]) lQ= .ok (.slice eJ.a eJ.len eJ.cap) dE∧(∃u:Value,dE.cell? B7=some u)∧dE.frozen? B7=false∧ay (dE.setCell B7 (.slice eJ.a eJ.len eJ.cap)) fun gK=>MO gK) (MO fy))) (fun jl=>aq jl B7 fun iX=>
 bI jl Rk fun XI=>aB ((iX.len:Int)==XI) (Q (.bool false) jl) (j8 (aC (n5+1)) jl∧mZ (aC (n5+1)) jl<mZ n5 a8)))))) (Q (.bool true) a8)
def A.x0:bG:=(.s .r (.s (.s .r (.dn (.loop [(14,(.int .i64))] [2,3,4,5,7,12,13] (.s .r (.s (.c .l .l) (.s (.dn (.s .r (.s (.s (.f_ [.run, .run, .run, .run, .split 4, .run, .run, .run, .run, .run, .split 2]) (.c
 (.s .r .l) .l)) (.s (.kZ [] [2,3,4,5,7,12,13,14] (.s (.f_ [.run, .run, .run, .split 4]) (.c (.er 9 true ⟨[0,0,0,4,0,24,32,66,128,257,1023],[0,0,0,4,0,24,32,66,128,257,512]⟩ [1099511627776,2199023255552,
 4398046511104,8796093022208,17592186044416,35184372088832,70368744177664,140737488355328,281474976710656,562949953421312,0] [16,1024,128,4398046511104,512,26388279066624,35184372088832,72567767433216,140737488355328,
 282574488338432,562949953421328] (.take 0 (.take 1 (.take 2 (.take 3 (.take 4 (.take 5 (.take 6 (.take 7 (.cK 8 (.tail [.run, .run]))))))))))) .l))) bc)))) .r)))))) (.s .r .l)))
theorem W.aqx (XH:Int) (cE:Bool) (bq:aa) (br:aa) (bt:aa) (x:Addr) (tO:Addr) (B7:Addr) (Rk:Addr) (w:World) (Q:Value→World→Prop) (h:W.x0 XH cE bq br bt x tO B7 Rk w Q):aQ Tryz.prog F.x0 #[.int .i64 XH, .agg #[.bool cE, .slice bq.a bq.len bq.cap, .slice br.a br.len br.cap, .slice bt.a bt.len bt.cap], .pointer (some x), .pointer (some tO), .pointer (some B7), .pointer (some Rk)] w Q:=okF A.x0 Tryz.func63 (by kernel_rfl) (by kernel_rfl) h
def W.y2 (d:Option Addr) (aF:Int) (w:World) (Q:Value→World→Prop):Prop:=aB (((Option.isNone d)||(decide (aF<8)))||(decide (aF>64))) (Q (.tuple #[.pointer none, .int .i64 1]) w) (((0:Int)≤aF
 ∧aF≤aF∧aF≤yp∧((48:Nat):Int)*aF≤140737488355328)∧ay (w.alloc (.cells (pM Tryz.prog ah.rN (Int.toNat aF)) ah.rN)) fun ag=>ay (ag.alloc (.cells #[.pointer d, .slice (some (ai w))
 (Int.toNat aF) (Int.toNat aF), .int .i64 0] ah.aaf)) fun aw=>Q (.tuple #[.pointer (some (ai ag)), .int .i64 0]) aw)
def A.y2:bG:=(.s .r (.s (.s (.f_ [.run, .run, .run, .pure 2, .run, .run, .run, .pure 2]) (.c (.s .r .l) .l)) (.s .r .l)))
theorem W.al_ (d:Option Addr) (aF:Int) (w:World) (Q:Value→World→Prop) (h:W.y2 d aF w Q):aQ Tryz.prog F.y2 #[.pointer d, .int .i64 aF] w Q:=okF A.y2 Tryz.func65 (by kernel_rfl) (by kernel_rfl) h
end
section
set_option maxRecDepth 100000
def W.y7 (n:Int) (first:Int) (w:World) (Q:Value→World→Prop):Prop:=ba F.Dq #[.int .i64 n] w fun eP ag=>aB (((!eP)||(decide (first<0)))||(decide (first>n))) (Q (.tuple #[.pointer none, .int .i64 1])
 ag) (aT F.Dr #[.int .i64 n] ag fun n6 bp=>((0:Int)≤n6∧n6≤n6∧n6≤yp∧((1:Nat):Int)*n6≤140737488355328)∧ay (bp.alloc (.cells (pM Tryz.prog ah.uint8 (Int.toNat n6)) ah.uint8)) fun bh=>ay (bh.alloc (.cells
 #[.int .i64 n, .slice (some (ai bp)) (Int.toNat n6) (Int.toNat n6), .slice none 0 0] ah.Dg)) fun bW=>∃ (XJ:Int→World→Prop) (afW:Int→World→Nat),XJ 0 bW∧∀ (n11:Int) (cJ:World),XJ n11 cJ→aB (decide (n11<
 first)) (∃kq:Addr,(some (ai bh):Option Addr)=some kq∧aq cJ (kq.add 1) fun c_=>bC F.AS #[.slice c_.a c_.len c_.cap, .int .i64 n11] cJ fun e5=>XJ (aC (n11+1)) e5∧afW (aC (n11+1)) e5<afW n11 cJ)
 (bC F.Dn #[.pointer (some (ai bh))] cJ fun ep=>Q (.tuple #[.pointer (some (ai bh)), .int .i64 0]) ep))
def A.y7:bG:=(.s .r (.s (.s (.f_ [.run, .run, .run, .run, .pure 2, .run, .run, .run, .pure 3]) (.c (.s .r .l) .l)) (.s .r (.s (.s .r (.dn (.loop [(27,(.int .i64))] [6,26] cS))) (.s .r (.s .r .l))))))
theorem W.am4 (n:Int) (first:Int) (w:World) (Q:Value→World→Prop) (h:W.y7 n first w Q):aQ Tryz.prog F.y7 #[.int .i64 n, .int .i64 first] w Q:=okF A.y7 Tryz.func66 (by kernel_rfl) (by kernel_rfl) h
def W.y5 (s:Option Addr) (w:World) (Q:Value→World→Prop):Prop:=aB (Option.isNone s) (Q (.int .i64 0) w) (∃bc:Addr,s=some bc∧bI w bc fun db=>∃a3:Addr,s=some a3∧aq w (a3.add 1) fun cN=>∃ (yb:
 Int→Int→World→Prop) (Eo:Int→Int→World→Nat),yb db 0 w∧∀ (n7:Int) (n8:Int) (b6:World),yb n7 n8 b6→aB (decide (n8<(cN.len:Int))) (ay (b6.drew) fun bK=>∃MQ:Nat→Prop,∃i_:Addr,s=some i_∧¬MQ
 (i_.add 1).block∧aq bK (i_.add 1) fun ft=>∃k0:Addr,ft.a=some k0∧a7 n8 ft.len∧¬MQ (k0.add (Int.toNat n8*1)).block∧h8 bK (k0.add (Int.toNat n8*1)) fun n15=>∃oc:Addr,s=some oc∧¬MQ (oc.add
 2).block∧aq bK (oc.add 2) fun gy=>∃m0:Addr,gy.a=some m0∧a7 n8 gy.len∧¬MQ (m0.add (Int.toNat n8*1)).block∧h8 bK (m0.add (Int.toNat n8*1)) fun n19=>aT F.Dp #[.int .u8 (Cp .u8 n15 n19)] bK
 fun n22 cB=>ao MQ bK cB∧yb (aC (n7-n22)) (aC (n8+1)) cB∧Eo (aC (n7-n22)) (aC (n8+1)) cB<Eo n7 n8 b6) (Q (.int .i64 n7) b6))
def A.y5:bG:=(.s .r (.s bc (.s .r (.s (.s .r (.dn (.loop [(3,(.int .i64)),(16,(.int .i64))] [0,15] (.s .r (.s (.c .l .l) (.s (.dn (.s .r (.er 17 true ⟨[0,0,2,4,8,0,48,64,0,256,512,1024,0,6144,8192,
 16512,32768,65537,262143],[0,0,2,4,8,0,48,64,0,256,512,1024,0,6144,8192,16512,32768,65537,131073]⟩ [524288,1048576,2097152,4194304,8388608,16777216,33554432,67108864,134217728,268435456,536870912,1073741824,
 2147483648,4294967296,8589934592,17179869184,34359738368,68719476736,8] [8,1,1048576,2097152,4194304,16,25165824,33554432,1,134217728,268435456,536870912,16,3221225472,4294967296,8657043456,17179869184,34360262656,
 68719476736] (.take 0 (.take 1 (.take 2 (.take 3 (.take 4 (.take 5 (.take 6 (.take 7 (.take 8 (.take 9 (.take 10 (.take 11 (.take 12 (.take 13 (.take 14 (.take 15 (.cK 16 (.tail [.run, .run]))))))))))))))))))))) .r)))))) (.s .r .l)))))
theorem W.amV (s:Option Addr) (w:World) (Q:Value→World→Prop) (h:W.y5 s w Q):aQ Tryz.prog F.y5 #[.pointer s] w Q:=okF A.y5 Tryz.func67 (by kernel_rfl) (by kernel_rfl) h
def W.yJ (cE:Bool) (bq:aa) (br:aa) (bt:aa) (key:aa) (val:aa) (w:World) (Q:Value→World→Prop):Prop:=ay (w.alloc (.cells #[.bool cE, .slice bq.a bq.len bq.cap, .slice br.a
 br.len br.cap, .slice bt.a bt.len bt.cap] ah.cO)) fun ag=>ay (ag.alloc dx) fun aw=>bS aw (ai w) fun eP=>cY (fun lN:Bool→World→Prop=>Ht eP lN aw w) (fun (En:Bool) b2=>cY (fun afX:Bool→World
 →Prop=>aB En (afX true b2) (ba F.vq #[.slice key.a key.len key.cap] b2 fun u3 e5=>afX (!u3) e5)) (fun (tN:Bool) dp=>aB (tN||(decide ((val.len:Int)>24))) (cZ dp (ai ag) [.bool false, .slice none 0 0,
 .slice none 0 0, .slice none 0 0]∧(4:Nat)=4∧ay (setCells dp (ai ag) 0 [.bool false, .slice none 0 0, .slice none 0 0, .slice none 0 0]) fun cB=>nx cB ag Q) (bS dp (ai w) fun uO=>aq dp (Addr.add (ai w) 1) fun gm=>aq dp
 (Addr.add (ai w) 2) fun dh=>aq dp (Addr.add (ai w) 3) fun eV=>jt F.fM #[.agg #[.bool uO, .slice gm.a gm.len gm.cap, .slice dh.a dh.len dh.cap, .slice eV.a eV.len eV.cap]] dp fun Gr de k1 gS fy=>ay (fy.alloc
 dx) fun lC=>cZ lC (ai fy) [.bool Gr, .slice de.a de.len de.cap, .slice k1.a k1.len k1.cap, .slice gS.a gS.len gS.cap]∧(4:Nat)=4∧ay (setCells lC (ai fy) 0 [.bool Gr, .slice de.a de.len de.cap, .slice k1.a
 k1.len k1.cap, .slice gS.a gS.len gS.cap]) fun iw=>bS iw (ai w) fun sV=>aq iw (Addr.add (ai w) 1) fun ej=>aq iw (Addr.add (ai w) 2) fun ga=>aq iw (Addr.add (ai w) 3) fun eJ=>dN F.rF #[.agg #[.bool sV, .slice
 ej.a ej.len ej.cap, .slice ga.a ga.len ga.cap, .slice eJ.a eJ.len eJ.cap], .slice key.a key.len key.cap] iw fun Jj XK dE=>aB XK (ay (dE.drew) fun j1=>∃afY:Nat→Prop,¬afY (Addr.add (ai fy) 2).block∧aq j1
 (Addr.add (ai fy) 2) fun mK=>ee F.mu #[.slice val.a val.len val.cap] j1 fun gi zP=>ao afY j1 zP∧∃MR:Addr,mK.a=some MR∧a7 Jj mK.len∧st zP (MR.add (Int.toNat Jj*1)) (.slice gi.a
 gi.len gi.cap) fun ko=>dB ko fy ag Q) (ay (dE.drew) fun fz=>∃XL:Nat→Prop,¬XL (Addr.add (ai fy) 1).block∧aq fz (Addr.add (ai fy) 1) fun ny=>ee F.mu #[.slice key.a key.len key.cap] fz fun
 gJ tb=>ao XL fz tb∧ay (tb.alloc (.cells #[.slice gJ.a gJ.len gJ.cap] ah.cm)) fun uh=>ao XL tb uh∧ee F.yB #[.slice ny.a ny.len ny.cap, .int .i64 Jj, .slice (some (ai tb)) 1 1]
 uh fun gp rG=>st rG (Addr.add (ai fy) 1) (.slice gp.a gp.len gp.cap) fun tx=>ay (tx.drew) fun gV=>∃XM:Nat→Prop,¬XM (Addr.add (ai fy) 2).block∧aq gV (Addr.add (ai fy) 2) fun ju=>ee
 F.mu #[.slice val.a val.len val.cap] gV fun rj lp=>ao XM gV lp∧ay (lp.alloc (.cells #[.slice rj.a rj.len rj.cap] ah.cm)) fun ss=>ao XM lp ss∧ee F.yB
 #[.slice ju.a ju.len ju.cap, .int .i64 Jj, .slice (some (ai lp)) 1 1] ss fun nz iP=>st iP (Addr.add (ai fy) 2) (.slice nz.a nz.len nz.cap) fun oB=>dB oB fy ag Q))))
def A.yJ:bG:=(.s .r (.s (.s (.f_ [.run, .run, .run, .run, .split 3, .run, .run, .run, .run, .split 3, .run, .run, .run, .run, .pure 3]) (.c (.s .r .l) .l)) (.s .r (.s .r (.s (.s .r (.c (.s (.er 5 true ⟨[0,1,0,0,8,31,63],
 [0,1,0,0,8,6,48]⟩ [549755813888,1099511627776,2199023255552,4398046511104,8796093022208,17592186044416,0] [256,549755813888,512,4,4398046511104,3298534883328,26388279066624] (.take 0 (.take 1 (.take 2 (.take 3 (.cK 4
 (.tail [.run, .run]))))))) (.s .r .l)) .l)) (.s (.er 6 true ⟨[0,1,0,0,8,16,54,127,255],[0,1,0,0,8,16,38,0,192]⟩ [70368744177664,140737488355328,281474976710656,562949953421312,1125899906842624,2251799813685248,
 4503599627370496,9007199254740992,0] [256,70368744177664,512,2,562949953421312,1125899906842624,2674012278751232,256,13510798882111488] (.take 0 (.take 1 (.take 2 (.take 3 (.cK 4 (.cK 5 (.tail [.run, .run, .run])))))))) (.s
 (.er 6 true ⟨[0,1,0,0,8,16,54,127,255],[0,1,0,0,8,16,38,0,192]⟩ [18014398509481984,36028797018963968,72057594037927936,144115188075855872,288230376151711744,576460752303423488,1152921504606846976,
 2305843009213693952,0] [256,18014398509481984,512,4,144115188075855872,288230376151711744,684547143360315392,256,3458764513820540928] (.take 0 (.take 1 (.take 2 (.take 3 (.cK 4 (.cK 5 (.tail [.run, .run, .run])))))))) (.s .r
 .l))))))))
theorem W.akr (cE:Bool) (bq:aa) (br:aa) (bt:aa) (key:aa) (val:aa) (w:World) (Q:Value→World→Prop) (h:W.yJ cE bq br bt key val w Q):aQ Tryz.prog F.yJ #[.agg #[.bool cE, .slice bq.a bq.len bq.cap, .slice br.a br.len br.cap, .slice bt.a bt.len bt.cap], .slice key.a key.len key.cap, .slice val.a val.len val.cap] w Q:=okF A.yJ Tryz.func68 (by kernel_rfl) (by kernel_rfl) h
def W.Dn (s:Option Addr) (w:World) (Q:Value→World→Prop):Prop:=aB (!(Option.isNone s)) (∃bc:Addr,s=some bc∧aq w (bc.add 1) fun s2=>ee F.Dm #[.slice s2.a s2.len s2.cap] w fun
 bJ aS=>∃hL:Addr,s=some hL∧st aS (hL.add 2) (.slice bJ.a bJ.len bJ.cap) fun bh=>Q (.tuple #[]) bh) (Q (.tuple #[]) w)
def A.Dn:bG:=(.s .r (.c .r .l))
theorem W.amP (s:Option Addr) (w:World) (Q:Value→World→Prop) (h:W.Dn s w Q):aQ Tryz.prog F.Dn #[.pointer s] w Q:=okF A.Dn Tryz.func74 (by kernel_rfl) (by kernel_rfl) h
def W.y0 (c:Option Addr) (no:Int) (w:World) (Q:Value→World→Prop):Prop:=aB (Option.isNone c) (Q (.pointer none) w) (∃bc:Addr,c=some bc∧aq w (bc.add 1) fun s2=>∃ (j8:Int→World→Prop) (mZ:Int→
 World→Nat),j8 0 w∧∀ (n5:Int) (a8:World),j8 n5 a8→aB (decide (n5<(s2.len:Int))) (∃kl:Addr,c=some kl∧aq a8 (kl.add 1) fun ec=>∃a9:Addr,ec.a=some a9∧a7 n5 ec.len∧∃hE:Addr,(some (a9.add (Int.toNat n5*6))
 :Option Addr)=some hE∧bS a8 hE fun r4=>cY (fun p_:Bool→World→Prop=>aB r4 (∃kq:Addr,(some (a9.add (Int.toNat n5*6)):Option Addr)=some kq∧bI a8 (kq.add 3) fun n14=>p_ (n14==no) a8) (p_ false a8)) (fun
 (we:Bool) cF=>aB we (Q (.pointer (some (a9.add (Int.toNat n5*6)))) cF) (j8 (aC (n5+1)) cF∧mZ (aC (n5+1)) cF<mZ n5 a8))) (Q (.pointer none) a8))
def A.y0:bG:=(.s .r (.s bc (.s (.s .r (.dn (.loop [(14,(.int .i64))] [0,1,13] (.s .r (.s (.c .l .l) (.s (.dn (.s .r (.s .r (.s (.f_ [.run, .run, .run, .run, .run, .split 6]) (.c (.s .r .l) .l))))) .r)))))) (.s .r
 .l))))
theorem W.alv (c:Option Addr) (no:Int) (w:World) (Q:Value→World→Prop) (h:W.y0 c no w Q):aQ Tryz.prog F.y0 #[.pointer c, .int .i64 no] w Q:=okF A.y0 Tryz.func76 (by kernel_rfl) (by kernel_rfl) h
def W.th (s:aa) (no:Int) (w:World) (Q:Value→World→Prop):Prop:=(8:Int)≠0∧∃bc:Addr,s.a=some bc∧a7 (aC (Int.tdiv no 8)) s.len∧h8 w (bc.add (Int.toNat (aC (Int.tdiv no 8))*1)) fun db=>(8:Int)≠0
 ∧(0:Int)≤(Int.tmod no 8)∧Q (.bool (((tW .u8 (Int.fdiv db (2^(min (Int.toNat (Int.tmod no 8)) 8))) 1):Int)==1)) w
def A.th:bG:=(.s .r (.s .r .l))
theorem W.amm (s:aa) (no:Int) (w:World) (Q:Value→World→Prop) (h:W.th s no w Q):aQ Tryz.prog F.th #[.slice s.a s.len s.cap, .int .i64 no] w Q:=okF A.th Tryz.func78 (by kernel_rfl) (by kernel_rfl) h
def W.CX (d:Option Addr) (i:Int) (w:World) (Q:Value→World→Prop):Prop:=ay (w.alloc pN) fun ag=>∃cS:Addr,d=some cS∧∃q7:Option Nat,ag.cell? (cS.add 5)=some (.map q7)∧∃cN:aa,∃bH:World,
 Sem.run Tryz.prog (Instr.lookup ah.AH (.map q7) (.int .i64 i) false) ag= .ok (.slice cN.a cN.len cN.cap) bH∧aB (decide ((cN.len:Int)>0)) (∃hL:Addr,cN.a=some hL∧((0:Int)≤(aC ((cN.len:Int)-1))∧(aC
 ((cN.len:Int)-1))<(cN.len:Int))∧∃Jf:List Value,eN bH (hL.add (Int.toNat (aC ((cN.len:Int)-1))*256)) 0 256=some Jf∧S_ bH w Jf Q) (∃hE:Addr,d=some hE∧aq bH (hE.add 4) fun ed=>ON ed i bH 256 fun auA=>
 S_ bH w auA Q)
def A.CX:bG:=(.s .r (.s (.s .r bc) (.s .r .l)))
theorem W.alb (d:Option Addr) (i:Int) (w:World) (Q:Value→World→Prop) (h:W.CX d i w Q):aQ Tryz.prog F.CX #[.pointer d, .int .i64 i] w Q:=okF A.CX Tryz.func79 (by kernel_rfl) (by kernel_rfl) h
def W.D5 (t:Option Addr) (w:World) (Q:Value→World→Prop):Prop:=aB (Option.isNone t) (Q (.tuple #[.slice none 0 0, .int .i64 0, .int .i64 1]) w) (ay (w.alloc (.cells #[.pointer t, .slice none 0 0, .int .i64 0]
 ah.adt)) fun ag=>cY (fun ew:World→Prop=>∃a3:Addr,t=some a3∧bI ag (a3.add 4) fun fL=>aB (decide (fL>0)) (ay (ag.drew) fun bH=>∃hL:Addr,t=some hL∧¬False∧bI bH (hL.add 3) fun n7=>∃im:Addr,t=some
 im∧¬False∧bI bH (im.add 4) fun n9=>aT F.BN #[.pointer (some (ai w)), .int .i64 n7, .int .i64 n9, .slice none 0 0, .slice none 0 0] bH fun n12 bK=>aB (n12 !=0) (Q (.tuple #[.slice none 0 0, .int .i64 0, .int .i64
 n12]) bK) (ew bK)) (ew ag)) (fun b2=>∃k0:Addr,(some (ai w):Option Addr)=some k0∧aq b2 (k0.add 1) fun ff=>bC F.VX #[.slice ff.a ff.len ff.cap] b2 fun cF=>ay (cF.drew) fun e6=>∃rn:Addr,
 (some (ai w):Option Addr)=some rn∧¬False∧aq e6 (rn.add 1) fun e7=>∃kF:Addr,(some (ai w):Option Addr)=some kF∧¬False∧bI e6 (kF.add 2) fun n22=>Q (.tuple #[.slice e7.a e7.len e7.cap, .int .i64 n22, .int
 .i64 0]) e6))
def A.D5:bG:=(.s .r (.s bc (.s .r (.s (.kZ [] [5] (.s .r (.c (.s (.er 9 false ⟨[0,0,2,4,8,0,32,64,128,273,1023],[0,0,2,4,8,0,32,64,128,273,512]⟩ [131072,262144,524288,1048576,2097152,4194304,
 8388608,16777216,33554432,67108864,64] [32,1,262144,524288,1048576,1,4194304,8388608,16777216,35782656,67108864] (.take 0 (.take 1 (.take 2 (.take 3 (.take 4 (.take 5 (.take 6 (.take 7 (.take 8 (.tail [.run, .run])))))))))))
 bc) .l))) (.s .r (.s (.er 9 false ⟨[0,1,2,4,0,16,32,64,15,511,1023],[0,1,2,4,0,16,32,64,8,128,0]⟩ [34359738368,68719476736,137438953472,274877906944,549755813888,1099511627776,2199023255552,4398046511104,4,8,
 16] [32,34359738368,68719476736,137438953472,32,549755813888,1099511627776,2199023255552,274877906944,4398046511104,0] (.take 0 (.take 1 (.take 2 (.take 3 (.take 4 (.take 5 (.take 6 (.take 7 (.take 8 (.tail [.run, .run])))))))))))
 .l))))))
theorem W.arK (t:Option Addr) (w:World) (Q:Value→World→Prop) (h:W.D5 t w Q):aQ Tryz.prog F.D5 #[.pointer t] w Q:=okF A.D5 Tryz.func80 (by kernel_rfl) (by kernel_rfl) h
def W.yv (no:Int) (b:aa) (w:World) (Q:Value→World→Prop):Prop:=ay (w.alloc z3) fun ag=>aB ((b.len:Int) !=256) (cZ ag (ai w) [.int .i64 0, .int .u64 0, .slice none 0 0]∧(3:Nat)=3∧ay (setCells ag (ai w)
 0 [.int .i64 0, .int .u64 0, .slice none 0 0]) fun aw=>bI aw (ai w) fun bk=>kU aw (Addr.add (ai w) 1) fun fL=>aq aw (Addr.add (ai w) 2) fun bJ=>Q (.tuple #[.agg #[.int .i64 bk, .int .u64 fL, .slice bJ.a bJ.len bJ.cap], .int .i64 9])
 aw) (((0:Int)≤4∧4≤((b.cap:Nat):Int))∧∃cM:ByteArray,∃bh:World,Sem.run Tryz.prog (convert ah.cm ah.string (.slice (bg b.a 1 0 b.cap) ((Int.toNat 4)-0) (b.cap-0))) ag= .ok (.string cM) bh∧aB
 (!(ByteArray.toList cM==ByteArray.toList (ByteArray.mk #[83,84,78,67]))) (cZ bh (ai w) [.int .i64 0, .int .u64 0, .slice none 0 0]∧(3:Nat)=3∧ay (setCells bh (ai w) 0 [.int .i64 0, .int .u64 0, .slice none 0 0]) fun bW=>
 Sn bW w Q) (∃i_:Addr,b.a=some i_∧a7 4 b.len∧h8 bh (i_.add (Int.toNat 4*1)) fun n13=>aB (n13 !=1) (cZ bh (ai w) [.int .i64 0, .int .u64 0, .slice none 0 0]∧(3:Nat)=3∧ay (setCells bh (ai w) 0 [.int .i64 0, .int
 .u64 0, .slice none 0 0]) fun c0=>bI c0 (ai w) fun n15=>kU c0 (Addr.add (ai w) 1) fun n16=>aq c0 (Addr.add (ai w) 2) fun gy=>Q (.tuple #[.agg #[.int .i64 n15, .int .u64 n16, .slice gy.a gy.len gy.cap], .int .i64 12]) c0)
 (nt F.vg #[.slice b.a b.len b.cap] bh fun n20 e6=>JX F.rC #[.slice b.a b.len b.cap, .int .i64 20, .int .i64 24] e6 fun n23 dO=>aB (((IntKind.wrap .u64 n20):Int) !=n23) (cZ dO (ai w) [.int .i64 0, .int .u64
 0, .slice none 0 0]∧(3:Nat)=3∧ay (setCells dO (ai w) 0 [.int .i64 0, .int .u64 0, .slice none 0 0]) fun cW=>bI cW (ai w) fun n25=>kU cW (Addr.add (ai w) 1) fun n26=>aq cW (Addr.add (ai w) 2) fun dh=>Q (.tuple #[.agg
 #[.int .i64 n25, .int .u64 n26, .slice dh.a dh.len dh.cap], .int .i64 5]) cW) (JX F.rC #[.slice b.a b.len b.cap, .int .i64 6, .int .i64 8] dO fun n30 fC=>∃n4:Addr,b.a=some n4∧a7 5 b.len∧h8 fC (n4.add
 (Int.toNat 5*1)) fun n32=>ba F.GL #[.int .i64 (aC n32)] fC fun zT e1=>cY (fun afZ:Bool→World→Prop=>aB ((!zT)||(decide (((aC n30):Int)>232))) (afZ true e1) (((0:Int)≤(aC (24+(aC n30)))∧(aC (24+(aC
 n30)))≤(b.len:Int))∧ba F.yu #[.slice (bg b.a 1 (Int.toNat (aC (24+(aC n30)))) b.cap) (b.len-(Int.toNat (aC (24+(aC n30))))) (b.cap-(Int.toNat (aC (24+(aC n30)))))] e1 fun Xx kn=>afZ (!Xx) kn)) (fun (XD:Bool)
 dE=>aB XD (cZ dE (ai w) [.int .i64 0, .int .u64 0, .slice none 0 0]∧(3:Nat)=3∧ay (setCells dE (ai w) 0 [.int .i64 0, .int .u64 0, .slice none 0 0]) fun gK=>Sn gK w Q) (ba F.GM #[.int .i64 no] dE fun Xu hX=>
 cY (fun af0:Bool→World→Prop=>aB (!Xu) (af0 true hX) (JX F.rC #[.slice b.a b.len b.cap, .int .i64 8, .int .i64 12] hX fun auB oM=>af0 (auB !=(IntKind.wrap .u64 no)) oM)) (fun (tp:Bool) hM=>aB tp (cZ hM
 (ai w) [.int .i64 0, .int .u64 0, .slice none 0 0]∧(3:Nat)=3∧ay (setCells hM (ai w) 0 [.int .i64 0, .int .u64 0, .slice none 0 0]) fun fk=>bI fk (ai w) fun B8=>kU fk (Addr.add (ai w) 1) fun auC=>aq fk (Addr.add (ai w) 2)
 fun j4=>Q (.tuple #[.agg #[.int .i64 B8, .int .u64 auC, .slice j4.a j4.len j4.cap], .int .i64 1]) fk) (EY F.yn #[.slice b.a b.len b.cap, .int .i64 24, .int .i64 (aC n30)] hM fun h_ af1 qX=>ay (qX.drew) fun di=>∃oK:
 Nat→Prop,∃XN:Addr,b.a=some XN∧a7 5 b.len∧¬oK (XN.add (Int.toNat 5*1)).block∧h8 di (XN.add (Int.toNat 5*1)) fun af2=>JX F.rC #[.slice b.a b.len b.cap, .int .i64 12, .int .i64 20] di fun Rm oY=>ao
 oK di oY∧cZ oY (ai w) [.int .i64 (aC af2), .int .u64 Rm, .slice h_.a h_.len h_.cap]∧(3:Nat)=3∧ay (setCells oY (ai w) 0 [.int .i64 (aC af2), .int .u64 Rm, .slice h_.a h_.len h_.cap]) fun ln=>bI ln (ai w) fun
 auD=>kU ln (Addr.add (ai w) 1) fun Rn=>aq ln (Addr.add (ai w) 2) fun zQ=>Q (.tuple #[.agg #[.int .i64 auD, .int .u64 Rn, .slice zQ.a zQ.len zQ.cap], .int .i64 0]) ln))))))))
def A.yv:bG:=(.s .r (.s (.dn (.s .r (.c (.s .r .l) (.s .r (.c (.s .r .l) (.s .r (.c (.s .r .l) bc))))))) (.s .r (.s (.dn (.s (.f_ [.run, .run, .run, .run, .run, .run, .run, .pure 2, .run, .run, .run, .split 6]) (.c (.s .r
 .l) im))) (.s .r (.s (.er 7 true ⟨[0,1,2,4,0,16,0,104,255,511],[0,1,2,4,0,16,0,104,128,0]⟩ [37778931862957161709568,75557863725914323419136,151115727451828646838272,302231454903657293676544,604462909807314587353088,
 1208925819614629174706176,2417851639229258349412352,4835703278458516698824704,0,32] [2,37778931862957161709568,75557863725914323419136,151115727451828646838272,2,604462909807314587353088,128,3929008913747544817795072,
 4835703278458516698824720,0] (.take 0 (.take 1 (.take 2 (.take 3 (.take 4 (.take 6 (.cK 5 (.tail [.run, .run, .run]))))))))) .l))))))
theorem W.ai1 (no:Int) (b:aa) (w:World) (Q:Value→World→Prop) (h:W.yv no b w Q):aQ Tryz.prog F.yv #[.int .i64 no, .slice b.a b.len b.cap] w Q:=okF A.yv Tryz.func88 (by kernel_rfl) (by kernel_rfl) h
def W.Dk (s:Option Addr) (no:Int) (w:World) (Q:Value→World→Prop):Prop:=ba F.y3 #[.pointer s, .int .i64 no] w fun eP ag=>cY (fun lN:Bool→World→Prop=>aB eP (∃a5:Addr,s=some a5∧aq
 ag (a5.add 1) fun cM=>ba F.th #[.slice cM.a cM.len cM.cap, .int .i64 no] ag fun iY bh=>lN iY bh) (lN false ag)) (fun (n_:Bool) b9=>Q (.bool n_) b9)
def A.Dk:bG:=(.s .r (.s (.f_ [.run, .run, .run, .run, .split 6]) .l))
theorem W.amF (s:Option Addr) (no:Int) (w:World) (Q:Value→World→Prop) (h:W.Dk s no w Q):aQ Tryz.prog F.Dk #[.pointer s, .int .i64 no] w Q:=okF A.Dk Tryz.func92 (by kernel_rfl) (by kernel_rfl) h
def W.Cw (no:Int) (Ro:Int) (Rp:Int) (Er:aa) (w:World) (Q:Value→World→Prop):Prop:=ay (w.alloc (.cells #[.int .i64 Ro, .int .u64 Rp, .slice Er.a Er.len Er.cap] ah.JW)) fun ag=>
 ba F.GM #[.int .i64 no] ag fun fa aw=>cY (fun oZ:Bool→World→Prop=>aB (!fa) (oZ true aw) (bI aw (ai w) fun n6=>ba F.GL #[.int .i64 n6] aw fun iY bh=>oZ (!iY) bh)) (fun (n_:Bool) b9=>aB n_ (Q (.tuple #[.slice
 none 0 0, .int .i64 1]) b9) (aq b9 (Addr.add (ai w) 2) fun fJ=>aB (decide ((fJ.len:Int)>232)) (Q (.tuple #[.slice none 0 0, .int .i64 10]) b9) (ay (b9.alloc (.cells #[.int .u8 83, .int .u8 84, .int .u8 78, .int .u8 67] ah.uint8))
 fun b2=>∃c_:aa,∃e5:World,Sem.run Tryz.prog (convert ah.cm ah.cm (.slice (some (ai b9)) 4 4)) b2= .ok (.slice c_.a c_.len c_.cap) e5∧bI e5 (ai w) fun n16=>ay (e5.alloc (.cells #[.int .u8 1, .int .u8
 (IntKind.wrap .u8 n16)] ah.uint8)) fun ep=>ay (ep.alloc (.cells #[.slice c_.a c_.len c_.cap, .slice (some (ai e5)) 2 2] ah.cm)) fun e6=>ee F.s4 #[.slice (some (ai ep)) 2 2] e6 fun e4 dp=>aq dp (Addr.add (ai
 w) 2) fun fW=>ee F.pe #[.slice e4.a e4.len e4.cap, .int .u64 (IntKind.wrap .u64 (fW.len:Int)), .int .i64 2] dp fun kr kJ=>ee F.pe #[.slice kr.a kr.len kr.cap, .int .u64 (IntKind.wrap .u64 no), .int .i64 4] kJ fun
 eV cv=>kU cv (Addr.add (ai w) 1) fun n29=>ee F.pe #[.slice eV.a eV.len eV.cap, .int .u64 n29, .int .i64 8] cv fun de gn=>cY (fun GO:aa→World→Prop=>ay (gn.drew) fun eR=>∃Jk:Nat→Prop,¬Jk (Addr.add
 (ai w) 2).block∧aq eR (Addr.add (ai w) 2) fun jL=>¬Jk (Addr.add (ai w) 2).block∧aq eR (Addr.add (ai w) 2) fun kt=>(((0:Int)≤4∧(4:Int)≤4∧(4:Int)≤yp∧((1:Nat):Int)*4≤140737488355328)∧ay (eR.alloc
 (.cells (pM Tryz.prog ah.uint8 (Int.toNat 4)) ah.uint8)) fun jJ=>ao Jk eR jJ∧(Si kt)∧ay (jJ.alloc (.cells (pM Tryz.prog ah.uint8 (Int.toNat (aC (232-(kt.len:Int))))) ah.uint8)) fun lQ=>ao Jk jJ lQ∧Sj lQ de
 eR jL jJ kt GO)∧((Si kt)∧ay (eR.alloc (.cells (pM Tryz.prog ah.uint8 (Int.toNat (aC (232-(kt.len:Int))))) ah.uint8)) fun mb=>ao Jk eR mb∧((0:Int)≤4∧(4:Int)≤4∧(4:Int)≤yp∧((1:Nat):Int)*4≤
 140737488355328)∧ay (mb.alloc (.cells (pM Tryz.prog ah.uint8 (Int.toNat 4)) ah.uint8)) fun j1=>ao Jk mb j1∧Sj j1 de mb jL eR kt GO)) (fun (gi:aa) rQ=>ay (rQ.drew) fun ko=>∃axD:Nat→Prop,((0:Int)≤20∧
 20≤(gi.len:Int))∧nt F.vg #[.slice gi.a gi.len gi.cap] ko fun B8 hM=>∃axE:Nat→Prop,ee F.pe #[.slice none 0 0, .int .u64 (IntKind.wrap .u64 B8), .int .i64 4] hM fun fq DI=>∃XO:Int,∃fz:World,
 Sem.run Tryz.prog (Builtin.copy_ #[ah.cm,ah.cm] ah.int #[.slice (bg gi.a 1 (Int.toNat 20) gi.cap) (gi.len-(Int.toNat 20)) (gi.cap-(Int.toNat 20)), .slice fq.a fq.len fq.cap]) DI= .ok (.int .i64 XO) fz∧Q
 (.tuple #[.slice gi.a gi.len gi.cap, .int .i64 0]) fz))))
def A.Cw:bG:=(.s .r (.s (.dn (.s (.f_ [.run, .run, .run, .run, .split 4]) (.c (.s .r .l) bc))) (.s .r (.s .r (.s .r (.s .r (.s (.kZ [(6, .slice)] [] (.er 9 true ⟨[0,0,0,4,0,16,32,64,128,267,512,2047],[0,0,0,4,
 0,16,32,64,128,267,512,1025]⟩ [17592186044416,35184372088832,70368744177664,140737488355328,281474976710656,562949953421312,1125899906842624,2251799813685248,4503599627370496,9007199254740992,18014398509481984,64] [64,0,
 8,70368744177664,8,281474976710656,562949953421312,1125899906842624,2251799813685248,4697113673859072,9007199254740992,18014398509481984] (.take 0 (.take 2 (.take 3 (.take 4 (.take 5 (.take 6 (.take 7 (.two 1 (.cK 8 (.tail [.run,
 .run, .run])) 8 (.cK 1 (.tail [.run, .run, .run])))))))))))) (.s (.er 6 true ⟨[0,1,0,4,8,24,34],[0,1,0,4,8,16,34]⟩ [36028797018963968,72057594037927936,144115188075855872,288230376151711744,576460752303423488,
 1152921504606846976,2305843009213693952] [64,36028797018963968,64,144115188075855872,288230376151711744,576460752303423488,1224979098644774912] (.take 0 (.take 1 (.take 2 (.out 3 true (.take 4 (.out 5 false (.tail [.run])))))))) (.s
 .r .l)))))))))
theorem W.aiV (no:Int) (Ro:Int) (Rp:Int) (Er:aa) (w:World) (Q:Value→World→Prop) (h:W.Cw no Ro Rp Er w Q):aQ Tryz.prog F.Cw #[.int .i64 no, .agg #[.int .i64 Ro, .int .u64 Rp, .slice Er.a Er.len Er.cap]] w Q:=okF A.Cw Tryz.func99 (by kernel_rfl) (by kernel_rfl) h
def W.sB (t:Option Addr) (no:Int) (leaf:Bool) (w:World) (Q:Value→World→Prop):Prop:=ay (w.alloc dx) fun ag=>∃cS:Addr,t=some cS∧∃iK:Option Addr,ag.cell? cS=some (.pointer iK)∧gl
 F.Da #[.pointer iK, .int .i64 no] ag fun cM n7 bp=>aB (n7 !=0) (TH bp w Q n7) (aaK F.yv #[.int .i64 no, .slice cM.a cM.len cM.cap] bp fun n15 n16 gy n18 b2=>ay (b2.alloc z3) fun dp=>cZ dp (ai b2)
 [.int .i64 n15, .int .u64 n16, .slice gy.a gy.len gy.cap]∧(3:Nat)=3∧ay (setCells dp (ai b2) 0 [.int .i64 n15, .int .u64 n16, .slice gy.a gy.len gy.cap]) fun cB=>aB (n18 !=0) (TH cB w Q n18) (ay (cB.drew) fun cv=>¬
 False∧kU cv (Addr.add (ai b2) 1) fun n27=>∃a28:Addr,t=some a28∧¬False∧kU cv (a28.add 2) fun n29=>aB (decide (n27>n29)) (cY (fun af3:Bool→World→Prop=>aB true (af3 true cv) (bI cv (ai b2) fun n31=>cY (fun
 af4:Bool→World→Prop=>aB (n31 !=1) (bI cv (ai b2) fun n33=>af4 (n33 !=2) cv) (af4 false cv)) (fun (XP:Bool) lC=>af3 XP lC))) (fun (Jh:Bool) kn=>aB Jh (cZ kn (ai w) [.bool false, .slice none 0 0, .slice
 none 0 0, .slice none 0 0]∧(4:Nat)=4∧ay (setCells kn (ai w) 0 [.bool false, .slice none 0 0, .slice none 0 0, .slice none 0 0]) fun jJ=>J4 jJ w Q) (aq kn (Addr.add (ai b2) 2) fun hU=>uw F.wU #[.bool leaf, .slice
 hU.a hU.len hU.cap] kn fun B9 mK nF jA auE mb=>cZ mb (ai w) [.bool B9, .slice mK.a mK.len mK.cap, .slice nF.a nF.len nF.cap, .slice jA.a jA.len jA.cap]∧(4:Nat)=4∧ay (setCells mb (ai w) 0 [.bool B9,
 .slice mK.a mK.len mK.cap, .slice nF.a nF.len nF.cap, .slice jA.a jA.len jA.cap]) fun rQ=>O3 rQ w Q auE))) (¬False∧bI cv (ai b2) fun B8=>cY (fun ug:Bool→World→Prop=>aB (!((B8==1)==leaf)) (ug true cv)
 (bI cv (ai b2) fun XQ=>cY (fun af5:Bool→World→Prop=>aB (XQ !=1) (bI cv (ai b2) fun XR=>af5 (XR !=2) cv) (af5 false cv)) (fun (auF:Bool) fz=>ug auF fz))) (fun (auG:Bool) sT=>aB auG (cZ sT (ai w)
 [.bool false, .slice none 0 0, .slice none 0 0, .slice none 0 0]∧(4:Nat)=4∧ay (setCells sT (ai w) 0 [.bool false, .slice none 0 0, .slice none 0 0, .slice none 0 0]) fun tb=>J4 tb w Q) (aq sT (Addr.add (ai b2) 2) fun fI=>
 uw F.wU #[.bool leaf, .slice fI.a fI.len fI.cap] sT fun Rq rm ju l5 auH p5=>cZ p5 (ai w) [.bool Rq, .slice rm.a rm.len rm.cap, .slice ju.a ju.len ju.cap, .slice l5.a l5.len l5.cap]∧(4:Nat)=4∧ay
 (setCells p5 (ai w) 0 [.bool Rq, .slice rm.a rm.len rm.cap, .slice ju.a ju.len ju.cap, .slice l5.a l5.len l5.cap]) fun rH=>O3 rH w Q auH)))))
def A.sB:bG:=(.s .r (.s .r (.s bc (.s .r (.s bc (.s (.s (.er 12 false ⟨[0,1,0,4,8,16,34,64,128,384,640,128,3200,4224,8320,16384,49152,81920,147456,262144,786432,1310720,2375680,4210688],[0,1,0,4,
 8,16,34,64,128,384,640,128,3200,4224,8192,16384,49152,81920,147456,262144,786432,1310720,2375680,4210688]⟩ [17179869184,34359738368,68719476736,137438953472,274877906944,549755813888,1099511627776,2199023255552,
 4398046511104,8796093022208,17592186044416,35184372088832,70368744177664,140737488355328,281474976710656,562949953421312,1125899906842624,2251799813685248,4503599627370496,9007199254740992,18014398509481984,36028797018963968,
 72057594037927936,144115188075855872] [1024,17179869184,1,68719476736,137438953472,274877906944,584115552256,1099511627776,2199023256576,6597069766656,10995116277760,2199023255556,54975581388800,72567767433216,
 140737488355328,281474976711680,844424930131968,1407374883553280,2533274790395904,4503599627371520,13510798882111488,22517998136852480,40813871623045120,72339069014638592] (.take 0 (.take 1 (.take 2 (.take 3 (.take 4 (.take 5
 (.take 6 (.take 7 (.sp 41 (.take 8 (.take 9 (.take 10 (.take 11 (.tail [.run, .run, .run, .split 8, .run, .run, .run, .split 3, .run, .run, .run, .run]))))) (.take 8 (.take 9 (.take 10 (.take 11 (.tail [.run, .run, .run, .split 8, .run,
 .run, .run, .split 3, .run, .run, .run, .run]))))))))))))))) (.c (.s .r .l) .l)) (.s .r .l)))))))
theorem W.ana (t:Option Addr) (no:Int) (leaf:Bool) (w:World) (Q:Value→World→Prop) (h:W.sB t no leaf w Q):aQ Tryz.prog F.sB #[.pointer t, .int .i64 no, .bool leaf] w Q:=okF A.sB Tryz.func104 (by kernel_rfl) (by kernel_rfl) h
def W.vy (cE:Bool) (bq:aa) (br:aa) (bt:aa) (key:aa) (w:World) (Q:Value→World→Prop):Prop:=ay (w.alloc (.cells #[.bool cE, .slice bq.a bq.len bq.cap, .slice br.a br.len
 br.cap, .slice bt.a bt.len bt.cap] ah.cO)) fun ag=>bS ag (ai w) fun cG=>aq ag (Addr.add (ai w) 1) fun bY=>aq ag (Addr.add (ai w) 2) fun cN=>aq ag (Addr.add (ai w) 3) fun bJ=>dN F.rF #[.agg #[.bool cG,
 .slice bY.a bY.len bY.cap, .slice cN.a cN.len cN.cap, .slice bJ.a bJ.len bJ.cap], .slice key.a key.len key.cap] ag fun n8 iY a8=>cY (fun yc:Int→World→Prop=>aB iY (yc (aC (n8+1)) a8) (yc n8 a8)) (fun (n11:Int) cJ=>Q (.int
 .i64 n11) cJ)
def A.vy:bG:=(.s .r (.s .r (.s (.kZ [(5,(.int .i64))] [] (.s .r (.c .r .l))) (.s .r .l))))
theorem W.akn (cE:Bool) (bq:aa) (br:aa) (bt:aa) (key:aa) (w:World) (Q:Value→World→Prop) (h:W.vy cE bq br bt key w Q):aQ Tryz.prog F.vy #[.agg #[.bool cE, .slice bq.a bq.len bq.cap, .slice br.a br.len br.cap, .slice bt.a bt.len bt.cap], .slice key.a key.len key.cap] w Q:=okF A.vy Tryz.func105 (by kernel_rfl) (by kernel_rfl) h
def W.rF (cE:Bool) (bq:aa) (br:aa) (bt:aa) (key:aa) (w:World) (Q:Value→World→Prop):Prop:=ay (w.alloc (.cells #[.bool cE, .slice bq.a bq.len bq.cap, .slice br.a br.len
 br.cap, .slice bt.a bt.len bt.cap] ah.cO)) fun ag=>aq ag (Addr.add (ai w) 1) fun s2=>dN F.CK #[.slice s2.a s2.len s2.cap, .slice key.a key.len key.cap, .func (.func
 F.m9) #[] #[]] ag fun n5 lv aS=>Q (.tuple #[.int .i64 n5, .bool lv]) aS
def A.rF:bG:=(.s .r (.s .r .l))
theorem W.akk (cE:Bool) (bq:aa) (br:aa) (bt:aa) (key:aa) (w:World) (Q:Value→World→Prop) (h:W.rF cE bq br bt key w Q):aQ Tryz.prog F.rF #[.agg #[.bool cE, .slice bq.a bq.len bq.cap, .slice br.a br.len br.cap, .slice bt.a bt.len bt.cap], .slice key.a key.len key.cap] w Q:=okF A.rF Tryz.func106 (by kernel_rfl) (by kernel_rfl) h
def W.nS (cE:Bool) (bq:aa) (br:aa) (bt:aa) (w:World) (Q:Value→World→Prop):Prop:=ay (w.alloc (.cells #[.bool cE, .slice bq.a bq.len bq.cap, .slice br.a br.len br.cap,
 .slice bt.a bt.len bt.cap] ah.cO)) fun ag=>aq ag (Addr.add (ai w) 1) fun s2=>∃ (j8:Int→World→Prop) (mZ:Int→World→Nat),j8 0 ag∧∀ (n5:Int) (a8:World),j8 n5 a8→aB (decide (n5<(s2.len:Int))) (∃kl:
 Addr,s2.a=some kl∧a7 n5 s2.len∧aq a8 (kl.add (Int.toNat n5*1)) fun ec=>ba F.vq #[.slice ec.a ec.len ec.cap] a8 fun r4 b6=>cY (fun p_:Bool→World→Prop=>aB (!r4) (p_ true b6) (cY (fun af6:Bool→World→Prop
 =>aB (decide (n5>0)) (aq b6 (Addr.add (ai w) 1) fun c_=>∃mY:Addr,c_.a=some mY∧a7 (aC (n5-1)) c_.len∧aq b6 (mY.add (Int.toNat (aC (n5-1))*1)) fun dH=>aT F.m9 #[.slice dH.a dH.len dH.cap, .slice
 ec.a ec.len ec.cap] b6 fun n19 ep=>af6 (decide (n19≥0)) ep) (af6 false b6)) (fun (rf:Bool) dO=>p_ rf dO))) (fun (tF:Bool) kJ=>aB tF (Q (.bool false) kJ) (j8 (aC (n5+1)) kJ∧mZ (aC (n5+1)) kJ<mZ n5 a8))) (bS
 a8 (ai w) fun tM=>aB tM (aq a8 (Addr.add (ai w) 2) fun kr=>aq a8 (Addr.add (ai w) 1) fun gm=>cY (fun Ep:Bool→World→Prop=>aB ((kr.len:Int)==(gm.len:Int)) (aq a8 (Addr.add (ai w) 3) fun eV=>Ep ((eV.len:Int)==0)
 a8) (Ep false a8)) (fun (MS:Bool) gn=>cY (fun af7:Bool→World→Prop=>aB MS (aq gn (Addr.add (ai w) 2) fun de=>ba F.CC #[.slice de.a de.len de.cap, .func (.func F.wO) #[]
 #[]] gn fun zT e1=>af7 (!zT) e1) (af7 false gn)) (fun (Jh:Bool) kn=>Q (.bool Jh) kn))) (aq a8 (Addr.add (ai w) 1) fun ej=>cY (fun af8:Bool→World→Prop=>aB (decide ((ej.len:Int)>0)) (aq a8 (Addr.add (ai w) 3) fun
 eJ=>aq a8 (Addr.add (ai w) 1) fun qy=>af8 ((eJ.len:Int)==(aC ((qy.len:Int)+1))) a8) (af8 false a8)) (fun (auI:Bool) jl=>cY (fun af9:Bool→World→Prop=>aB auI (aq jl (Addr.add (ai w) 2) fun iJ=>af9 ((iJ.len:Int)
 ==0) jl) (af9 false jl)) (fun (B9:Bool) dy=>cY (fun af_:Bool→World→Prop=>aB B9 (aq dy (Addr.add (ai w) 3) fun jA=>ba F.CD #[.slice jA.a jA.len jA.cap, .func (.func F.wP) #[]
 #[]] dy fun auJ oM=>af_ (!auJ) oM) (af_ false dy)) (fun (tp:Bool) hM=>Q (.bool tp) hM)))))
def A.nS:bG:=(.s .r (.s (.s .r (.dn (.loop [(10,(.int .i64))] [1,8,9] (.s .r (.s (.c .l .l) (.s (.dn (.s .r (.s (.f_ [.run, .run, .run, .run, .split 13, .run, .run, .split 9]) (.c (.s .r .l) .l)))) .r)))))) (.s (.s .r (.c
 (.s .r (.s (.f_ [.run, .run, .run, .run, .run, .run, .run, .run, .split 4, .run, .run, .run, .run, .run, .split 5]) .l)) .l)) (.s .r (.s (.f_ [.run, .run, .run, .run, .run, .split 8, .run, .run, .run, .run, .run, .run, .run, .run, .run,
 .split 4, .run, .run, .run, .run, .run, .split 5]) .l)))))
theorem W.ajn (cE:Bool) (bq:aa) (br:aa) (bt:aa) (w:World) (Q:Value→World→Prop) (h:W.nS cE bq br bt w Q):aQ Tryz.prog F.nS #[.agg #[.bool cE, .slice bq.a bq.len bq.cap, .slice br.a br.len br.cap, .slice bt.a bt.len bt.cap]] w Q:=okF A.nS Tryz.func107 (by kernel_rfl) (by kernel_rfl) h
def W.fM (cE:Bool) (bq:aa) (br:aa) (bt:aa) (w:World) (Q:Value→World→Prop):Prop:=ay (w.alloc (.cells #[.bool cE, .slice bq.a bq.len bq.cap, .slice br.a br.len br.cap,
 .slice bt.a bt.len bt.cap] ah.cO)) fun ag=>ay (ag.alloc dx) fun aw=>ay (aw.drew) fun aS=>∃k9:Nat→Prop,¬k9 ((ai w):Addr).block∧bS aS (ai w) fun h7=>¬k9 (Addr.add (ai w) 3).block∧aq aS (Addr.add (ai w)
 3) fun cM=>(ee F.vx #[.slice cM.a cM.len cM.cap] aS fun dc bh=>ao k9 aS bh∧∃jt:Array Value,(∀b9:World,Sem.run Tryz.prog (Instr.build ah.cO #[(0, .bool h7),(3, .slice dc.a dc.len dc.cap)]) b9=
 .ok (.agg jt) b9)∧ay (bh.alloc dx) fun cJ=>ao k9 bh cJ∧SJ cJ bh jt w ag Q)∧(ay (aS.alloc dx) fun j2=>ao k9 aS j2∧ee F.vx #[.slice cM.a cM.len cM.cap] j2 fun fq DI=>ao k9 j2 DI∧∃aga:
 Array Value,(∀fz:World,Sem.run Tryz.prog (Instr.build ah.cO #[(0, .bool h7),(3, .slice fq.a fq.len fq.cap)]) fz= .ok (.agg aga) fz)∧SJ DI aS aga w ag Q)
def A.fM:bG:=(.s .r (.s (.er 7 true ⟨[0,1,0,4,8,18,0,127],[0,1,0,4,8,18,0,96]⟩ [256,512,1024,2048,4096,8192,8,0] [2,256,2,1024,2048,4608,0,8200] (.take 0 (.take 1 (.take 2 (.take 3 (.two 4 (.take 5
 (.cK 6 (.tail [.run]))) 6 (.cK 4 (.take 5 (.tail [.run]))))))))) (.s (.s .r (.dn (.loop [(17,(.int .i64))] [1,2,3,15,16] (.s .r (.s (.c .l .l) (.s (.dn (.s .r (.er 5 true ⟨[0,1,0,4,8,26,63,127],[0,1,0,4,8,18,0,96]⟩
 [2097152,4194304,8388608,16777216,33554432,67108864,134217728,0] [8,2097152,32,8388608,16777216,37748736,8,201326592] (.take 0 (.take 1 (.take 2 (.cK 3 (.cK 4 (.tail [.run, .run, .run]))))))))) .r)))))) (.s (.s .r (.dn
 (.loop [(32,(.int .i64))] [2,3,30,31] (.s .r (.s (.c .l .l) (.s (.dn (.s .r (.er 5 true ⟨[0,1,0,4,8,26,63,127],[0,1,0,4,8,18,0,96]⟩ [68719476736,137438953472,274877906944,549755813888,1099511627776,2199023255552,
 4398046511104,0] [8,68719476736,128,274877906944,549755813888,1236950581248,8,6597069766656] (.take 0 (.take 1 (.take 2 (.cK 3 (.cK 4 (.tail [.run, .run, .run]))))))))) .r)))))) (.s .r .l)))))
theorem W.ako (cE:Bool) (bq:aa) (br:aa) (bt:aa) (w:World) (Q:Value→World→Prop) (h:W.fM cE bq br bt w Q):aQ Tryz.prog F.fM #[.agg #[.bool cE, .slice bq.a bq.len bq.cap, .slice br.a br.len br.cap, .slice bt.a bt.len bt.cap]] w Q:=okF A.fM Tryz.func108 (by kernel_rfl) (by kernel_rfl) h
def W.zt (x:Addr) (tO:Addr) (w:World) (Q:Value→World→Prop):Prop:=bI w x fun dk=>aB (dk !=0) (ay (w.drew) fun aw=>¬False∧∃iK:Option Addr,aw.cell? tO=some (.pointer iK)∧¬False∧∃mG:Option
 Addr,aw.cell? tO=some (.pointer mG)∧∃a5:Addr,mG=some a5∧¬False∧aq aw (a5.add 1) fun cM=>bC F.Bt #[.pointer iK, .slice cM.a cM.len cM.cap] aw fun bh=>Q (.tuple #[]) bh) (Q (.tuple #[]) w)
def A.zt:bG:=(.s .r (.c (.er 5 false ⟨[0,0,2,4,8,17],[0,0,2,4,8,17]⟩ [16,32,64,128,256,512] [2,2,32,64,128,272] (.take 0 (.take 1 (.take 2 (.take 3 (.take 4 (.tail [.run]))))))) .l))
theorem W.auK (x:Addr) (tO:Addr) (w:World) (Q:Value→World→Prop):W.zt x tO w Q=Jc Tryz.prog aG A.zt Tryz.f110 [.pointer (some x), .pointer (some tO)] w Q:=by kernel_rfl
theorem W.acw (x:Addr) (tO:Addr) (w:World) (K:World→Prop) (h:W.zt x tO w fun _ ag=>K ag):Jd Tryz.prog F.zt #[.pointer (some x), .pointer (some tO)] w K:=
  auh Xt ⟨_,Tryz.func110,by kernel_rfl,by kernel_rfl⟩ Tryz.func110 (by kernel_rfl) (Eq.mp (W.auK x tO w _) h)
def W.Bt (c:Option Addr) (l:aa) (w:World) (Q:Value→World→Prop):Prop:=∃ (fQ:Int→World→Prop) (h5:Int→World→Nat),fQ 0 w∧∀ (bk:Int) (bp:World),fQ bk bp→aB (decide (bk<(l.len:Int))) (cY (fun
 oZ:World→Prop=>∃hL:Addr,l.a=some hL∧a7 bk l.len∧bI bp (hL.add (Int.toNat bk*1)) fun n7=>∃im:Addr,c=some im∧∃Es:Option Addr,bp.cell? im=some (.pointer Es)∧∃hE:Addr,Es=some hE∧∃wC:Option Addr,
 bp.cell? (hE.add 1)=some (.pointer wC)∧ba F.Dl #[.pointer wC, .int .i64 n7] bp fun auL cJ=>∃mY:Addr,c=some mY∧∃Et:Option Addr,cJ.cell? mY=some (.pointer Et)∧∃yd:Addr,Et=some yd∧∃agb
 :Option Addr,cJ.cell? (yd.add 1)=some (.pointer agb)∧aT F.Dj #[.pointer agb, .int .i64 n7] cJ fun n21 dp=>aB auL (∃a22:Addr,c=some a22∧∃agc:Option Addr,dp.cell? a22=some (.pointer agc)∧∃a24:
 Addr,agc=some a24∧∃agd:Option Addr,dp.cell? a24=some (.pointer agd)∧ba F.De #[.pointer agd, .int .i64 n7] dp fun zz cv=>oZ cv) (oZ dp)) (fun fy=>fQ (aC (bk+1)) fy∧h5 (aC (bk+1)) fy<h5 bk bp))
 (Q (.tuple #[]) bp)
def A.Bt:bG:=(.s .r (.dn (.loop [(9,(.int .i64))] [0,7,8] (.s .r (.s (.c .l .l) (.s (.kZ [] [0,7,8,9] (.dn (.s .r (.s .r (.s .r (.s .r (.c .r .l))))))) .r))))))
theorem W.ao3 (c:Option Addr) (l:aa) (w:World) (Q:Value→World→Prop) (h:W.Bt c l w Q):aQ Tryz.prog F.Bt #[.pointer c, .slice l.a l.len l.cap] w Q:=okF A.Bt Tryz.func111 (by kernel_rfl) (by kernel_rfl) h
def W.xT (c:Option Addr) (mH:aa) (u4:Bool) (od:aa) (oe:aa) (og:aa) (w:World) (Q:Value→World→Prop):Prop:=ay (w.alloc (.cells #[.bool u4, .slice od.a od.len
 od.cap, .slice oe.a oe.len oe.cap, .slice og.a og.len og.cap] ah.cO)) fun ag=>bS ag (ai w) fun cG=>aq ag (Addr.add (ai w) 1) fun bY=>aq ag (Addr.add (ai w) 2) fun cN=>aq ag
 (Addr.add (ai w) 3) fun bJ=>ay (ag.alloc dx) fun a8=>cZ a8 (ai ag) [.bool cG, .slice bY.a bY.len bY.cap, .slice cN.a cN.len cN.cap, .slice bJ.a bJ.len bJ.cap]∧(4:Nat)=4∧ay (setCells a8 (ai ag) 0 [.bool cG, .slice bY.a
 bY.len bY.cap, .slice cN.a cN.len cN.cap, .slice bJ.a bJ.len bJ.cap]) fun bh=>∃ (GP:Int→World→Prop) (MT:Int→World→Nat),GP (aC ((mH.len:Int)-1)) bh∧∀ (n10:Int) (b9:World),GP n10 b9→aB (decide (n10≥0)) (ay
 (b9.drew) fun cJ=>∃Rr:Nat→Prop,∃k0:Addr,c=some k0∧¬Rr (k0.add 2).block∧aq cJ (k0.add 2) fun ff=>∃oc:Addr,mH.a=some oc∧a7 n10 mH.len∧¬Rr (oc.add (Int.toNat n10*6)).block∧bI cJ (oc.add
 (Int.toNat n10*6)) fun n17=>ay (cJ.alloc (.cells #[.int .i64 n17] ah.int)) fun e6=>ao Rr cJ e6∧∃eI:aa,∃cB:World,Sem.run Tryz.prog (Builtin.append_ #[ah.eg,ah.eg] ah.eg #[.slice ff.a ff.len ff.cap,
 .slice (some (ai cJ)) 1 1]) e6= .ok (.slice eI.a eI.len eI.cap) cB∧ao Rr e6 cB∧∃kF:Addr,c=some kF∧st cB (kF.add 2) (.slice eI.a eI.len eI.cap) fun c5=>cY (fun MP:Bool→World→Prop=>aB (n10==0) (aq
 c5 (Addr.add (ai ag) 1) fun rp=>MP ((rp.len:Int)==0) c5) (MP false c5)) (fun (uO:Bool) cv=>aB uO (ay (cv.drew) fun m_=>∃Rs:Nat→Prop,¬Rs ((ai ag):Addr).block∧bS m_ (ai ag) fun MS=>aq m_ (Addr.add (ai
 ag) 1) fun h9=>aq m_ (Addr.add (ai ag) 2) fun ik=>aq m_ (Addr.add (ai ag) 3) fun de=>∃a33:Addr,c=some a33∧¬Rs a33.block∧∃MK:Option Addr,m_.cell? a33=some (.pointer MK)∧∃a35:Addr,MK=some a35∧¬Rs
 (a35.add 4).block∧bI m_ (a35.add 4) fun n36=>Io F.zk #[.agg #[.bool MS, .slice h9.a h9.len h9.cap, .slice ik.a ik.len ik.cap, .slice de.a de.len de.cap], .int .i64 n36] m_ fun n39 n40 n41 kn=>ao Rs m_ kn∧Q
 (.tuple #[.int .i64 n39, .int .i64 n40, .int .i64 n41]) kn) (cY (fun age:Option Addr→World→Prop=>aB (decide (n10>0)) (∃B_:Addr,mH.a=some B_∧a7 (aC (n10-1)) mH.len∧age (some (B_.add (Int.toNat (aC (n10-1))*
 6))) cv) (age none cv)) (fun (MU:Option Addr) j1=>bS j1 (ai ag) fun B9=>aq j1 (Addr.add (ai ag) 1) fun mK=>aq j1 (Addr.add (ai ag) 2) fun nF=>aq j1 (Addr.add (ai ag) 3) fun jA=>F6 F.zj #[.pointer c,
 .agg #[.bool B9, .slice mK.a mK.len mK.cap, .slice nF.a nF.len nF.cap, .slice jA.a jA.len jA.cap], .pointer MU] j1 fun il mi agf agh oM=>aB (agh !=0) (Q (.tuple #[.int .i64 0, .int .i64 0, .int .i64 agh]) oM) (aB (n10==
 0) (Io F.DN #[.pointer c, .slice il.a il.len il.cap] oM fun XQ auM XR yP=>Q (.tuple #[.int .i64 XQ, .int .i64 auM, .int .i64 XR]) yP) (∃q8:Addr,MU=some q8∧bS oM (q8.add 1) fun af1=>aq oM ((q8.add
 1).add 1) fun u5=>aq oM ((q8.add 1).add 2) fun ny=>aq oM ((q8.add 1).add 3) fun p9=>jt F.zc #[.agg #[.bool af1, .slice u5.a u5.len u5.cap, .slice ny.a ny.len ny.cap, .slice p9.a p9.len p9.cap], .int .i64
 mi, .int .i64 agf, .slice il.a il.len il.cap] oM fun agi nP fI gp sJ=>cZ sJ (ai ag) [.bool agi, .slice nP.a nP.len nP.cap, .slice fI.a fI.len fI.cap, .slice gp.a gp.len gp.cap]∧(4:Nat)=4∧ay (setCells sJ
 (ai ag) 0 [.bool agi, .slice nP.a nP.len nP.cap, .slice fI.a fI.len fI.cap, .slice gp.a gp.len gp.cap]) fun tx=>GP (aC (n10-1)) tx∧MT (aC (n10-1)) tx<MT n10 b9)))))) (bS b9 (ai ag) fun Rq=>aq b9 (Addr.add (ai ag)
 1) fun rm=>aq b9 (Addr.add (ai ag) 2) fun ju=>aq b9 (Addr.add (ai ag) 3) fun l5=>gl F.AZ #[.pointer c, .agg #[.bool Rq, .slice rm.a rm.len rm.cap, .slice ju.a ju.len ju.cap, .slice l5.a l5.len l5.cap]] b9
 fun qj XS jG=>aB (XS !=0) (Q (.tuple #[.int .i64 0, .int .i64 0, .int .i64 XS]) jG) (∃MV:Addr,qj.a=some MV∧a7 0 qj.len∧bI jG ((MV.add (Int.toNat 0*2)).add 1) fun auN=>Q (.tuple #[.int .i64 auN, .int .i64 1, .int
 .i64 0]) jG))
def A.xT:bG:=(.s .r (.s .r (.s (.s .r (.dn (.loop [(10,(.int .i64))] [0,1,9] (.s (.s .r (.c .l .l)) (.s (.dn (.s (.er 12 true ⟨[0,0,2,4,8,0,0,96,128,256,512,1040,4095,8191,12287],[0,0,2,4,8,0,0,
 96,128,256,512,1040,1,4096,10240]⟩ [33554432,67108864,134217728,268435456,536870912,1073741824,2147483648,4294967296,8589934592,17179869184,34359738368,68719476736,137438953472,274877906944,0] [1,1,67108864,
 134217728,268435456,2,1024,3221225472,4294967296,8589934592,17179869184,34896609280,33554432,137438953472,343597383680] (.take 0 (.take 1 (.take 2 (.take 3 (.take 4 (.take 5 (.take 6 (.take 7 (.take 8 (.take 9 (.cK 10 (.cK 11
 (.tail [.run, .run, .run])))))))))))))) (.s (.s (.f_ [.run, .run, .run, .split 4]) (.c (.s (.er 12 true ⟨[0,0,2,4,8,16,32,64,129,256,256,256,4095,8191,16383],[0,0,2,4,8,16,32,64,129,256,256,256,512,1024,2048]⟩
 [140737488355328,281474976710656,562949953421312,1125899906842624,2251799813685248,4503599627370496,9007199254740992,18014398509481984,36028797018963968,72057594037927936,144115188075855872,288230376151711744,64,128,256] [512,
 1,281474976710656,562949953421312,1125899906842624,2251799813685248,4503599627370496,9007199254740992,18155135997837312,36028797018963968,36028797018963968,36028797018963968,72057594037927936,144115188075855872,
 288230376151711744] (.take 0 (.take 1 (.take 2 (.take 3 (.take 4 (.take 5 (.take 6 (.take 7 (.cK 8 (.take 9 (.take 10 (.take 11 (.tail [.run, .run, .run])))))))))))))) .l) .l)) (.s .r (.s (.kZ [(11, .ptr)] [0,1,9,10] (.s .r (.c .r .l)))
 (.s .r (.s bc (.s bc .r)))))))) .r))))) i_)))
theorem W.ab2 (c:Option Addr) (mH:aa) (u4:Bool) (od:aa) (oe:aa) (og:aa) (w:World) (Q:Value→World→Prop) (h:W.xT c mH u4 od oe og w Q):aQ Tryz.prog F.xT #[.pointer c, .slice mH.a mH.len mH.cap, .agg #[.bool u4, .slice od.a od.len od.cap, .slice oe.a oe.len oe.cap, .slice og.a og.len og.cap]] w Q:=okF A.xT Tryz.func112 (by kernel_rfl) (by kernel_rfl) h
def W.Dq (n:Int) (w:World) (Q:Value→World→Prop):Prop:=Q (.bool ((decide (n≥1))&&(decide (n≤1600)))) w
def A.Dq:bG:=(.s .r a3)
theorem W.amZ (n:Int) (w:World) (Q:Value→World→Prop) (h:W.Dq n w Q):aQ Tryz.prog F.Dq #[.int .i64 n] w Q:=okF A.Dq Tryz.func114 (by kernel_rfl) (by kernel_rfl) h
def W.Dr (n:Int) (w:World) (Q:Value→World→Prop):Prop:=(8:Int)≠0∧Q (.int .i64 (aC (Int.tdiv (aC ((aC (n+8))-1)) 8))) w
def A.Dr:bG:=(.s .r (.s .r .l))
theorem W.am1 (n:Int) (w:World) (Q:Value→World→Prop) (h:W.Dr n w Q):aQ Tryz.prog F.Dr #[.int .i64 n] w Q:=okF A.Dr Tryz.func115 (by kernel_rfl) (by kernel_rfl) h
end
section
set_option maxRecDepth 100000
def W.AS (s:aa) (no:Int) (w:World) (Q:Value→World→Prop):Prop:=ay (w.drew) fun ag=>(8:Int)≠0∧∃cS:Addr,s.a=some cS∧a7 (aC (Int.tdiv no 8)) s.len∧¬False∧h8 ag (cS.add (Int.toNat (aC (Int.tdiv no
 8))*1)) fun bk=>(8:Int)≠0∧(0:Int)≤(Int.tmod no 8)∧∃a4:Addr,s.a=some a4∧a7 (aC (Int.tdiv no 8)) s.len∧st ag (a4.add (Int.toNat (aC (Int.tdiv no 8))*1)) (.int .u8 (Cp .u8 bk (IntKind.wrap .u8 (1*2^(min
 (Int.toNat (Int.tmod no 8)) 8))))) fun bH=>Q (.tuple #[]) bH
def A.AS:bG:=(.er 8 false ⟨[0,0,2,5,8,0,32,64,144,511,1023],[0,0,2,5,8,0,32,64,144,5,768]⟩ [16,32,64,128,256,512,1024,2048,4096,8192,0] [1,2,32,80,128,2,512,1024,2304,80,12288] (.take
 0 (.take 1 (.take 2 (.take 3 (.take 4 (.take 5 (.take 6 (.take 7 (.tail [.run, .run, .run]))))))))))
theorem W.amn (s:aa) (no:Int) (w:World) (Q:Value→World→Prop) (h:W.AS s no w Q):aQ Tryz.prog F.AS #[.slice s.a s.len s.cap, .int .i64 no] w Q:=okF A.AS Tryz.func116 (by kernel_rfl) (by kernel_rfl) h
def W.vq (j9:aa) (w:World) (Q:Value→World→Prop):Prop:=Q (.bool ((decide ((j9.len:Int)≥1))&&(decide ((j9.len:Int)≤24)))) w
def A.vq:bG:=a5
theorem W.ajm (j9:aa) (w:World) (Q:Value→World→Prop) (h:W.vq j9 w Q):aQ Tryz.prog F.vq #[.slice j9.a j9.len j9.cap] w Q:=okF A.vq Tryz.func118 (by kernel_rfl) (by kernel_rfl) h
def W.BN (j:Option Addr) (no:Int) (level:Int) (low:aa) (high:aa) (w:World) (Q:Value→World→Prop):Prop:=∃bc:Addr,j=some bc∧∃cx:Option Addr,w.cell? bc=some (.pointer cx)∧uw F.sB
 #[.pointer cx, .int .i64 no, .bool (level==1)] w fun h7 cM g_ ec n9 aS=>ay (aS.alloc dx) fun bK=>cZ bK (ai aS) [.bool h7, .slice cM.a cM.len cM.cap, .slice g_.a g_.len g_.cap, .slice ec.a ec.len ec.cap]∧(4:Nat)=4∧ay
 (setCells bK (ai aS) 0 [.bool h7, .slice cM.a cM.len cM.cap, .slice g_.a g_.len g_.cap, .slice ec.a ec.len ec.cap]) fun b9=>aB (n9 !=0) (Q (.int .i64 n9) b9) (∃i_:Addr,j=some i_∧aq b9 (i_.add 1) fun ft=>ba
 F.D3 #[.slice ft.a ft.len ft.cap, .int .i64 no] b9 fun Rj c0=>cY (fun MN:Bool→World→Prop=>aB Rj (MN true c0) (∃m0:Addr,j=some m0∧∃MW:Option Addr,c0.cell? m0=some (.pointer MW)
 ∧∃Eu:Addr,MW=some Eu∧∃agj:Option Addr,c0.cell? (Eu.add 1)=some (.pointer agj)∧ba F.Dk #[.pointer agj, .int .i64 no] c0 fun tM c5=>MN (!tM) c5)) (fun (uO:Bool) cv=>cY (fun Ep:Bool→World
 →Prop=>aB uO (Ep true cv) (bS cv (ai aS) fun zz=>aq cv (Addr.add (ai aS) 1) fun ib=>aq cv (Addr.add (ai aS) 2) fun h9=>aq cv (Addr.add (ai aS) 3) fun ik=>ba F.zC #[.agg #[.bool zz, .slice ib.a ib.len
 ib.cap, .slice h9.a h9.len h9.cap, .slice ik.a ik.len ik.cap], .slice low.a low.len low.cap, .slice high.a high.len high.cap] cv fun XP nC=>Ep (!XP) nC)) (fun (zT:Bool) iw=>aB zT (Q (.int .i64 4) iw) (∃MX:Addr,j
 =some MX∧aq iw (MX.add 1) fun ej=>ay (iw.alloc (.cells #[.int .i64 no] ah.int)) fun lQ=>∃eJ:aa,∃dE:World,Sem.run Tryz.prog (Builtin.append_ #[ah.eg,ah.eg] ah.eg #[.slice ej.a ej.len ej.cap, .slice
 (some (ai iw)) 1 1]) lQ= .ok (.slice eJ.a eJ.len eJ.cap) dE∧∃MM:Addr,j=some MM∧st dE (MM.add 1) (.slice eJ.a eJ.len eJ.cap) fun jl=>aB (level==1) (ay (jl.drew) fun mb=>∃Jl:Addr,j=some Jl∧¬False∧
 bI mb (Jl.add 2) fun XE=>¬False∧aq mb (Addr.add (ai aS) 1) fun mK=>∃MY:Addr,j=some MY∧st mb (MY.add 2) (.int .i64 (aC (XE+(mK.len:Int)))) fun auO=>Q (.int .i64 0) auO) (aq jl (Addr.add (ai aS) 3) fun gi=>∃
 (XT:Int→World→Prop) (agk:Int→World→Nat),XT 0 jl∧∀ (mi:Int) (hM:World),XT mi hM→aB (decide (mi<(gi.len:Int))) (∃agl:Addr,gi.a=some agl∧a7 mi gi.len∧bI hM (agl.add (Int.toNat mi*1)) fun B8
 =>cY (fun ug:aa→World→Prop=>aB (decide (mi>0)) (aq hM (Addr.add (ai aS) 1) fun j4=>∃Jm:Addr,j4.a=some Jm∧a7 (aC (mi-1)) j4.len∧aq hM (Jm.add (Int.toNat (aC (mi-1))*1)) fun fq=>ug fq hM) (ug
 low hM)) (fun (h_:aa) fz=>cY (fun agm:aa→World→Prop=>aq fz (Addr.add (ai aS) 1) fun ny=>aB (decide (mi<(ny.len:Int))) (aq fz (Addr.add (ai aS) 1) fun p9=>∃agn:Addr,p9.a=some agn∧a7 mi p9.len∧aq fz
 (agn.add (Int.toNat mi*1)) fun gJ=>agm gJ fz) (agm high fz)) (fun (hD:aa) rG=>aT F.BN #[.pointer j, .int .i64 B8, .int .i64 (aC (level-1)), .slice h_.a h_.len h_.cap, .slice hD.a hD.len hD.cap] rG fun
 Rn ln=>aB (Rn !=0) (Q (.int .i64 Rn) ln) (XT (aC (mi+1)) ln∧agk (aC (mi+1)) ln<agk mi hM)))) (Q (.int .i64 0) hM))))))
def A.BN:bG:=(.s .r (.s .r (.s bc (.s (.s (.f_ [.run, .run, .run, .run, .run, .run, .run, .split 10, .run, .run, .run, .run, .run, .run, .run, .run, .run, .run, .run, .split 5]) (.c (.s .r .l) .l)) (.s .r (.s (.s .r (.c
 (.s (.er 7 false ⟨[0,1,2,4,0,16,32,72,255,511,767],[0,1,2,4,0,16,32,72,1,256,640]⟩ [590295810358705651712,1180591620717411303424,2361183241434822606848,4722366482869645213696,9444732965739290427392,
 18889465931478580854784,37778931862957161709568,75557863725914323419136,151115727451828646838272,302231454903657293676544,0] [1,590295810358705651712,1180591620717411303424,2361183241434822606848,2048,9444732965739290427392,
 18889465931478580854784,42501298345826806923264,590295810358705651712,151115727451828646838272,377789318629571617095680] (.take 0 (.take 1 (.take 2 (.take 3 (.take 4 (.take 5 (.take 6 (.tail [.run, .run, .run, .run]))))))))) (.s .r .l))
 .l)) (.s (.s .r (.dn (.loop [(82,(.int .i64))] [0,2,3,4,11,80,81] (.s .r (.s (.c .l .l) (.s (.dn (.s .r (.s .r (.s (.kZ [(15, .slice)] [0,2,3,4,11,13,14,16,80,81,82] (.s .r (.c .r .l))) (.s (.kZ [(16, .slice)] [0,2,3,
 4,11,14,15,80,81,82] (.s .r (.c .r .l))) (.s .r bc)))))) .r)))))) (.s .r .l))))))))
theorem W.arp (j:Option Addr) (no:Int) (level:Int) (low:aa) (high:aa) (w:World) (Q:Value→World→Prop) (h:W.BN j no level low high w Q):aQ Tryz.prog F.BN #[.pointer j, .int .i64 no, .int .i64 level, .slice low.a low.len low.cap, .slice high.a high.len high.cap] w Q:=okF A.BN Tryz.func125 (by kernel_rfl) (by kernel_rfl) h
def W.wU (leaf:Bool) (b:aa) (w:World) (Q:Value→World→Prop):Prop:=ay (w.alloc dx) fun ag=>ay (ag.alloc (.cells #[.slice b.a b.len b.cap, .bool true] ah.YZ)) fun aw=>ay (aw.alloc dx) fun aS=>cZ aS
 (ai aw) [.bool leaf, .slice none 0 0, .slice none 0 0, .slice none 0 0]∧(4:Nat)=4∧ay (setCells aS (ai aw) 0 [.bool leaf, .slice none 0 0, .slice none 0 0, .slice none 0 0]) fun bp=>aT F.wR #[.pointer (some (ai
 ag)), .int .i64 1] bp fun n7 bH=>cY (fun zp:World→Prop=>aB (!leaf) (SA bH aw ag zp) (zp bH)) (fun dp=>∃ (XU:Int→World→Prop) (ago:Int→World→Nat),XU 0 dp∧∀ (n22:Int) (kJ:World),XU n22 kJ→aB (decide (n22
 <n7)) (cY (fun L7:World→Prop=>ay (kJ.drew) fun fH=>∃so:Nat→Prop,¬so (Addr.add (ai aw) 1).block∧aq fH (Addr.add (ai aw) 1) fun dh=>ee F.wS #[.pointer (some (ai ag))] fH fun h9 fC=>ao so fH
 fC∧ay (fC.alloc (.cells #[.slice h9.a h9.len h9.cap] ah.cm)) fun gf=>ao so fC gf∧∃de:aa,∃e1:World,Sem.run Tryz.prog (Builtin.append_ #[ah.cL,ah.cL] ah.cL #[.slice dh.a dh.len
 dh.cap, .slice (some (ai fC)) 1 1]) gf= .ok (.slice de.a de.len de.cap) e1∧st e1 (Addr.add (ai aw) 1) (.slice de.a de.len de.cap) fun eR=>aB leaf (ay (eR.drew) fun lC=>∃XV:Nat→Prop,¬XV (Addr.add (ai aw)
 2).block∧aq lC (Addr.add (ai aw) 2) fun kt=>ee F.wS #[.pointer (some (ai ag))] lC fun eJ jJ=>ao XV lC jJ∧ay (jJ.alloc (.cells #[.slice eJ.a eJ.len eJ.cap] ah.cm)) fun dE=>ao XV jJ dE∧∃nf
 :aa,∃jl:World,Sem.run Tryz.prog (Builtin.append_ #[ah.cL,ah.cL] ah.cL #[.slice kt.a kt.len kt.cap, .slice (some (ai jJ)) 1 1]) dE= .ok (.slice nf.a nf.len nf.cap) jl∧st jl (Addr.add (ai aw) 2)
 (.slice nf.a nf.len nf.cap) fun mb=>L7 mb) (SA eR aw ag L7)) (fun fk=>XU (aC (n22+1)) fk∧ago (aC (n22+1)) fk<ago n22 kJ)) (bS kJ (ai aw) fun auP=>aq kJ (Addr.add (ai aw) 1) fun p1=>aq kJ (Addr.add (ai aw)
 2) fun j4=>aq kJ (Addr.add (ai aw) 3) fun iu=>gl F.vu #[.agg #[.bool auP, .slice p1.a p1.len p1.cap, .slice j4.a j4.len j4.cap, .slice iu.a iu.len iu.cap]] kJ fun nn auQ tu=>∃a64:Addr,(some (ai ag):Option
 Addr)=some a64∧bS tu (a64.add 1) fun uK=>cY (fun MZ:Bool→World→Prop=>aB ((!uK)||(auQ !=0)) (MZ true tu) (ba F.yx #[.slice nn.a nn.len nn.cap, .slice b.a b.len b.cap] tu fun uL oY=>MZ (!uL) oY))
 (fun (auR:Bool) p5=>aB auR (cZ p5 (ai w) [.bool false, .slice none 0 0, .slice none 0 0, .slice none 0 0]∧(4:Nat)=4∧ay (setCells p5 (ai w) 0 [.bool false, .slice none 0 0, .slice none 0 0, .slice none 0 0]) fun tx=>
 J4 tx w Q) (bS p5 (ai aw) fun agp=>aq p5 (Addr.add (ai aw) 1) fun rj=>aq p5 (Addr.add (ai aw) 2) fun qj=>aq p5 (Addr.add (ai aw) 3) fun kD=>cZ p5 (ai w) [.bool agp, .slice rj.a rj.len rj.cap, .slice qj.a qj.len
 qj.cap, .slice kD.a kD.len kD.cap]∧(4:Nat)=4∧ay (setCells p5 (ai w) 0 [.bool agp, .slice rj.a rj.len rj.cap, .slice qj.a qj.len qj.cap, .slice kD.a kD.len kD.cap]) fun sM=>bS sM (ai w) fun qV=>aq sM (Addr.add
 (ai w) 1) fun iS=>aq sM (Addr.add (ai w) 2) fun g1=>aq sM (Addr.add (ai w) 3) fun g2=>Q (.tuple #[.agg #[.bool qV, .slice iS.a iS.len iS.cap, .slice g1.a g1.len g1.cap, .slice g2.a g2.len g2.cap], .int .i64 0]) sM))))
def A.wU:bG:=(.s .r (.s .r (.s .r (.s (.kZ [] [0,1,4,6,7,8] (.s .r (.c (.er 5 true ⟨[0,1,0,4,8,26,63,127],[0,1,0,4,8,18,0,96]⟩ [1048576,2097152,4194304,8388608,16777216,33554432,67108864,0] [128,
 1048576,64,4194304,8388608,18874368,128,100663296] (.take 0 (.take 1 (.take 2 (.cK 3 (.cK 4 (.tail [.run, .run, .run]))))))) .l))) (.s (.s .r (.dn (.loop [(28,(.int .i64))] [0,1,4,6,7,27] (.s .r (.s (.c .l .l) (.s (.kZ [] [0,
 1,4,6,7,27,28] (.dn (.s (.er 5 true ⟨[0,1,0,4,8,26,63,127],[0,1,0,4,8,18,0,96]⟩ [1073741824,2147483648,4294967296,8589934592,17179869184,34359738368,68719476736,0] [128,1073741824,64,4294967296,8589934592,
 19327352832,128,103079215104] (.take 0 (.take 1 (.take 2 (.cK 3 (.cK 4 (.tail [.run, .run, .run]))))))) (.s .r (.c (.er 5 true ⟨[0,1,0,4,8,26,63,127],[0,1,0,4,8,18,0,96]⟩ [274877906944,549755813888,1099511627776,
 2199023255552,4398046511104,8796093022208,17592186044416,0] [128,274877906944,64,1099511627776,2199023255552,4947802324992,128,26388279066624] (.take 0 (.take 1 (.take 2 (.cK 3 (.cK 4 (.tail [.run, .run, .run]))))))) (.er 5
 true ⟨[0,1,0,4,8,26,63,127],[0,1,0,4,8,18,0,96]⟩ [35184372088832,70368744177664,140737488355328,281474976710656,562949953421312,1125899906842624,2251799813685248,0] [128,35184372088832,64,140737488355328,
 281474976710656,633318697598976,128,3377699720527872] (.take 0 (.take 1 (.take 2 (.cK 3 (.cK 4 (.tail [.run, .run, .run])))))))))))) .r)))))) (.s .r (.s (.s (.f_ [.run, .run, .run, .run, .run, .run, .pure 2, .run, .run, .run, .split
 4]) (.c (.s .r .l) .l)) (.s .r .l))))))))
theorem W.ajC (leaf:Bool) (b:aa) (w:World) (Q:Value→World→Prop) (h:W.wU leaf b w Q):aQ Tryz.prog F.wU #[.bool leaf, .slice b.a b.len b.cap] w Q:=okF A.wU Tryz.func129 (by kernel_rfl) (by kernel_rfl) h
def W.vg (b:aa) (w:World) (Q:Value→World→Prop):Prop:=ay (w.drew) fun ag=>((0:Int)≤20∧20≤((b.cap:Nat):Int))∧((0:Int)≤24∧24≤(b.len:Int))∧ay (ag.alloc (.cells #[.slice (bg b.a 1 0 b.cap)
 ((Int.toNat 20)-0) (b.cap-0), .slice (bg b.a 1 (Int.toNat 24) b.cap) (b.len-(Int.toNat 24)) (b.cap-(Int.toNat 24))] ah.cm)) fun aw=>nt F.Cu #[.slice (some (ai ag)) 2 2] aw fun n5 aS=>Q (.int .u32 n5) aS
def A.vg:bG:=(.s .r (.s (.er 4 false ⟨[0,1,0,4,10,16,63],[0,1,0,4,10,16,32]⟩ [8,16,32,64,128,256,4] [1,8,1,32,80,128,256] (.take 0 (.take 1 (.take 2 (.take 3 (.tail [.run, .run, .run])))))) .l))
theorem W.aiR (b:aa) (w:World) (Q:Value→World→Prop) (h:W.vg b w Q):aQ Tryz.prog F.vg #[.slice b.a b.len b.cap] w Q:=okF A.vg Tryz.func130 (by kernel_rfl) (by kernel_rfl) h
def W.rC (b:aa) (k_:Int) (Rt:Int) (w:World) (Q:Value→World→Prop):Prop:=N3 F.s0 #[.slice b.a b.len b.cap, .int .i64 k_, .int .i64 (aC (Rt-k_))] w fun bk fa ag=>Q (.int .u64 bk) ag
def A.rC:bG:=a4
theorem W.aiZ (b:aa) (k_:Int) (Rt:Int) (w:World) (Q:Value→World→Prop) (h:W.rC b k_ Rt w Q):aQ Tryz.prog F.rC #[.slice b.a b.len b.cap, .int .i64 k_, .int .i64 Rt] w Q:=okF A.rC Tryz.func131 (by kernel_rfl) (by kernel_rfl) h
def W.GL (j9:Int) (w:World) (Q:Value→World→Prop):Prop:=Q (.bool ((decide (j9≥1))&&(decide (j9≤4)))) w
def A.GL:bG:=(.s .r a3)
theorem W.YG (j9:Int) (w:World) (Q:Value→World→Prop) (h:W.GL j9 w Q):aQ Tryz.prog F.GL #[.int .i64 j9] w Q:=okF A.GL Tryz.func132 (by kernel_rfl) (by kernel_rfl) h
def W.yu (b:aa) (w:World) (Q:Value→World→Prop):Prop:=∃ (fQ:Int→World→Prop) (h5:Int→World→Nat),fQ 0 w∧∀ (bk:Int) (bp:World),fQ bk bp→aB (decide (bk<(b.len:Int))) (∃a5:Addr,b.a=some a5∧a7
 bk b.len∧h8 bp (a5.add (Int.toNat bk*1)) fun n6=>aB (n6 !=0) (Q (.bool false) bp) (fQ (aC (bk+1)) bp∧h5 (aC (bk+1)) bp<h5 bk bp)) (Q (.bool true) bp)
def A.yu:bG:=(.s .r (.s (.s .r (.dn (.loop [(7,(.int .i64))] [5,6] oc))) (.s .r .l)))
theorem W.ai0 (b:aa) (w:World) (Q:Value→World→Prop) (h:W.yu b w Q):aQ Tryz.prog F.yu #[.slice b.a b.len b.cap] w Q:=okF A.yu Tryz.func133 (by kernel_rfl) (by kernel_rfl) h
def W.GM (no:Int) (w:World) (Q:Value→World→Prop):Prop:=Q (.bool ((decide (no≥0))&&(decide (no<1600)))) w
def A.GM:bG:=(.s .r a3)
theorem W.YF (no:Int) (w:World) (Q:Value→World→Prop) (h:W.GM no w Q):aQ Tryz.prog F.GM #[.int .i64 no] w Q:=okF A.GM Tryz.func134 (by kernel_rfl) (by kernel_rfl) h
def W.yn (b:aa) (k_:Int) (size:Int) (w:World) (Q:Value→World→Prop):Prop:=EY F.ve #[.slice b.a b.len b.cap, .int .i64 k_, .int .i64 size] w fun bY fa ag=>ee F.mu #[.slice bY.a bY.len
 bY.cap] ag fun g_ bH=>Q (.tuple #[.slice g_.a g_.len g_.cap, .bool fa]) bH
def A.yn:bG:=a4
theorem W.aiJ (b:aa) (k_:Int) (size:Int) (w:World) (Q:Value→World→Prop) (h:W.yn b k_ size w Q):aQ Tryz.prog F.yn #[.slice b.a b.len b.cap, .int .i64 k_, .int .i64 size] w Q:=okF A.yn Tryz.func135 (by kernel_rfl) (by kernel_rfl) h
def W.y3 (s:Option Addr) (no:Int) (w:World) (Q:Value→World→Prop):Prop:=cY (fun dI:Bool→World→Prop=>aB ((!(Option.isNone s))&&(decide (no≥0))) (∃cS:Addr,s=some cS∧bI w cS fun bk=>dI (decide
 (no<bk)) w) (dI false w)) (fun (fa:Bool) bH=>Q (.bool fa) bH)
def A.y3:bG:=(.s .r (.s (.f_ [.run, .run, .run, .pure 2, .run, .run, .run, .split 6]) .l))
theorem W.ams (s:Option Addr) (no:Int) (w:World) (Q:Value→World→Prop) (h:W.y3 s no w Q):aQ Tryz.prog F.y3 #[.pointer s, .int .i64 no] w Q:=okF A.y3 Tryz.func138 (by kernel_rfl) (by kernel_rfl) h
def W.s4 (parts:aa) (w:World) (Q:Value→World→Prop):Prop:=∃ (fQ:aa→Int→World→Prop) (h5:aa→Int→World→Nat),fQ ⟨none,0,0⟩ 0 w∧∀ (bY:aa) (fL:Int) (bH:World),fQ bY fL bH→aB (decide (fL<
 (parts.len:Int))) (∃hL:Addr,parts.a=some hL∧a7 fL parts.len∧aq bH (hL.add (Int.toNat fL*1)) fun g_=>∃ec:aa,∃b6:World,Sem.run Tryz.prog (Builtin.append_ #[ah.cm,ah.cm] ah.cm #[.slice bY.a bY.len
 bY.cap, .slice g_.a g_.len g_.cap]) bH= .ok (.slice ec.a ec.len ec.cap) b6∧fQ ec (aC (fL+1)) b6∧h5 ec (aC (fL+1)) b6<h5 bY fL bH) (Q (.slice bY.a bY.len bY.cap) bH)
def A.s4:bG:=(.s .r (.s .r (.s (.s .r (.dn (.loop [(3, .slice),(8,(.int .i64))] [6,7] cS))) (.s .r .l))))
theorem W.aiG (parts:aa) (w:World) (Q:Value→World→Prop) (h:W.s4 parts w Q):aQ Tryz.prog F.s4 #[.slice parts.a parts.len parts.cap] w Q:=okF A.s4 Tryz.func141 (by kernel_rfl) (by kernel_rfl) h
def W.pe (b:aa) (n:Int) (size:Int) (w:World) (Q:Value→World→Prop):Prop:=ee F.mu #[.slice b.a b.len b.cap] w fun bY ag=>ba F.GN #[.int .i64 size] ag fun lv bp=>aB (!lv) (Q (.slice bY.a
 bY.len bY.cap) bp) (∃ (GQ:aa→Int→World→Prop) (M0:aa→Int→World→Nat),GQ bY (aC (size-1)) bp∧∀ (dc:aa) (n10:Int) (b9:World),GQ dc n10 b9→aB (decide (n10≥0)) ((0:Int)≤(aC (8*n10))∧ay (b9.alloc (.cells
 #[.int .u8 (IntKind.wrap .u8 (Int.fdiv n (2^(min (Int.toNat (aC (8*n10))) 64))))] ah.uint8)) fun cJ=>∃ft:aa,∃c0:World,Sem.run Tryz.prog (Builtin.append_ #[ah.cm,ah.cm] ah.cm #[.slice dc.a dc.len dc.cap,
 .slice (some (ai b9)) 1 1]) cJ= .ok (.slice ft.a ft.len ft.cap) c0∧GQ ft (aC (n10-1)) c0∧M0 ft (aC (n10-1)) c0<M0 dc n10 b9) (Q (.slice dc.a dc.len dc.cap) b9))
def A.pe:bG:=(.s .r (.s .r (.s bc (.s (.s .r (.dn (.loop [(7, .slice),(8,(.int .i64))] [1] (.s (.s .r (.c .l .l)) (.s (.dn .r) .r))))) (.s .r .l)))))
theorem W.aiw (b:aa) (n:Int) (size:Int) (w:World) (Q:Value→World→Prop) (h:W.pe b n size w Q):aQ Tryz.prog F.pe #[.slice b.a b.len b.cap, .int .u64 n, .int .i64 size] w Q:=okF A.pe Tryz.func142 (by kernel_rfl) (by kernel_rfl) h
def W.Da (c:Option Addr) (no:Int) (w:World) (Q:Value→World→Prop):Prop:=ba F.AN #[.pointer c, .int .i64 no] w fun eP ag=>aB (!eP) (Q (.tuple #[.slice none 0 0, .int .i64 1]) ag) (AP
 F.y0 #[.pointer c, .int .i64 no] ag fun oN bp=>aB (!(Option.isNone oN)) (∃kl:Addr,oN=some kl∧st bp (kl.add 2) (.bool true) fun bW=>∃a9:Addr,oN=some a9∧aq bW (a9.add 5) fun fT=>ee
 F.mu #[.slice fT.a fT.len fT.cap] bW fun ft b9=>Q (.tuple #[.slice ft.a ft.len ft.cap, .int .i64 0]) b9) (AR F.AO #[.pointer c] bp fun Et n17 c0=>aB (n17 !=0) (Q (.tuple #[.slice none 0
 0, .int .i64 n17]) c0) (∃m0:Addr,c=some m0∧∃MW:Option Addr,c0.cell? m0=some (.pointer MW)∧gl F.CY #[.pointer MW, .int .i64 no] c0 fun fW n23 cB=>aB (n23 !=0) (Q (.tuple #[.slice none 0 0, .int .i64
 n23]) cB) (∃a24:Addr,Et=some a24∧cZ cB a24 [.bool true, .bool false, .bool true, .int .i64 no, .int .i64 0, .slice fW.a fW.len fW.cap]∧(6:Nat)=6∧ay (setCells cB a24 0 [.bool true, .bool false, .bool true, .int
 .i64 no, .int .i64 0, .slice fW.a fW.len fW.cap]) fun fH=>ee F.mu #[.slice fW.a fW.len fW.cap] fH fun eV cv=>Q (.tuple #[.slice eV.a eV.len eV.cap, .int .i64 0]) cv))))
def A.Da:bG:=(.s .r (.s bc (.s (.s .r (.s .r kl)) (.s .r (.s bc (.s .r k0))))))
theorem W.alP (c:Option Addr) (no:Int) (w:World) (Q:Value→World→Prop) (h:W.Da c no w Q):aQ Tryz.prog F.Da #[.pointer c, .int .i64 no] w Q:=okF A.Da Tryz.func145 (by kernel_rfl) (by kernel_rfl) h
def W.wO (v:aa) (w:World) (Q:Value→World→Prop):Prop:=Q (.bool (decide ((v.len:Int)>24))) w
def A.wO:bG:=(.s .r (.s .r .l))
theorem W.ajh (v:aa) (w:World) (Q:Value→World→Prop) (h:W.wO v w Q):aQ Tryz.prog F.wO #[.slice v.a v.len v.cap] w Q:=okF A.wO Tryz.func147 (by kernel_rfl) (by kernel_rfl) h
def W.wP (j9:Int) (w:World) (Q:Value→World→Prop):Prop:=Q (.bool ((decide (j9<0))||(decide (j9≥1600)))) w
def A.wP:bG:=(.s .r a3)
theorem W.ajl (j9:Int) (w:World) (Q:Value→World→Prop) (h:W.wP j9 w Q):aQ Tryz.prog F.wP #[.int .i64 j9] w Q:=okF A.wP Tryz.func149 (by kernel_rfl) (by kernel_rfl) h
def W.Dl (s:Option Addr) (no:Int) (w:World) (Q:Value→World→Prop):Prop:=ba F.y3 #[.pointer s, .int .i64 no] w fun eP ag=>cY (fun lN:Bool→World→Prop=>aB eP (∃a5:Addr,s=some a5∧aq
 ag (a5.add 1) fun cM=>ba F.th #[.slice cM.a cM.len cM.cap, .int .i64 no] ag fun iY bh=>lN iY bh) (lN false ag)) (fun (n_:Bool) b9=>cY (fun p_:Bool→World→Prop=>aB n_ (∃kq:Addr,s=some kq∧aq b9
 (kq.add 2) fun c_=>ba F.th #[.slice c_.a c_.len c_.cap, .int .i64 no] b9 fun u3 e5=>p_ (!u3) e5) (p_ false b9)) (fun (tN:Bool) dp=>Q (.bool tN) dp))
def A.Dl:bG:=(.s .r (.s (.f_ [.run, .run, .run, .run, .split 6, .run, .run, .run, .run, .run, .run, .run, .split 7]) .l))
theorem W.amH (s:Option Addr) (no:Int) (w:World) (Q:Value→World→Prop) (h:W.Dl s no w Q):aQ Tryz.prog F.Dl #[.pointer s, .int .i64 no] w Q:=okF A.Dl Tryz.func152 (by kernel_rfl) (by kernel_rfl) h
def W.Dj (s:Option Addr) (no:Int) (w:World) (Q:Value→World→Prop):Prop:=ba F.y3 #[.pointer s, .int .i64 no] w fun eP ag=>aB (!eP) (Q (.int .i64 1) ag) (∃a4:Addr,s=some a4∧aq ag (a4.add 1)
 fun bJ=>ba F.th #[.slice bJ.a bJ.len bJ.cap, .int .i64 no] ag fun n3 a8=>aB (!n3) (Q (.int .i64 6) a8) (∃a9:Addr,s=some a9∧aq a8 (a9.add 1) fun fT=>bC F.Df #[.slice fT.a fT.len fT.cap, .int .i64 no]
 a8 fun b9=>Q (.int .i64 0) b9))
def A.Dj:bG:=mY
theorem W.amD (s:Option Addr) (no:Int) (w:World) (Q:Value→World→Prop) (h:W.Dj s no w Q):aQ Tryz.prog F.Dj #[.pointer s, .int .i64 no] w Q:=okF A.Dj Tryz.func153 (by kernel_rfl) (by kernel_rfl) h
def W.De (c:Option Addr) (no:Int) (w:World) (Q:Value→World→Prop):Prop:=AP F.y0 #[.pointer c, .int .i64 no] w fun iK ag=>cY (fun lN:Bool→World→Prop=>aB (Option.isNone iK) (lN true ag) (∃
 a5:Addr,iK=some a5∧bI ag (a5.add 4) fun n6=>lN (decide (n6>0)) ag)) (fun (k6:Bool) bW=>aB k6 (Q (.bool false) bW) (∃a9:Addr,iK=some a9∧cZ bW a9 [.bool false, .bool false, .bool false, .int .i64 0, .int .i64 0,
 .slice none 0 0]∧(6:Nat)=6∧ay (setCells bW a9 0 [.bool false, .bool false, .bool false, .int .i64 0, .int .i64 0, .slice none 0 0]) fun bK=>Q (.bool true) bK))
def A.De:bG:=(.s .r (.s .r (.s (.s (.f_ [.run, .run, .run, .split 5]) (.c (.s .r .l) .l)) (.s .r (.s .r .l)))))
theorem W.al8 (c:Option Addr) (no:Int) (w:World) (Q:Value→World→Prop) (h:W.De c no w Q):aQ Tryz.prog F.De #[.pointer c, .int .i64 no] w Q:=okF A.De Tryz.func154 (by kernel_rfl) (by kernel_rfl) h
def W.zk (cE:Bool) (bq:aa) (br:aa) (bt:aa) (bw:Int) (w:World) (Q:Value→World→Prop):Prop:=ay (w.alloc (.cells #[.bool cE, .slice bq.a bq.len bq.cap, .slice br.a br.len
 br.cap, .slice bt.a bt.len bt.cap] ah.cO)) fun ag=>bS ag (ai w) fun cG=>aB cG (Q (.tuple #[.int .i64 0, .int .i64 0, .int .i64 0]) ag) (aq ag (Addr.add (ai w) 3) fun bY=>∃a4:Addr,bY.a=some a4∧a7 0 bY.len
 ∧bI ag (a4.add (Int.toNat 0*1)) fun n5=>Q (.tuple #[.int .i64 n5, .int .i64 (aC (bw-1)), .int .i64 0]) ag)
def A.zk:bG:=i_
theorem W.ao7 (cE:Bool) (bq:aa) (br:aa) (bt:aa) (bw:Int) (w:World) (Q:Value→World→Prop) (h:W.zk cE bq br bt bw w Q):aQ Tryz.prog F.zk #[.agg #[.bool cE, .slice bq.a bq.len bq.cap, .slice br.a br.len br.cap, .slice bt.a bt.len bt.cap], .int .i64 bw] w Q:=okF A.zk Tryz.func155 (by kernel_rfl) (by kernel_rfl) h
def W.zj (c:Option Addr) (cE:Bool) (bq:aa) (br:aa) (bt:aa) (up:Option Addr) (w:World) (Q:Value→World→Prop):Prop:=ay (w.alloc (.cells #[.bool cE, .slice bq.a bq.len
 bq.cap, .slice br.a br.len br.cap, .slice bt.a bt.len bt.cap] ah.cO)) fun ag=>cY (fun ew:Bool→World→Prop=>aB (Option.isNone up) (ew true ag) (bS ag (ai w) fun eP=>aq ag (Addr.add (ai w) 1) fun
 cN=>aq ag (Addr.add (ai w) 2) fun bJ=>aq ag (Addr.add (ai w) 3) fun cM=>aT F.vt #[.agg #[.bool eP, .slice cN.a cN.len cN.cap, .slice bJ.a bJ.len bJ.cap, .slice cM.a cM.len cM.cap]] ag fun n9 bh=>ew (decide (n9≥80)) bh))
 (fun (n_:Bool) b9=>aB n_ (cY (fun p_:Int→Int→World→Prop=>aB (!(Option.isNone up)) (ay (b9.drew) fun b2=>∃k0:Addr,up=some k0∧¬False∧bI b2 (k0.add 5) fun n15=>∃oc:Addr,up=some oc∧¬False∧bI
 b2 (oc.add 5) fun n17=>p_ n15 (aC (n17+1)) b2) (p_ 0 0 b9)) (fun (n18:Int) (n19:Int) cB=>bS cB (ai w) fun auS=>aq cB (Addr.add (ai w) 1) fun fW=>aq cB (Addr.add (ai w) 2) fun eD=>aq cB (Addr.add (ai w) 3) fun
 rp=>gl F.sE #[.pointer c, .agg #[.bool auS, .slice fW.a fW.len fW.cap, .slice eD.a eD.len eD.cap, .slice rp.a rp.len rp.cap]] cB fun dh n28 fH=>Q (.tuple #[.slice dh.a dh.len dh.cap, .int .i64 n18, .int
 .i64 n19, .int .i64 n28]) fH)) (∃a29:Addr,up=some a29∧bI b9 (a29.add 5) fun n30=>∃n31:Int,∃nC:World,Sem.run Tryz.prog (Builtin.max_ #[ah.int,ah.int] ah.int #[.int .i64 (aC (n30-1)), .int .i64 0]) b9= .ok (.int .i64
 n31) nC∧cY (fun GO:Int→World→Prop=>∃Ji:Addr,up=some Ji∧bI nC (Ji.add 5) fun n35=>aB (n35==0) (GO 1 nC) (GO n31 nC)) (fun (n36:Int) kn=>∃B6:Addr,up=some B6∧aq kn ((B6.add 1).add 3) fun ga=>
 ∃ML:Addr,ga.a=some ML∧a7 n36 ga.len∧bI kn (ML.add (Int.toNat n36*1)) fun n41=>ay (kn.drew) fun gK=>∃M1:Nat→Prop,∃a44:Addr,c=some a44∧¬M1 a44.block∧∃XW:Option Addr,gK.cell? a44=some
 (.pointer XW)∧¬M1 ((ai w):Addr).block∧bS gK (ai w) fun B9=>(uw F.sB #[.pointer XW, .int .i64 n41, .bool B9] gK fun wB gi qx il mi dy=>ao M1 gK dy∧ay (dy.alloc dx) fun hM=>ao M1 dy hM∧Ps
 hM dy wB gi qx il mi Q c n41 w up n36 n31)∧(ay (gK.alloc dx) fun agq=>ao M1 gK agq∧uw F.sB #[.pointer XW, .int .i64 n41, .bool B9] agq fun auT auU Jn Jo auV auW=>Ps auW gK auT auU Jn Jo
 auV Q c n41 w up n36 n31))))
def A.zj:bG:=(.s .r (.s (.s (.f_ [.run, .run, .run, .split 3]) (.c (.s (.kZ [(7,(.int .i64)),(8,(.int .i64))] [0,4] (.s .r (.c (.er 10 false ⟨[0,1,2,4,0,16,32,64,128,15,1023],[0,1,2,4,0,16,32,64,
 128,8,256]⟩ [67108864,134217728,268435456,536870912,1073741824,2147483648,4294967296,8589934592,17179869184,128,256] [4,67108864,134217728,268435456,4,1073741824,2147483648,4294967296,8589934592,536870912,17179869184]
 (.take 0 (.take 1 (.take 2 (.take 3 (.take 4 (.take 5 (.take 6 (.take 7 (.take 8 (.take 9 (.tail [.run])))))))))))) .l))) (.s .r (.s .r .l))) .l)) (.s .r (.s .r (.s (.kZ [(10,(.int .i64))] [0,2,4,7] (.s .r (.c .r .l))) (.s .r (.s (.er
 13 true ⟨[0,1,2,4,0,0,32,88,128,256,256,0,3071,8191],[0,1,2,4,0,0,32,88,128,256,256,0,2560,1024]⟩ [73786976294838206464,147573952589676412928,295147905179352825856,590295810358705651712,1180591620717411303424,
 2361183241434822606848,4722366482869645213696,9444732965739290427392,36893488147419103232,18889465931478580854784,37778931862957161709568,4096,0,512] [1,73786976294838206464,147573952589676412928,295147905179352825856,2048,16,
 2361183241434822606848,6493253913945762168832,9444732965739290427392,36893488147419103232,36893488147419103232,0,18889465931478580858880,37778931862957161709568] (.take 0 (.take 1 (.take 2 (.take 3 (.take 4 (.take 5 (.take 6 (.two 7
 (.take 8 (.take 9 (.take 10 (.cK 11 (.out 12 false (.tail [.run])))))) 11 (.out 7 false (.take 8 (.take 9 (.take 10 (.out 12 false (.tail [.run]))))))))))))))) (.s bc (.s .r (.s (.er 5 true ⟨[0,0,0,0,13,31],[0,0,0,0,5,10]⟩
 [618970019642690137449562112,1237940039285380274899124224,8192,16384,0,0] [4096,16,0,0,618970019642690137449570304,1237940039285380274899140608] (.take 0 (.take 1 (.two 2 (.cK 3 (.cK 4 (.tail [.run]))) 3 (.cK 2 (.cK 4 (.tail
 [.run]))))))) (.s (.kZ [] [0,2,7,13,14] (.s .r (.c (.er 3 true ⟨[0,0,1,7],[0,0,1,2]⟩ [158456325028528675187087900672,316912650057057350374175801344,0,0] [16,4096,158456325028528675187087908864,
 316912650057057350374175817728] (.take 0 (.take 1 (.cK 2 (.tail [.run]))))) .l))) (.s (.er 16 true ⟨[0,0,2,4,8,16,0,96,128,0,769,1024,2048,2048,0,24575,65535],[0,0,2,4,8,16,0,96,128,0,769,1024,2048,2048,0,
 20480,8192]⟩ [1267650600228229401496703205376,2535301200456458802993406410752,5070602400912917605986812821504,10141204801825835211973625643008,20282409603651670423947251286016,40564819207303340847894502572032,
 81129638414606681695789005144064,162259276829213363391578010288128,324518553658426726783156020576256,649037107316853453566312041152512,1298074214633706907132624082305024,633825300114114700748351602688,
 2596148429267413814265248164610048,5192296858534827628530496329220096,32768,0,65536] [8192,4,2535301200456458802993406410752,5070602400912917605986812821504,10141204801825835211973625643008,20282409603651670423947251286016,128,
 121694457621910022543683507716096,162259276829213363391578010288128,16384,974823311575508409750964764934144,1298074214633706907132624082305024,633825300114114700748351602688,633825300114114700748351602688,0,
 2596148429267413814265248164642816,5192296858534827628530496329220096] (.take 0 (.take 1 (.take 2 (.take 3 (.take 4 (.take 5 (.take 6 (.take 7 (.take 8 (.take 9 (.two 10 (.take 11 (.take 12 (.take 13 (.cK 14 (.out 15 false (.tail
 [.run])))))) 14 (.cK 10 (.take 11 (.take 12 (.take 13 (.out 15 false (.tail [.run])))))))))))))))))) k0))))))))))))
theorem W.abN (c:Option Addr) (cE:Bool) (bq:aa) (br:aa) (bt:aa) (up:Option Addr) (w:World) (Q:Value→World→Prop) (h:W.zj c cE bq br bt up w Q):aQ Tryz.prog F.zj #[.pointer c, .agg #[.bool cE, .slice bq.a bq.len bq.cap, .slice br.a br.len br.cap, .slice bt.a bt.len bt.cap], .pointer up] w Q:=okF A.zj Tryz.func156 (by kernel_rfl) (by kernel_rfl) h
def W.DN (c:Option Addr) (l:aa) (w:World) (Q:Value→World→Prop):Prop:=aB ((l.len:Int)==1) (ay (w.drew) fun ag=>∃cS:Addr,l.a=some cS∧a7 0 l.len∧¬False∧bI ag ((cS.add (Int.toNat 0*2)).add 1) fun
 bk=>∃a4:Addr,c=some a4∧¬False∧∃BA:Option Addr,ag.cell? a4=some (.pointer BA)∧∃hL:Addr,BA=some hL∧¬False∧bI ag (hL.add 4) fun n7=>Q (.tuple #[.int .i64 bk, .int .i64 n7, .int .i64 0]) ag) (∃im:Addr,c=
 some im∧∃Es:Option Addr,w.cell? im=some (.pointer Es)∧∃hE:Addr,Es=some hE∧bI w (hE.add 4) fun n11=>aB (n11==12) (Q (.tuple #[.int .i64 0, .int .i64 0, .int .i64 2]) w) (cY (fun p_:Int→Int→World→Prop=>ay
 (w.drew) fun b2=>∃np:Nat→Prop,∃mY:Addr,l.a=some mY∧a7 1 l.len∧¬np (mY.add (Int.toNat 1*2)).block∧aq b2 (mY.add (Int.toNat 1*2)) fun dH=>∃yd:Addr,l.a=some yd∧a7 0 l.len∧¬np ((yd.add
 (Int.toNat 0*2)).add 1).block∧bI b2 ((yd.add (Int.toNat 0*2)).add 1) fun n18=>∃rn:Addr,l.a=some rn∧a7 1 l.len∧¬np ((rn.add (Int.toNat 1*2)).add 1).block∧bI b2 ((rn.add (Int.toNat 1*2)).add 1) fun n20=>(ay
 (b2.alloc (.cells #[.slice dH.a dH.len dH.cap] ah.cm)) fun dO=>ao np b2 dO∧ay (dO.alloc (.cells #[.int .i64 n18, .int .i64 n20] ah.int)) fun c5=>ao np dO c5∧∃DO:Array Value,(∀cW:World,Sem.run Tryz.prog
 (Instr.build ah.cO #[(1, .slice (some (ai b2)) 1 1),(3, .slice (some (ai dO)) 2 2)]) cW= .ok (.agg DO) cW)∧sD F.uA #[.pointer c, .agg DO] c5 fun n27 n28 fH=>ao np c5 fH∧p_ n27 n28 fH)∧(ay
 (b2.alloc (.cells #[.int .i64 n18, .int .i64 n20] ah.int)) fun fy=>ao np b2 fy∧ay (fy.alloc (.cells #[.slice dH.a dH.len dH.cap] ah.cm)) fun gn=>ao np fy gn∧∃agr:Array Value,(∀nC:World,Sem.run Tryz.prog
 (Instr.build ah.cO #[(1, .slice (some (ai fy)) 1 1),(3, .slice (some (ai b2)) 2 2)]) nC= .ok (.agg agr) nC)∧sD F.uA #[.pointer c, .agg agr] gn fun n35 n36 e1=>ao np gn e1∧p_ n35 n36 e1)) (fun (n37:
 Int) (n38:Int) lQ=>ay (lQ.drew) fun uB=>∃a41:Addr,c=some a41∧¬False∧∃ags:Option Addr,uB.cell? a41=some (.pointer ags)∧∃B_:Addr,ags=some B_∧¬False∧bI uB (B_.add 4) fun jM=>Q (.tuple #[.int .i64
 n37, .int .i64 (aC (jM+1)), .int .i64 n38]) uB)))
def A.DN:bG:=(.s .r (.s (.s .r (.c (.s (.er 12 false ⟨[0,1,2,4,0,16,32,64,128,256,512,15,4095,8191],[0,1,2,4,0,16,32,64,128,256,512,8,1024,0]⟩ [4096,8192,16384,32768,65536,131072,262144,
 524288,1048576,2097152,4194304,16,32,64] [2,4096,8192,16384,1,65536,131072,262144,524288,1048576,2097152,32768,4194304,0] (.take 0 (.take 1 (.take 2 (.take 3 (.take 4 (.take 5 (.take 6 (.take 7 (.take 8 (.take 9 (.take 10
 (.take 11 (.tail [.run, .run])))))))))))))) .l) .l)) (.s bc (.s (.kZ [(7,(.int .i64)),(8,(.int .i64))] [0] (.er 21 true ⟨[0,0,2,4,8,16,0,64,128,256,0,1024,2048,4096,8704,16416,32769,65536,131072,131072,524287,
 2097151],[0,0,2,4,8,16,0,64,128,256,0,1024,2048,4096,8704,16416,32769,65536,131072,131072,262144,524288]⟩ [4294967296,8589934592,17179869184,34359738368,68719476736,137438953472,274877906944,549755813888,
 1099511627776,2199023255552,4398046511104,8796093022208,17592186044416,35184372088832,70368744177664,140737488355328,281474976710656,2147483648,562949953421312,1125899906842624,128,256] [1,2,8589934592,17179869184,
 34359738368,68719476736,2,274877906944,549755813888,1099511627776,2,4398046511104,8796093022208,17592186044416,37383395344384,70506183131136,140741783322624,281474976710656,2147483648,2147483648,562949953421312,
 1125899906842624] (.take 0 (.take 1 (.take 2 (.take 3 (.take 4 (.take 6 (.take 7 (.take 8 (.take 9 (.take 10 (.take 11 (.take 12 (.take 13 (.two 5 (.cK 14 (.take 15 (.cK 16 (.take 17 (.take 18 (.take 19 (.take 20 (.tail [.run])))))))) 14
 (.cK 5 (.take 15 (.cK 16 (.take 17 (.take 18 (.take 19 (.take 20 (.tail [.run])))))))))))))))))))))))) (.s (.er 12 false ⟨[0,0,2,4,8,16,32,64,128,0,1,1535,4095],[0,0,2,4,8,16,32,64,128,0,1,256,512]⟩
 [2251799813685248,4503599627370496,9007199254740992,18014398509481984,36028797018963968,72057594037927936,144115188075855872,288230376151711744,576460752303423488,1152921504606846976,16,32,64] [128,1,4503599627370496,
 9007199254740992,18014398509481984,36028797018963968,72057594037927936,144115188075855872,288230376151711744,256,2251799813685248,576460752303423488,1152921504606846976] (.take 0 (.take 1 (.take 2 (.take 3 (.take 4 (.take 5 (.take
 6 (.take 7 (.take 8 (.take 9 (.take 10 (.take 11 (.tail [.run])))))))))))))) .l)))))
theorem W.apa (c:Option Addr) (l:aa) (w:World) (Q:Value→World→Prop) (h:W.DN c l w Q):aQ Tryz.prog F.DN #[.pointer c, .slice l.a l.len l.cap] w Q:=okF A.DN Tryz.func157 (by kernel_rfl) (by kernel_rfl) h
end
end Go.Proofs.YtplieiecebljmaaGreat
